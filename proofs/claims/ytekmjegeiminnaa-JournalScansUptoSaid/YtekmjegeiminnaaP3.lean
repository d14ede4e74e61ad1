/- Plain laws on frames: a beginning of a frame is too short; a frame with something behind it is read; a frame of whose content one byte was turned is none. -/
import Derived.Test.YtekmjegeiminnaaB4
namespace Go.Proofs.Ytekmjegeiminnaa
open Go.RowKit

theorem le4_take (n : Nat) (r : List UInt8) : (le4 n ++ r).take 4 = le4 n := by simp [le4]
theorem le4_drop (n : Nat) (r : List UInt8) : (le4 n ++ r).drop 4 = r := by simp [le4]
/-- Of bytes that begin with a count. -/
theorem unfE_le4 {n : Nat} (hn : n ≤ 131072) (cs ss r : List UInt8) (hc : cs.length = n) (hs : ss.length = 4) :
    unfE (le4 n ++ (cs ++ (ss ++ r))) = if crc32 (le4 n ++ cs) = ofLe ss then 0 else 12 := by
  have hl : (le4 n ++ (cs ++ (ss ++ r))).length = n + 8 + r.length := by simp [le4_length]; omega
  have h1 : (le4 n ++ (cs ++ (ss ++ r))).take 4 = le4 n := le4_take _ _
  have h2 : (le4 n ++ (cs ++ (ss ++ r))).take (n + 4) = le4 n ++ cs := by
    rw [← List.append_assoc (le4 n) cs]
    exact List.take_left' (by simp [le4_length]; omega)
  have h3 : ((le4 n ++ (cs ++ (ss ++ r))).drop (n + 4)).take 4 = ss := by
    rw [← List.append_assoc (le4 n) cs, List.drop_left' (by simp [le4_length]; omega)]
    exact List.take_left' hs
  unfold unfE
  rw [h1, ofLe_le4 n (by omega), hl, h2, h3]
  rw [if_neg (by omega), if_neg (by omega), if_neg (by omega)]
theorem frameL_more {bs : List UInt8} (h : bs.length ≤ 131072) (r : List UInt8) :
    unfE (frameL bs ++ r) = 0 ∧ unfC (frameL bs ++ r) = bs ∧ unfN (frameL bs ++ r) = bs.length + 8 := by
  have e : frameL bs ++ r = le4 bs.length ++ (bs ++ (le4 (crc32 (le4 bs.length ++ bs)) ++ r)) := by simp [frameL]
  have h0 : unfE (frameL bs ++ r) = 0 := by
    rw [e, unfE_le4 h bs _ r rfl rfl, ofLe_le4 _ (crc32_lt _), if_pos rfl]
  refine ⟨h0, ?_, ?_⟩
  · unfold unfC
    rw [if_pos h0, e, le4_take, le4_drop, ofLe_le4 _ (by omega)]
    exact List.take_left' rfl
  · unfold unfN
    rw [if_pos h0, e, le4_take, ofLe_le4 _ (by omega)]
theorem frameL_cut {bs : List UInt8} (h : bs.length ≤ 131072) {j : Nat} (hj : j < bs.length + 8) : unfE ((frameL bs).take j) = 16 := by
  unfold unfE
  have hl : ((frameL bs).take j).length = j := by rw [List.length_take, frameL_length]; omega
  by_cases h4 : j < 4
  · rw [if_pos (by omega)]
  · have h1 : ((frameL bs).take j).take 4 = le4 bs.length := by
      rw [List.take_take, show min 4 j = 4 by omega]
      have : frameL bs = le4 bs.length ++ (bs ++ le4 (crc32 (le4 bs.length ++ bs))) := by simp [frameL]
      rw [this, le4_take]
    rw [if_neg (by omega), h1, ofLe_le4 _ (by omega), hl, if_neg (by omega), if_pos (by omega)]
/-- One byte of the content turned. -/
theorem frameL_turned {bs : List UInt8} (h : bs.length ≤ 131072) {i : Nat} (hi : i < bs.length) {y : UInt8} (hy : y ≠ bs[i]) : unfE ((frameL bs).set (4 + i) y) = 12 := by
  have e : (frameL bs).set (4 + i) y = le4 bs.length ++ ((bs.set i y) ++ (le4 (crc32 (le4 bs.length ++ bs)) ++ [])) := by
    rw [List.append_nil]
    unfold frameL
    rw [List.append_assoc, List.set_append_right _ _ (by simp [le4_length]), le4_length, show 4 + i - 4 = i by omega, List.set_append_left _ _ hi]
  rw [e, unfE_le4 h _ _ [] (by simp) rfl, ofLe_le4 _ (crc32_lt _), if_neg]
  intro hc
  have e1 : bs = bs.take i ++ bs[i] :: bs.drop (i + 1) := by simp
  have e2 : bs.set i y = bs.take i ++ y :: bs.drop (i + 1) := by rw [List.set_eq_take_append_cons_drop, if_pos hi]
  have e3 : le4 bs.length ++ bs.set i y = (le4 bs.length ++ bs.take i) ++ y :: bs.drop (i + 1) := by rw [e2, List.append_assoc]
  have e4 : le4 bs.length ++ bs = (le4 bs.length ++ bs.take i) ++ bs[i] :: bs.drop (i + 1) := by rw [List.append_assoc, ← e1]
  rw [e3, e4] at hc
  exact hy (crc32_one _ _ hc)
end Go.Proofs.Ytekmjegeiminnaa
