/- What it is that a slice of bytes reads as a list of bytes; the program's Sum and the reference's, walked. -/
import Derived.Test.YtekmjegeiminnaaRows
import Derived.Test.YtekmjegeiminnaaP1
import Derived.WalkKit
import Derived.Deep.QuietTactic
import Derived.BigQuiet
import Derived.Laws.BitsAllLaws
namespace Go.Proofs.Ytekmjegeiminnaa
open Go.RowKit
set_option linter.unusedVariables false
set_option linter.unusedSimpArgs false

theorem hidden {p : Prop} (h : p) : Hid p := h
theorem below_dn {B : Nat} {a w : World} (h : Below B a w) (n : Nat) : Below B a (w.drewN n) := h.trans ⟨rfl, rfl, rfl, Nat.le_refl _, fun _ _ => rfl⟩
theorem below_grown {w w' : World} (h : Below w.heap.size w w') (row : Option Nat) : w.grownBy w' row := ⟨h.os, h.tape, h.output, h.size, fun k hk _ => h.block k hk⟩
abbrev bV (x : UInt8) : Value := .int .u8 (x.toNat : Int)
def byteVs (bs : List UInt8) : List Value := bs.map bV
/-- The slice's bytes. -/
def BytesAt (w : World) (a : Option Addr) (bs : List UInt8) : Prop :=
  ∀ (i : Nat) (h : i < bs.length), ∃ b o, a = some ⟨b, o, none⟩ ∧ w.cell? ⟨b, o + i, none⟩ = some (bV bs[i])
theorem BytesAt.on {B : Nat} {w w' : World} {a : Option Addr} {bs : List UInt8} (h : BytesAt w a bs) (hb : Below B w w') (hB : ∀ A, a = some A → A.block < B) : BytesAt w' a bs := fun i hi => by
  obtain ⟨b, o, ha, hc⟩ := h i hi
  exact ⟨b, o, ha, (hb.cell (by show b < B; exact hB ⟨b, o, none⟩ ha)).trans hc⟩
theorem BytesAt.on' {w w' : World} {a : Option Addr} {bs : List UInt8} (h : BytesAt w a bs) (hb : Below w.heap.size w w') : BytesAt w' a bs := fun i hi => by
  obtain ⟨b, o, ha, hc⟩ := h i hi
  exact ⟨b, o, ha, (hb.cell (by exact World.block_lt_of_cell? w _ hc)).trans hc⟩

theorem ret_u32 {a b : Int} (h : a = b) : Ending.returned (.int .u32 a) = .returned (.int .u32 b) := by rw [h]

/-- The program's step of one bit, in the walk's own spelling. -/
theorem crc1_walk (d : Nat) (h : d < 4294967296) :
    bits .xor .u32 ((d : Int) / 2) (bits .and .u32 3988292384 (-bits .and .u32 (d : Int) 1 % 4294967296)) = (crc1 d : Int) := by
  have h1 : bits .and .u32 (d : Int) 1 = ((d % 2 : Nat) : Int) := by
    have := u32_and_nat d 1 h (by omega)
    rw [show ((1 : Nat) : Int) = 1 from rfl] at this
    rw [this, Nat.and_one_is_mod]
  rw [h1]
  have h2 : ((d : Int) / 2) = ((d / 2 : Nat) : Int) := by omega
  rw [h2]
  unfold crc1
  rcases Nat.mod_two_eq_zero_or_one d with e | e
  · rw [e]
    have : (-((0 : Nat) : Int) % 4294967296) = ((0 : Nat) : Int) := by decide
    rw [this]
    have h3 := u32_and_nat 3988292384 0 (by omega) (by omega)
    rw [show ((3988292384 : Nat) : Int) = 3988292384 from rfl] at h3
    rw [h3, u32_xor_nat _ _ (by omega) (by decide)]
    simp
  · rw [e]
    have : (-((1 : Nat) : Int) % 4294967296) = ((4294967295 : Nat) : Int) := by decide
    rw [this]
    have h3 := u32_and_nat 3988292384 4294967295 (by omega) (by omega)
    rw [show ((3988292384 : Nat) : Int) = 3988292384 from rfl] at h3
    rw [h3, u32_xor_nat _ _ (by omega) (by decide)]
    simp

set_option maxRecDepth 100000 in
set_option maxHeartbeats 4000000 in
theorem sum_any (a : Option Addr) (len cap : Nat) (bs : List UInt8) (w : World) (h : BytesAt w a bs) (hlen : len = bs.length) (hl : len ≤ 140737488351232) :
    Calls Try.prog 20 #[.slice a len cap] w fun e w' => e = .returned (.int .u32 (crc32 bs : Nat)) ∧ w = w' := by
  subst hlen
  have H := hidden h
  clear h
  go_enter Try.func20, Try.ntmps20
  go_wp2_with fail
  go_loop [3, 8] (fun s i => ∃ (k c : Nat), i = .int .i64 k ∧ k ≤ bs.length ∧ s = .int .u32 c ∧ c < 4294967296 ∧ c = crcAll 4294967295 (bs.take k)) (fun _ i => bs.length - (intOf i).toNat)
  case atStart => exact ⟨0, 4294967295, rfl, Nat.zero_le _, rfl, by omega, rfl⟩
  case round =>
    obtain ⟨k, c, rfl, hk, rfl, hc, hcr⟩ := hrel
    have HCR := hidden hcr
    clear hcr
    by_cases hlt : k < bs.length
    · obtain ⟨b, o, rfl, hcell⟩ := H.out k hlt
      have hx : (bs[k].toNat : Int) < 256 := by have := bs[k].toNat_lt; omega
      have hx0 : 0 ≤ (bs[k].toNat : Int) := by omega
      have HX : Hid (bs.take (k + 1) = bs.take k ++ [bs[k]]) := by show _ = _; rw [List.take_succ_eq_append_getElem hlt]
      have hxor : bits .xor .u32 (c : Int) (bs[k].toNat : Int) = ((c ^^^ bs[k].toNat : Nat) : Int) := u32_xor_nat _ _ hc (by have := bs[k].toNat_lt; omega)
      have HS : Hid (crcByte c bs[k] = crc1n 8 (c ^^^ bs[k].toNat)) := rfl
      have hlt32 : c ^^^ bs[k].toNat < 4294967296 := xor_lt32 hc (by have := bs[k].toNat_lt; omega)
      generalize bs[k] = x at hcell hx hx0 HX hxor HS hlt32
      generalize c ^^^ x.toNat = c0 at hxor HS hlt32
      go_wp2_with fail
      go_loop [3, 16] (fun s i => ∃ (j d : Nat), i = .int .i64 j ∧ j ≤ 8 ∧ s = .int .u32 d ∧ d < 4294967296 ∧ d = crc1n j c0) (fun _ i => 8 - (intOf i).toNat)
      case atStart => exact ⟨0, c0, rfl, Nat.zero_le _, rfl, hlt32, rfl⟩
      case round =>
        obtain ⟨j, d, rfl, hj, rfl, hd, hdj⟩ := hrel
        have HDJ := hidden hdj
        clear hdj
        by_cases hlt2 : j < 8
        · have HC1 := hidden (crc1_walk d hd)
          go_wp2
          exact ⟨⟨j + 1, crc1 d, by go_num, by omega, by rw [HC1.out], crc1_lt hd, by rw [HDJ.out]; rfl⟩, by simp [intOf]; omega⟩
        · have hj8 : j = 8 := by omega
          have HJ := hidden hj8
          have hnot : ¬ (j : Int) < 8 := by omega
          clear hj8
          go_wp2
          refine ⟨⟨k + 1, d, by go_num, by omega, rfl, hd, ?_⟩, by simp [intOf]; omega⟩
          rw [HX.out, crcAll_snoc, ← HCR.out, HS.out, HDJ.out, HJ.out]
    · have hnot : ¬ (k : Int) < (bs.length : Int) := by omega
      have HK : Hid (k = bs.length) := by show _ = _; omega
      go_wp2
      go_ret
      refine ⟨ret_u32 ?_, rfl⟩
      show bits .xor .u32 ((4294967295 : Nat) : Int) (c : Int) = _
      rw [u32_xor_nat _ _ (by omega) hc, HCR.out, HK.out, List.take_length, Nat.xor_comm]
      rfl
end Go.Proofs.Ytekmjegeiminnaa
