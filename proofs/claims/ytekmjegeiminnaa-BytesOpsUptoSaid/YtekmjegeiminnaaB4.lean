/- Numbers in four bytes, read and written: the reference's Four, both Fourths. -/
import Derived.Test.YtekmjegeiminnaaB3
namespace Go.Proofs.Ytekmjegeiminnaa
open Go.RowKit
set_option linter.unusedVariables false
set_option linter.unusedSimpArgs false

set_option maxRecDepth 100000 in
set_option maxHeartbeats 4000000 in
theorem four_ref (n : Nat) (w : World) (hn : n < 4294967296) :
    Calls Try.prog 68 #[.int .u32 n] w fun e w' => ∃ v', e = .returned v' ∧ Grew w.heap.size (.slice none 0 0) v' (le4 n) w w' := by
  go_enter Try.func68, Try.ntmps68
  go_wp2
  go_ret
  refine ⟨_, rfl, ?_, Upd.new _ _, .inr ⟨w.heap.size, rfl, Nat.le_refl _⟩⟩
  unfold OwnB
  rw [le4_vals n hn]
  exact World.ownsRow_lit _ #[.int .u8 ((n : Int) % 256), .int .u8 ((n : Int) / 256 % 256), .int .u8 ((n : Int) / 65536 % 256), .int .u8 ((n : Int) / 16777216)] 4 (Nat.le_refl _) (by decide) rfl

/-- The number of bytes, the lowest first. -/
def ofLe : List UInt8 → Nat
  | [] => 0
  | x :: r => x.toNat + 256 * ofLe r
theorem ofLe_lt : ∀ (l : List UInt8), ofLe l < 256 ^ l.length
  | [] => by simp [ofLe]
  | x :: r => by have := ofLe_lt r; have hx := x.toNat_lt; simp [ofLe, Nat.pow_succ]; omega
theorem ofLe_snoc : ∀ (l : List UInt8) (x : UInt8), ofLe (l ++ [x]) = ofLe l + 256 ^ l.length * x.toNat
  | [], x => by simp [ofLe]
  | y :: r, x => by
    simp only [List.cons_append, ofLe, ofLe_snoc r x, List.length_cons, Nat.pow_succ, Nat.mul_add, ← Nat.add_assoc, ← Nat.mul_assoc]
    rw [Nat.mul_comm 256 (256 ^ r.length)]
theorem ofLe_le4 (n : Nat) (h : n < 4294967296) : ofLe (le4 n) = n := by
  simp [ofLe, le4, UInt8.toNat_ofNat']; omega

theorem pow_256 (k : Nat) : 2 ^ (8 * k) = 256 ^ k := by rw [Nat.pow_mul]
/-- One byte more, in the walk's own spelling. -/
theorem or_walk {c k x : Nat} (hk : k < 4) (hc : c < 256 ^ k) (hx : x < 256) : bits .or .u32 (c : Int) ((x : Int) * 2 ^ (8 * k) % 4294967296) = ((c + 256 ^ k * x : Nat) : Int) := by
  have hp : 256 ^ k ≤ 16777216 := by
    have : 256 ^ k ≤ 256 ^ 3 := Nat.pow_le_pow_right (by decide) (by omega)
    simpa using this
  have hm : 256 ^ k * x ≤ 16777216 * 255 := Nat.mul_le_mul hp (by omega)
  have e : (x : Int) * 2 ^ (8 * k) % 4294967296 = ((256 ^ k * x : Nat) : Int) := by
    have e1 : (x : Int) * 2 ^ (8 * k) = ((256 ^ k * x : Nat) : Int) := by rw [← pow_256, Nat.mul_comm (2 ^ (8 * k)) x]; norm_cast
    rw [e1]; generalize 256 ^ k * x = y at hm; omega
  rw [e, u32_or_nat _ _ (by omega) (by omega)]
  have h := Nat.shiftLeft_add_eq_or_of_lt (b := c) (i := 8 * k) (by rw [pow_256]; exact hc) x
  rw [Nat.shiftLeft_eq, pow_256, Nat.mul_comm x] at h
  rw [Nat.or_comm, ← h, Nat.add_comm]

set_option maxRecDepth 100000 in
set_option maxHeartbeats 4000000 in
theorem fourth_any (a : Option Addr) (len cap : Nat) (bs : List UInt8) (w : World) (h : BytesAt w a bs) (h4 : 4 ≤ bs.length) (hlen : len = bs.length) (hl : len ≤ 140737488351232) :
    Calls Try.prog 69 #[.slice a len cap] w fun e w' => e = .returned (.int .u32 (ofLe (bs.take 4) : Nat)) ∧ w = w' := by
  subst hlen
  have H := hidden h
  clear h
  go_enter Try.func69, Try.ntmps69
  go_wp2_with fail
  go_loop [3, 5] (fun s i => ∃ (k c : Nat), i = .int .i64 k ∧ k ≤ 4 ∧ s = .int .u32 c ∧ c < 256 ^ k ∧ c = ofLe (bs.take k)) (fun _ i => 4 - (intOf i).toNat)
  case atStart => exact ⟨0, 0, rfl, Nat.zero_le _, rfl, by decide, rfl⟩
  case round =>
    obtain ⟨k, c, rfl, hk, rfl, hc, hcr⟩ := hrel
    have HCR := hidden hcr
    have HCL := hidden hc
    clear hcr hc
    by_cases hlt : k < 4
    · obtain ⟨b, o, rfl, hcell⟩ := H.out k (by omega)
      have hx : bs[k].toNat < 256 := bs[k].toNat_lt
      have HX : Hid (bs.take (k + 1) = bs.take k ++ [bs[k]]) := by show _ = _; rw [List.take_succ_eq_append_getElem (by omega)]
      have hkl : (k : Int) < (bs.length : Int) := by omega
      generalize bs[k] = x at hcell hx HX
      have HO := hidden (or_walk hlt HCL.out hx)
      go_wp2
      refine ⟨⟨k + 1, c + 256 ^ k * x.toNat, by go_num, by omega, by rw [HO.out], ?_, ?_⟩, by simp [intOf]; omega⟩
      · have h1 := HCL.out
        have : 256 ^ k * x.toNat ≤ 256 ^ k * 255 := Nat.mul_le_mul_left _ (by omega)
        rw [Nat.pow_succ]; omega
      · rw [HX.out, ofLe_snoc, HCR.out]; rw [List.length_take, show min k bs.length = k by omega]
    · have hnot : ¬ (k : Int) < 4 := by omega
      have HK : Hid (k = 4) := by show _ = _; omega
      go_wp2
      go_ret
      exact ⟨ret_u32 (by rw [HCR.out, HK.out]), rfl⟩

theorem or_add {c k x : Nat} (hk : k < 4) (hc : c < 256 ^ k) (hx : x < 256) : bits .or .u32 (c : Int) ((x * 256 ^ k : Nat) : Int) = ((c + x * 256 ^ k : Nat) : Int) := by
  have h := or_walk hk hc hx
  have hp : 256 ^ k ≤ 16777216 := by
    have : 256 ^ k ≤ 256 ^ 3 := Nat.pow_le_pow_right (by decide) (by omega)
    simpa using this
  have hm : x * 256 ^ k ≤ 255 * 16777216 := Nat.mul_le_mul (by omega) hp
  have e : (x : Int) * 2 ^ (8 * k) % 4294967296 = ((x * 256 ^ k : Nat) : Int) := by
    have e1 : (x : Int) * 2 ^ (8 * k) = ((x * 256 ^ k : Nat) : Int) := by rw [← pow_256]; norm_cast
    rw [e1]; generalize x * 256 ^ k = y at hm; omega
  rw [e, Nat.mul_comm (256 ^ k) x] at h
  exact h
theorem take_four {bs : List UInt8} (h : 4 ≤ bs.length) : bs.take 4 = [bs[0], bs[1], bs[2], bs[3]] := by
  match bs, h with
  | x0 :: x1 :: x2 :: x3 :: r, _ => rfl

set_option maxRecDepth 100000 in
set_option maxHeartbeats 4000000 in
theorem fourth_ref (a : Option Addr) (len cap : Nat) (bs : List UInt8) (w : World) (h : BytesAt w a bs) (h4 : 4 ≤ bs.length) (hlen : len = bs.length) (hl : len ≤ 140737488351232) :
    Calls Try.prog 70 #[.slice a len cap] w fun e w' => e = .returned (.int .u32 (ofLe (bs.take 4) : Nat)) ∧ ∃ n, w' = w.drewN n := by
  subst hlen
  obtain ⟨b, o, rfl, c0⟩ := h 0 (by omega)
  obtain ⟨b1, o1, e1, c1⟩ := h 1 (by omega)
  obtain ⟨b2, o2, e2, c2⟩ := h 2 (by omega)
  obtain ⟨b3, o3, e3, c3⟩ := h 3 (by omega)
  cases e1; cases e2; cases e3
  rw [Nat.add_zero] at c0
  have hx0 := bs[0].toNat_lt
  have hx1 := bs[1].toNat_lt
  have hx2 := bs[2].toNat_lt
  have hx3 := bs[3].toNat_lt
  have HT : Hid (bs.take 4 = [bs[0], bs[1], bs[2], bs[3]]) := by
    exact take_four h4
  generalize bs[0] = x0 at *
  generalize bs[1] = x1 at *
  generalize bs[2] = x2 at *
  generalize bs[3] = x3 at *
  have i0 : (0 : Int) < (bs.length : Int) := by omega
  have i1 : (1 : Int) < (bs.length : Int) := by omega
  have i2 : (2 : Int) < (bs.length : Int) := by omega
  have i3 : (3 : Int) < (bs.length : Int) := by omega
  clear h
  go_enter Try.func70, Try.ntmps70
  go_wp2_with fail
  go_quiet (fail)
  go_wp2
  go_ret
  refine ⟨ret_u32 ?_, _, rfl⟩
  have q1 : bits .or .u32 (x0.toNat : Int) ((x1.toNat : Int) * 256) = ((x0.toNat + x1.toNat * 256 : Nat) : Int) := or_add (k := 1) (c := x0.toNat) (x := x1.toNat) (by omega) (by simpa using hx0) (by simpa using hx1)
  have q2 : bits .or .u32 ((x0.toNat + x1.toNat * 256 : Nat) : Int) ((x2.toNat : Int) * 65536) = ((x0.toNat + x1.toNat * 256 + x2.toNat * 65536 : Nat) : Int) := or_add (k := 2) (x := x2.toNat) (by omega) (by simp at hx0 hx1 ⊢; omega) (by simpa using hx2)
  have q3 : bits .or .u32 ((x0.toNat + x1.toNat * 256 + x2.toNat * 65536 : Nat) : Int) ((x3.toNat : Int) * 16777216) = ((x0.toNat + x1.toNat * 256 + x2.toNat * 65536 + x3.toNat * 16777216 : Nat) : Int) := or_add (k := 3) (x := x3.toNat) (by omega) (by simp at hx0 hx1 hx2 ⊢; omega) (by simpa using hx3)
  rw [q1, q2, q3, HT.out]
  simp only [ofLe]; omega
end Go.Proofs.Ytekmjegeiminnaa
