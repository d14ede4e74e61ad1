/- The reference's Sum, walked. -/
import Derived.Test.YtekmjegeiminnaaB1
namespace Go.Proofs.Ytekmjegeiminnaa
open Go.RowKit
set_option linter.unusedVariables false
set_option linter.unusedSimpArgs false

/-- The reference's test of one bit, in the walk's own spelling. -/
theorem ref1_test (d x j : Nat) (hd : d < 4294967296) (hx : x < 256) :
    bits .and .u32 (bits .xor .u32 (d : Int) ((x : Int) / 2 ^ j % 4294967296)) 1 = (((d ^^^ x / 2 ^ j) % 2 : Nat) : Int) := by
  have hle : x / 2 ^ j ≤ x := Nat.div_le_self _ _
  have e : (x : Int) / 2 ^ j % 4294967296 = ((x / 2 ^ j : Nat) : Int) := by
    have e1 : (x : Int) / 2 ^ j = ((x / 2 ^ j : Nat) : Int) := by norm_cast
    rw [e1]; generalize x / 2 ^ j = y at hle; omega
  rw [e, u32_xor_nat _ _ hd (by omega)]
  have := u32_and_nat (d ^^^ x / 2 ^ j) 1 (xor_lt32 hd (by omega)) (by omega)
  rw [show ((1 : Nat) : Int) = 1 from rfl] at this
  rw [this, Nat.and_one_is_mod]
theorem ref1_one {d b : Nat} (h : (d ^^^ b) % 2 = 1) (hd : d < 4294967296) : bits .xor .u32 ((d : Int) / 2) 3988292384 = (ref1 d b : Int) := by
  unfold ref1
  rw [if_pos h, show ((d : Int) / 2) = ((d / 2 : Nat) : Int) by omega]
  have := u32_xor_nat (d / 2) 3988292384 (by omega) (by omega)
  rw [show ((3988292384 : Nat) : Int) = 3988292384 from rfl] at this
  exact this
theorem ref1_zero {d b : Nat} (h : ¬ (d ^^^ b) % 2 = 1) : ((d : Int) / 2) = (ref1 d b : Int) := by
  unfold ref1
  rw [if_neg h]; omega

set_option maxRecDepth 100000 in
set_option maxHeartbeats 4000000 in
theorem sum_ref (a : Option Addr) (len cap : Nat) (bs : List UInt8) (w : World) (h : BytesAt w a bs) (hlen : len = bs.length) (hl : len ≤ 140737488351232) :
    Calls Try.prog 21 #[.slice a len cap] w fun e w' => e = .returned (.int .u32 (crc32 bs : Nat)) ∧ w = w' := by
  subst hlen
  have H := hidden h
  clear h
  go_enter Try.func21, Try.ntmps21
  go_wp2_with fail
  go_loop [3, 10] (fun s i => ∃ (k c : Nat), i = .int .i64 k ∧ k ≤ bs.length ∧ s = .int .u32 c ∧ c < 4294967296 ∧ c = crcAll 4294967295 (bs.take k)) (fun _ i => bs.length - (intOf i).toNat)
  case atStart => exact ⟨0, 4294967295, rfl, Nat.zero_le _, rfl, by omega, rfl⟩
  case round =>
    obtain ⟨k, c, rfl, hk, rfl, hc, hcr⟩ := hrel
    have HCR := hidden hcr
    clear hcr
    by_cases hlt : k < bs.length
    · obtain ⟨b, o, rfl, hcell⟩ := H.out k hlt
      have hx : bs[k].toNat < 256 := bs[k].toNat_lt
      have HX : Hid (bs.take (k + 1) = bs.take k ++ [bs[k]]) := by show _ = _; rw [List.take_succ_eq_append_getElem hlt]
      have HS : Hid (refn 8 c bs[k].toNat = crcByte c bs[k]) := refn_byte c bs[k]
      generalize bs[k] = x at hcell hx HX HS
      go_wp2_with fail
      go_loop [3, 6] (fun s i => ∃ (j d : Nat), i = .int .i64 j ∧ j ≤ 8 ∧ s = .int .u32 d ∧ d < 4294967296 ∧ d = refn j c x.toNat) (fun _ i => 8 - (intOf i).toNat)
      case atStart => exact ⟨0, c, rfl, Nat.zero_le _, rfl, hc, rfl⟩
      case round =>
        obtain ⟨j, d, rfl, hj, rfl, hd, hdj⟩ := hrel
        have HDJ := hidden hdj
        clear hdj
        by_cases hlt2 : j < 8
        · have HT := ref1_test d x.toNat j hd hx
          by_cases hb : (d ^^^ x.toNat / 2 ^ j) % 2 = 1
          · have HT1 : (bits .and .u32 (bits .xor .u32 (d : Int) ((x.toNat : Int) / 2 ^ j % 4294967296)) 1 == 1) = true := by rw [HT, hb]; rfl
            have H1 := hidden (ref1_one hb hd)
            clear HT hb
            go_wp2
            exact ⟨⟨j + 1, ref1 d (x.toNat / 2 ^ j), by go_num, by omega, by rw [H1.out], ref1_lt hd, by rw [HDJ.out]; rfl⟩, by simp [intOf]; omega⟩
          · have HT1 : (bits .and .u32 (bits .xor .u32 (d : Int) ((x.toNat : Int) / 2 ^ j % 4294967296)) 1 == 1) = false := by
              rw [HT]; have : (d ^^^ x.toNat / 2 ^ j) % 2 = 0 := by omega
              rw [this]; rfl
            have H1 := hidden (ref1_zero (d := d) hb)
            clear HT hb
            go_wp2
            exact ⟨⟨j + 1, ref1 d (x.toNat / 2 ^ j), by go_num, by omega, by rw [H1.out], ref1_lt hd, by rw [HDJ.out]; rfl⟩, by simp [intOf]; omega⟩
        · have hj8 : j = 8 := by omega
          have HJ := hidden hj8
          have hnot : ¬ (j : Int) < 8 := by omega
          clear hj8
          go_wp2
          refine ⟨⟨k + 1, d, by go_num, by omega, rfl, hd, ?_⟩, by simp [intOf]; omega⟩
          rw [HX.out, crcAll_snoc, ← HCR.out, ← HS.out, HDJ.out, HJ.out]
    · have hnot : ¬ (k : Int) < (bs.length : Int) := by omega
      have HK : Hid (k = bs.length) := by show _ = _; omega
      go_wp2
      go_ret
      refine ⟨ret_u32 ?_, rfl⟩
      show bits .xor .u32 (c : Int) ((4294967295 : Nat) : Int) = _
      rw [u32_xor_nat _ _ hc (by omega), HCR.out, HK.out, List.take_length]
      rfl
end Go.Proofs.Ytekmjegeiminnaa
