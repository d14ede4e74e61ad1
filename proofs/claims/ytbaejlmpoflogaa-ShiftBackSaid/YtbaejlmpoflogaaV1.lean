/- The plain law behind ShiftBack, and ShiftBack walked. -/
import Derived.Test.YtbaejlmpoflogaaU1
namespace Go.Proofs.Ytbaejlmpoflogaa
open Go.RowKit
set_option linter.unusedVariables false
set_option linter.unusedSimpArgs false

theorem goodB_back {a n m : Int} (h : goodB a n m = true) : goodB a (-n) m = true := by
  obtain ⟨g1, g2, g3, g4, g5⟩ := good_facts h
  unfold goodB; rw [decide_eq_true_eq]; omega
theorem posO_iff {a n m p : Int} : posO a n m p = true ↔ posP a n m p := by unfold posO; rw [decide_eq_true_eq]
theorem posV_of {a n m p : Int} (h : posP a n m p) : posV a n m p = if p < a then p else p + n := by rw [posV, if_pos h]

/-- All that ShiftBack asks of a good shift and two lines. -/
theorem back_plain {a n m x y : Int} (hg : goodB a n m = true) (hx : 1 ≤ x) (hxy : x ≤ y) (hy : y ≤ m) :
    (posO a n m x = true → posO a n m y = true → posV a n m x ≤ posV a n m y ∧ (posV a n m x = posV a n m y → x = y)) ∧
    (posO a n m x = true → posO a (-n) m (posV a n m x) = true ∧ posV a (-n) m (posV a n m x) = x) ∧
    (posO a n m x = true → spanO a n m x y = true ∧ spanL a n m x y = posV a n m x) ∧
    (posO a n m y = true → spanO a n m x y = true ∧ spanH a n m x y = posV a n m y) ∧
    (spanO a n m x y = true → 1 ≤ spanL a n m x y ∧ spanL a n m x y ≤ spanH a n m x y ∧ spanH a n m x y ≤ m) := by
  obtain ⟨g1, g2, g3, g4, g5⟩ := good_facts hg
  have hb := goodB_back hg
  refine ⟨fun h1 h2 => ?_, fun h1 => ?_, fun h1 => ?_, fun h1 => ?_, fun h1 => ?_⟩
  · rw [posO_iff] at h1 h2
    rw [posV_of h1, posV_of h2]
    obtain ⟨_, _, _, q1⟩ := h1
    obtain ⟨_, _, _, q2⟩ := h2
    constructor
    · split <;> split <;> omega
    · split <;> split <;> omega
  · rw [posO_iff] at h1
    have hv := posV_of h1
    obtain ⟨_, _, _, q1⟩ := h1
    have hp : posP a (-n) m (posV a n m x) := by
      rw [hv]
      split
      · exact ⟨hb, by omega, by omega, by omega⟩
      · exact ⟨hb, by omega, by omega, by omega⟩
    refine ⟨posO_iff.2 hp, ?_⟩
    rw [posV_of hp, hv]
    (repeat' split) <;> omega
  · rw [posO_iff] at h1
    have hv := posV_of h1
    obtain ⟨_, _, _, q1⟩ := h1
    have hs : spanP a n m x y := ⟨hg, hx, hxy, hy, by omega⟩
    refine ⟨by simp [spanO, hs], ?_⟩
    rw [spanL, if_pos hs, hv, foldV]
    (repeat' split) <;> omega
  · rw [posO_iff] at h1
    have hv := posV_of h1
    obtain ⟨_, _, _, q1⟩ := h1
    have hs : spanP a n m x y := ⟨hg, hx, hxy, hy, by omega⟩
    refine ⟨by simp [spanO, hs], ?_⟩
    rw [spanH, if_pos hs, hv, foldV]
    (repeat' split) <;> omega
  · have hs : spanP a n m x y := by simpa [spanO] using h1
    have hs' := hs
    obtain ⟨_, _, _, _, q⟩ := hs'
    rw [spanL, spanH, if_pos hs, if_pos hs, foldV, foldV]
    refine ⟨?_, ?_, ?_⟩ <;> (repeat' split) <;> omega

set_option maxHeartbeats 8000000 in
theorem back_walk_bad (a n m p q : Int) (hg : goodB a n m = false) (ha : I64 a) (hn : I64 n) (hm : I64 m) (w : World) :
    Calls Try.prog 5 #[S3 a n m, .int .u64 p, .int .u64 q] w fun e w' => e = .returned (.bool true) ∧ Below w.heap.size w w' := by
  go_enter Try.func5, Try.ntmps5
  go_wp2_with fail
  refine (good_any_w a n m ha hn hm _).mono ?_
  rintro e w1 ⟨rfl, rfl⟩
  rw [hg]
  have HG := hidden hg
  clear hg
  go_wp2_with fail
  refine (back_any a n m ha hn hm _).mono ?_
  rintro e w2 ⟨rfl, hb⟩
  have B2 := hidden ((((Below.refl _ _).alloc (Nat.le_refl _) _).alloc (by simp) _).trans (hb.mono (by simp; omega)))
  clear hb
  rw [backV, if_neg (by rw [HG.out]; decide)]
  go_wp2_with fail
  refine (lives_any _).mono ?_
  rintro e w3 ⟨rfl, hb⟩
  have B3 := hidden (B2.out.trans (hb.mono B2.out.size))
  clear hb
  go_wp2
  go_ret
  exact ⟨rfl, B3.out⟩

/-- The shift in the law's own variable, from call to call. -/
def Kept1 (w0 : World) (a n m : Int) (w : World) : Prop := Below w0.heap.size w0 w ∧ w0.heap.size < w.heap.size ∧ Cells3 w0.heap.size a n m w
theorem Kept1.on {w0 : World} {a n m : Int} {w w' : World} (h : Kept1 w0 a n m w) (hb : Below w.heap.size w w') : Kept1 w0 a n m w' :=
  ⟨h.1.trans (hb.mono h.1.size), Nat.lt_of_lt_of_le h.2.1 hb.size, h.2.2.on hb h.2.1⟩
theorem posV_bd {a n m : Int} (hg : goodB a n m = true) (p : Int) : -9223372036854775808 ≤ posV a n m p ∧ posV a n m p ≤ 9223372036854775807 := by
  obtain ⟨g1, g2, g3, g4, g5⟩ := good_facts hg
  unfold posV
  split
  · rename_i h
    obtain ⟨_, q1, q2, q3⟩ := h
    split <;> omega
  · omega

set_option maxHeartbeats 16000000 in
theorem back_walk_good (a n m p q : Int) (hg : goodB a n m = true) (hp : 0 ≤ p) (hq : 0 ≤ q) (w : World) :
    Calls Try.prog 5 #[S3 a n m, .int .u64 p, .int .u64 q] w fun e w' => e = .returned (.bool true) ∧ Below w.heap.size w w' := by
  obtain ⟨g1, g2, g3, g4, g5⟩ := good_facts hg
  have gn : -1000 ≤ n ∧ n ≤ 1000 := by omega
  clear g5
  have hwm : IntKind.u64.wrap m = m := by rw [IntKind.wrap_u64]; omega
  have pm1 : 0 ≤ p % m := Int.emod_nonneg _ (by omega)
  have pm2 : p % m < m := Int.emod_lt_of_pos _ (by omega)
  have qm1 : 0 ≤ q % m := Int.emod_nonneg _ (by omega)
  have qm2 : q % m < m := Int.emod_lt_of_pos _ (by omega)
  have PL := fun x y h1 h2 h3 => back_plain (a := a) (n := n) (m := m) (x := x) (y := y) hg h1 h2 h3
  have HPL := hidden PL
  clear PL
  go_enter Try.func5, Try.ntmps5
  go_wp2_with fail
  refine (good_any_w a n m ⟨by omega, by omega⟩ ⟨by omega, by omega⟩ ⟨by omega, by omega⟩ _).mono ?_
  rintro e w1 ⟨rfl, rfl⟩
  rw [hg]
  have HG := hidden hg
  clear hg
  go_wp2_with fail
  go_quiet (fail)
  have HK : Hid (Kept1 w a n m ((((w.alloc (.cells #[.int .i64 a, .int .i64 n, .int .i64 m] 27)).alloc (.cells #[.int .i64 a, .int .i64 n, .int .i64 m] 27))).drewN nq)) :=
    ⟨below_dn (((Below.refl _ _).alloc (Nat.le_refl _) _).alloc (by simp) _) _, by show w.heap.size < ((w.alloc _).alloc _).heap.size; simp; omega, by go_simp, by go_simp, by go_simp⟩
  by_cases hs : q % m < p % m
  · have G5 := hidden (HPL.out (1 + q % m) (1 + p % m) (by omega) (by omega) (by omega)).2.2.2.2
    have HP := hidden (HPL.out (1 + q % m) (1 + p % m) (by omega) (by omega) (by omega))
    go_wp2_with fail
    clear hs hwm
    have b1 : 1 ≤ 1 + q % m := by omega
    have b2 : 1 + q % m ≤ m := by omega
    have b3 : 1 ≤ 1 + p % m := by omega
    have b4 : 1 + p % m ≤ m := by omega
    generalize 1 + q % m = X at *
    generalize 1 + p % m = Y at *
    clear pm1 pm2 qm1 qm2
    refine (pos_any a n m X ⟨by omega, by omega⟩ ⟨by omega, by omega⟩ ⟨by omega, by omega⟩ ⟨by omega, by omega⟩ _).mono ?_
    rintro e w2 ⟨rfl, hb⟩
    have HH : Kept1 w a n m w2 := Kept1.on HK.out hb
    clear hb HK
    obtain ⟨hB, hZ, c0, c1, c2⟩ := HH
    go_wp2_with fail
    refine (pos_any a n m Y ⟨by omega, by omega⟩ ⟨by omega, by omega⟩ ⟨by omega, by omega⟩ ⟨by omega, by omega⟩ _).mono ?_
    rintro e w3 ⟨rfl, hb⟩
    have HH : Kept1 w a n m w3 := Kept1.on ⟨hB, hZ, c0, c1, c2⟩ hb
    clear hb hB hZ c0 c1 c2
    obtain ⟨hB, hZ, c0, c1, c2⟩ := HH
    obtain ⟨xb1, xb2⟩ := posV_bd HG.out X
    cases hox : posO a n m X with
    | true =>
      have G2 := hidden (HP.out.2.1 hox)
      have G3 := hidden (HP.out.2.2.1 hox)
      cases hoy : posO a n m Y with
      | true =>
        have G4 := hidden (HP.out.2.2.2.1 hoy)
        have G1 := hidden (HP.out.1 hox hoy)
        have t1 : posV a n m X ≤ posV a n m Y := G1.out.1
        clear hox hoy
        cases t5 : (posV a n m X == posV a n m Y) with
        | true =>
          have t6 : (X != Y) = false := by simp [G1.out.2 (by simpa using t5)]
          go_wp2_with fail
          refine (back_any a n m ⟨by omega, by omega⟩ ⟨by omega, by omega⟩ ⟨by omega, by omega⟩ _).mono ?_
          rintro e w5 ⟨rfl, hb⟩
          have HH : Kept1 w a n m w5 := Kept1.on ⟨hB, hZ, c0, c1, c2⟩ hb
          clear hb hB hZ c0 c1 c2
          obtain ⟨hB, hZ, c0, c1, c2⟩ := HH
          rw [backV, if_pos HG.out]
          go_wp2_with fail
          refine (pos_any a (-n) m (posV a n m X) ⟨by omega, by omega⟩ ⟨by omega, by omega⟩ ⟨by omega, by omega⟩ ⟨by omega, by omega⟩ _).mono ?_
          rintro e w6 ⟨rfl, hb⟩
          have HH : Kept1 w a n m w6 := Kept1.on ⟨hB, hZ, c0, c1, c2⟩ hb
          clear hb hB hZ c0 c1 c2
          obtain ⟨hB, hZ, c0, c1, c2⟩ := HH
          rw [G2.out.1, G2.out.2]
          go_wp2_with fail

          refine (span_any a n m X Y ⟨by omega, by omega⟩ ⟨by omega, by omega⟩ ⟨by omega, by omega⟩ ⟨by omega, by omega⟩ ⟨by omega, by omega⟩ _).mono ?_
          rintro e w7 ⟨rfl, hb⟩
          have HH : Kept1 w a n m w7 := Kept1.on ⟨hB, hZ, c0, c1, c2⟩ hb
          clear hb hB hZ c0 c1 c2
          obtain ⟨hB, hZ, c0, c1, c2⟩ := HH
          simp only [retSpan]

          rw [G3.out.1, G3.out.2, G4.out.2]
          obtain ⟨s1, s2, s3⟩ := G5.out G3.out.1
          rw [G3.out.2] at s1 s2
          rw [G4.out.2] at s2 s3

          go_wp2_with fail
          refine (lives_any _).mono ?_
          rintro e w8 ⟨rfl, hb⟩
          have B8 := hidden (hB.trans (hb.mono (by omega)))
          clear hb
          go_wp2
          go_ret
          exact ⟨rfl, B8.out⟩
        | false =>
          go_wp2_with fail
          refine (back_any a n m ⟨by omega, by omega⟩ ⟨by omega, by omega⟩ ⟨by omega, by omega⟩ _).mono ?_
          rintro e w5 ⟨rfl, hb⟩
          have HH : Kept1 w a n m w5 := Kept1.on ⟨hB, hZ, c0, c1, c2⟩ hb
          clear hb hB hZ c0 c1 c2
          obtain ⟨hB, hZ, c0, c1, c2⟩ := HH
          rw [backV, if_pos HG.out]
          go_wp2_with fail
          refine (pos_any a (-n) m (posV a n m X) ⟨by omega, by omega⟩ ⟨by omega, by omega⟩ ⟨by omega, by omega⟩ ⟨by omega, by omega⟩ _).mono ?_
          rintro e w6 ⟨rfl, hb⟩
          have HH : Kept1 w a n m w6 := Kept1.on ⟨hB, hZ, c0, c1, c2⟩ hb
          clear hb hB hZ c0 c1 c2
          obtain ⟨hB, hZ, c0, c1, c2⟩ := HH
          rw [G2.out.1, G2.out.2]
          go_wp2_with fail

          refine (span_any a n m X Y ⟨by omega, by omega⟩ ⟨by omega, by omega⟩ ⟨by omega, by omega⟩ ⟨by omega, by omega⟩ ⟨by omega, by omega⟩ _).mono ?_
          rintro e w7 ⟨rfl, hb⟩
          have HH : Kept1 w a n m w7 := Kept1.on ⟨hB, hZ, c0, c1, c2⟩ hb
          clear hb hB hZ c0 c1 c2
          obtain ⟨hB, hZ, c0, c1, c2⟩ := HH
          simp only [retSpan]

          rw [G3.out.1, G3.out.2, G4.out.2]
          obtain ⟨s1, s2, s3⟩ := G5.out G3.out.1
          rw [G3.out.2] at s1 s2
          rw [G4.out.2] at s2 s3

          go_wp2_with fail
          refine (lives_any _).mono ?_
          rintro e w8 ⟨rfl, hb⟩
          have B8 := hidden (hB.trans (hb.mono (by omega)))
          clear hb
          go_wp2
          go_ret
          exact ⟨rfl, B8.out⟩
      | false =>
        clear hox hoy
        go_wp2_with fail
        refine (back_any a n m ⟨by omega, by omega⟩ ⟨by omega, by omega⟩ ⟨by omega, by omega⟩ _).mono ?_
        rintro e w5 ⟨rfl, hb⟩
        have HH : Kept1 w a n m w5 := Kept1.on ⟨hB, hZ, c0, c1, c2⟩ hb
        clear hb hB hZ c0 c1 c2
        obtain ⟨hB, hZ, c0, c1, c2⟩ := HH
        rw [backV, if_pos HG.out]
        go_wp2_with fail
        refine (pos_any a (-n) m (posV a n m X) ⟨by omega, by omega⟩ ⟨by omega, by omega⟩ ⟨by omega, by omega⟩ ⟨by omega, by omega⟩ _).mono ?_
        rintro e w6 ⟨rfl, hb⟩
        have HH : Kept1 w a n m w6 := Kept1.on ⟨hB, hZ, c0, c1, c2⟩ hb
        clear hb hB hZ c0 c1 c2
        obtain ⟨hB, hZ, c0, c1, c2⟩ := HH
        rw [G2.out.1, G2.out.2]
        go_wp2_with fail

        refine (span_any a n m X Y ⟨by omega, by omega⟩ ⟨by omega, by omega⟩ ⟨by omega, by omega⟩ ⟨by omega, by omega⟩ ⟨by omega, by omega⟩ _).mono ?_
        rintro e w7 ⟨rfl, hb⟩
        have HH : Kept1 w a n m w7 := Kept1.on ⟨hB, hZ, c0, c1, c2⟩ hb
        clear hb hB hZ c0 c1 c2
        obtain ⟨hB, hZ, c0, c1, c2⟩ := HH
        simp only [retSpan]

        rw [G3.out.1, G3.out.2]
        obtain ⟨s1, s2, s3⟩ := G5.out G3.out.1
        rw [G3.out.2] at s1 s2
        generalize spanH a n m X Y = z at s2 s3

        go_wp2_with fail
        refine (lives_any _).mono ?_
        rintro e w8 ⟨rfl, hb⟩
        have B8 := hidden (hB.trans (hb.mono (by omega)))
        clear hb
        go_wp2
        go_ret
        exact ⟨rfl, B8.out⟩
    | false =>
      cases hoy : posO a n m Y with
      | true =>
        have G4 := hidden (HP.out.2.2.2.1 hoy)
        clear hox hoy
        go_wp2_with fail

        refine (span_any a n m X Y ⟨by omega, by omega⟩ ⟨by omega, by omega⟩ ⟨by omega, by omega⟩ ⟨by omega, by omega⟩ ⟨by omega, by omega⟩ _).mono ?_
        rintro e w7 ⟨rfl, hb⟩
        have HH : Kept1 w a n m w7 := Kept1.on ⟨hB, hZ, c0, c1, c2⟩ hb
        clear hb hB hZ c0 c1 c2
        obtain ⟨hB, hZ, c0, c1, c2⟩ := HH
        simp only [retSpan]

        rw [G4.out.1, G4.out.2]
        obtain ⟨s1, s2, s3⟩ := G5.out G4.out.1
        rw [G4.out.2] at s2 s3
        generalize spanL a n m X Y = z at s1 s2

        go_wp2_with fail
        refine (lives_any _).mono ?_
        rintro e w8 ⟨rfl, hb⟩
        have B8 := hidden (hB.trans (hb.mono (by omega)))
        clear hb
        go_wp2
        go_ret
        exact ⟨rfl, B8.out⟩
      | false =>
        clear hox hoy
        go_wp2_with fail

        refine (span_any a n m X Y ⟨by omega, by omega⟩ ⟨by omega, by omega⟩ ⟨by omega, by omega⟩ ⟨by omega, by omega⟩ ⟨by omega, by omega⟩ _).mono ?_
        rintro e w7 ⟨rfl, hb⟩
        have HH : Kept1 w a n m w7 := Kept1.on ⟨hB, hZ, c0, c1, c2⟩ hb
        clear hb hB hZ c0 c1 c2
        obtain ⟨hB, hZ, c0, c1, c2⟩ := HH
        simp only [retSpan]

        cases hs : spanO a n m X Y with
        | true =>
          obtain ⟨s1, s2, s3⟩ := G5.out hs
          clear hs
          generalize spanL a n m X Y = z1 at s1 s2
          generalize spanH a n m X Y = z2 at s2 s3
          go_wp2_with fail
          refine (lives_any _).mono ?_
          rintro e w8 ⟨rfl, hb⟩
          have B8 := hidden (hB.trans (hb.mono (by omega)))
          clear hb
          go_wp2
          go_ret
          exact ⟨rfl, B8.out⟩
        | false =>
          clear hs
          generalize spanL a n m X Y = z1
          generalize spanH a n m X Y = z2
          go_wp2_with fail
          refine (lives_any _).mono ?_
          rintro e w8 ⟨rfl, hb⟩
          have B8 := hidden (hB.trans (hb.mono (by omega)))
          clear hb
          go_wp2
          go_ret
          exact ⟨rfl, B8.out⟩
  · have G5 := hidden (HPL.out (1 + p % m) (1 + q % m) (by omega) (by omega) (by omega)).2.2.2.2
    have HP := hidden (HPL.out (1 + p % m) (1 + q % m) (by omega) (by omega) (by omega))
    have hs' : p % m ≤ q % m := by omega
    clear hs
    go_wp2_with fail
    clear hs' hwm
    have b1 : 1 ≤ 1 + p % m := by omega
    have b2 : 1 + p % m ≤ m := by omega
    have b3 : 1 ≤ 1 + q % m := by omega
    have b4 : 1 + q % m ≤ m := by omega
    generalize 1 + p % m = X at *
    generalize 1 + q % m = Y at *
    clear pm1 pm2 qm1 qm2
    refine (pos_any a n m X ⟨by omega, by omega⟩ ⟨by omega, by omega⟩ ⟨by omega, by omega⟩ ⟨by omega, by omega⟩ _).mono ?_
    rintro e w2 ⟨rfl, hb⟩
    have HH : Kept1 w a n m w2 := Kept1.on HK.out hb
    clear hb HK
    obtain ⟨hB, hZ, c0, c1, c2⟩ := HH
    go_wp2_with fail
    refine (pos_any a n m Y ⟨by omega, by omega⟩ ⟨by omega, by omega⟩ ⟨by omega, by omega⟩ ⟨by omega, by omega⟩ _).mono ?_
    rintro e w3 ⟨rfl, hb⟩
    have HH : Kept1 w a n m w3 := Kept1.on ⟨hB, hZ, c0, c1, c2⟩ hb
    clear hb hB hZ c0 c1 c2
    obtain ⟨hB, hZ, c0, c1, c2⟩ := HH
    obtain ⟨xb1, xb2⟩ := posV_bd HG.out X
    cases hox : posO a n m X with
    | true =>
      have G2 := hidden (HP.out.2.1 hox)
      have G3 := hidden (HP.out.2.2.1 hox)
      cases hoy : posO a n m Y with
      | true =>
        have G4 := hidden (HP.out.2.2.2.1 hoy)
        have G1 := hidden (HP.out.1 hox hoy)
        have t1 : posV a n m X ≤ posV a n m Y := G1.out.1
        clear hox hoy
        cases t5 : (posV a n m X == posV a n m Y) with
        | true =>
          have t6 : (X != Y) = false := by simp [G1.out.2 (by simpa using t5)]
          go_wp2_with fail
          refine (back_any a n m ⟨by omega, by omega⟩ ⟨by omega, by omega⟩ ⟨by omega, by omega⟩ _).mono ?_
          rintro e w5 ⟨rfl, hb⟩
          have HH : Kept1 w a n m w5 := Kept1.on ⟨hB, hZ, c0, c1, c2⟩ hb
          clear hb hB hZ c0 c1 c2
          obtain ⟨hB, hZ, c0, c1, c2⟩ := HH
          rw [backV, if_pos HG.out]
          go_wp2_with fail
          refine (pos_any a (-n) m (posV a n m X) ⟨by omega, by omega⟩ ⟨by omega, by omega⟩ ⟨by omega, by omega⟩ ⟨by omega, by omega⟩ _).mono ?_
          rintro e w6 ⟨rfl, hb⟩
          have HH : Kept1 w a n m w6 := Kept1.on ⟨hB, hZ, c0, c1, c2⟩ hb
          clear hb hB hZ c0 c1 c2
          obtain ⟨hB, hZ, c0, c1, c2⟩ := HH
          rw [G2.out.1, G2.out.2]
          go_wp2_with fail

          refine (span_any a n m X Y ⟨by omega, by omega⟩ ⟨by omega, by omega⟩ ⟨by omega, by omega⟩ ⟨by omega, by omega⟩ ⟨by omega, by omega⟩ _).mono ?_
          rintro e w7 ⟨rfl, hb⟩
          have HH : Kept1 w a n m w7 := Kept1.on ⟨hB, hZ, c0, c1, c2⟩ hb
          clear hb hB hZ c0 c1 c2
          obtain ⟨hB, hZ, c0, c1, c2⟩ := HH
          simp only [retSpan]

          rw [G3.out.1, G3.out.2, G4.out.2]
          obtain ⟨s1, s2, s3⟩ := G5.out G3.out.1
          rw [G3.out.2] at s1 s2
          rw [G4.out.2] at s2 s3

          go_wp2_with fail
          refine (lives_any _).mono ?_
          rintro e w8 ⟨rfl, hb⟩
          have B8 := hidden (hB.trans (hb.mono (by omega)))
          clear hb
          go_wp2
          go_ret
          exact ⟨rfl, B8.out⟩
        | false =>
          go_wp2_with fail
          refine (back_any a n m ⟨by omega, by omega⟩ ⟨by omega, by omega⟩ ⟨by omega, by omega⟩ _).mono ?_
          rintro e w5 ⟨rfl, hb⟩
          have HH : Kept1 w a n m w5 := Kept1.on ⟨hB, hZ, c0, c1, c2⟩ hb
          clear hb hB hZ c0 c1 c2
          obtain ⟨hB, hZ, c0, c1, c2⟩ := HH
          rw [backV, if_pos HG.out]
          go_wp2_with fail
          refine (pos_any a (-n) m (posV a n m X) ⟨by omega, by omega⟩ ⟨by omega, by omega⟩ ⟨by omega, by omega⟩ ⟨by omega, by omega⟩ _).mono ?_
          rintro e w6 ⟨rfl, hb⟩
          have HH : Kept1 w a n m w6 := Kept1.on ⟨hB, hZ, c0, c1, c2⟩ hb
          clear hb hB hZ c0 c1 c2
          obtain ⟨hB, hZ, c0, c1, c2⟩ := HH
          rw [G2.out.1, G2.out.2]
          go_wp2_with fail

          refine (span_any a n m X Y ⟨by omega, by omega⟩ ⟨by omega, by omega⟩ ⟨by omega, by omega⟩ ⟨by omega, by omega⟩ ⟨by omega, by omega⟩ _).mono ?_
          rintro e w7 ⟨rfl, hb⟩
          have HH : Kept1 w a n m w7 := Kept1.on ⟨hB, hZ, c0, c1, c2⟩ hb
          clear hb hB hZ c0 c1 c2
          obtain ⟨hB, hZ, c0, c1, c2⟩ := HH
          simp only [retSpan]

          rw [G3.out.1, G3.out.2, G4.out.2]
          obtain ⟨s1, s2, s3⟩ := G5.out G3.out.1
          rw [G3.out.2] at s1 s2
          rw [G4.out.2] at s2 s3

          go_wp2_with fail
          refine (lives_any _).mono ?_
          rintro e w8 ⟨rfl, hb⟩
          have B8 := hidden (hB.trans (hb.mono (by omega)))
          clear hb
          go_wp2
          go_ret
          exact ⟨rfl, B8.out⟩
      | false =>
        clear hox hoy
        go_wp2_with fail
        refine (back_any a n m ⟨by omega, by omega⟩ ⟨by omega, by omega⟩ ⟨by omega, by omega⟩ _).mono ?_
        rintro e w5 ⟨rfl, hb⟩
        have HH : Kept1 w a n m w5 := Kept1.on ⟨hB, hZ, c0, c1, c2⟩ hb
        clear hb hB hZ c0 c1 c2
        obtain ⟨hB, hZ, c0, c1, c2⟩ := HH
        rw [backV, if_pos HG.out]
        go_wp2_with fail
        refine (pos_any a (-n) m (posV a n m X) ⟨by omega, by omega⟩ ⟨by omega, by omega⟩ ⟨by omega, by omega⟩ ⟨by omega, by omega⟩ _).mono ?_
        rintro e w6 ⟨rfl, hb⟩
        have HH : Kept1 w a n m w6 := Kept1.on ⟨hB, hZ, c0, c1, c2⟩ hb
        clear hb hB hZ c0 c1 c2
        obtain ⟨hB, hZ, c0, c1, c2⟩ := HH
        rw [G2.out.1, G2.out.2]
        go_wp2_with fail

        refine (span_any a n m X Y ⟨by omega, by omega⟩ ⟨by omega, by omega⟩ ⟨by omega, by omega⟩ ⟨by omega, by omega⟩ ⟨by omega, by omega⟩ _).mono ?_
        rintro e w7 ⟨rfl, hb⟩
        have HH : Kept1 w a n m w7 := Kept1.on ⟨hB, hZ, c0, c1, c2⟩ hb
        clear hb hB hZ c0 c1 c2
        obtain ⟨hB, hZ, c0, c1, c2⟩ := HH
        simp only [retSpan]

        rw [G3.out.1, G3.out.2]
        obtain ⟨s1, s2, s3⟩ := G5.out G3.out.1
        rw [G3.out.2] at s1 s2
        generalize spanH a n m X Y = z at s2 s3

        go_wp2_with fail
        refine (lives_any _).mono ?_
        rintro e w8 ⟨rfl, hb⟩
        have B8 := hidden (hB.trans (hb.mono (by omega)))
        clear hb
        go_wp2
        go_ret
        exact ⟨rfl, B8.out⟩
    | false =>
      cases hoy : posO a n m Y with
      | true =>
        have G4 := hidden (HP.out.2.2.2.1 hoy)
        clear hox hoy
        go_wp2_with fail

        refine (span_any a n m X Y ⟨by omega, by omega⟩ ⟨by omega, by omega⟩ ⟨by omega, by omega⟩ ⟨by omega, by omega⟩ ⟨by omega, by omega⟩ _).mono ?_
        rintro e w7 ⟨rfl, hb⟩
        have HH : Kept1 w a n m w7 := Kept1.on ⟨hB, hZ, c0, c1, c2⟩ hb
        clear hb hB hZ c0 c1 c2
        obtain ⟨hB, hZ, c0, c1, c2⟩ := HH
        simp only [retSpan]

        rw [G4.out.1, G4.out.2]
        obtain ⟨s1, s2, s3⟩ := G5.out G4.out.1
        rw [G4.out.2] at s2 s3
        generalize spanL a n m X Y = z at s1 s2

        go_wp2_with fail
        refine (lives_any _).mono ?_
        rintro e w8 ⟨rfl, hb⟩
        have B8 := hidden (hB.trans (hb.mono (by omega)))
        clear hb
        go_wp2
        go_ret
        exact ⟨rfl, B8.out⟩
      | false =>
        clear hox hoy
        go_wp2_with fail

        refine (span_any a n m X Y ⟨by omega, by omega⟩ ⟨by omega, by omega⟩ ⟨by omega, by omega⟩ ⟨by omega, by omega⟩ ⟨by omega, by omega⟩ _).mono ?_
        rintro e w7 ⟨rfl, hb⟩
        have HH : Kept1 w a n m w7 := Kept1.on ⟨hB, hZ, c0, c1, c2⟩ hb
        clear hb hB hZ c0 c1 c2
        obtain ⟨hB, hZ, c0, c1, c2⟩ := HH
        simp only [retSpan]

        cases hs : spanO a n m X Y with
        | true =>
          obtain ⟨s1, s2, s3⟩ := G5.out hs
          clear hs
          generalize spanL a n m X Y = z1 at s1 s2
          generalize spanH a n m X Y = z2 at s2 s3
          go_wp2_with fail
          refine (lives_any _).mono ?_
          rintro e w8 ⟨rfl, hb⟩
          have B8 := hidden (hB.trans (hb.mono (by omega)))
          clear hb
          go_wp2
          go_ret
          exact ⟨rfl, B8.out⟩
        | false =>
          clear hs
          generalize spanL a n m X Y = z1
          generalize spanH a n m X Y = z2
          go_wp2_with fail
          refine (lives_any _).mono ?_
          rintro e w8 ⟨rfl, hb⟩
          have B8 := hidden (hB.trans (hb.mono (by omega)))
          clear hb
          go_wp2
          go_ret
          exact ⟨rfl, B8.out⟩
end Go.Proofs.Ytbaejlmpoflogaa
