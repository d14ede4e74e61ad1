/- The contract of the reference's Span over the seat's translation. No condition beyond what an int holds. -/
import Derived.Test.YtbaejlmpoflogaaS5
import Derived.WalkLawsBesides
namespace Go.Proofs.Ytbaejlmpoflogaa
open Go.RowKit
set_option linter.unusedVariables false
set_option linter.unusedSimpArgs false

set_option maxHeartbeats 4000000 in
theorem rspan_bad (a n m lo hi : Int) (hg : goodB a n m = false) (ha : I64 a) (hn : I64 n) (hm : I64 m) (w : World) :
    Calls Try.prog 12 #[S3 a n m, .int .i64 lo, .int .i64 hi] w fun e w' => e = retSpan a n m lo hi ∧ Below w.heap.size w w' := by
  rw [← span_out (not_spanG hg)]
  go_enter Try.func12, Try.ntmps12
  go_wp2_with fail
  refine (good_ref_w a n m ha hn hm _).mono ?_
  rintro e w1 ⟨rfl, rfl⟩
  rw [hg]
  clear ha hn hm hg
  go_wp2
  go_ret3
  exact ⟨rfl, ((Below.refl _ _).alloc (Nat.le_refl _) _).alloc (by simp) _⟩

set_option maxHeartbeats 4000000 in
/-- A good shift, but no good lines. -/
theorem rspan_none (a n m lo hi : Int) (hg : goodB a n m = true) (ha : I64 a) (hn : I64 n) (hm : I64 m) (hl : I64 lo) (hh : I64 hi) (hno : ¬ (1 ≤ lo ∧ lo ≤ hi ∧ hi ≤ m)) (w : World) :
    Calls Try.prog 12 #[S3 a n m, .int .i64 lo, .int .i64 hi] w fun e w' => e = retSpan a n m lo hi ∧ Below w.heap.size w w' := by
  rw [← span_out (fun k => hno ⟨k.2.1, k.2.2.1, k.2.2.2.1⟩)]
  go_enter Try.func12, Try.ntmps12
  go_wp2_with fail
  refine (good_ref_w a n m ha hn hm _).mono ?_
  rintro e w1 ⟨rfl, rfl⟩
  rw [hg]
  have HN : lo < 1 ∨ hi < lo ∨ m < hi := by omega
  clear ha hn hm hg hno
  by_cases h1 : lo < 1
  · have d1 : decide (lo < 1) = true := by simpa using h1
    go_wp2
    go_ret3
    exact ⟨rfl, ((Below.refl _ _).alloc (Nat.le_refl _) _).alloc (by simp) _⟩
  · have d1 : decide (lo < 1) = false := by simpa using h1
    by_cases h2 : hi < lo
    · have d2 : decide (hi < lo) = true := by simpa using h2
      go_wp2
      go_ret3
      exact ⟨rfl, ((Below.refl _ _).alloc (Nat.le_refl _) _).alloc (by simp) _⟩
    · have d2 : decide (hi < lo) = false := by simpa using h2
      have h3 : m < hi := by omega
      go_wp2
      go_ret3
      exact ⟨rfl, ((Below.refl _ _).alloc (Nat.le_refl _) _).alloc (by simp) _⟩

set_option maxHeartbeats 4000000 in
theorem rspan_ins (a n m lo hi : Int) (hg : goodB a n m = true) (h0 : 0 < n) (hlo : 1 ≤ lo) (hlh : lo ≤ hi) (hhi : hi ≤ m) (w : World) :
    Calls Try.prog 12 #[S3 a n m, .int .i64 lo, .int .i64 hi] w fun e w' => e = retSpan a n m lo hi ∧ Below w.heap.size w w' := by
  obtain ⟨g1, g2, g3, g4, g5⟩ := good_facts hg
  have gn : n ≤ m - a + 1 := by omega
  clear g5
  go_enter Try.func12, Try.ntmps12
  go_wp2_with fail
  refine (good_ref_w a n m ⟨by omega, by omega⟩ ⟨by omega, by omega⟩ ⟨by omega, by omega⟩ _).mono ?_
  rintro e w1 ⟨rfl, rfl⟩
  rw [hg]
  have HG := hidden hg
  clear hg
  go_wp2
  all_goals go_ret3
  all_goals (refine ⟨?_, ((Below.refl _ _).alloc (Nat.le_refl _) _).alloc (by simp) _⟩)
  all_goals
    simp only [Bool.or_eq_false_iff, Bool.not_true, decide_eq_false_iff_not, Bool.and_eq_true, decide_eq_true_eq] at *
    first
    | exact span_out (by rintro ⟨_, q1, q2, q3, q4⟩; omega)
    | (have hs : spanP a n m lo hi := ⟨HG.out, by omega, by omega, by omega, by omega⟩
       refine span_in hs ?_ ?_
       · rw [spanL, if_pos hs]; (repeat' split) <;> omega
       · rw [spanH, if_pos hs]; (repeat' split) <;> omega)

/-- Where the first loop of the reference's Span ends. -/
def upTo (a n lo hi : Int) : Int := if a ≤ lo ∧ lo < a - n then (if a - n ≤ hi + 1 then a - n else hi + 1) else lo
/-- Where the second ends, from the first's end on. -/
def downTo (a n c hi : Int) : Int := if c ≤ hi then (if a ≤ hi ∧ hi < a - n then (if c ≤ a - 1 then a - 1 else c - 1) else hi) else hi

theorem posO_of {a n m p : Int} (hg : goodB a n m = true) (h0 : n < 0) (h1 : 1 ≤ p) (h2 : p ≤ m) : (posO a n m p = true ↔ (p < a ∨ a - n ≤ p)) := by
  obtain ⟨g1, g2, g3, g4, g5⟩ := good_facts hg
  show decide (posP a n m p) = true ↔ _
  rw [decide_eq_true_eq]
  constructor
  · rintro ⟨_, _, _, h⟩; omega
  · intro h; exact ⟨hg, h1, h2, by omega⟩

/-- The shift's three cells in a world. -/
def Cells3 (B : Nat) (a n m : Int) (w : World) : Prop :=
  w.cell? ⟨B, 0, none⟩ = some (.int .i64 a) ∧ w.cell? ⟨B, 1, none⟩ = some (.int .i64 n) ∧ w.cell? ⟨B, 2, none⟩ = some (.int .i64 m)
theorem Cells3.on {B C : Nat} {a n m : Int} {w w' : World} (h : Cells3 B a n m w) (hb : Below C w w') (hB : B < C) : Cells3 B a n m w' :=
  ⟨by rw [hb.cell (by exact hB)]; exact h.1, by rw [hb.cell (by exact hB)]; exact h.2.1, by rw [hb.cell (by exact hB)]; exact h.2.2⟩

/-- What stands behind both loops. -/
theorem span_end {a n m lo hi c d : Int} (hg : goodB a n m = true) (h0 : n < 0) (hlo : 1 ≤ lo) (hlh : lo ≤ hi) (hhi : hi ≤ m)
    (hc : c = upTo a n lo hi) (hd : d = downTo a n c hi) :
    (d < c → retIIB 0 0 false = retSpan a n m lo hi) ∧ (c ≤ d → retIIB (posV a n m c) (posV a n m d) true = retSpan a n m lo hi) := by
  obtain ⟨g1, g2, g3, g4, g5⟩ := good_facts hg
  unfold downTo at hd
  unfold upTo at hc
  constructor
  · intro h
    refine span_out ?_
    rintro ⟨_, q1, q2, q3, q4⟩
    split at hc <;> split at hd <;> (try split at hc) <;> (try split at hd) <;> (try split at hd) <;> omega
  · intro h
    have hin : ¬ (a ≤ lo ∧ hi ≤ a - n - 1) := by
      split at hc <;> split at hd <;> (try split at hc) <;> (try split at hd) <;> (try split at hd) <;> omega
    have hs : spanP a n m lo hi := ⟨hg, by omega, by omega, by omega, by omega⟩
    have hcp : posP a n m c := ⟨hg, by split at hc <;> (try split at hc) <;> omega, by split at hc <;> (try split at hc) <;> omega, by split at hc <;> (try split at hc) <;> omega⟩
    have hdp : posP a n m d := by
      refine ⟨hg, ?_, ?_, ?_⟩ <;> (split at hd <;> (try split at hd) <;> (try split at hd) <;> (split at hc <;> (try split at hc) <;> omega))
    refine span_in hs ?_ ?_
    · rw [spanL, if_pos hs, if_neg (by omega), foldV, posV, if_pos hcp]
      split at hc <;> (try split at hc) <;> (repeat' split) <;> omega
    · rw [spanH, if_pos hs, if_neg (by omega), foldV, posV, if_pos hdp]
      split at hd <;> (try split at hd) <;> (try split at hd) <;> (split at hc <;> (try split at hc) <;> (repeat' split) <;> omega)

set_option maxHeartbeats 8000000 in
theorem rspan_del (a n m lo hi : Int) (hg : goodB a n m = true) (h0 : n < 0) (hlo : 1 ≤ lo) (hlh : lo ≤ hi) (hhi : hi ≤ m) (w : World) :
    Calls Try.prog 12 #[S3 a n m, .int .i64 lo, .int .i64 hi] w fun e w' => e = retSpan a n m lo hi ∧ Below w.heap.size w w' := by
  obtain ⟨g1, g2, g3, g4, g5⟩ := good_facts hg
  have gn : -1000 ≤ n ∧ a - m - 1 ≤ n := by omega
  clear g5
  have HG := hidden hg
  have HP := hidden (fun p h1 h2 => posO_of (p := p) hg h0 h1 h2)
  go_enter Try.func12, Try.ntmps12
  go_wp2_with fail
  refine (good_ref_w a n m ⟨by omega, by omega⟩ ⟨by omega, by omega⟩ ⟨by omega, by omega⟩ _).mono ?_
  rintro e w1 ⟨rfl, rfl⟩
  rw [hg]
  clear hg
  go_wp2_with fail
  go_loopw [1] (fun s wr => ∃ c : Int, s = .int .i64 c ∧ lo ≤ c ∧ c ≤ upTo a n lo hi ∧ Below w.heap.size w wr ∧ w.heap.size < wr.heap.size ∧ Cells3 w.heap.size a n m wr) (fun s _ => (hi + 2 - intOf s).toNat)
  case atStart =>
    refine ⟨lo, rfl, Int.le_refl _, ?_, ((Below.refl _ _).alloc (Nat.le_refl _) _).alloc (by simp) _, by simp; omega, ⟨by go_simp, by go_simp, by go_simp⟩⟩
    unfold upTo; split <;> (try split) <;> omega
  case round =>
    obtain ⟨c, rfl, hc1, hc2, hbr, hzr, hcs⟩ := hrel
    obtain ⟨k0, k1, k2⟩ := hcs
    have HU : Hid (c ≤ upTo a n lo hi) := hc2
    clear hc2
    have hcu : c ≤ hi + 1 := by have := HU.out; unfold upTo at this; split at this <;> (try split at this) <;> omega
    go_wp2_with fail
    · refine (pos_ref a n m c ⟨by omega, by omega⟩ ⟨by omega, by omega⟩ ⟨by omega, by omega⟩ ⟨by omega, by omega⟩ _).mono ?_
      rintro e w2 ⟨rfl, hb2⟩
      have hcs2 : Cells3 w.heap.size a n m w2 := Cells3.on ⟨k0, k1, k2⟩ hb2 hzr
      have hbr2 := hbr.trans (hb2.mono (Nat.le_of_lt hzr))
      have hzr2 : w.heap.size < w2.heap.size := Nat.lt_of_lt_of_le hzr hb2.size
      clear k0 k1 k2
      obtain ⟨k0, k1, k2⟩ := hcs2
      by_cases hp : posO a n m c = true
      · have HC : Hid (c = upTo a n lo hi) := by
          have h1 := HU.out
          have h2 := (HP.out c (by omega) (by omega)).1 hp
          show c = upTo a n lo hi
          unfold upTo at h1 ⊢
          split at h1 <;> (try split at h1) <;> (repeat' split) <;> omega
        rw [hp]
        clear hp hb2 hzr hbr HU
        have HBR := hidden hbr2
        have HZR := hidden hzr2
        have HCS := hidden (p := Cells3 w.heap.size a n m w2) ⟨k0, k1, k2⟩
        clear hbr2 hzr2
        go_wp2_with fail
        go_loopw [2] (fun s wr => ∃ d : Int, s = .int .i64 d ∧ d ≤ hi ∧ downTo a n c hi ≤ d ∧ Below w.heap.size w wr ∧ w.heap.size < wr.heap.size ∧ Cells3 w.heap.size a n m wr) (fun s _ => (intOf s + 2).toNat)
        case atStart =>
          refine ⟨hi, rfl, Int.le_refl _, ?_, HBR.out, HZR.out, HCS.out⟩
          have := HC.out
          unfold downTo; unfold upTo at this
          split <;> (try split) <;> (try split) <;> omega
        case round =>
          clear HBR HZR HCS k0 k1 k2
          obtain ⟨d, rfl, hd1, hd2, hbr, hzr, hcs⟩ := hrel
          obtain ⟨k0, k1, k2⟩ := hcs
          have HU : Hid (downTo a n c hi ≤ d) := hd2
          clear hd2
          have hdu : c - 1 ≤ d ∧ 0 ≤ d := by
            have h1 := HU.out
            have h2 := HC.out
            unfold downTo at h1; unfold upTo at h2
            split at h1 <;> (try split at h1) <;> (try split at h1) <;> omega
          go_wp2_with fail
          · refine (pos_ref a n m d ⟨by omega, by omega⟩ ⟨by omega, by omega⟩ ⟨by omega, by omega⟩ ⟨by omega, by omega⟩ _).mono ?_
            rintro e w3 ⟨rfl, hb3⟩
            have hcs3 : Cells3 w.heap.size a n m w3 := Cells3.on ⟨k0, k1, k2⟩ hb3 hzr
            have hbr3 := hbr.trans (hb3.mono (Nat.le_of_lt hzr))
            have hzr3 : w.heap.size < w3.heap.size := Nat.lt_of_lt_of_le hzr hb3.size
            clear k0 k1 k2
            obtain ⟨k0, k1, k2⟩ := hcs3
            by_cases hp : posO a n m d = true
            · have HD : Hid (d = downTo a n c hi) := by
                have h1 := HU.out
                have h2 := (HP.out d (by omega) (by omega)).1 hp
                show d = downTo a n c hi
                unfold downTo at h1 ⊢
                split at h1 <;> (try split at h1) <;> (try split at h1) <;> (repeat' split) <;> omega
              rw [hp]
              clear hp hb3 hzr hbr HU
              have HE := hidden (span_end HG.out h0 hlo hlh hhi HC.out HD.out)
              go_wp2_with fail
              refine (pos_ref a n m c ⟨by omega, by omega⟩ ⟨by omega, by omega⟩ ⟨by omega, by omega⟩ ⟨by omega, by omega⟩ _).mono ?_
              rintro e w4 ⟨rfl, hb4⟩
              obtain ⟨k0, k1, k2⟩ := Cells3.on ⟨k0, k1, k2⟩ hb4 hzr3
              have hbr4 := hbr3.trans (hb4.mono (Nat.le_of_lt hzr3))
              have hzr4 : w.heap.size < w4.heap.size := Nat.lt_of_lt_of_le hzr3 hb4.size
              go_wp2_with fail
              refine (pos_ref a n m d ⟨by omega, by omega⟩ ⟨by omega, by omega⟩ ⟨by omega, by omega⟩ ⟨by omega, by omega⟩ _).mono ?_
              rintro e w5 ⟨rfl, hb5⟩
              have hbr5 := hbr4.trans (hb5.mono (Nat.le_of_lt hzr4))
              go_wp2
              go_ret3
              exact ⟨HE.out.2 (by assumption), hbr5⟩
            · have hp' : posO a n m d = false := by simpa using hp
              rw [hp']
              have HN : Hid (downTo a n c hi ≤ d - 1) := by
                have h1 := HU.out
                have h2 : ¬ (d < a ∨ a - n ≤ d) := fun h => hp ((HP.out d (by omega) (by omega)).2 h)
                show downTo a n c hi ≤ d - 1
                unfold downTo at h1 ⊢
                split at h1 <;> (try split at h1) <;> (try split at h1) <;> (repeat' split) <;> omega
              clear hp hp' HU
              go_wp2
              go_roundw
              case rel => exact ⟨d - 1, rfl, by omega, HN.out, hbr3, hzr3, k0, k1, k2⟩
              case measure => simp [intOf]; omega
          · have HD : Hid (d = downTo a n c hi) := by
              have h1 := HU.out
              have h2 : d < c := by assumption
              show d = downTo a n c hi
              unfold downTo at h1 ⊢
              split at h1 <;> (try split at h1) <;> (try split at h1) <;> (repeat' split) <;> omega
            have HE := hidden (span_end HG.out h0 hlo hlh hhi HC.out HD.out)
            go_wp2
            go_ret3
            exact ⟨HE.out.1 (by assumption), hbr⟩

      · have hp' : posO a n m c = false := by simpa using hp
        rw [hp']
        have HN : Hid (c + 1 ≤ upTo a n lo hi) := by
          have h1 := HU.out
          have h2 : ¬ (c < a ∨ a - n ≤ c) := fun h => hp ((HP.out c (by omega) (by omega)).2 h)
          show c + 1 ≤ upTo a n lo hi
          unfold upTo at h1 ⊢
          split at h1 <;> (try split at h1) <;> (repeat' split) <;> omega
        clear hp hp' HU
        go_wp2
        go_roundw
        case rel => exact ⟨c + 1, rfl, by omega, HN.out, hbr2, hzr2, k0, k1, k2⟩
        case measure => simp [intOf]; omega
    · have HC : Hid (c = upTo a n lo hi) := by
        have h1 := HU.out
        show c = upTo a n lo hi
        unfold upTo at h1 ⊢
        split at h1 <;> (try split at h1) <;> (repeat' split) <;> omega
      have HBR := hidden hbr
      have HZR := hidden hzr
      have HCS := hidden (p := Cells3 w.heap.size a n m wr) ⟨k0, k1, k2⟩
      clear HU
      go_wp2_with fail
      go_loopw [2] (fun s wr => ∃ d : Int, s = .int .i64 d ∧ d ≤ hi ∧ downTo a n c hi ≤ d ∧ Below w.heap.size w wr ∧ w.heap.size < wr.heap.size ∧ Cells3 w.heap.size a n m wr) (fun s _ => (intOf s + 2).toNat)
      case atStart =>
        refine ⟨hi, rfl, Int.le_refl _, ?_, HBR.out, HZR.out, HCS.out⟩
        have := HC.out
        unfold downTo; unfold upTo at this
        split <;> (try split) <;> (try split) <;> omega
      case round =>
        clear HBR HZR HCS k0 k1 k2
        obtain ⟨d, rfl, hd1, hd2, hbr, hzr, hcs⟩ := hrel
        obtain ⟨k0, k1, k2⟩ := hcs
        have HU : Hid (downTo a n c hi ≤ d) := hd2
        clear hd2
        have hdu : c - 1 ≤ d ∧ 0 ≤ d := by
          have h1 := HU.out
          have h2 := HC.out
          unfold downTo at h1; unfold upTo at h2
          split at h1 <;> (try split at h1) <;> (try split at h1) <;> omega
        go_wp2_with fail
        have HD : Hid (d = downTo a n c hi) := by
          have h1 := HU.out
          have h2 : d < c := by assumption
          show d = downTo a n c hi
          unfold downTo at h1 ⊢
          split at h1 <;> (try split at h1) <;> (try split at h1) <;> (repeat' split) <;> omega
        have HE := hidden (span_end HG.out h0 hlo hlh hhi HC.out HD.out)
        go_wp2
        go_ret3
        exact ⟨HE.out.1 (by assumption), hbr⟩


theorem span_ref (a n m lo hi : Int) (ha : I64 a) (hn : I64 n) (hm : I64 m) (hl : I64 lo) (hh : I64 hi) (w : World) :
    Calls Try.prog 12 #[S3 a n m, .int .i64 lo, .int .i64 hi] w fun e w' => e = retSpan a n m lo hi ∧ Below w.heap.size w w' := by
  cases hg : goodB a n m with
  | false => exact rspan_bad a n m lo hi hg ha hn hm w
  | true =>
    by_cases hno : 1 ≤ lo ∧ lo ≤ hi ∧ hi ≤ m
    · obtain ⟨h1, h2, h3⟩ := hno
      obtain ⟨g1, g2, g3, g4, g5⟩ := good_facts hg
      by_cases h0 : 0 < n
      · exact rspan_ins a n m lo hi hg h0 h1 h2 h3 w
      · exact rspan_del a n m lo hi hg (by omega) h1 h2 h3 w
    · exact rspan_none a n m lo hi hg ha hn hm hl hh hno w
end Go.Proofs.Ytbaejlmpoflogaa
