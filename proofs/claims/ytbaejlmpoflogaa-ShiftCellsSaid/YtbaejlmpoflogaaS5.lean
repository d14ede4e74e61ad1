/- The contract of Span over the seat's translation. No condition beyond what an int holds. -/
import Derived.Test.YtbaejlmpoflogaaS4
import Derived.WalkLawsBesides
namespace Go.Proofs.Ytbaejlmpoflogaa
open Go.RowKit
set_option linter.unusedVariables false
set_option linter.unusedSimpArgs false

def spanP (a n m lo hi : Int) : Prop := goodB a n m = true ∧ 1 ≤ lo ∧ lo ≤ hi ∧ hi ≤ m ∧ ((0 < n ∧ (lo < a ∨ lo + n ≤ m)) ∨ (n < 0 ∧ ¬ (a ≤ lo ∧ hi ≤ a - n - 1)))
instance (a n m lo hi : Int) : Decidable (spanP a n m lo hi) := by unfold spanP; infer_instance
def spanO (a n m lo hi : Int) : Bool := decide (spanP a n m lo hi)
def spanL (a n m lo hi : Int) : Int := if spanP a n m lo hi then (if 0 < n then (if a ≤ lo then lo + n else lo) else foldV a n (a - n - 1) lo a) else 0
def spanH (a n m lo hi : Int) : Int := if spanP a n m lo hi then (if 0 < n then (if a ≤ hi then (if hi + n ≤ m then hi + n else m) else hi) else foldV a n (a - n - 1) hi (a - 1)) else 0
abbrev retIIB (x y : Int) (b : Bool) : Ending := .returned (.tuple #[.int .i64 x, .int .i64 y, .bool b])
def retSpan (a n m lo hi : Int) : Ending := retIIB (spanL a n m lo hi) (spanH a n m lo hi) (spanO a n m lo hi)
theorem span_out {a n m lo hi : Int} (h : ¬ spanP a n m lo hi) : retIIB 0 0 false = retSpan a n m lo hi := by
  simp [retSpan, spanL, spanH, spanO, h]
theorem span_in {a n m lo hi x y : Int} (h : spanP a n m lo hi) (hx : x = spanL a n m lo hi) (hy : y = spanH a n m lo hi) : retIIB x y true = retSpan a n m lo hi := by
  subst hx hy; simp [retSpan, spanO, h]

theorem not_spanG {a n m lo hi : Int} (h : goodB a n m = false) : ¬ spanP a n m lo hi := fun k => by rw [k.1] at h; cases h

set_option maxHeartbeats 4000000 in
theorem span_bad (a n m lo hi : Int) (hg : goodB a n m = false) (ha : I64 a) (hn : I64 n) (hm : I64 m) (w : World) :
    Calls Try.prog 11 #[S3 a n m, .int .i64 lo, .int .i64 hi] w fun e w' => e = retSpan a n m lo hi ∧ Below w.heap.size w w' := by
  rw [← span_out (not_spanG hg)]
  go_enter Try.func11, Try.ntmps11
  go_wp2_with fail
  refine (good_any_w a n m ha hn hm _).mono ?_
  rintro e w1 ⟨rfl, rfl⟩
  rw [hg]
  clear ha hn hm hg
  go_wp2
  go_ret3
  exact ⟨rfl, ((Below.refl _ _).alloc (Nat.le_refl _) _).alloc (by simp) _⟩

set_option maxHeartbeats 4000000 in
/-- A good shift, but no good lines. -/
theorem span_none (a n m lo hi : Int) (hg : goodB a n m = true) (ha : I64 a) (hn : I64 n) (hm : I64 m) (hl : I64 lo) (hh : I64 hi) (hno : ¬ (1 ≤ lo ∧ lo ≤ hi ∧ hi ≤ m)) (w : World) :
    Calls Try.prog 11 #[S3 a n m, .int .i64 lo, .int .i64 hi] w fun e w' => e = retSpan a n m lo hi ∧ Below w.heap.size w w' := by
  rw [← span_out (fun k => hno ⟨k.2.1, k.2.2.1, k.2.2.2.1⟩)]
  go_enter Try.func11, Try.ntmps11
  go_wp2_with fail
  refine (good_any_w a n m ha hn hm _).mono ?_
  rintro e w1 ⟨rfl, rfl⟩
  rw [hg]
  have HN : lo < 1 ∨ hi < lo ∨ m < hi := by omega
  clear ha hn hm hg hno
  by_cases h1 : lo < 1
  · have d1 : decide (lo < 1) = true := by simpa using h1
    go_wp2
    go_ret3
    exact ⟨rfl, ((Below.refl _ _).alloc (Nat.le_refl _) _).alloc (by simp) _⟩
  · have d1 : decide (lo < 1) = false := by simpa using h1
    by_cases h2 : hi < lo
    · have d2 : decide (hi < lo) = true := by simpa using h2
      go_wp2
      go_ret3
      exact ⟨rfl, ((Below.refl _ _).alloc (Nat.le_refl _) _).alloc (by simp) _⟩
    · have d2 : decide (hi < lo) = false := by simpa using h2
      have h3 : m < hi := by omega
      go_wp2
      go_ret3
      exact ⟨rfl, ((Below.refl _ _).alloc (Nat.le_refl _) _).alloc (by simp) _⟩

set_option maxHeartbeats 4000000 in
theorem span_ins (a n m lo hi : Int) (hg : goodB a n m = true) (h0 : 0 < n) (hlo : 1 ≤ lo) (hlh : lo ≤ hi) (hhi : hi ≤ m) (w : World) :
    Calls Try.prog 11 #[S3 a n m, .int .i64 lo, .int .i64 hi] w fun e w' => e = retSpan a n m lo hi ∧ Below w.heap.size w w' := by
  obtain ⟨g1, g2, g3, g4, g5⟩ := good_facts hg
  have gn : n ≤ m - a + 1 := by omega
  clear g5
  go_enter Try.func11, Try.ntmps11
  go_wp2_with fail
  refine (good_any_w a n m ⟨by omega, by omega⟩ ⟨by omega, by omega⟩ ⟨by omega, by omega⟩ _).mono ?_
  rintro e w1 ⟨rfl, rfl⟩
  rw [hg]
  have HG := hidden hg
  clear hg
  go_wp2
  all_goals go_ret3
  all_goals (refine ⟨?_, ((Below.refl _ _).alloc (Nat.le_refl _) _).alloc (by simp) _⟩)
  all_goals
    simp only [Bool.or_eq_false_iff, Bool.not_true, decide_eq_false_iff_not, Bool.and_eq_true, decide_eq_true_eq] at *
    first
    | exact span_out (by rintro ⟨_, q1, q2, q3, q4⟩; omega)
    | (have hs : spanP a n m lo hi := ⟨HG.out, by omega, by omega, by omega, by omega⟩
       refine span_in hs ?_ ?_
       · rw [spanL, if_pos hs]; (repeat' split) <;> omega
       · rw [spanH, if_pos hs]; (repeat' split) <;> omega)

set_option maxHeartbeats 4000000 in
theorem span_del (a n m lo hi : Int) (hg : goodB a n m = true) (h0 : n < 0) (hlo : 1 ≤ lo) (hlh : lo ≤ hi) (hhi : hi ≤ m) (w : World) :
    Calls Try.prog 11 #[S3 a n m, .int .i64 lo, .int .i64 hi] w fun e w' => e = retSpan a n m lo hi ∧ Below w.heap.size w w' := by
  obtain ⟨g1, g2, g3, g4, g5⟩ := good_facts hg
  have gn : -1000 ≤ n ∧ a - m - 1 ≤ n := by omega
  have hmf := hmf0
  clear g5
  have HG := hidden hg
  by_cases hin : a ≤ lo ∧ hi ≤ a - n - 1
  · rw [← span_out (fun k => by have := k.2.2.2.2; omega)]
    go_enter Try.func11, Try.ntmps11
    go_wp2_with fail
    refine (good_any_w a n m ⟨by omega, by omega⟩ ⟨by omega, by omega⟩ ⟨by omega, by omega⟩ _).mono ?_
    rintro e w1 ⟨rfl, rfl⟩
    rw [hg]
    clear hg
    obtain ⟨hin1, hin2⟩ := hin
    go_wp2
    go_ret3
    exact ⟨rfl, (((Below.refl _ _).alloc (Nat.le_refl _) _).alloc (by simp) _).alloc (by simp; omega) _⟩
  · have hs : spanP a n m lo hi := ⟨hg, by omega, by omega, by omega, by omega⟩
    have HIN : Hid (¬ (a ≤ lo ∧ hi ≤ a - n - 1)) := hin
    have hd : lo < a ∨ (a ≤ lo ∧ a - n - 1 < hi) := by omega
    clear hin
    rcases hd with hd | ⟨hd1, hd2⟩
    all_goals
      go_enter Try.func11, Try.ntmps11
      go_wp2_with fail
      refine (good_any_w a n m ⟨by omega, by omega⟩ ⟨by omega, by omega⟩ ⟨by omega, by omega⟩ _).mono ?_
      rintro e w1 ⟨rfl, rfl⟩
      rw [HG.out]
      go_wp2_with fail
      have hwr : IntKind.i64.wrap (a - 1) = a - 1 := by rw [IntKind.wrap_i64]; omega
      go_quiet ((go_at_call 21; exact Calls.quiet_of_same (fold_any a n m (a - n - 1) _ _ _ _ _ (by omega) (by omega) (by go_simp) (by go_simp) (by go_simp))))
      clear hwr
      go_wp2
      go_ret3
      refine ⟨span_in hs ?_ ?_, below_dn ((((Below.refl _ _).alloc (Nat.le_refl _) _).alloc (by simp) _).alloc (by simp; omega) _) _⟩
      · rw [spanL, if_pos hs, if_neg (by omega)]
      · rw [spanH, if_pos hs, if_neg (by omega)]

theorem span_any (a n m lo hi : Int) (ha : I64 a) (hn : I64 n) (hm : I64 m) (hl : I64 lo) (hh : I64 hi) (w : World) :
    Calls Try.prog 11 #[S3 a n m, .int .i64 lo, .int .i64 hi] w fun e w' => e = retSpan a n m lo hi ∧ Below w.heap.size w w' := by
  cases hg : goodB a n m with
  | false => exact span_bad a n m lo hi hg ha hn hm w
  | true =>
    by_cases hno : 1 ≤ lo ∧ lo ≤ hi ∧ hi ≤ m
    · obtain ⟨h1, h2, h3⟩ := hno
      obtain ⟨g1, g2, g3, g4, g5⟩ := good_facts hg
      by_cases h0 : 0 < n
      · exact span_ins a n m lo hi hg h0 h1 h2 h3 w
      · exact span_del a n m lo hi hg (by omega) h1 h2 h3 w
    · exact span_none a n m lo hi hg ha hn hm hl hh hno w
end Go.Proofs.Ytbaejlmpoflogaa
