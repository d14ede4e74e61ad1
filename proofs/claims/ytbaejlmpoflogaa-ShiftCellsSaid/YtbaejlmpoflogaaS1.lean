/- The contracts of package shift's small functions: what Good, Pos and their kin answer, over the seat's translation. No condition. -/
import Derived.Test.YtbaejlmpoflogaaRows
import Derived.WalkKit
namespace Go.Proofs.Ytbaejlmpoflogaa
open Go.RowKit

def I64 (a : Int) : Prop := -9223372036854775808 ≤ a ∧ a ≤ 9223372036854775807
def goodB (a n m : Int) : Bool := decide (1 ≤ m ∧ m ≤ 1000 ∧ 1 ≤ a ∧ a ≤ m ∧ ((1 ≤ n ∧ n ≤ m - a + 1) ∨ (n ≤ -1 ∧ a - m - 1 ≤ n)))
theorem ret_bool {a b : Bool} (h : a = b) : Ending.returned (.bool a) = .returned (.bool b) := by rw [h]

set_option maxHeartbeats 4000000 in
theorem good_any_w (a n m : Int) (ha : I64 a) (hn : I64 n) (hm : I64 m) (w : World) :
    Calls Try.prog 13 #[.agg #[.int .i64 a, .int .i64 n, .int .i64 m]] w fun e w' => e = .returned (.bool (goodB a n m)) ∧ w' = w.alloc (.cells #[.int .i64 a, .int .i64 n, .int .i64 m] 27) := by
  unfold I64 at ha hn hm
  go_enter Try.func13, Try.ntmps13
  go_wp2
  all_goals go_ret
  all_goals (refine ⟨ret_bool ?_, rfl⟩; rw [Bool.eq_iff_iff]; simp [goodB] at *; omega)
theorem good_any (a n m : Int) (ha : I64 a) (hn : I64 n) (hm : I64 m) (w : World) :
    Calls Try.prog 13 #[.agg #[.int .i64 a, .int .i64 n, .int .i64 m]] w fun e w' => e = .returned (.bool (goodB a n m)) ∧ Below w.heap.size w w' :=
  (good_any_w a n m ha hn hm w).mono fun _ _ ⟨he, hw⟩ => ⟨he, by rw [hw]; exact (Below.refl _ _).alloc (Nat.le_refl _) _⟩

theorem good_ref_w (a n m : Int) (ha : I64 a) (hn : I64 n) (hm : I64 m) (w : World) :
    Calls Try.prog 14 #[.agg #[.int .i64 a, .int .i64 n, .int .i64 m]] w fun e w' => e = .returned (.bool (goodB a n m)) ∧ w' = w.alloc (.cells #[.int .i64 a, .int .i64 n, .int .i64 m] 31) := by
  unfold I64 at ha hn hm
  go_enter Try.func14, Try.ntmps14
  go_wp2
  all_goals go_ret
  all_goals (refine ⟨ret_bool ?_, rfl⟩; rw [Bool.eq_iff_iff]; simp [goodB] at *; omega)
theorem good_ref (a n m : Int) (ha : I64 a) (hn : I64 n) (hm : I64 m) (w : World) :
    Calls Try.prog 14 #[.agg #[.int .i64 a, .int .i64 n, .int .i64 m]] w fun e w' => e = .returned (.bool (goodB a n m)) ∧ Below w.heap.size w w' :=
  (good_ref_w a n m ha hn hm w).mono fun _ _ ⟨he, hw⟩ => ⟨he, by rw [hw]; exact (Below.refl _ _).alloc (Nat.le_refl _) _⟩

/-- May line p of the shift stay, and where it stands then. -/
def posP (a n m p : Int) : Prop := goodB a n m = true ∧ 1 ≤ p ∧ p ≤ m ∧ (p < a ∨ (a ≤ p ∧ ¬ (n < 0 ∧ p < a - n) ∧ p + n ≤ m))
instance (a n m p : Int) : Decidable (posP a n m p) := by unfold posP; infer_instance
def posO (a n m p : Int) : Bool := decide (posP a n m p)
def posV (a n m p : Int) : Int := if posP a n m p then (if p < a then p else p + n) else 0
abbrev retIB (x : Int) (b : Bool) : Ending := .returned (.tuple #[.int .i64 x, .bool b])
theorem pos_out {a n m p : Int} (h : ¬ posP a n m p) : Ending.returned (.tuple #[.int .i64 0, .bool false]) = retIB (posV a n m p) (posO a n m p) := by
  simp [retIB, posV, posO, h]
theorem pos_lo {a n m p : Int} (h : posP a n m p) (h' : p < a) : Ending.returned (.tuple #[.int .i64 p, .bool true]) = retIB (posV a n m p) (posO a n m p) := by
  simp [retIB, posV, posO, h, h']
theorem pos_hi {a n m p : Int} (h : posP a n m p) (h' : a ≤ p) : Ending.returned (.tuple #[.int .i64 (p + n), .bool true]) = retIB (posV a n m p) (posO a n m p) := by
  have : ¬ p < a := by omega
  simp [retIB, posV, posO, h, this]
theorem good_facts {a n m : Int} (h : goodB a n m = true) : 1 ≤ m ∧ m ≤ 1000 ∧ 1 ≤ a ∧ a ≤ m ∧ ((1 ≤ n ∧ n ≤ m - a + 1) ∨ (n ≤ -1 ∧ a - m - 1 ≤ n)) := by
  simpa [goodB] using h

set_option maxHeartbeats 4000000 in
theorem goes_any (a n m p f : Int) (bs be : Nat) (w : World) (hg : goodB a n m = true) (hp : I64 p) (hf : f = if n < 0 then a - n else a)
    (h0 : w.cell? ⟨bs, 0, none⟩ = some (.int .i64 a)) (h1 : w.cell? ⟨bs, 1, none⟩ = some (.int .i64 n)) (h2 : w.cell? ⟨bs, 2, none⟩ = some (.int .i64 m))
    (h3 : w.cell? ⟨be, 0, none⟩ = some (.int .i64 f)) :
    Calls Try.prog 22 #[.int .i64 p, .pointer (some ⟨bs, 0, none⟩), .pointer (some ⟨be, 0, none⟩)] w fun e w' => e = retIB (posV a n m p) (posO a n m p) ∧ w = w' := by
  obtain ⟨g1, g2, g3, g4, g5⟩ := good_facts hg
  have hf1 : n < 0 → f = a - n := fun h => by rw [hf, if_pos h]
  have hf2 : ¬ n < 0 → f = a := fun h => by rw [hf, if_neg h]
  have hfb : a ≤ f ∧ f ≤ m + 1 ∧ (n < 0 → f = a - n) ∧ (¬ n < 0 → f = a) := by
    by_cases h : n < 0
    · have := hf1 h; exact ⟨by omega, by omega, hf1, hf2⟩
    · have := hf2 h; exact ⟨by omega, by omega, hf1, hf2⟩
  clear hf hf1 hf2
  have HF : Hid (a ≤ f ∧ f ≤ m + 1 ∧ (n < 0 → f = a - n) ∧ (¬ n < 0 → f = a)) := hfb
  clear hfb
  unfold I64 at hp
  go_enter Try.func22, Try.ntmps22
  go_wp2
  all_goals go_ret2
  all_goals (obtain ⟨k1, k2, k3, k4⟩ := HF.out; refine ⟨?_, rfl⟩)
  all_goals first
    | exact pos_out (by rintro ⟨_, q1, q2, q3⟩; omega)
    | exact pos_lo ⟨hg, by omega, by omega, by omega⟩ (by omega)
    | exact pos_hi ⟨hg, by omega, by omega, by omega⟩ (by omega)
end Go.Proofs.Ytbaejlmpoflogaa
