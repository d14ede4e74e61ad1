/- The contracts of package shift's Pos, Back and the reference's, and of the law's helper plain, over the seat's translation. No condition beyond what an int holds. -/
import Derived.Test.YtbaejlmpoflogaaS1
import Derived.Deep.QuietTactic
import Derived.BigQuiet
import Derived.Lib.Hide
namespace Go.Proofs.Ytbaejlmpoflogaa
open Go.RowKit

/-- What moves answers: the closure over two new variables. -/
def Moved (a n m : Int) (w : World) (e : Ending) (w' : World) : Prop :=
  ∃ bs be : Nat, e = .returned (.func (.func 22) #[] #[.pointer (some ⟨bs, 0, none⟩), .pointer (some ⟨be, 0, none⟩)]) ∧
    w'.cell? ⟨bs, 0, none⟩ = some (.int .i64 a) ∧ w'.cell? ⟨bs, 1, none⟩ = some (.int .i64 n) ∧ w'.cell? ⟨bs, 2, none⟩ = some (.int .i64 m) ∧
    w'.cell? ⟨be, 0, none⟩ = some (.int .i64 (if n < 0 then a - n else a)) ∧ Below w.heap.size w w' ∧ bs < w'.heap.size ∧ be < w'.heap.size

theorem hmf0 : ∀ (fn : Fn) (first cap : Array Value) (w : World), (Instr.makeFunc fn first cap).run Try.prog w = .ok (.func fn first cap) w := fun _ _ _ _ => rfl

set_option maxHeartbeats 4000000 in
theorem moves_any (a n m : Int) (hg : goodB a n m = true) (w : World) :
    Calls Try.prog 20 #[.agg #[.int .i64 a, .int .i64 n, .int .i64 m]] w (Moved a n m w) := by
  obtain ⟨g1, g2, g3, g4, g5⟩ := good_facts hg
  have hmf := hmf0
  have hb : -1000 ≤ n ∧ n ≤ 1000 := by omega
  clear g5 hg
  go_enter Try.func20, Try.ntmps20
  go_wp2
  all_goals go_ret
  all_goals
    have hn : n < 0 ∨ 0 ≤ n := by omega
    refine ⟨w.heap.size, w.heap.size + 1, rfl, by go_simp, by go_simp, by go_simp, ?_, ((Below.refl _ _).alloc (Nat.le_refl _) _).alloc (by simp) _, by simp; omega, by simp⟩
  · rename_i h
    rw [if_pos h]; go_simp
  · rename_i h
    rw [if_neg (by omega)]; go_simp

set_option maxHeartbeats 4000000 in
theorem pos_any (a n m p : Int) (ha : I64 a) (hn : I64 n) (hm : I64 m) (hp : I64 p) (w : World) :
    Calls Try.prog 7 #[.agg #[.int .i64 a, .int .i64 n, .int .i64 m], .int .i64 p] w fun e w' => e = retIB (posV a n m p) (posO a n m p) ∧ Below w.heap.size w w' := by
  by_cases hg : goodB a n m = true
  · go_enter Try.func7, Try.ntmps7
    go_wp2_with fail
    refine (good_any a n m ha hn hm _).mono ?_
    rintro e w1 ⟨rfl, hb⟩
    rw [hg]
    have hc0 : w1.cell? ⟨w.heap.size, 0, none⟩ = some (.int .i64 a) := by rw [hb.cell (by simp)]; go_simp
    have hc1 : w1.cell? ⟨w.heap.size, 1, none⟩ = some (.int .i64 n) := by rw [hb.cell (by simp)]; go_simp
    have hc2 : w1.cell? ⟨w.heap.size, 2, none⟩ = some (.int .i64 m) := by rw [hb.cell (by simp)]; go_simp
    have hz := hb.size
    have HG := Lib.hid hg
    clear hg
    go_wp2_with fail
    refine (moves_any a n m HG.out _).mono ?_
    rintro e w2 ⟨bs, be, rfl, k0, k1, k2, k3, hb2, -, -⟩
    go_wp2_with fail
    refine (goes_any a n m p _ bs be _ HG.out hp rfl k0 k1 k2 k3).mono ?_
    rintro e w3 ⟨rfl, rfl⟩
    go_wp2
    go_ret2
    exact ⟨rfl, (((Below.refl _ _).alloc (Nat.le_refl _) _).trans (hb.mono (by simp))).trans (hb2.mono (by simp at hz; omega))⟩
  · have hg' : goodB a n m = false := by simpa using hg
    go_enter Try.func7, Try.ntmps7
    go_wp2_with fail
    refine (good_any a n m ha hn hm _).mono ?_
    rintro e w1 ⟨rfl, hb⟩
    rw [hg']
    go_wp2
    go_ret2
    exact ⟨pos_out (fun h => hg h.1), ((Below.refl _ _).alloc (Nat.le_refl _) _).trans (hb.mono (by simp))⟩
end Go.Proofs.Ytbaejlmpoflogaa
