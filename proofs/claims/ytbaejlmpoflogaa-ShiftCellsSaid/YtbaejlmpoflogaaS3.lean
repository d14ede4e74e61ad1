/- The contracts of the reference's Pos, of both Backs and of plain, over the seat's translation. No condition beyond what an int holds. -/
import Derived.Test.YtbaejlmpoflogaaS2
namespace Go.Proofs.Ytbaejlmpoflogaa
open Go.RowKit

theorem below_dn {B : Nat} {a w : World} (h : Below B a w) (n : Nat) : Below B a (w.drewN n) := h.trans ⟨rfl, rfl, rfl, Nat.le_refl _, fun _ _ => rfl⟩
theorem hidden {p : Prop} (h : p) : Hid p := h

set_option maxHeartbeats 4000000 in
theorem pos_ref (a n m p : Int) (ha : I64 a) (hn : I64 n) (hm : I64 m) (hp : I64 p) (w : World) :
    Calls Try.prog 10 #[.agg #[.int .i64 a, .int .i64 n, .int .i64 m], .int .i64 p] w fun e w' => e = retIB (posV a n m p) (posO a n m p) ∧ Below w.heap.size w w' := by
  by_cases hg : goodB a n m = true
  · obtain ⟨g1, g2, g3, g4, g5⟩ := good_facts hg
    go_enter Try.func10, Try.ntmps10
    go_wp2_with fail
    refine (good_ref a n m ha hn hm _).mono ?_
    rintro e w1 ⟨rfl, hb⟩
    rw [hg]
    have hc0 : w1.cell? ⟨w.heap.size, 0, none⟩ = some (.int .i64 a) := by rw [hb.cell (by simp)]; go_simp
    have hc1 : w1.cell? ⟨w.heap.size, 1, none⟩ = some (.int .i64 n) := by rw [hb.cell (by simp)]; go_simp
    have hc2 : w1.cell? ⟨w.heap.size, 2, none⟩ = some (.int .i64 m) := by rw [hb.cell (by simp)]; go_simp
    have HG := hidden hg
    have HN : -1000 ≤ n ∧ n ≤ 1000 := by omega
    have G5 := hidden g5
    have HP := hidden hp
    unfold I64 at hp
    clear hg g5 ha hn hm
    go_wp2
    all_goals go_ret2
    all_goals (refine ⟨?_, ((Below.refl _ _).alloc (Nat.le_refl _) _).trans (hb.mono (by simp))⟩; have g5 := G5.out; clear hc0 hc1 hc2)
    all_goals first
      | exact pos_out (by rintro ⟨_, q1, q2, q3⟩; simp at *; omega)
      | exact pos_lo ⟨HG.out, by omega, by omega, by omega⟩ (by omega)
      | exact pos_hi ⟨HG.out, by omega, by omega, by simp at *; omega⟩ (by omega)
  · have hg' : goodB a n m = false := by simpa using hg
    go_enter Try.func10, Try.ntmps10
    go_wp2_with fail
    refine (good_ref a n m ha hn hm _).mono ?_
    rintro e w1 ⟨rfl, hb⟩
    rw [hg']
    go_wp2
    go_ret2
    exact ⟨pos_out (fun h => hg h.1), ((Below.refl _ _).alloc (Nat.le_refl _) _).trans (hb.mono (by simp))⟩
end Go.Proofs.Ytbaejlmpoflogaa
