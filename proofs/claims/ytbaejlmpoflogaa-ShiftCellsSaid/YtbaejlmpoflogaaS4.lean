/- The contracts of both Backs, of plain, of Span's closure and of Span, over the seat's translation. No condition beyond what an int holds. -/
import Derived.Test.YtbaejlmpoflogaaS3
namespace Go.Proofs.Ytbaejlmpoflogaa
open Go.RowKit
set_option linter.unusedVariables false
set_option linter.unusedSimpArgs false

abbrev S3 (a n m : Int) : Value := .agg #[.int .i64 a, .int .i64 n, .int .i64 m]

set_option maxHeartbeats 4000000 in
theorem plain_any (a n m : Int) (w : World) :
    Calls Try.prog 9 #[S3 a n m] w fun e w' => e = .returned (S3 a n m) ∧ Below w.heap.size w w' := by
  go_enter Try.func9, Try.ntmps9
  go_wp2
  exact bodyPost_ret (v := .agg #[.int .i64 a, .int .i64 n, .int .i64 m]) (by simp [results, Try.results9, go_sem]) rfl ⟨rfl, (((Below.refl _ _).alloc (Nat.le_refl _) _).alloc (by simp) _)⟩

/-- What Back answers. -/
def backV (a n m : Int) : Value := if goodB a n m = true then S3 a (-n) m else S3 0 0 0

set_option maxHeartbeats 4000000 in
theorem back_any (a n m : Int) (ha : I64 a) (hn : I64 n) (hm : I64 m) (w : World) :
    Calls Try.prog 15 #[S3 a n m] w fun e w' => e = .returned (backV a n m) ∧ Below w.heap.size w w' := by
  by_cases hg : goodB a n m = true
  · obtain ⟨g1, g2, g3, g4, g5⟩ := good_facts hg
    go_enter Try.func15, Try.ntmps15
    go_wp2_with fail
    refine (good_any_w a n m ha hn hm _).mono ?_
    rintro e w1 ⟨rfl, rfl⟩
    rw [hg]
    have HG := hidden hg
    have HN : -1000 ≤ n ∧ n ≤ 1000 := by omega
    clear hg g5 ha hn hm
    go_wp2
    exact bodyPost_ret (v := .agg #[.int .i64 a, .int .i64 (-n), .int .i64 m]) (by simp [results, Try.results15, go_sem]) rfl ⟨by rw [backV, if_pos HG.out], ((((Below.refl _ _).alloc (Nat.le_refl _) _).alloc (by simp) _).alloc (by simp; omega) _)⟩
  · have hg' : goodB a n m = false := by simpa using hg
    go_enter Try.func15, Try.ntmps15
    go_wp2_with fail
    refine (good_any_w a n m ha hn hm _).mono ?_
    rintro e w1 ⟨rfl, rfl⟩
    rw [hg']
    go_wp2
    exact bodyPost_ret (v := .agg #[.int .i64 0, .int .i64 0, .int .i64 0]) (by simp [results, Try.results15, go_sem]) rfl ⟨by rw [backV, if_neg hg], ((((Below.refl _ _).alloc (Nat.le_refl _) _).alloc (by simp) _).alloc (by simp; omega) _)⟩

set_option maxHeartbeats 4000000 in
theorem back_ref (a n m : Int) (ha : I64 a) (hn : I64 n) (hm : I64 m) (w : World) :
    Calls Try.prog 16 #[S3 a n m] w fun e w' => e = .returned (backV a n m) ∧ Below w.heap.size w w' := by
  by_cases hg : goodB a n m = true
  · obtain ⟨g1, g2, g3, g4, g5⟩ := good_facts hg
    go_enter Try.func16, Try.ntmps16
    go_wp2_with fail
    refine (good_ref_w a n m ha hn hm _).mono ?_
    rintro e w1 ⟨rfl, rfl⟩
    rw [hg]
    have HG := hidden hg
    have HN : -1000 ≤ n ∧ n ≤ 1000 := by omega
    clear hg g5 ha hn hm
    go_wp2
    exact bodyPost_ret (v := .agg #[.int .i64 a, .int .i64 (-n), .int .i64 m]) (by simp [results, Try.results16, go_sem]) rfl ⟨by rw [backV, if_pos HG.out], ((((Below.refl _ _).alloc (Nat.le_refl _) _).alloc (by simp) _).alloc (by simp; omega) _)⟩
  · have hg' : goodB a n m = false := by simpa using hg
    go_enter Try.func16, Try.ntmps16
    go_wp2_with fail
    refine (good_ref_w a n m ha hn hm _).mono ?_
    rintro e w1 ⟨rfl, rfl⟩
    rw [hg']
    go_wp2
    exact bodyPost_ret (v := .agg #[.int .i64 0, .int .i64 0, .int .i64 0]) (by simp [results, Try.results16, go_sem]) rfl ⟨by rw [backV, if_neg hg], ((((Below.refl _ _).alloc (Nat.le_refl _) _).alloc (by simp) _).alloc (by simp; omega) _)⟩

/-- Span's closure: where an end goes. -/
def foldV (a n last p edge : Int) : Int := if p < a then p else if last < p then p + n else edge
theorem ret_i {x y : Int} (h : x = y) : Ending.returned (.int .i64 x) = .returned (.int .i64 y) := by rw [h]
set_option maxHeartbeats 4000000 in
theorem fold_any (a n m last p edge : Int) (bs be : Nat) (w : World) (hp : 1 ≤ p ∧ p ≤ 1000) (hn : -1000 ≤ n ∧ n ≤ 0)
    (h0 : w.cell? ⟨bs, 0, none⟩ = some (.int .i64 a)) (h1 : w.cell? ⟨bs, 1, none⟩ = some (.int .i64 n))
    (h3 : w.cell? ⟨be, 0, none⟩ = some (.int .i64 last)) :
    Calls Try.prog 21 #[.int .i64 p, .int .i64 edge, .pointer (some ⟨bs, 0, none⟩), .pointer (some ⟨be, 0, none⟩)] w fun e w' => e = .returned (.int .i64 (foldV a n last p edge)) ∧ w' = w := by
  go_enter Try.func21, Try.ntmps21
  go_wp2
  all_goals go_ret
  all_goals (refine ⟨ret_i ?_, rfl⟩; clear h0 h1 h3; unfold foldV; (try simp at *); (repeat' split) <;> first | rfl | omega)
end Go.Proofs.Ytbaejlmpoflogaa
