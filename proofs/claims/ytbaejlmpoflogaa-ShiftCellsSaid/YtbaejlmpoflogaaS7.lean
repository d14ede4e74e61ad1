/- The law's own 'lives', and ShiftTwice walked, over the seat's translation. -/
import Derived.Test.YtbaejlmpoflogaaS6
namespace Go.Proofs.Ytbaejlmpoflogaa
open Go.RowKit

theorem i64_ {a : Int} (h : -9223372036854775808 ≤ a ∧ a ≤ 9223372036854775807) : I64 a := h
theorem retS {a n m lo hi x y : Int} {b : Bool} (h1 : spanL a n m lo hi = x) (h2 : spanH a n m lo hi = y) (h3 : spanO a n m lo hi = b) : retSpan a n m lo hi = retIIB x y b := by
  subst h1 h2 h3; rfl

set_option maxHeartbeats 4000000 in
theorem lives_any (w : World) : Calls Try.prog 8 #[] w fun e w' => e = .returned (.bool true) ∧ Below w.heap.size w w' := by
  go_enter Try.func8, Try.ntmps8
  go_wp2_with fail
  refine (pos_any 3 2 64 3 (i64_ (by decide)) (i64_ (by decide)) (i64_ (by decide)) (i64_ (by decide)) _).mono ?_
  rintro e w1 ⟨rfl, h1⟩
  rw [show posV 3 2 64 3 = 5 from by decide, show posO 3 2 64 3 = true from by decide]
  have c0 : w1.cell? ⟨w.heap.size, 0, none⟩ = some (.int .i64 3) := by rw [h1.cell (by simp)]; go_simp
  have c1 : w1.cell? ⟨w.heap.size, 1, none⟩ = some (.int .i64 2) := by rw [h1.cell (by simp)]; go_simp
  have c2 : w1.cell? ⟨w.heap.size, 2, none⟩ = some (.int .i64 64) := by rw [h1.cell (by simp)]; go_simp
  have H1 := hidden (((Below.refl _ _).alloc (Nat.le_refl _) _).trans (h1.mono (by simp)))
  have z1 : w.heap.size < w1.heap.size := by have := h1.size; simp at this; omega
  clear h1
  go_wp2_with fail
  refine (span_any 3 2 64 1 3 (i64_ (by decide)) (i64_ (by decide)) (i64_ (by decide)) (i64_ (by decide)) (i64_ (by decide)) _).mono ?_
  rintro e w2 ⟨rfl, h2⟩
  rw [show retSpan 3 2 64 1 3 = retIIB 1 5 true from retS (by decide) (by decide) (by decide)]
  have H2 := hidden (H1.out.trans (h2.mono (Nat.le_of_lt z1)))
  obtain ⟨c0, c1, c2⟩ := Cells3.on (B := w.heap.size) (a := 3) (n := 2) (m := 64) ⟨c0, c1, c2⟩ h2 z1
  have z2 : w.heap.size < w2.heap.size := Nat.lt_of_lt_of_le z1 h2.size
  clear h2
  go_wp2_with fail
  refine (span_any 3 (-2) 64 3 4 (i64_ (by decide)) (i64_ (by decide)) (i64_ (by decide)) (i64_ (by decide)) (i64_ (by decide)) _).mono ?_
  rintro e w3 ⟨rfl, h3⟩
  rw [show retSpan 3 (-2) 64 3 4 = retIIB 0 0 false from retS (by decide) (by decide) (by decide)]
  have H3 := hidden (H2.out.trans (h3.mono (Nat.le_of_lt z2)))
  obtain ⟨c0, c1, c2⟩ := Cells3.on (B := w.heap.size) (a := 3) (n := 2) (m := 64) ⟨c0, c1, c2⟩ h3 z2
  have z3 : w.heap.size < w3.heap.size := Nat.lt_of_lt_of_le z2 h3.size
  clear h3
  go_wp2_with fail
  refine (good_any 3 2 64 (i64_ (by decide)) (i64_ (by decide)) (i64_ (by decide)) _).mono ?_
  rintro e w4 ⟨rfl, h4⟩
  rw [show goodB 3 2 64 = true from by decide]
  have H4 := hidden (H3.out.trans (h4.mono (Nat.le_of_lt z3)))
  go_wp2
  go_ret
  exact ⟨rfl, H4.out⟩
end Go.Proofs.Ytbaejlmpoflogaa
