/- ShiftPlaces walked. -/
import Derived.Test.YtbaejlmpoflogaaS7
namespace Go.Proofs.Ytbaejlmpoflogaa
open Go.RowKit
set_option linter.unusedVariables false
set_option linter.unusedSimpArgs false

section
variable {P : Program} {ops : Array Oper} {C : World → Prop} {Q : Act → Prop} {a : Act} {o : Oper} {rest : List Oper}
/-- One operation of a quiet walk, its run given in every world of the class. -/
theorem quiet_run {K : Act → Prop} (h : ∃ v, (∀ w, C w → (execOp a.eval o).run P w = .ok (.value v) w) ∧ K (a.put o.dst v)) : o.quiet P a C K :=
  let ⟨v, h, hk⟩ := h
  ⟨v, fun w hw => by unfold Oper.quietAt; rw [h w hw]; exact ⟨rfl, rfl⟩, hk⟩
theorem quiet_call {K : Act → Prop} (h : ∃ (f : FuncId) (args : Array Value) (v : Value), (∀ w, C w → (execOp a.eval o).run P w = .ok (.enter f args) w) ∧
    (∀ w, C w → Calls P f args w fun e w' => e = .returned v ∧ C w') ∧ K (a.put o.dst v)) : o.quiet P a C K :=
  let ⟨_, _, v, h, hc, hk⟩ := h
  ⟨v, fun w hw => by unfold Oper.quietAt; rw [h w hw]; exact ⟨rfl, hc w hw⟩, hk⟩
theorem region_class {id : Nat} {Q : Exit → Act → World → Prop} {w : World} {l : List Oper} (C : World → Prop) (hm : P.follows .mixedOrders = true) (hB : Region.lexB .any l.toArray = true) (hC : C { w with drawn := w.drawn + 1 })
    (h : wpQuiet P l.toArray C (fun a' => ∀ w', C w' → Q .normal a' w') l a) : (Code.region id l.toArray true).wp P Q a w :=
  wp_region_quiet (C := C) hm hB hC (by simpa using h)
end

theorem back_any' (a n m : Int) (ha : I64 a) (hn : I64 n) (hm : I64 m) (w : World) :
    Calls Try.prog 15 #[S3 a n m] w fun e w' => e = .returned (S3 (if goodB a n m = true then a else 0) (if goodB a n m = true then -n else 0) (if goodB a n m = true then m else 0)) ∧ Below w.heap.size w w' :=
  (back_any a n m ha hn hm w).mono fun e w' ⟨he, hb⟩ => ⟨by rw [he, backV]; split <;> rfl, hb⟩
theorem back_ref' (a n m : Int) (ha : I64 a) (hn : I64 n) (hm : I64 m) (w : World) :
    Calls Try.prog 16 #[S3 a n m] w fun e w' => e = .returned (S3 (if goodB a n m = true then a else 0) (if goodB a n m = true then -n else 0) (if goodB a n m = true then m else 0)) ∧ Below w.heap.size w w' :=
  (back_ref a n m ha hn hm w).mono fun e w' ⟨he, hb⟩ => ⟨by rw [he, backV]; split <;> rfl, hb⟩

/-- What ShiftPlaces holds in its own variables: the shift, the lines, the shift once more. -/
structure Held (w0 : World) (g : Nat) (a n m s0 s1 : Int) (w : World) : Prop where
  below : Below w0.heap.size w0 w
  s : Cells3 w0.heap.size a n m w
  l0 : w.cell? ⟨w0.heap.size + 1, 0, none⟩ = some (.int .i64 s0)
  l1 : w.cell? ⟨w0.heap.size + 1, 1, none⟩ = some (.int .i64 s1)
  r : Cells3 g a n m w
  g1 : w0.heap.size + 1 < g
  g2 : g < w.heap.size
theorem Held.on {w0 : World} {g : Nat} {a n m s0 s1 : Int} {w w' : World} (h : Held w0 g a n m s0 s1 w) (hb : Below w.heap.size w w') : Held w0 g a n m s0 s1 w' := by
  have h1 := h.g1
  have h2 := h.g2
  exact ⟨h.below.trans (hb.mono h.below.size), h.s.on hb (by omega), by rw [hb.cell (by show w0.heap.size + 1 < _; omega)]; exact h.l0, by rw [hb.cell (by show w0.heap.size + 1 < _; omega)]; exact h.l1, h.r.on hb (by omega), h1, Nat.lt_of_lt_of_le h2 hb.size⟩
theorem Held.drew {w0 : World} {g : Nat} {a n m s0 s1 : Int} {w : World} (h : Held w0 g a n m s0 s1 w) : Held w0 g a n m s0 s1 { w with drawn := w.drawn + 1 } :=
  h.on ⟨rfl, rfl, rfl, Nat.le_refl _, fun _ _ => rfl⟩

set_option maxHeartbeats 8000000 in
theorem places_walk (a n m p s0 s1 : Int) (ha : I64 a) (hn : I64 n) (hm : I64 m) (hp : I64 p) (h0 : I64 s0) (h1 : I64 s1) (w : World) :
    Calls Try.prog 4 #[S3 a n m, .int .i64 p, .agg #[.int .i64 s0, .int .i64 s1]] w fun e w' => e = .returned (.bool true) ∧ Below w.heap.size w w' := by
  go_enter Try.func4, Try.ntmps4
  go_wp2_with fail
  refine (plain_any a n m _).mono ?_
  rintro e w1 ⟨rfl, hb⟩
  have HB := hidden hb
  have hz : w.heap.size + 1 < w1.heap.size := by have := hb.size; simp at this; omega
  have c0 : w1.cell? ⟨w.heap.size, 0, none⟩ = some (.int .i64 a) := by rw [hb.cell (by simp <;> omega)]; go_simp
  have c1 : w1.cell? ⟨w.heap.size, 1, none⟩ = some (.int .i64 n) := by rw [hb.cell (by simp <;> omega)]; go_simp
  have c2 : w1.cell? ⟨w.heap.size, 2, none⟩ = some (.int .i64 m) := by rw [hb.cell (by simp <;> omega)]; go_simp
  have c3 : w1.cell? ⟨w.heap.size + 1, 0, none⟩ = some (.int .i64 s0) := by rw [hb.cell (by simp <;> omega)]; go_simp
  have c4 : w1.cell? ⟨w.heap.size + 1, 1, none⟩ = some (.int .i64 s1) := by rw [hb.cell (by simp <;> omega)]; go_simp
  clear hb
  have d0 : ∀ o, (w1.alloc o).cell? ⟨w.heap.size, 0, none⟩ = some (.int .i64 a) := fun o => by rw [World.cell?_alloc_past _ _ _ (by show w.heap.size < _; omega)]; exact c0
  have d1 : ∀ o, (w1.alloc o).cell? ⟨w.heap.size, 1, none⟩ = some (.int .i64 n) := fun o => by rw [World.cell?_alloc_past _ _ _ (by show w.heap.size < _; omega)]; exact c1
  have d2 : ∀ o, (w1.alloc o).cell? ⟨w.heap.size, 2, none⟩ = some (.int .i64 m) := fun o => by rw [World.cell?_alloc_past _ _ _ (by show w.heap.size < _; omega)]; exact c2
  have d3 : ∀ o, (w1.alloc o).cell? ⟨w.heap.size + 1, 0, none⟩ = some (.int .i64 s0) := fun o => by rw [World.cell?_alloc_past _ _ _ (by show w.heap.size + 1 < _; omega)]; exact c3
  have d4 : ∀ o, (w1.alloc o).cell? ⟨w.heap.size + 1, 1, none⟩ = some (.int .i64 s1) := fun o => by rw [World.cell?_alloc_past _ _ _ (by show w.heap.size + 1 < _; omega)]; exact c4
  have HH : Held w w1.heap.size a n m s0 s1 (w1.alloc (.cells #[.int .i64 a, .int .i64 n, .int .i64 m] 31)) :=
    ⟨(((Below.refl _ _).alloc (Nat.le_refl _) _).alloc (by simp) _).trans ((HB.out.mono (by simp; omega)).alloc (by omega) _), ⟨d0 _, d1 _, d2 _⟩, d3 _, d4 _, ⟨by go_simp, by go_simp, by go_simp⟩, hz, by simp⟩
  clear HB c0 c1 c2 c3 c4
  go_wp2_with fail
  refine (pos_any a n m p ha hn hm hp _).mono ?_
  rintro e w2 ⟨rfl, hb⟩
  obtain ⟨HB, ⟨c0, c1, c2⟩, c3, c4, ⟨e0, e1, e2⟩, g1, g2⟩ := HH.on hb
  clear hb d0 d1 d2 d3 d4 HH
  go_wp2_with fail
  refine (pos_ref a n m p ha hn hm hp _).mono ?_
  rintro e w3 ⟨rfl, hb⟩
  have HH : Held w w1.heap.size a n m s0 s1 w3 := Held.on ⟨HB, ⟨c0, c1, c2⟩, c3, c4, ⟨e0, e1, e2⟩, g1, g2⟩ hb
  clear hb HB c0 c1 c2 c3 c4 e0 e1 e2 g1 g2
  obtain ⟨HB, ⟨c0, c1, c2⟩, c3, c4, ⟨e0, e1, e2⟩, g1, g2⟩ := HH
  go_wp2_with fail
  refine (span_any a n m s0 s1 ha hn hm h0 h1 _).mono ?_
  rintro e w4 ⟨rfl, hb⟩
  have HH : Held w w1.heap.size a n m s0 s1 w4 := Held.on ⟨HB, ⟨c0, c1, c2⟩, c3, c4, ⟨e0, e1, e2⟩, g1, g2⟩ hb
  clear hb HB c0 c1 c2 c3 c4 e0 e1 e2 g1 g2
  obtain ⟨HB, ⟨c0, c1, c2⟩, c3, c4, ⟨e0, e1, e2⟩, g1, g2⟩ := HH
  simp only [retSpan]
  go_wp2_with fail
  refine (span_ref a n m s0 s1 ha hn hm h0 h1 _).mono ?_
  rintro e w5 ⟨rfl, hb⟩
  have HH : Held w w1.heap.size a n m s0 s1 w5 := Held.on ⟨HB, ⟨c0, c1, c2⟩, c3, c4, ⟨e0, e1, e2⟩, g1, g2⟩ hb
  clear hb HB c0 c1 c2 c3 c4 e0 e1 e2 g1 g2
  simp only [retSpan]
  generalize spanL a n m s0 s1 = x1
  generalize spanH a n m s0 s1 = x2
  generalize spanO a n m s0 s1 = x3
  generalize posV a n m p = x4
  generalize posO a n m p = x5
  go_wp2_with fail
  refine region_class (Held w w1.heap.size a n m s0 s1) (by kernel_rfl) (by kernel_rfl) HH.drew ?_
  have bk : ∀ w', Calls Try.prog 15 #[S3 a n m] w' fun e w'' => e = .returned (S3 (if goodB a n m = true then a else 0) (if goodB a n m = true then -n else 0) (if goodB a n m = true then m else 0)) ∧ Below w'.heap.size w' w'' := back_any' a n m ha hn hm
  have br : ∀ w', Calls Try.prog 16 #[S3 a n m] w' fun e w'' => e = .returned (S3 (if goodB a n m = true then a else 0) (if goodB a n m = true then -n else 0) (if goodB a n m = true then m else 0)) ∧ Below w'.heap.size w' w'' := back_ref' a n m ha hn hm
  have gd := good_any a n m ha hn hm
  have gr := good_ref a n m ha hn hm
  generalize (if goodB a n m = true then a else 0) = y1 at bk br
  generalize (if goodB a n m = true then -n else 0) = y2 at bk br
  generalize (if goodB a n m = true then m else 0) = y3 at bk br
  generalize goodB a n m = y4 at gd gr
  have GD := hidden gd
  have GR := hidden gr
  have BK := hidden bk
  have BR := hidden br
  clear bk br gd gr
  repeat (first
    | go_big_quiet_skip
    | (go_big_quiet_want
       refine quiet_run ?_
       apply Exists.intro
       refine ⟨fun w' hC => ?_, ?_⟩
       · (first | (go_simp; exact rfl) | (obtain ⟨-, ⟨c0, c1, c2⟩, -, -, ⟨e0, e1, e2⟩, -, -⟩ := hC; go_simp; exact rfl))
       go_simp
       go_big_quiet_on)
    | (go_big_quiet_want
       refine quiet_call ?_
       apply Exists.intro
       apply Exists.intro
       apply Exists.intro
       refine ⟨fun w' hC => ?_, ?_, ?_⟩
       · (go_simp; exact ⟨rfl, rfl⟩)
       · first
         | exact fun w' hC => (GD.out w').mono fun e w'' ⟨he, hb⟩ => ⟨he, hC.on hb⟩
         | exact fun w' hC => (GR.out w').mono fun e w'' ⟨he, hb⟩ => ⟨he, hC.on hb⟩
         | exact fun w' hC => (BK.out w').mono fun e w'' ⟨he, hb⟩ => ⟨he, hC.on hb⟩
         | exact fun w' hC => (BR.out w').mono fun e w'' ⟨he, hb⟩ => ⟨he, hC.on hb⟩
         | exact fun w' hC => (plain_any _ _ _ w').mono fun e w'' ⟨he, hb⟩ => ⟨he, hC.on hb⟩
         | exact fun w' hC => (lives_any w').mono fun e w'' ⟨he, hb⟩ => ⟨he, hC.on hb⟩
       go_simp
       go_big_quiet_on))
  refine wpQuiet_nil ?_
  intro w6 hC
  have HB := hidden hC.below
  clear hC HH
  go_wp2
  go_ret
  exact ⟨rfl, HB.out⟩
end Go.Proofs.Ytbaejlmpoflogaa
