/- Books and lists of operations, written: written, Book, Ops, walked. -/
import Derived.Test.YtekmjegeiminnaaD7
import Derived.Test.YtekmjegeiminnaaD8
import Derived.Test.YtekmjegeiminnaaD10
import Derived.Test.YtekmjegeiminnaaD11
import Derived.Test.YtekmjegeiminnaaD14
namespace Go.Proofs.Ytekmjegeiminnaa
open Go.RowKit
set_option linter.unusedVariables false
set_option linter.unusedSimpArgs false

def tBook : Ty BookD := tPair (tList tSheet) (tPair (tList tName) (tList tLink))
def tOps : Ty (List OpD) := tList tOp
theorem book_W : WFun 82 none tBook := WRun.fn (WRun.pair lsheet_W.run (WRun.pair lname_W.run llink_W.run)) (fun c pb po Q w hc hp h => book_run c pb po Q w hc hp h)
theorem book_R : RFun 82 none tBook := RRun.fn (RRun.pair lsheet_R.run (RRun.pair lname_R.run llink_R.run)) (fun c pb po Q w hc hp h => book_run c pb po Q w hc hp h)
set_option maxRecDepth 100000 in
set_option maxHeartbeats 8000000 in
theorem ops_run (c pb po : Nat) (Q : (Nat → Prop) → Ending → World → Prop) (w : World) (hc : c < w.heap.size) (hpb : pb < w.heap.size)
    (h : Run c pb [(115, po, some 116)] Q (fun _ => False) w) :
    Calls Try.prog 89 #[vP c 0, vP pb po] w fun e w' => ∃ P1, Q P1 e w' := by
  have H := hidden h
  clear h hc hpb
  have hmf : ∀ (fn : Fn) (first cap : Array Value) (w : World), (Instr.makeFunc fn first cap).run Try.prog w = .ok (.func fn first cap) w := fun _ _ _ _ => rfl
  have HCALL : Hid (Calls Try.prog 115 #[vP c 0, vP pb po, .func (.func 116) #[vP c 0] #[]] w (Rest c pb [] Q)) := hidden (one_call3 H.out)
  go_enter Try.func89, Try.ntmps89
  go_wp2_with fail
  (with_reducible refine HCALL.out.mono ?_)
  rintro e w1 (⟨rfl, P1, h3⟩ | ⟨⟨p, rfl⟩, P1, h3⟩)
  rotate_left
  · have H4 := hidden h3
    clear h3 H HCALL
    go_wp2_with fail
    exact bodyPost_panic ⟨P1, H4.out⟩ rfl
  clear HCALL H
  have H := hidden h3
  clear h3
  go_wp2_with fail
  exact ⟨rfl, .tuple #[], by simp [results, Try.results89, go_sem], rest_end H.out (Upd.refl _ _)⟩
theorem ops_W : WFun 89 none tOps := WRun.fn lop_W.run (fun c pb po Q w hc hp h => ops_run c pb po Q w hc hp h)
theorem ops_R : RFun 89 none tOps := RRun.fn lop_R.run (fun c pb po Q w hc hp h => ops_run c pb po Q w hc hp h)

/-- A whole value, written out of a fresh variable by a fresh codec. -/
theorem whole_w {α : Type} {T : Ty α} {f : Nat} (hf : WFun f none T) {x : α} {w : World} {vs : List Value} (hr : T.rep (· < w.heap.size) w vs x) (hok : T.cod.ok x) (hl : (T.cod.enc x).length ≤ 140737488354000) (t : TypeId) :
    Calls Try.prog f #[vP (w.heap.size + 1) 0, vP w.heap.size 0] ((w.alloc (.cells vs.toArray t)).alloc (.cells #[.slice none 0 0, .slice none 0 0, .bool false] 165)) fun e w' =>
      e = unitE ∧ ∃ v, Below w.heap.size w w' ∧ CodW w' (w.heap.size + 1) v ∧ OwnB w.heap.size w' v (T.cod.enc x) := by
  have hb : Below w.heap.size w ((w.alloc (.cells vs.toArray t)).alloc (.cells #[.slice none 0 0, .slice none 0 0, .bool false] 165)) :=
    ((Below.refl _ _).alloc (Nat.le_refl _) _).alloc (by rw [World.size_alloc]; omega) _
  have hc : CodW ((w.alloc (.cells vs.toArray t)).alloc (.cells #[.slice none 0 0, .slice none 0 0, .bool false] 165)) (w.heap.size + 1) (.slice none 0 0) := by
    unfold CodW
    rw [show w.heap.size + 1 = (w.alloc (.cells vs.toArray t)).heap.size from (World.size_alloc _ _).symm]
    exact heap_alloc_new _ _
  have hra : ((w.alloc (.cells vs.toArray t)).alloc (.cells #[.slice none 0 0, .slice none 0 0, .bool false] 165)).rangeAt w.heap.size 0 vs := by
    refine World.rangeAt_alloc ?_ _
    intro j v hv
    rw [Nat.zero_add, World.cell?_alloc_at _ _ _ _ rfl]; simpa using hv
  have hsz : ((w.alloc (.cells vs.toArray t)).alloc (.cells #[.slice none 0 0, .slice none 0 0, .bool false] 165)).heap.size = w.heap.size + 2 := by simp [World.size_alloc]
  have hu : Upd (fun _ => False) w ((w.alloc (.cells vs.toArray t)).alloc (.cells #[.slice none 0 0, .slice none 0 0, .bool false] 165)) := Upd.ofNew hb
  generalize (w.alloc (.cells vs.toArray t)).alloc (.cells #[.slice none 0 0, .slice none 0 0, .bool false] 165) = w2 at hb hc hra hsz hu
  refine (hf (w.heap.size + 1) w.heap.size 0 (.slice none 0 0) [] x w2 ⟨hc, OwnB.nil _ _, ⟨by omega, fun k hk => by simp [Value.ownBlock] at hk⟩, by omega, fun h => h, fun _ _ h => h, fun _ h => h.elim⟩
    ⟨vs, hra, T.mono (T.upd hr hu (fun _ _ h => h)) (fun k hk => by show k < _; have : k < w.heap.size := hk; omega)⟩ hok (by simpa using hl)).mono ?_
  rintro e w3 ⟨rfl, v, hw⟩
  rw [List.nil_append] at hw
  refine ⟨rfl, v, hb.trans (hw.upd.toBelow hb.size (fun k hk h => by
    rcases h with h | h
    · omega
    · simp [Value.ownBlock] at h)), hw.cod, hw.own.weaken (by omega)⟩

set_option maxRecDepth 100000 in
set_option maxHeartbeats 8000000 in
theorem written_ops (v0 : Value) (xs : List OpD) (w : World) (hr : tOps.rep (· < w.heap.size) w [v0] xs) (hok : tOps.cod.ok xs) (hl : (tOps.cod.enc xs).length ≤ 140737488354000) :
    Calls Try.prog 88 #[v0, .func (.func 89) #[] #[]] w fun e w' => Below w.heap.size w w' ∧ ∃ v, e = .returned v ∧ OwnB w.heap.size w' v (tOps.cod.enc xs) := by
  have HC := hidden (whole_w ops_W hr hok hl 73)
  obtain ⟨a, cap, he, -⟩ := hr
  simp only [List.cons.injEq, and_true] at he
  subst he
  clear hok hl
  go_enter Try.func88, Try.ntmps88
  go_wp2_with fail
  with_reducible refine HC.out.mono ?_
  rintro e w1 ⟨rfl, v, hb, hc, ho⟩
  obtain ⟨c0, c1, c2, cf⟩ := hc.facts
  have HB := hidden hb
  have HO := hidden ho
  clear hb hc ho HC
  go_wp2_with fail
  go_ret
  exact ⟨HB.out, v, rfl, HO.out⟩
set_option maxRecDepth 100000 in
set_option maxHeartbeats 8000000 in
theorem ops_any (v0 : Value) (xs : List OpD) (w : World) (hr : tOps.rep (· < w.heap.size) w [v0] xs) (hok : tOps.cod.ok xs) (hl : (tOps.cod.enc xs).length ≤ 140737488354000) :
    Calls Try.prog 50 #[v0] w fun e w' => Below w.heap.size w w' ∧ ∃ v, e = .returned v ∧ OwnB w.heap.size w' v (tOps.cod.enc xs) := by
  have HC := hidden (written_ops v0 xs w hr hok hl)
  obtain ⟨a, cap, he, -⟩ := hr
  simp only [List.cons.injEq, and_true] at he
  subst he
  clear hok hl
  go_enter Try.func50, Try.ntmps50
  go_wp2_with fail
  with_reducible refine HC.out.mono ?_
  rintro e w1 ⟨hb, v, rfl, ho⟩
  have HB := hidden hb
  have HO := hidden ho
  clear hb ho HC
  go_wp2_with fail
  go_ret
  exact ⟨HB.out, v, rfl, HO.out⟩

theorem book_cells {S : Nat → Prop} {w : World} {vs : List Value} {x : BookD} (h : tBook.rep S w vs x) : ∃ a1 l1 c1 a2 l2 c2 a3 l3 c3, vs = [.slice a1 l1 c1, .slice a2 l2 c2, .slice a3 l3 c3] := by
  obtain ⟨l, r, rfl, ⟨a1, c1, rfl, -⟩, l2, r2, rfl, ⟨a2, c2, rfl, -⟩, ⟨a3, c3, rfl, -⟩⟩ := h
  exact ⟨_, _, _, _, _, _, _, _, _, rfl⟩
set_option maxRecDepth 100000 in
set_option maxHeartbeats 8000000 in
theorem written_book (vs : List Value) (x : BookD) (w : World) (hr : tBook.rep (· < w.heap.size) w vs x) (hok : tBook.cod.ok x) (hl : (tBook.cod.enc x).length ≤ 140737488354000) :
    Calls Try.prog 81 #[.agg vs.toArray, .func (.func 82) #[] #[]] w fun e w' => Below w.heap.size w w' ∧ ∃ v, e = .returned v ∧ OwnB w.heap.size w' v (tBook.cod.enc x) := by
  have HC := hidden (whole_w book_W hr hok hl 68)
  obtain ⟨a1, l1, c1, a2, l2, c2, a3, l3, c3, rfl⟩ := book_cells hr
  clear hok hl hr
  go_enter Try.func81, Try.ntmps81
  go_wp2_with fail
  with_reducible refine HC.out.mono ?_
  rintro e w1 ⟨rfl, v, hb, hc, ho⟩
  obtain ⟨c0, c1, c2, cf⟩ := hc.facts
  have HB := hidden hb
  have HO := hidden ho
  clear hb hc ho HC
  go_wp2_with fail
  go_ret
  exact ⟨HB.out, v, rfl, HO.out⟩
set_option maxRecDepth 100000 in
set_option maxHeartbeats 8000000 in
theorem book_any (vs : List Value) (x : BookD) (w : World) (hr : tBook.rep (· < w.heap.size) w vs x) (hok : tBook.cod.ok x) (hl : (tBook.cod.enc x).length ≤ 140737488354000) :
    Calls Try.prog 47 #[.agg vs.toArray] w fun e w' => Below w.heap.size w w' ∧ ∃ v, e = .returned v ∧ OwnB w.heap.size w' v (tBook.cod.enc x) := by
  have hu : Upd (fun _ => False) w (w.alloc (.cells vs.toArray 68)) := Upd.new _ _
  have hr1 : tBook.rep (· < (w.alloc (.cells vs.toArray 68)).heap.size) (w.alloc (.cells vs.toArray 68)) vs x := tBook.mono (tBook.upd hr hu (fun _ _ h => h)) (fun k hk => Nat.lt_of_lt_of_le hk hu.size)
  have HC := hidden (written_book vs x _ hr1 hok hl)
  have hb0 : Hid (Below w.heap.size w (w.alloc (.cells vs.toArray 68))) := hidden ((Below.refl _ _).alloc (Nat.le_refl _) _)
  obtain ⟨a1, l1, c1, a2, l2, c2, a3, l3, c3, rfl⟩ := book_cells hr
  clear hok hl hr hr1 hu
  go_enter Try.func47, Try.ntmps47
  go_wp2_with fail
  with_reducible refine HC.out.mono ?_
  rintro e w1 ⟨hb, v, rfl, ho⟩
  have HB := hidden (hb0.out.trans (hb.mono hb0.out.size))
  have HO := hidden (ho.weaken hb0.out.size)
  clear hb ho HC
  go_wp2_with fail
  go_ret
  exact ⟨HB.out, v, rfl, HO.out⟩
end Go.Proofs.Ytekmjegeiminnaa
