/- ReadOps and ReadBook of the program, walked. Printed by gen_r.py. -/
import Derived.Test.YtekmjegeiminnaaD12
import Derived.Test.YtekmjegeiminnaaD13
namespace Go.Proofs.Ytekmjegeiminnaa
open Go.RowKit
set_option linter.unusedVariables false
set_option linter.unusedSimpArgs false

theorem cell_there {w : World} {b i : Nat} {vs : Array Value} {t : TypeId} {fr : Nat × Nat} (h : w.heap[b]? = some (.cells vs t fr)) (hi : i < vs.size) : ∃ x, w.cell? ⟨b, i, none⟩ = some x := ⟨vs[i], by rw [cell_of_row w b i vs t fr h]; simp [hi]⟩
theorem range_block {w : World} {b : Nat} {l : List Value} {t : TypeId} {fr : Nat × Nat} (h : w.heap[b]? = some (.cells l.toArray t fr)) : w.rangeAt b 0 l := fun j v hv => by
  rw [cell_of_row w b (0 + j) _ t fr h, Nat.zero_add]; simpa using hv
theorem store1 {w : World} {B0 : Nat} {x0 y v0 z : Value} (h0 : w.cell? ⟨B0, 0, none⟩ = some x0) (hq : w.cell? ⟨B0 + 1, 0, none⟩ = some y) :
    ((w.setCell ⟨B0, 0, none⟩ v0).setCell ⟨B0 + 1, 0, none⟩ z).cell? ⟨B0, 0, none⟩ = some v0 ∧ ((w.setCell ⟨B0, 0, none⟩ v0).setCell ⟨B0 + 1, 0, none⟩ z).cell? ⟨B0 + 1, 0, none⟩ = some z ∧ Upd (fun k => k = B0 ∨ k = B0 + 1) w ((w.setCell ⟨B0, 0, none⟩ v0).setCell ⟨B0 + 1, 0, none⟩ z) := by
  have u1 : Upd (fun k => k = B0) w (w.setCell ⟨B0, 0, none⟩ v0) := Upd.set rfl
  have u2 : Upd (fun k => k = B0 + 1) (w.setCell ⟨B0, 0, none⟩ v0) ((w.setCell ⟨B0, 0, none⟩ v0).setCell ⟨B0 + 1, 0, none⟩ z) := Upd.set rfl
  exact ⟨u2.cell (World.cell?_setCell_same _ _ _ h0) (by simp), World.cell?_setCell_same _ _ _ (u1.cell hq (by simp)), (u1.mono (N := fun k => k = B0 ∨ k = B0 + 1) (fun _ _ h => .inl h)).trans u2 (fun _ _ h => .inr h)⟩
theorem store3 {w : World} {B0 : Nat} {x0 x1 x2 y v0 v1 v2 z : Value} (h0 : w.cell? ⟨B0, 0, none⟩ = some x0) (h1 : w.cell? ⟨B0, 1, none⟩ = some x1) (h2 : w.cell? ⟨B0, 2, none⟩ = some x2) (hq : w.cell? ⟨B0 + 1, 0, none⟩ = some y) :
    ((((w.setCell ⟨B0, 0, none⟩ v0).setCell ⟨B0, 1, none⟩ v1).setCell ⟨B0, 2, none⟩ v2).setCell ⟨B0 + 1, 0, none⟩ z).cell? ⟨B0, 0, none⟩ = some v0 ∧ ((((w.setCell ⟨B0, 0, none⟩ v0).setCell ⟨B0, 1, none⟩ v1).setCell ⟨B0, 2, none⟩ v2).setCell ⟨B0 + 1, 0, none⟩ z).cell? ⟨B0, 1, none⟩ = some v1 ∧ ((((w.setCell ⟨B0, 0, none⟩ v0).setCell ⟨B0, 1, none⟩ v1).setCell ⟨B0, 2, none⟩ v2).setCell ⟨B0 + 1, 0, none⟩ z).cell? ⟨B0, 2, none⟩ = some v2 ∧ ((((w.setCell ⟨B0, 0, none⟩ v0).setCell ⟨B0, 1, none⟩ v1).setCell ⟨B0, 2, none⟩ v2).setCell ⟨B0 + 1, 0, none⟩ z).cell? ⟨B0 + 1, 0, none⟩ = some z ∧ Upd (fun k => k = B0 ∨ k = B0 + 1) w ((((w.setCell ⟨B0, 0, none⟩ v0).setCell ⟨B0, 1, none⟩ v1).setCell ⟨B0, 2, none⟩ v2).setCell ⟨B0 + 1, 0, none⟩ z) := by
  have u1 : Upd (fun k => k = B0) w (w.setCell ⟨B0, 0, none⟩ v0) := Upd.set rfl
  have e0 := World.cell?_setCell_same _ _ v0 h0
  have e1 : (w.setCell ⟨B0, 0, none⟩ v0).cell? ⟨B0, 1, none⟩ = some x1 := by rw [World.cell?_setCell_other _ _ _ _ (by simp)]; exact h1
  have e2 : (w.setCell ⟨B0, 0, none⟩ v0).cell? ⟨B0, 2, none⟩ = some x2 := by rw [World.cell?_setCell_other _ _ _ _ (by simp)]; exact h2
  have eq1 := u1.cell hq (by simp)
  generalize w.setCell ⟨B0, 0, none⟩ v0 = w6 at u1 e0 e1 e2 eq1 ⊢
  have u2 : Upd (fun k => k = B0) w6 (w6.setCell ⟨B0, 1, none⟩ v1) := Upd.set rfl
  have f0 : (w6.setCell ⟨B0, 1, none⟩ v1).cell? ⟨B0, 0, none⟩ = some v0 := by rw [World.cell?_setCell_other _ _ _ _ (by simp)]; exact e0
  have f1 := World.cell?_setCell_same _ _ v1 e1
  have f2 : (w6.setCell ⟨B0, 1, none⟩ v1).cell? ⟨B0, 2, none⟩ = some x2 := by rw [World.cell?_setCell_other _ _ _ _ (by simp)]; exact e2
  have eq2 := u2.cell eq1 (by simp)
  generalize w6.setCell ⟨B0, 1, none⟩ v1 = w7 at u2 f0 f1 f2 eq2 ⊢
  have u3 : Upd (fun k => k = B0) w7 (w7.setCell ⟨B0, 2, none⟩ v2) := Upd.set rfl
  have g0 : (w7.setCell ⟨B0, 2, none⟩ v2).cell? ⟨B0, 0, none⟩ = some v0 := by rw [World.cell?_setCell_other _ _ _ _ (by simp)]; exact f0
  have g1 : (w7.setCell ⟨B0, 2, none⟩ v2).cell? ⟨B0, 1, none⟩ = some v1 := by rw [World.cell?_setCell_other _ _ _ _ (by simp)]; exact f1
  have g2 := World.cell?_setCell_same _ _ v2 f2
  have eq3 := u3.cell eq2 (by simp)
  generalize w7.setCell ⟨B0, 2, none⟩ v2 = w8 at u3 g0 g1 g2 eq3 ⊢
  have u4 : Upd (fun k => k = B0 + 1) w8 (w8.setCell ⟨B0 + 1, 0, none⟩ z) := Upd.set rfl
  exact ⟨u4.cell g0 (by simp), u4.cell g1 (by simp), u4.cell g2 (by simp), World.cell?_setCell_same _ _ _ eq3, (((u1.mono (N := fun k => k = B0 ∨ k = B0 + 1) (fun _ _ h => .inl h)).trans u2 (fun _ _ h => .inl h)).trans u3 (fun _ _ h => .inl h)).trans u4 (fun _ _ h => .inr h)⟩
/-- What ReadOps answers. -/
def ReadO (bs : List UInt8) (w : World) (e : Ending) (w' : World) : Prop :=
  Below w.heap.size w w' ∧ ((∃ xs v, whole tOps.cod bs = some xs ∧ e = .returned (.tuple #[v, .int .i64 0]) ∧ tOps.rep (fun k => w.heap.size ≤ k ∧ k < w'.heap.size) w' [v] xs) ∨ (whole tOps.cod bs = none ∧ e = .returned (.tuple #[.slice none 0 0, .int .i64 12])))
/-- What ReadBook answers. -/
def ReadB (bs : List UInt8) (w : World) (e : Ending) (w' : World) : Prop :=
  Below w.heap.size w w' ∧ ((∃ x vs, whole tBook.cod bs = some x ∧ e = .returned (.tuple #[.agg vs.toArray, .int .i64 0]) ∧ tBook.rep (fun k => w.heap.size ≤ k ∧ k < w'.heap.size) w' vs x) ∨ (whole tBook.cod bs = none ∧ e = .returned (.tuple #[.agg #[.slice none 0 0, .slice none 0 0, .slice none 0 0], .int .i64 12])))
theorem ReadO.bad {bs : List UInt8} {w w4 : World} {B0 : Nat} {x0 y : Value} (hB : w.heap.size = B0) (hR : whole tOps.cod bs = none) (hb : Below w.heap.size w w4) (hl : B0 + 1 < w4.heap.size) (h0 : w4.cell? ⟨B0, 0, none⟩ = some x0) (hq4 : w4.cell? ⟨B0 + 1, 0, none⟩ = some y)
    {w5 : World} (h5 : w5 = ((w4.setCell ⟨B0, 0, none⟩ (.slice none 0 0)).setCell ⟨B0 + 1, 0, none⟩ (.int .i64 12)).alloc (.cells #[] 170)) :
    w5.cell? ⟨B0, 0, none⟩ = some (.slice none 0 0) ∧ w5.cell? ⟨B0 + 1, 0, none⟩ = some (.int .i64 12) ∧ ReadO bs w (.returned (.tuple #[.slice none 0 0, .int .i64 12])) w5 := by
  subst h5
  obtain ⟨g0, gq, U⟩ := store1 h0 hq4 (v0 := .slice none 0 0) (z := .int .i64 12)
  generalize (w4.setCell ⟨B0, 0, none⟩ (.slice none 0 0)).setCell ⟨B0 + 1, 0, none⟩ (.int .i64 12) = w6 at g0 gq U
  have u5 : Upd (fun _ => False) w6 (w6.alloc (.cells #[] 170)) := Upd.new _ _
  exact ⟨u5.cell g0 (fun h => h), u5.cell gq (fun h => h), hb.trans ((U.trans u5 (fun _ _ h => h.elim)).toBelow hb.size (fun k hk h => by omega)), .inr ⟨hR, rfl⟩⟩
theorem ReadB.bad {bs : List UInt8} {w w4 : World} {B0 : Nat} {x0 x1 x2 y : Value} (hB : w.heap.size = B0) (hR : whole tBook.cod bs = none) (hb : Below w.heap.size w w4) (hl : B0 + 1 < w4.heap.size) (h0 : w4.cell? ⟨B0, 0, none⟩ = some x0) (h1 : w4.cell? ⟨B0, 1, none⟩ = some x1) (h2 : w4.cell? ⟨B0, 2, none⟩ = some x2) (hq4 : w4.cell? ⟨B0 + 1, 0, none⟩ = some y)
    {w5 : World} (h5 : w5 = (((((w4.setCell ⟨B0, 0, none⟩ (.slice none 0 0)).setCell ⟨B0, 1, none⟩ (.slice none 0 0)).setCell ⟨B0, 2, none⟩ (.slice none 0 0)).setCell ⟨B0 + 1, 0, none⟩ (.int .i64 12)).alloc (.cells #[] 170)).alloc (.cells #[.slice none 0 0, .slice none 0 0, .slice none 0 0] 68)) :
    w5.cell? ⟨B0, 0, none⟩ = some (.slice none 0 0) ∧ w5.cell? ⟨B0, 1, none⟩ = some (.slice none 0 0) ∧ w5.cell? ⟨B0, 2, none⟩ = some (.slice none 0 0) ∧ w5.cell? ⟨B0 + 1, 0, none⟩ = some (.int .i64 12) ∧ ReadB bs w (.returned (.tuple #[.agg #[.slice none 0 0, .slice none 0 0, .slice none 0 0], .int .i64 12])) w5 := by
  subst h5
  obtain ⟨g0, g1, g2, gq, U⟩ := store3 h0 h1 h2 hq4 (v0 := .slice none 0 0) (v1 := .slice none 0 0) (v2 := .slice none 0 0) (z := .int .i64 12)
  generalize (((w4.setCell ⟨B0, 0, none⟩ (.slice none 0 0)).setCell ⟨B0, 1, none⟩ (.slice none 0 0)).setCell ⟨B0, 2, none⟩ (.slice none 0 0)).setCell ⟨B0 + 1, 0, none⟩ (.int .i64 12) = w6 at g0 g1 g2 gq U
  have u5 : Upd (fun _ => False) w6 ((w6.alloc (.cells #[] 170)).alloc (.cells #[.slice none 0 0, .slice none 0 0, .slice none 0 0] 68)) := (Upd.new _ _).trans (Upd.new _ _) (fun _ _ h => h)
  exact ⟨u5.cell g0 (fun h => h), u5.cell g1 (fun h => h), u5.cell g2 (fun h => h), u5.cell gq (fun h => h), hb.trans ((U.trans u5 (fun _ _ h => h.elim)).toBelow hb.size (fun k hk h => by omega)), .inr ⟨hR, rfl⟩⟩


set_option maxRecDepth 100000 in
set_option maxHeartbeats 8000000 in
theorem read_ops (a : Option Addr) (len cap : Nat) (bs : List UInt8) (w : World) (h : BytesAt w a bs) (hlen : len = bs.length) (hcap : len ≤ cap) (hc2 : (cap : Int) ≤ 9223372036854775807) (hl : len ≤ 100000000000) (ha : ∀ A, a = some A → A.block < w.heap.size) :
    Calls Try.prog 90 #[.slice a len cap, .func (.func 89) #[] #[]] w (ReadO bs w) := by
  subst hlen
  have hmf : ∀ (fn : Fn) (first cap : Array Value) (w : World), (Instr.makeFunc fn first cap).run Try.prog w = .ok (.func fn first cap) w := fun _ _ _ _ => rfl
  have H := hidden h
  have HA := hidden ha
  clear h ha
  go_enter_defers Try.func90, Try.ntmps90
  go_wp2_with fail
  generalize hw3 : ((w.alloc (.cells #[.slice none 0 0] 73)).alloc (.cells #[.int .i64 0] 31)).alloc (.cells #[.slice none 0 0, .slice a bs.length cap, .bool true] 165) = w3
  obtain ⟨B0, hB0⟩ : ∃ B0, w.heap.size = B0 := ⟨_, rfl⟩
  have hsz : w3.heap.size = B0 + 3 := by subst hw3; simp [World.size_alloc, hB0]
  have hbel : Below w.heap.size w w3 := by
    subst hw3
    exact (((Below.refl _ _).alloc (Nat.le_refl _) _).alloc (by rw [World.size_alloc]; omega) _).alloc (by rw [World.size_alloc, World.size_alloc]; omega) _
  have k0 : w3.heap[B0]? = some (.cells #[.slice none 0 0] 73 (0, 0)) := by
    subst hw3
    have e1 : (w.alloc (.cells #[.slice none 0 0] 73)).heap[B0]? = some (.cells #[.slice none 0 0] 73 (0, 0)) := by rw [← hB0]; exact heap_alloc_new _ _
    have u1 : Upd (fun _ => False) (w.alloc (.cells #[.slice none 0 0] 73)) ((w.alloc (.cells #[.slice none 0 0] 73)).alloc (.cells #[.int .i64 0] 31)) := Upd.new _ _
    have u2 : Upd (fun _ => False) ((w.alloc (.cells #[.slice none 0 0] 73)).alloc (.cells #[.int .i64 0] 31)) (((w.alloc (.cells #[.slice none 0 0] 73)).alloc (.cells #[.int .i64 0] 31)).alloc (.cells #[.slice none 0 0, .slice a bs.length cap, .bool true] 165)) := Upd.new _ _
    rw [u2.block B0 (by simp [World.size_alloc]; omega) (fun h => h), u1.block B0 (by simp [World.size_alloc]; omega) (fun h => h), e1]
  have k1 : w3.heap[B0 + 1]? = some (.cells #[.int .i64 0] 31 (0, 0)) := by
    subst hw3
    have u2 : Upd (fun _ => False) ((w.alloc (.cells #[.slice none 0 0] 73)).alloc (.cells #[.int .i64 0] 31)) (((w.alloc (.cells #[.slice none 0 0] 73)).alloc (.cells #[.int .i64 0] 31)).alloc (.cells #[.slice none 0 0, .slice a bs.length cap, .bool true] 165)) := Upd.new _ _
    rw [u2.block (B0 + 1) (by simp [World.size_alloc]; omega) (fun h => h), ← hB0, show w.heap.size + 1 = (w.alloc (.cells #[.slice none 0 0] 73)).heap.size by rw [World.size_alloc]]
    exact heap_alloc_new _ _
  have k2 : w3.heap[B0 + 2]? = some (.cells #[.slice none 0 0, .slice a bs.length cap, .bool true] 165 (0, 0)) := by
    subst hw3
    rw [← hB0, show w.heap.size + 2 = ((w.alloc (.cells #[.slice none 0 0] 73)).alloc (.cells #[.int .i64 0] 31)).heap.size by rw [World.size_alloc, World.size_alloc]]
    exact heap_alloc_new _ _
  have HQ : w3.cell? ⟨B0 + 1, 0, none⟩ = some (.int .i64 0) := by simp [World.cell?, k1]
  have HQF : w3.frozen? ⟨B0 + 1, 0, none⟩ = false := by simp [World.frozen?, k1]
  have HZ : w3.rangeAt B0 0 tOps.zero := range_block k0
  obtain ⟨bb, hbb, hbne, hba⟩ : ∃ bb, bb < w3.heap.size ∧ bb ≠ B0 + 2 ∧ bb ≠ B0 ∧ (∀ A, a = some A → A.block = bb) := by
    cases a with
    | none => exact ⟨B0 + 1, by omega, by omega, by omega, fun A hA => by cases hA⟩
    | some A => have := HA.out A rfl; exact ⟨A.block, by omega, by omega, by omega, fun A' hA => by cases hA; rfl⟩
  have HC : CodR w3 (B0 + 2) bb bs := ⟨a, cap, k2, H.out.upd (Upd.ofNew (M := fun _ => False) hbel) (fun _ _ h => h), hcap, hc2, hba.2, hbne⟩
  have HB3 := hidden hbel
  have HBB := hba.1
  have HCALL : Hid (Calls Try.prog 89 #[vP (B0 + 2) 0, vP B0 0] w3 (RPost tOps (B0 + 2) B0 0 bb bs w3)) := hidden (ops_R (B0 + 2) B0 0 bb bs w3 ⟨HC, hbb, by omega, Ne.symm HBB, ⟨_, _, k0⟩, hl, fun h => h, fun h => h, fun _ h => h.elim⟩ HZ)
  rw [hB0]
  have K0 := hidden k0
  clear hw3 k0 k1 k2 hbel hba HC HZ
  with_reducible refine HCALL.out.mono ?_
  clear HCALL
  rintro e w4 ⟨h7, hst, hcase⟩
  have HU := hidden h7
  have hq4 := h7.cell HQ (by simp)
  have hqf4 := h7.frozen (by omega) HQF (by omega)
  have hs4 := h7.size
  obtain ⟨vs4, e4, s4, -⟩ := hst _ _ K0.out
  have h5 : ∀ i, w4.frozen? ⟨B0, i, none⟩ = false := fun i => by simp [World.frozen?, e4]
  have s4' : vs4.size = 1 := s4
  obtain ⟨x0, hx0⟩ := cell_there e4 (i := 0) (by omega)
  have hb4 : Hid (Below w.heap.size w w4) := hidden (HB3.out.trans (HU.out.toBelow (by omega) (fun k hk h => by omega)))
  clear h7 hst e4 s4 s4' HQ HQF
  rcases hcase with ⟨xs, r, h1, rfl, h3, vs, hrg, hrep⟩ | ⟨h1, rfl⟩
  · have HD := hidden h1
    have HREP := hidden hrep
    obtain ⟨a', cap', c0, c1, c2, cf, -⟩ := h3.facts
    obtain ⟨b0, d0, he, -⟩ := hrep
    obtain ⟨m0, hm0⟩ : ∃ m, xs.length = m := ⟨_, rfl⟩
    rw [hm0] at he
    subst he
    have h40 : w4.cell? ⟨B0, 0, none⟩ = some (.slice b0 m0 d0) := hrg 0 _ rfl
    clear h1 h3 hrg hx0
    by_cases hr : r.length = 0
    · go_wp2_with fail
      have hR : whole tOps.cod bs = some xs := by unfold whole; rw [HD.out]; exact if_pos hr
      refine leaves_cons (f := 117) (args := #[.pointer (some ⟨B0, 0, none⟩), .pointer (some ⟨B0 + 1, 0, none⟩)]) (by simp) (by simp [go_sem]) ?_
      refine (closeO_idle _ _ _).mono ?_
      rintro e u' w5 ⟨rfl, rfl, hw5⟩
      obtain ⟨g0, gq, U⟩ := store1 h40 hq4 (v0 := (.slice b0 m0 d0)) (z := .int .i64 0)
      rw [← hw5] at g0 gq U
      have g3 : ReadO bs w (.returned (.tuple #[.slice b0 m0 d0, .int .i64 0])) w5 :=
        ⟨hb4.out.trans (U.toBelow (by omega) (fun k hk h => by omega)), .inl ⟨xs, .slice b0 m0 d0, hR, rfl, tOps.mono (tOps.upd HREP.out U (fun k hk h => by omega)) (fun k hk => ⟨by omega, Nat.lt_of_lt_of_le hk.2 U.size⟩)⟩⟩
      have G3 := hidden g3
      clear g3 U hw5
      simp [Leaves, settle, results, Try.results90, go_sem, g0, gq]
      exact G3.out
    · have hR : whole tOps.cod bs = none := by unfold whole; rw [HD.out]; exact if_neg hr
      have hr2 : 0 < r.length := by omega
      go_wp2_with fail
      refine leaves_cons (f := 117) (args := #[.pointer (some ⟨B0, 0, none⟩), .pointer (some ⟨B0 + 1, 0, none⟩)]) (by simp) (by simp [go_sem]) ?_
      refine (closeO_panicking B0 (B0 + 1) [] _ _ _ h40 (h5 0) hq4 hqf4 (by omega) (by omega) (by omega)).mono ?_
      rintro e u' w5 ⟨rfl, rfl, hw5⟩
      obtain ⟨g0, gq, g3⟩ := ReadO.bad hB0 hR hb4.out (by omega) h40 hq4 hw5
      have G3 := hidden g3
      clear g3 hw5
      simp [Leaves, settle, results, Try.results90, go_sem, g0, gq]
      exact G3.out
  · have hR : whole tOps.cod bs = none := by unfold whole; rw [h1]; rfl
    clear h1
    go_wp2_with fail
    refine leaves_cons (f := 117) (args := #[.pointer (some ⟨B0, 0, none⟩), .pointer (some ⟨B0 + 1, 0, none⟩)]) (by simp) (by simp [go_sem]) ?_
    refine (closeO_panicking B0 (B0 + 1) [] _ _ _ hx0 (h5 0) hq4 hqf4 (by omega) (by omega) (by omega)).mono ?_
    rintro e u' w5 ⟨rfl, rfl, hw5⟩
    obtain ⟨g0, gq, g3⟩ := ReadO.bad hB0 hR hb4.out (by omega) hx0 hq4 hw5
    have G3 := hidden g3
    clear g3 hw5
    simp [Leaves, settle, results, Try.results90, go_sem, g0, gq]
    exact G3.out


set_option maxRecDepth 100000 in
set_option maxHeartbeats 8000000 in
theorem read_book (a : Option Addr) (len cap : Nat) (bs : List UInt8) (w : World) (h : BytesAt w a bs) (hlen : len = bs.length) (hcap : len ≤ cap) (hc2 : (cap : Int) ≤ 9223372036854775807) (hl : len ≤ 100000000000) (ha : ∀ A, a = some A → A.block < w.heap.size) :
    Calls Try.prog 87 #[.slice a len cap, .func (.func 82) #[] #[]] w (ReadB bs w) := by
  subst hlen
  have hmf : ∀ (fn : Fn) (first cap : Array Value) (w : World), (Instr.makeFunc fn first cap).run Try.prog w = .ok (.func fn first cap) w := fun _ _ _ _ => rfl
  have H := hidden h
  have HA := hidden ha
  clear h ha
  go_enter_defers Try.func87, Try.ntmps87
  go_wp2_with fail
  generalize hw3 : ((w.alloc (.cells #[.slice none 0 0, .slice none 0 0, .slice none 0 0] 68)).alloc (.cells #[.int .i64 0] 31)).alloc (.cells #[.slice none 0 0, .slice a bs.length cap, .bool true] 165) = w3
  obtain ⟨B0, hB0⟩ : ∃ B0, w.heap.size = B0 := ⟨_, rfl⟩
  have hsz : w3.heap.size = B0 + 3 := by subst hw3; simp [World.size_alloc, hB0]
  have hbel : Below w.heap.size w w3 := by
    subst hw3
    exact (((Below.refl _ _).alloc (Nat.le_refl _) _).alloc (by rw [World.size_alloc]; omega) _).alloc (by rw [World.size_alloc, World.size_alloc]; omega) _
  have k0 : w3.heap[B0]? = some (.cells #[.slice none 0 0, .slice none 0 0, .slice none 0 0] 68 (0, 0)) := by
    subst hw3
    have e1 : (w.alloc (.cells #[.slice none 0 0, .slice none 0 0, .slice none 0 0] 68)).heap[B0]? = some (.cells #[.slice none 0 0, .slice none 0 0, .slice none 0 0] 68 (0, 0)) := by rw [← hB0]; exact heap_alloc_new _ _
    have u1 : Upd (fun _ => False) (w.alloc (.cells #[.slice none 0 0, .slice none 0 0, .slice none 0 0] 68)) ((w.alloc (.cells #[.slice none 0 0, .slice none 0 0, .slice none 0 0] 68)).alloc (.cells #[.int .i64 0] 31)) := Upd.new _ _
    have u2 : Upd (fun _ => False) ((w.alloc (.cells #[.slice none 0 0, .slice none 0 0, .slice none 0 0] 68)).alloc (.cells #[.int .i64 0] 31)) (((w.alloc (.cells #[.slice none 0 0, .slice none 0 0, .slice none 0 0] 68)).alloc (.cells #[.int .i64 0] 31)).alloc (.cells #[.slice none 0 0, .slice a bs.length cap, .bool true] 165)) := Upd.new _ _
    rw [u2.block B0 (by simp [World.size_alloc]; omega) (fun h => h), u1.block B0 (by simp [World.size_alloc]; omega) (fun h => h), e1]
  have k1 : w3.heap[B0 + 1]? = some (.cells #[.int .i64 0] 31 (0, 0)) := by
    subst hw3
    have u2 : Upd (fun _ => False) ((w.alloc (.cells #[.slice none 0 0, .slice none 0 0, .slice none 0 0] 68)).alloc (.cells #[.int .i64 0] 31)) (((w.alloc (.cells #[.slice none 0 0, .slice none 0 0, .slice none 0 0] 68)).alloc (.cells #[.int .i64 0] 31)).alloc (.cells #[.slice none 0 0, .slice a bs.length cap, .bool true] 165)) := Upd.new _ _
    rw [u2.block (B0 + 1) (by simp [World.size_alloc]; omega) (fun h => h), ← hB0, show w.heap.size + 1 = (w.alloc (.cells #[.slice none 0 0, .slice none 0 0, .slice none 0 0] 68)).heap.size by rw [World.size_alloc]]
    exact heap_alloc_new _ _
  have k2 : w3.heap[B0 + 2]? = some (.cells #[.slice none 0 0, .slice a bs.length cap, .bool true] 165 (0, 0)) := by
    subst hw3
    rw [← hB0, show w.heap.size + 2 = ((w.alloc (.cells #[.slice none 0 0, .slice none 0 0, .slice none 0 0] 68)).alloc (.cells #[.int .i64 0] 31)).heap.size by rw [World.size_alloc, World.size_alloc]]
    exact heap_alloc_new _ _
  have HQ : w3.cell? ⟨B0 + 1, 0, none⟩ = some (.int .i64 0) := by simp [World.cell?, k1]
  have HQF : w3.frozen? ⟨B0 + 1, 0, none⟩ = false := by simp [World.frozen?, k1]
  have HZ : w3.rangeAt B0 0 tBook.zero := range_block k0
  obtain ⟨bb, hbb, hbne, hba⟩ : ∃ bb, bb < w3.heap.size ∧ bb ≠ B0 + 2 ∧ bb ≠ B0 ∧ (∀ A, a = some A → A.block = bb) := by
    cases a with
    | none => exact ⟨B0 + 1, by omega, by omega, by omega, fun A hA => by cases hA⟩
    | some A => have := HA.out A rfl; exact ⟨A.block, by omega, by omega, by omega, fun A' hA => by cases hA; rfl⟩
  have HC : CodR w3 (B0 + 2) bb bs := ⟨a, cap, k2, H.out.upd (Upd.ofNew (M := fun _ => False) hbel) (fun _ _ h => h), hcap, hc2, hba.2, hbne⟩
  have HB3 := hidden hbel
  have HBB := hba.1
  have HCALL : Hid (Calls Try.prog 82 #[vP (B0 + 2) 0, vP B0 0] w3 (RPost tBook (B0 + 2) B0 0 bb bs w3)) := hidden (book_R (B0 + 2) B0 0 bb bs w3 ⟨HC, hbb, by omega, Ne.symm HBB, ⟨_, _, k0⟩, hl, fun h => h, fun h => h, fun _ h => h.elim⟩ HZ)
  rw [hB0]
  have K0 := hidden k0
  clear hw3 k0 k1 k2 hbel hba HC HZ
  with_reducible refine HCALL.out.mono ?_
  clear HCALL
  rintro e w4 ⟨h7, hst, hcase⟩
  have HU := hidden h7
  have hq4 := h7.cell HQ (by simp)
  have hqf4 := h7.frozen (by omega) HQF (by omega)
  have hs4 := h7.size
  obtain ⟨vs4, e4, s4, -⟩ := hst _ _ K0.out
  have h5 : ∀ i, w4.frozen? ⟨B0, i, none⟩ = false := fun i => by simp [World.frozen?, e4]
  have s4' : vs4.size = 3 := s4
  obtain ⟨x0, hx0⟩ := cell_there e4 (i := 0) (by omega)
  obtain ⟨x1, hx1⟩ := cell_there e4 (i := 1) (by omega)
  obtain ⟨x2, hx2⟩ := cell_there e4 (i := 2) (by omega)
  have hb4 : Hid (Below w.heap.size w w4) := hidden (HB3.out.trans (HU.out.toBelow (by omega) (fun k hk h => by omega)))
  clear h7 hst e4 s4 s4' HQ HQF
  rcases hcase with ⟨xs, r, h1, rfl, h3, vs, hrg, hrep⟩ | ⟨h1, rfl⟩
  · have HD := hidden h1
    have HREP := hidden hrep
    obtain ⟨a', cap', c0, c1, c2, cf, -⟩ := h3.facts
    obtain ⟨b0, m0, d0, b1, m1, d1, b2, m2, d2, rfl⟩ := book_cells hrep
    clear hrep
    have h40 : w4.cell? ⟨B0, 0, none⟩ = some (.slice b0 m0 d0) := hrg 0 _ rfl
    have h41 : w4.cell? ⟨B0, 1, none⟩ = some (.slice b1 m1 d1) := hrg 1 _ rfl
    have h42 : w4.cell? ⟨B0, 2, none⟩ = some (.slice b2 m2 d2) := hrg 2 _ rfl
    clear h1 h3 hrg hx0 hx1 hx2
    by_cases hr : r.length = 0
    · go_wp2_with fail
      have hR : whole tBook.cod bs = some xs := by unfold whole; rw [HD.out]; exact if_pos hr
      refine leaves_cons (f := 114) (args := #[.pointer (some ⟨B0, 0, none⟩), .pointer (some ⟨B0 + 1, 0, none⟩)]) (by simp) (by simp [go_sem]) ?_
      refine (closeB_idle _ _ _).mono ?_
      rintro e u' w5 ⟨rfl, rfl, hw5⟩
      obtain ⟨g0, g1, g2, gq, U⟩ := store3 h40 h41 h42 hq4 (v0 := (.slice b0 m0 d0)) (v1 := (.slice b1 m1 d1)) (v2 := (.slice b2 m2 d2)) (z := .int .i64 0)
      rw [← hw5] at g0 g1 g2 gq U
      have g3 : ReadB bs w (.returned (.tuple #[.agg #[(.slice b0 m0 d0), (.slice b1 m1 d1), (.slice b2 m2 d2)], .int .i64 0])) w5 :=
        ⟨hb4.out.trans (U.toBelow (by omega) (fun k hk h => by omega)), .inl ⟨xs, [(.slice b0 m0 d0), (.slice b1 m1 d1), (.slice b2 m2 d2)], hR, rfl, tBook.mono (tBook.upd HREP.out U (fun k hk h => by omega)) (fun k hk => ⟨by omega, Nat.lt_of_lt_of_le hk.2 U.size⟩)⟩⟩
      have G3 := hidden g3
      clear g3 U hw5
      simp [Leaves, settle, results, Try.results87, go_sem, g0, g1, g2, gq]
      exact G3.out
    · have hR : whole tBook.cod bs = none := by unfold whole; rw [HD.out]; exact if_neg hr
      have hr2 : 0 < r.length := by omega
      go_wp2_with fail
      refine leaves_cons (f := 114) (args := #[.pointer (some ⟨B0, 0, none⟩), .pointer (some ⟨B0 + 1, 0, none⟩)]) (by simp) (by simp [go_sem]) ?_
      refine (closeB_panicking B0 (B0 + 1) [] _ _ _ _ _ h40 h41 h42 h5 hq4 hqf4 (by omega) (by omega) (by omega)).mono ?_
      rintro e u' w5 ⟨rfl, rfl, hw5⟩
      obtain ⟨g0, g1, g2, gq, g3⟩ := ReadB.bad hB0 hR hb4.out (by omega) h40 h41 h42 hq4 hw5
      have G3 := hidden g3
      clear g3 hw5
      simp [Leaves, settle, results, Try.results87, go_sem, g0, g1, g2, gq]
      exact G3.out
  · have hR : whole tBook.cod bs = none := by unfold whole; rw [h1]; rfl
    clear h1
    go_wp2_with fail
    refine leaves_cons (f := 114) (args := #[.pointer (some ⟨B0, 0, none⟩), .pointer (some ⟨B0 + 1, 0, none⟩)]) (by simp) (by simp [go_sem]) ?_
    refine (closeB_panicking B0 (B0 + 1) [] _ _ _ _ _ hx0 hx1 hx2 h5 hq4 hqf4 (by omega) (by omega) (by omega)).mono ?_
    rintro e u' w5 ⟨rfl, rfl, hw5⟩
    obtain ⟨g0, g1, g2, gq, g3⟩ := ReadB.bad hB0 hR hb4.out (by omega) hx0 hx1 hx2 hq4 hw5
    have G3 := hidden g3
    clear g3 hw5
    simp [Leaves, settle, results, Try.results87, go_sem, g0, g1, g2, gq]
    exact G3.out

end Go.Proofs.Ytekmjegeiminnaa

/- ReadOps and ReadBook of the program, walked to their doors. -/
namespace Go.Proofs.Ytekmjegeiminnaa
open Go.RowKit
set_option linter.unusedVariables false
set_option linter.unusedSimpArgs false

set_option maxRecDepth 100000 in
set_option maxHeartbeats 8000000 in
theorem readops_any (a : Option Addr) (len cap : Nat) (bs : List UInt8) (w : World) (h : BytesAt w a bs) (hlen : len = bs.length) (hcap : len ≤ cap) (hc2 : (cap : Int) ≤ 9223372036854775807) (hl : len ≤ 100000000000) (ha : ∀ A, a = some A → A.block < w.heap.size) :
    Calls Try.prog 52 #[.slice a len cap] w (ReadO bs w) := by
  subst hlen
  go_enter Try.func52, Try.ntmps52
  go_wp2_with fail
  with_reducible refine (read_ops a _ cap bs w h rfl hcap hc2 hl ha).mono ?_
  rintro e w1 ⟨hb, ⟨xs, v, hr, rfl, ho⟩ | ⟨hr, rfl⟩⟩
  · have H := hidden (And.intro hb (And.intro hr ho))
    obtain ⟨a0, c0, he, -⟩ := ho
    simp only [List.cons.injEq, and_true] at he
    subst he
    clear hb hr h ha
    go_wp2_with fail
    go_ret2
    exact ⟨H.out.1, .inl ⟨xs, _, H.out.2.1, rfl, H.out.2.2⟩⟩
  · have H := hidden (And.intro hb hr)
    clear hb hr h ha
    go_wp2_with fail
    go_ret2
    exact ⟨H.out.1, .inr ⟨H.out.2, rfl⟩⟩

theorem stored3 {w : World} {b : Nat} {x0 x1 x2 : Value} (h0 : w.cell? ⟨b, 0, none⟩ = some x0) (h1 : w.cell? ⟨b, 1, none⟩ = some x1) (h2 : w.cell? ⟨b, 2, none⟩ = some x2) (v0 v1 v2 : Value) :
    (((w.setCell ⟨b, 0, none⟩ v0).setCell ⟨b, 1, none⟩ v1).setCell ⟨b, 2, none⟩ v2).cell? ⟨b, 0, none⟩ = some v0 ∧ (((w.setCell ⟨b, 0, none⟩ v0).setCell ⟨b, 1, none⟩ v1).setCell ⟨b, 2, none⟩ v2).cell? ⟨b, 1, none⟩ = some v1 ∧ (((w.setCell ⟨b, 0, none⟩ v0).setCell ⟨b, 1, none⟩ v1).setCell ⟨b, 2, none⟩ v2).cell? ⟨b, 2, none⟩ = some v2 := by
  have e0 := World.cell?_setCell_same _ _ v0 h0
  have e1 : (w.setCell ⟨b, 0, none⟩ v0).cell? ⟨b, 1, none⟩ = some x1 := by rw [World.cell?_setCell_other _ _ _ _ (by simp)]; exact h1
  have e2 : (w.setCell ⟨b, 0, none⟩ v0).cell? ⟨b, 2, none⟩ = some x2 := by rw [World.cell?_setCell_other _ _ _ _ (by simp)]; exact h2
  generalize w.setCell ⟨b, 0, none⟩ v0 = w6 at e0 e1 e2 ⊢
  have f0 : (w6.setCell ⟨b, 1, none⟩ v1).cell? ⟨b, 0, none⟩ = some v0 := by rw [World.cell?_setCell_other _ _ _ _ (by simp)]; exact e0
  have f1 := World.cell?_setCell_same _ _ v1 e1
  have f2 : (w6.setCell ⟨b, 1, none⟩ v1).cell? ⟨b, 2, none⟩ = some x2 := by rw [World.cell?_setCell_other _ _ _ _ (by simp)]; exact e2
  generalize w6.setCell ⟨b, 1, none⟩ v1 = w7 at f0 f1 f2 ⊢
  exact ⟨by rw [World.cell?_setCell_other _ _ _ _ (by simp)]; exact f0, by rw [World.cell?_setCell_other _ _ _ _ (by simp)]; exact f1, World.cell?_setCell_same _ _ v2 f2⟩
set_option maxRecDepth 100000 in
set_option maxHeartbeats 8000000 in
theorem readbook_any (a : Option Addr) (len cap : Nat) (bs : List UInt8) (w : World) (h : BytesAt w a bs) (hlen : len = bs.length) (hcap : len ≤ cap) (hc2 : (cap : Int) ≤ 9223372036854775807) (hl : len ≤ 100000000000) (ha : ∀ A, a = some A → A.block < w.heap.size) :
    Calls Try.prog 49 #[.slice a len cap] w (ReadB bs w) := by
  subst hlen
  have hu : Upd (fun _ => False) w (w.alloc (.cells #[.slice none 0 0, .slice none 0 0, .slice none 0 0] 68)) := Upd.new _ _
  have hsz := World.size_alloc w (.cells #[.slice none 0 0, .slice none 0 0, .slice none 0 0] 68)
  have HC := hidden (read_book a _ cap bs (w.alloc (.cells #[.slice none 0 0, .slice none 0 0, .slice none 0 0] 68)) (h.upd hu (fun _ _ h => h)) rfl hcap hc2 hl (fun A hA => by have := ha A hA; omega))
  have hB : Hid (Below w.heap.size w (w.alloc (.cells #[.slice none 0 0, .slice none 0 0, .slice none 0 0] 68))) := hidden ((Below.refl _ _).alloc (Nat.le_refl _) _)
  have HBK : Hid ((w.alloc (.cells #[.slice none 0 0, .slice none 0 0, .slice none 0 0] 68)).heap[w.heap.size]? = some (.cells #[.slice none 0 0, .slice none 0 0, .slice none 0 0] 68 (0, 0))) := hidden (heap_alloc_new _ _)
  have HSZ := hidden hsz
  clear h ha hu hsz
  go_enter Try.func49, Try.ntmps49
  go_wp2_with fail
  with_reducible refine HC.out.mono ?_
  rintro e w1 ⟨hb, hcase⟩
  have hbk1 : w1.heap[w.heap.size]? = some (.cells #[.slice none 0 0, .slice none 0 0, .slice none 0 0] 68 (0, 0)) := (hb.block _ (by rw [HSZ.out]; omega)).trans HBK.out
  have p0 : w1.cell? ⟨w.heap.size, 0, none⟩ = some (.slice none 0 0) := by simp [World.cell?, hbk1]
  have p1 : w1.cell? ⟨w.heap.size, 1, none⟩ = some (.slice none 0 0) := by simp [World.cell?, hbk1]
  have p2 : w1.cell? ⟨w.heap.size, 2, none⟩ = some (.slice none 0 0) := by simp [World.cell?, hbk1]
  have pf : ∀ i, w1.frozen? ⟨w.heap.size, i, none⟩ = false := fun i => by simp [World.frozen?, hbk1]
  have HB1 : Hid (Below w.heap.size w w1) := hidden (hB.out.trans (hb.mono hB.out.size))
  have HLE : Hid (w.heap.size < w1.heap.size) := hidden (by have := hb.size; rw [HSZ.out] at this; omega)
  have HUP : Hid (∀ u0 u1 u2, Upd (fun k => k = w.heap.size) w1 (((w1.setCell ⟨w.heap.size, 0, none⟩ u0).setCell ⟨w.heap.size, 1, none⟩ u1).setCell ⟨w.heap.size, 2, none⟩ u2)) := hidden (fun u0 u1 u2 => ((Upd.set (M := fun k => k = w.heap.size) rfl).trans (Upd.set (M := fun k => k = w.heap.size) rfl) (fun _ _ h => h)).trans (Upd.set (M := fun k => k = w.heap.size) rfl) (fun _ _ h => h))
  have HBE : Hid (∀ u0 u1 u2, Below w.heap.size w (((w1.setCell ⟨w.heap.size, 0, none⟩ u0).setCell ⟨w.heap.size, 1, none⟩ u1).setCell ⟨w.heap.size, 2, none⟩ u2)) := hidden (fun u0 u1 u2 => HB1.out.trans ((HUP.out u0 u1 u2).toBelow HB1.out.size (fun k hk e => by omega)))
  clear hb hbk1
  rcases hcase with ⟨x, vs, hr, rfl, ho⟩ | ⟨hr, rfl⟩
  · obtain ⟨a1, l1, c1, a2, l2, c2, a3, l3, c3, rfl⟩ := book_cells ho
    have HO := hidden ho
    have HR := hidden hr
    obtain ⟨q0, q1, q2⟩ := stored3 p0 p1 p2 (.slice a1 l1 c1) (.slice a2 l2 c2) (.slice a3 l3 c3)
    have Q := hidden (And.intro q0 (And.intro q1 q2))
    clear ho hr q0 q1 q2
    go_wp2_with fail
    obtain ⟨q0, q1, q2⟩ := Q.out
    refine ⟨rfl, .tuple #[.agg #[.slice a1 l1 c1, .slice a2 l2 c2, .slice a3 l3 c3], .int .i64 0], by simp [results, Try.results49, go_sem, q0, q1, q2], ?_⟩
    refine ⟨HBE.out _ _ _, .inl ⟨x, _, HR.out, rfl, ?_⟩⟩
    exact tBook.mono (tBook.upd HO.out (HUP.out _ _ _) (fun k hk e => by have := hk.1; have := HSZ.out; omega)) (fun k hk => ⟨by have := hk.1; have := HSZ.out; omega, Nat.lt_of_lt_of_le hk.2 (HUP.out _ _ _).size⟩)
  · have HR := hidden hr
    obtain ⟨q0, q1, q2⟩ := stored3 p0 p1 p2 (.slice none 0 0) (.slice none 0 0) (.slice none 0 0)
    have Q := hidden (And.intro q0 (And.intro q1 q2))
    clear hr q0 q1 q2
    go_wp2_with fail
    obtain ⟨q0, q1, q2⟩ := Q.out
    refine ⟨rfl, .tuple #[.agg #[.slice none 0 0, .slice none 0 0, .slice none 0 0], .int .i64 12], by simp [results, Try.results49, go_sem, q0, q1, q2], ?_⟩
    exact ⟨HBE.out _ _ _, .inr ⟨HR.out, rfl⟩⟩
end Go.Proofs.Ytekmjegeiminnaa
