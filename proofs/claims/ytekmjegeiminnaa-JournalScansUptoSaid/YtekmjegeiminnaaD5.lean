/- The kinds of values of the program; rows of any kind of value that the calls have made; what the list walks lean on. -/
import Derived.Test.YtekmjegeiminnaaD4
import Derived.Test.YtekmjegeiminnaaB18
namespace Go.Proofs.Ytekmjegeiminnaa
open Go.RowKit
set_option linter.unusedVariables false
set_option linter.unusedSimpArgs false

def tVal : Ty ValD := tPair tInt (tPair tInt tStr)
def tCell : Ty CellD := tPair tInt (tPair tInt tStr)
def tName : Ty NameD := tPair tStr (tPair tStr tStr)
def tLink : Ty LinkD := tPair tStr (tPair tStr (tPair tInt (tPair tInt tVal)))
theorem value_W : WFun 127 none tVal := WRun.fn (WRun.pair num_W.run (WRun.pair num_W.run text_W.run)) (fun c pb po Q w hc hp h => value_run c pb po Q w hc hp h)
theorem value_R : RFun 127 none tVal := RRun.fn (RRun.pair num_R.run (RRun.pair num_R.run text_R.run)) (fun c pb po Q w hc hp h => value_run c pb po Q w hc hp h)
theorem cell_W : WFun 124 none tCell := WRun.fn (WRun.pair num_W.run (WRun.pair num_W.run text_W.run)) (fun c pb po Q w hc hp h => cell_run c pb po Q w hc hp h)
theorem cell_R : RFun 124 none tCell := RRun.fn (RRun.pair num_R.run (RRun.pair num_R.run text_R.run)) (fun c pb po Q w hc hp h => cell_run c pb po Q w hc hp h)
theorem name_W : WFun 110 none tName := WRun.fn (WRun.pair text_W.run (WRun.pair text_W.run text_W.run)) (fun c pb po Q w hc hp h => name_run c pb po Q w hc hp h)
theorem name_R : RFun 110 none tName := RRun.fn (RRun.pair text_R.run (RRun.pair text_R.run text_R.run)) (fun c pb po Q w hc hp h => name_run c pb po Q w hc hp h)
theorem link_W : WFun 112 none tLink := WRun.fn (WRun.pair text_W.run (WRun.pair text_W.run (WRun.pair num_W.run (WRun.pair num_W.run value_W.run)))) (fun c pb po Q w hc hp h => link_run c pb po Q w hc hp h)
theorem link_R : RFun 112 none tLink := RRun.fn (RRun.pair text_R.run (RRun.pair text_R.run (RRun.pair num_R.run (RRun.pair num_R.run value_R.run)))) (fun c pb po Q w hc hp h => link_run c pb po Q w hc hp h)

theorem Upd.setCells {M : Nat → Prop} {b : Nat} (hm : M b) : ∀ (vs : List Value) (o : Nat) (w : World), Upd M w (w.setCells b o vs)
  | [], _, w => Upd.refl _ _
  | v :: r, o, w => (Upd.set (a := ⟨b, o, none⟩) hm).trans (Upd.setCells hm r (o + 1) (w.setCell ⟨b, o, none⟩ v)) (fun _ _ h => h)
theorem there_new (w : World) (vs : Array Value) (t : TypeId) : (w.alloc (.cells vs t)).there w.heap.size 0 vs.size := fun j hj => by
  refine ⟨?_, frozen_new _ _ _ _⟩
  rw [Nat.zero_add, World.cell?_alloc_at _ _ _ _ rfl]
  simp [hj]
/-- A fresh variable that holds these cells. -/
theorem fresh_new {w : World} {vs : Array Value} {t : TypeId} {us : List Value} : Upd (fun _ => False) w ((w.alloc (.cells vs t)).setCells w.heap.size 0 us) :=
  ((Upd.new (M := fun k => k = w.heap.size) w _).trans (Upd.setCells (M := fun k => k = w.heap.size) rfl us 0 _) (fun _ _ h => h)).mono (fun i hi h => by omega)
theorem row_of {ty n : Nat} (h : ((Try.prog.underlying ty).map TypeDesc.isRow, (Try.prog.info? ty).map (·.size)) = (some true, some n)) : ∃ d, Try.prog.underlying ty = some d ∧ d.isRow = true ∧ (Try.prog.info? ty).map (·.size) = some n := by
  obtain ⟨h1, h2⟩ := Prod.mk.inj h
  cases hu : Try.prog.underlying ty with
  | none => rw [hu] at h1; cases h1
  | some d => rw [hu] at h1; exact ⟨d, rfl, by simpa using h1, h2⟩
theorem encM_take_le {α : Type} (A : Cod α) (xs : List α) (k : Nat) : (encM A (xs.take k)).length ≤ (encM A xs).length := by
  conv => rhs; rw [← List.take_append_drop k xs, encM_append, List.length_append]
  omega
/-- An item of a list is written out of a fresh variable. -/
theorem item_w {α : Type} {T : Ty α} {f : Nat} (hf : WFun f none T) {c : Nat} {v : Value} {bs : List UInt8} {x : α} {w : World} {us : List Value} (hc : CodW w c v) (ho : OwnB (c + 1) w v bs) (hr : T.rep (· < c) w us x) (hok : T.cod.ok x)
    (hl : bs.length + (T.cod.enc x).length ≤ 140737488354000) (vs : Array Value) (t : TypeId) (hvs : vs.size = T.sz) :
    Calls Try.prog f #[vP c 0, vP w.heap.size 0] ((w.alloc (.cells vs t)).setCells w.heap.size 0 us) fun e w' => e = unitE ∧ ∃ v2, Wrote c v v2 (bs ++ T.cod.enc x) w w' := by
  have hu : Upd (fun _ => False) w ((w.alloc (.cells vs t)).setCells w.heap.size 0 us) := fresh_new
  have hlt : w.heap.size < ((w.alloc (.cells vs t)).setCells w.heap.size 0 us).heap.size := by
    have := (Upd.setCells (M := fun _ => True) (b := w.heap.size) trivial us 0 (w.alloc (.cells vs t))).size
    rw [World.size_alloc] at this; omega
  have hcl := hc.lt
  refine (hf c w.heap.size 0 v bs x _ ⟨hc.upd hu (fun h => h), ho.on hu (fun _ _ h => h), ⟨by omega, fun k hk => by have := (ho.lt k hk).2; omega⟩, hlt, fun h => h, fun _ _ h => h, fun _ h => h.elim⟩ ⟨us, ?_, T.upd hr hu (fun _ _ h => h)⟩ hok hl).mono ?_
  · refine World.rangeAt_setCells_same _ _ _ _ ?_
    rw [T.len hr, ← hvs]; exact there_new w vs t
  · rintro e w' ⟨rfl, v2, h⟩
    exact ⟨rfl, v2, Wrote.ahead hu h⟩

/-! ### Rows of values that the calls have made -/
def OwnT {α : Type} (A : Ty α) (ety : TypeId) (B : Nat) (w : World) (v : Value) (xs : List α) : Prop :=
  ∃ cells, w.ownsRow B ety A.sz v xs.length cells ∧ ∀ i (hi : i < xs.length), A.rep (fun k => B ≤ k ∧ k < w.heap.size ∧ some k ≠ v.ownBlock) w ((cells.drop (i * A.sz)).take A.sz) xs[i]
theorem OwnT.nil {α : Type} (A : Ty α) (ety : TypeId) (B : Nat) (w : World) : OwnT A ety B w (.slice none 0 0) [] := ⟨[], World.ownsRow_nil _ _ _ _, fun i hi => by simp at hi⟩
theorem OwnT.lt {α : Type} {A : Ty α} {ety : TypeId} {B : Nat} {w : World} {v : Value} {xs : List α} (h : OwnT A ety B w v xs) : ∀ k, v.ownBlock = some k → B ≤ k ∧ k < w.heap.size := by
  obtain ⟨cells, h, -⟩ := h; exact World.ownsRow.lt h
theorem OwnT.on {α : Type} {A : Ty α} {ety : TypeId} {B : Nat} {M : Nat → Prop} {w w' : World} {v : Value} {xs : List α} (h : OwnT A ety B w v xs) (hu : Upd M w w') (hm : ∀ k, B ≤ k → k < w.heap.size → ¬ M k) : OwnT A ety B w' v xs := by
  have hlt := h.lt
  obtain ⟨cells, h, hx⟩ := h
  refine ⟨cells, ⟨h.1, ?_⟩, fun i hi => A.mono (A.upd (hx i hi) hu (fun k hk => hm k hk.1 hk.2.1)) (fun k hk => ⟨hk.1, Nat.lt_of_lt_of_le hk.2.1 hu.size, hk.2.2⟩)⟩
  rcases h.2 with hn | ⟨g, cap, cur, rfl, hb, hgg, rest⟩
  · exact .inl hn
  · exact .inr ⟨g, cap, cur, rfl, hb, by rw [hu.block g (Array.getElem?_eq_some_iff.1 hgg).1 (hm g hb (Array.getElem?_eq_some_iff.1 hgg).1)]; exact hgg, rest⟩
/-- What an append leaves. -/
structure GrewT {α : Type} (A : Ty α) (ety : TypeId) (B : Nat) (v v' : Value) (xs : List α) (w w' : World) : Prop where
  own : OwnT A ety B w' v' xs
  upd : Upd (fun k => some k = v.ownBlock) w w'
  at_ : v'.ownBlock = v.ownBlock ∨ ∃ g, v'.ownBlock = some g ∧ w.heap.size ≤ g
theorem run_append_T {α : Type} {A : Ty α} {w : World} {t ty ety : TypeId} {i0 : TypeInfo} {z : Value} {bytes : Nat} (ht : Try.prog.underlying t = some (.slice ety)) (hi : Try.prog.info? ety = some i0) (hz0 : i0.zero = some z) (hz1 : i0.size = A.sz) (hz2 : i0.bytes = bytes) (hzs : z.cells.size = A.sz) (hsz : 0 < A.sz)
    {B : Nat} {v : Value} {xs : List α} {x : α} (ho : OwnT A ety B w v xs) {b c : Nat} {us : List Value} (hr : w.rangeAt b 0 us) (hx : A.rep (fun k => B ≤ k ∧ k < w.heap.size ∧ some k ≠ v.ownBlock) w us x)
    (hl : xs.length ≤ 1000000000000) (hlb : (xs.length + 1) * bytes ≤ 140737488355328) (hB : B ≤ w.heap.size) :
    ∃ v' w', (Builtin.append_ #[t, t] ty #[v, .slice (some ⟨b, 0, none⟩) 1 c]).run Try.prog w = .ok v' w' ∧ GrewT A ety B v v' (xs ++ [x]) w w' := by
  have hlt := ho.lt
  obtain ⟨cells, ho, hreps⟩ := ho
  have hul := A.len hx
  obtain ⟨v', w', hrun, h2, h3, _, h5⟩ := run_append_own_at (P := Try.prog) w B t ty ety i0 z A.sz bytes ht hi hz0 hz1 hz2 hzs hsz v xs.length cells ho ⟨b, 0, none⟩ 1 c us
      (by omega) (fun j u hj => by rw [Addr.add_mid]; exact hr j u hj) (A.one hx) (by unfold maxLen; omega) hlb hB
  have hg : Upd (fun k => some k = v.ownBlock) w w' := Upd.ofGrown h3
  have hcl : cells.length = xs.length * A.sz := ho.1
  have hS : ∀ k, (B ≤ k ∧ k < w.heap.size ∧ some k ≠ v.ownBlock) → (B ≤ k ∧ k < w'.heap.size ∧ some k ≠ v'.ownBlock) := fun k hk => by
    refine ⟨hk.1, Nat.lt_of_lt_of_le hk.2.1 hg.size, ?_⟩
    rcases h5 with e | e
    · rw [e]; exact hk.2.2
    · rw [e]; intro e'; cases e'; omega
  refine ⟨v', w', hrun, ⟨⟨cells ++ us, by rw [List.length_append]; exact h2, fun i hi => ?_⟩, hg, ?_⟩⟩
  · by_cases hin : i < xs.length
    · have h1 : i * A.sz + A.sz ≤ cells.length := by
        rw [hcl]
        have := Nat.mul_le_mul_right A.sz (show i + 1 ≤ xs.length by omega)
        rw [Nat.add_mul, Nat.one_mul] at this; exact this
      rw [List.drop_append_of_le_length (by omega), List.take_append_of_le_length (by rw [List.length_drop]; omega), List.getElem_append_left hin]
      exact A.mono (A.upd (hreps i hin) hg (fun k hk => fun e => hk.2.2 e)) hS
    · have hin' : i = xs.length := by simp at hi; omega
      subst hin'
      rw [← hcl, List.drop_left, List.take_of_length_le (by omega), List.getElem_append_right (Nat.le_refl _)]
      simp only [Nat.sub_self, List.getElem_cons_zero]
      exact A.mono (A.upd hx hg (fun k hk => fun e => hk.2.2 e)) hS
  · rcases h5 with h5 | h5
    · exact .inl h5
    · exact .inr ⟨_, h5, Nat.le_refl _⟩
theorem step_append_T {α : Type} {A : Ty α} {ops : Array Oper} {o : Oper} {a : Act} {K : Act → World → Prop} {Q : Exit → Act → World → Prop} {E : Prop} {w : World} (hgd : o.guard = none) (s y : Operand) (t : TypeId)
    (hop : o.op = .call { callee := .builtin .append, args := #[s, y], argTypes := #[t, t] })
    {ety : TypeId} {i0 : TypeInfo} {z : Value} {bytes : Nat} (ht : Try.prog.underlying t = some (.slice ety)) (hi : Try.prog.info? ety = some i0) (hz0 : i0.zero = some z) (hz1 : i0.size = A.sz) (hz2 : i0.bytes = bytes) (hzs : z.cells.size = A.sz) (hsz : 0 < A.sz)
    {B : Nat} {v : Value} {xs : List α} {x : α} (hs : a.eval s = v) (ho : OwnT A ety B w v xs) {b c : Nat} (hy : a.eval y = .slice (some ⟨b, 0, none⟩) 1 c) {us : List Value} (hr : w.rangeAt b 0 us) (hx : A.rep (fun k => B ≤ k ∧ k < w.heap.size ∧ some k ≠ v.ownBlock) w us x)
    (hl : xs.length ≤ 1000000000000) (hlb : (xs.length + 1) * bytes ≤ 140737488355328) (hB : B ≤ w.heap.size) (h : ∀ v' w', GrewT A ety B v v' (xs ++ [x]) w w' → K (a.put o.dst v') w') :
    if Region.wanted o (yielded ops a.tmps) = true then Oper.wp Try.prog o a w K Q else E := by
  have hw : Region.wanted o (yielded ops a.tmps) = true := by simp [Region.wanted, hgd]
  rw [if_pos hw]
  obtain ⟨v', w', hrun, hg⟩ := run_append_T (ty := o.type) ht hi hz0 hz1 hz2 hzs hsz ho (c := c) hr hx hl hlb hB
  unfold Oper.wp execOp
  simp only [hop, resolve, invoke, builtin, Sem.run_bind, Sem.run_pure, Result.andThen_ok, List.map_toArray, List.map_cons, List.map_nil, hs, hy, hrun]
  exact h v' w' hg
/-- A row of the calls' own is a slice. -/
theorem OwnT.is {α : Type} {A : Ty α} {ety : TypeId} {B : Nat} {w : World} {v : Value} {xs : List α} (h : OwnT A ety B w v xs) : ∃ a cap, v = .slice a xs.length cap := by
  obtain ⟨cells, h, -⟩ := h
  rcases h.2 with ⟨rfl, hn⟩ | ⟨g, cap, cur, rfl, -⟩
  · exact ⟨none, 0, by rw [hn]⟩
  · exact ⟨_, _, rfl⟩
/-- .. and reads as its values. -/
theorem OwnT.rep {α : Type} {A : Ty α} {ety : TypeId} {B : Nat} {w : World} {v : Value} {xs : List α} (h : OwnT A ety B w v xs) : (tList A).rep (fun k => B ≤ k ∧ k < w.heap.size) w [v] xs := by
  have hlt := h.lt
  obtain ⟨a, cap, hv⟩ := h.is
  obtain ⟨cells, h, hx⟩ := h
  have hcl : cells.length = xs.length * A.sz := h.1
  refine ⟨a, cap, by rw [hv], ?_, own_cap h hv, fun i hi => ?_⟩
  · rcases h.2 with ⟨e, hn⟩ | ⟨g, c', cur, e, _, _, hc, _⟩
    · omega
    · rw [hv] at e; cases e; exact hc
  · rcases h.2 with ⟨e, hn⟩ | ⟨g, c', cur, e, hb, hgg, _⟩
    · omega
    · rw [hv] at e; cases e
      refine ⟨g, 0, _, rfl, hlt g (by rw [hv]; rfl), fun j u hj => ?_, A.mono (hx i hi) (fun k hk => ⟨hk.1, hk.2.1⟩)⟩
      rw [List.getElem?_take] at hj
      split at hj
      · rename_i hjs
        rw [List.getElem?_drop] at hj
        have := World.ownsRow.cells (g := g) (hv ▸ h) rfl _ _ hj
        rw [Addr.add_mid] at this
        rw [Nat.add_assoc]; exact this
      · cases hj

/-! ### A list that is being read -/
structure ListT {α : Type} (A : Ty α) (ety : TypeId) (w : World) (c pb po bb : Nat) (xs : List α) (cur : List UInt8) (v : Value) (wr : World) : Prop where
  cod : CodR wr c bb cur
  cell : wr.cell? ⟨pb, po, none⟩ = some v
  stay : Stay w wr pb po 1
  own : OwnT A ety w.heap.size wr v xs
  upd : Upd (fun k => k = c ∨ k = pb) w wr
/-- Behind the read of an item into a fresh variable, its append and the store of the slice. -/
theorem ListT.step {α : Type} {A : Ty α} {ety : TypeId} {w w2 w3 : World} {c pb po bb : Nat} {xs ys : List α} {cur : List UInt8} {v v3 : Value} (hc : c < w.heap.size) (hb : bb < w.heap.size) (hp : pb < w.heap.size) (hpc : pb ≠ c) (hpb : pb ≠ bb)
    (h : ListT A ety w c pb po bb xs cur v w2) (g : GrewT A ety w.heap.size v v3 ys w2 w3) : ListT A ety w c pb po bb ys cur v3 (w3.setCell ⟨pb, po, none⟩ v3) := by
  have hs : Upd (fun k => k = pb) w3 (w3.setCell ⟨pb, po, none⟩ v3) := Upd.set rfl
  have hn : ∀ k, k < w.heap.size → ¬ some k = v.ownBlock := fun k hk e => by have := (h.own.lt k e.symm).1; omega
  refine ⟨(h.cod.upd g.upd (hn _ hc) (hn _ hb)).upd hs (by omega) (by omega), World.cell?_setCell_same _ _ _ (g.upd.cell h.cell (hn _ hp)), ?_, g.own.on hs (fun k hk hk2 e => by omega), ?_⟩
  · have s1 := Stay.of (g.upd.block pb (Nat.lt_of_lt_of_le hp h.upd.size) (hn _ hp)) po 1
    exact (h.stay.trans s1 ⟨Nat.le_refl _, Nat.le_refl _⟩ ⟨Nat.le_refl _, Nat.le_refl _⟩).trans (stay_set _ _ _ _) ⟨Nat.le_refl _, Nat.le_refl _⟩ ⟨Nat.le_refl _, Nat.le_refl _⟩
  · exact (h.upd.trans g.upd (fun i hi e => (hn i hi e).elim)).trans hs (fun i _ e => .inr e)
theorem ListT.on {α : Type} {A : Ty α} {ety : TypeId} {w w2 w3 : World} {c pb po bb : Nat} {xs : List α} {cur cur' : List UInt8} {v : Value} (hp : pb < w.heap.size) (hpc : pb ≠ c) (hc : c < w.heap.size)
    (h : ListT A ety w c pb po bb xs cur v w2) (g : Upd (fun k => k = c) w2 w3) (hcod : CodR w3 c bb cur') : ListT A ety w c pb po bb xs cur' v w3 :=
  ⟨hcod, g.cell h.cell hpc, h.stay.trans (Stay.of (g.block pb (Nat.lt_of_lt_of_le hp h.upd.size) hpc) po 1) ⟨Nat.le_refl _, Nat.le_refl _⟩ ⟨Nat.le_refl _, Nat.le_refl _⟩, h.own.on g (fun k hk _ e => by omega), h.upd.trans g (fun _ _ e => .inl e)⟩
/-- An item of a list is read into a fresh variable. -/
theorem item_r {α : Type} {T : Ty α} {f : Nat} (hf : RFun f none T) {c bb : Nat} {rs : List UInt8} {w : World} (hc : CodR w c bb rs) (hb : bb < w.heap.size) (hl : rs.length ≤ 100000000000) (t : TypeId) :
    Calls Try.prog f #[vP c 0, vP w.heap.size 0] (w.alloc (.cells T.zero.toArray t)) fun e w' =>
      Upd (fun k => k = c) w w' ∧ ((∃ x r us, T.cod.dec rs = some (x, r) ∧ e = unitE ∧ CodR w' c bb r ∧ w.heap.size < w'.heap.size ∧ w'.rangeAt w.heap.size 0 us ∧ T.rep (fun k => w.heap.size < k ∧ k < w'.heap.size) w' us x) ∨ (T.cod.dec rs = none ∧ e = .panicked wrongP)) := by
  have hcl := hc.lt
  have hu : Upd (fun _ => False) w (w.alloc (.cells T.zero.toArray t)) := Upd.new _ _
  have hsz := World.size_alloc w (.cells T.zero.toArray t)
  refine (hf c w.heap.size 0 bb rs _ ⟨hc.upd hu (fun h => h) (fun h => h), by omega, by omega, by omega, ⟨_, t, heap_alloc_new _ _⟩, hl, fun h => h, fun h => h, fun _ h => h.elim⟩ (fun j v hv => ?_)).mono ?_
  · rw [Nat.zero_add, World.cell?_alloc_at _ _ _ _ rfl]; simpa using hv
  · rintro e w' ⟨h1, -, h2⟩
    have hU : Upd (fun k => k = c) w w' := ((hu.mono (N := fun k => k = c ∨ k = w.heap.size) (fun _ _ h => h.elim)).trans h1 (fun _ _ h => h)).mono (fun i hi h => h.elim (fun h => h) (fun h => by omega))
    have hs1 := h1.size
    refine ⟨hU, ?_⟩
    rcases h2 with ⟨x, r, h3, h4, h5, us, h6, h7⟩ | h2
    · exact .inl ⟨x, r, us, h3, h4, h5, by omega, h6, T.mono h7 (fun k hk => ⟨by omega, hk.2⟩)⟩
    · exact .inr h2
end Go.Proofs.Ytekmjegeiminnaa
