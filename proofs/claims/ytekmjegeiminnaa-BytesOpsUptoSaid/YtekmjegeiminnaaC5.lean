/- A slice of bytes that began as a constant's; appends onto it. What Write answers. -/
import Derived.Test.YtekmjegeiminnaaC4
import Derived.Lib.SlBytesConst
namespace Go.Proofs.Ytekmjegeiminnaa
open Go.RowKit
set_option linter.unusedVariables false
set_option linter.unusedSimpArgs false

def magicL : List UInt8 := [79, 67, 84, 65, 86, 79, 49, 10]
def dirOne (c : Chk) : List UInt8 := c.1 ++ le4 c.2.length ++ le4 (crc32 c.2)
def dirL (l : List Chk) : List UInt8 := (l.map dirOne).flatten
def dataL (l : List Chk) : List UInt8 := (l.map (·.2)).flatten
def writeL (l : List Chk) : List UInt8 := magicL ++ dataL l ++ frameL (dirL l) ++ le4 (frameL (dirL l)).length
theorem dirL_snoc (l : List Chk) (c : Chk) : dirL (l ++ [c]) = dirL l ++ dirOne c := by simp [dirL]
theorem dataL_snoc (l : List Chk) (c : Chk) : dataL (l ++ [c]) = dataL l ++ c.2 := by simp [dataL]
theorem dataL_length (l : List Chk) : (dataL l).length = total l := by
  induction l with
  | nil => rfl
  | cons c r ih => simp only [dataL, total, List.map_cons, List.flatten_cons, List.length_append, List.sum_cons] at ih ⊢; omega
/-- What Write answers. -/
def WriteA (l : List Chk) (w : World) (e : Ending) (w' : World) : Prop :=
  Below w.heap.size w w' ∧ ∃ v, e = .returned (.tuple #[v, .int .i64 (mayE l : Nat)]) ∧ OwnB w.heap.size w' v (if mayE l = 0 then writeL l else [])
theorem may_zero {l : List Chk} (h : mayE l = 0) : goodAll l = true ∧ dupB (tags l) = false ∧ l.length ≤ 32 ∧ total l ≤ 131072 := by
  unfold mayE at h
  split at h
  · cases h
  · rename_i h1
    split at h
    · cases h
    · rename_i h2
      split at h
      · cases h
      · rename_i h3
        exact ⟨by simpa using h1, by simpa using h2, by omega, by omega⟩
theorem good_len {l : List Chk} (h : goodAll l = true) {c : Chk} (hc : c ∈ l) : c.1.length = 4 := by
  unfold goodAll at h
  rw [List.all_eq_true] at h
  have := h c hc
  unfold goodB at this
  rw [Bool.and_eq_true] at this
  exact of_decide_eq_true this.1
theorem dirOne_length {c : Chk} (h : c.1.length = 4) : (dirOne c).length = 12 := by simp [dirOne, h, le4_length]
theorem dirL_length : ∀ {l : List Chk}, (∀ c ∈ l, c.1.length = 4) → (dirL l).length = 12 * l.length
  | [], _ => rfl
  | c :: r, h => by
    have := dirL_length (l := r) (fun x hx => h x (List.mem_cons_of_mem _ hx))
    have h1 := dirOne_length (h c (List.mem_cons_self ..))
    simp only [dirL, List.map_cons, List.flatten_cons, List.length_append, List.length_cons] at this ⊢
    omega
theorem total_take_le (l : List Chk) (k : Nat) : total (l.take k) ≤ total l := by
  have : total (l.take k ++ l.drop k) = total (l.take k) + total (l.drop k) := by
    unfold total; rw [List.map_append, List.sum_append]
  rw [List.take_append_drop] at this
  omega

/-- The slice v owns these bytes; or it is yet the constant's own, whose block bears a mark. -/
def MOwn (B : Nat) (w : World) (v : Value) (bs : List UInt8) : Prop :=
  OwnB B w v bs ∨ (bs = magicL ∧ ∃ g, v = .slice (some ⟨g, 0, none⟩) 8 8 ∧ B ≤ g ∧ w.heap[g]? = some (.cells (byteVs magicL).toArray 5 (8, 9)))
theorem MOwn.lt {B : Nat} {w : World} {v : Value} {bs : List UInt8} (h : MOwn B w v bs) : ∀ k, v.ownBlock = some k → B ≤ k ∧ k < w.heap.size := by
  rcases h with h | ⟨_, g, rfl, hb, hh⟩
  · exact h.lt
  · intro k hk
    simp [Value.ownBlock] at hk
    subst hk
    exact ⟨hb, (Array.getElem?_eq_some_iff.1 hh).1⟩
theorem MOwn.on {B : Nat} {M : Nat → Prop} {w w' : World} {v : Value} {bs : List UInt8} (h : MOwn B w v bs) (hu : Upd M w w') (hm : ∀ k, v.ownBlock = some k → ¬ M k) : MOwn B w' v bs := by
  rcases h with h | ⟨e, g, rfl, hb, hh⟩
  · exact .inl (h.on hu hm)
  · exact .inr ⟨e, g, rfl, hb, by rw [hu.block g (Array.getElem?_eq_some_iff.1 hh).1 (hm g rfl)]; exact hh⟩
/-- What such an append leaves. -/
structure MGrew (B : Nat) (v v' : Value) (bs cs : List UInt8) (w w' : World) : Prop where
  own : MOwn B w' v' (bs ++ cs)
  own' : cs ≠ [] → OwnB B w' v' (bs ++ cs)
  upd : Upd (fun k => some k = v.ownBlock) w w'
  at_ : v'.ownBlock = v.ownBlock ∨ ∃ g, v'.ownBlock = some g ∧ w.heap.size ≤ g
theorem run_append_M {w : World} {ty : TypeId} {B : Nat} {v : Value} {bs cs : List UInt8} (ho : MOwn B w v bs) {A : Option Addr} {m c : Nat} (hm : m = cs.length) (hr : BytesAt w A cs) (hl : bs.length + cs.length ≤ 140737488355328) (hB : B ≤ w.heap.size) :
    ∃ v' w', (Builtin.append_ #[22, 22] ty #[v, .slice A m c]).run Try.prog w = .ok v' w' ∧ MGrew B v v' bs cs w w' := by
  rcases ho with ho | ⟨e, g, rfl, hb, hh⟩
  · obtain ⟨v', w', hrun, hg⟩ := run_append_B (ty := ty) ho (c := c) hm hr hl hB
    exact ⟨v', w', hrun, .inl hg.own, fun _ => hg.own, hg.upd, hg.at_⟩
  · subst e
    subst hm
    obtain ⟨i0, hi, hz0, hz1, hz2⟩ := info_parts Try.info5
    by_cases hn : cs = []
    · subst hn
      refine ⟨_, w, ?_, .inr ⟨by simp, g, rfl, hb, hh⟩, fun h => (h rfl).elim, Upd.refl _ _, .inl rfl⟩
      cases A with
      | none => simp [Builtin.append_, run_underlying Try.underlying22, sizeOf, typeInfo, hi, Builtin.lenOf, Builtin.firstCells, loadCells, loadCellsFrom, storeCells]
      | some A => simp [Builtin.append_, run_underlying Try.underlying22, sizeOf, typeInfo, hi, Builtin.lenOf, Builtin.firstCells, loadCells, loadCellsFrom, storeCells]
    · have hp : 0 < cs.length := List.length_pos_iff.2 hn
      obtain ⟨b, o, rfl, -⟩ := hr 0 hp
      have holds : ∀ j u, (byteVs magicL)[j]? = some u → w.cell? ((⟨g, 0, none⟩ : Addr).add j) = some u := by
        intro j u hj
        have hadd : (⟨g, 0, none⟩ : Addr).add j = ⟨g, j, none⟩ := by unfold Addr.add; split <;> simp_all
        rw [hadd, cell_of_row w g j _ _ _ hh]
        simpa using hj
      have hrr := run_append_grow (P := Try.prog) w 22 ty 5 i0 (.int .u8 0) Try.underlying22 hi hz0 ⟨g, 0, none⟩ 8 8 (byteVs magicL) (by rw [hz1]; rfl) holds ⟨b, o, none⟩ cs.length c (byteVs cs) (by rw [byteVs_length, hz1, Nat.mul_one]) hr.news (by omega) (by simp [magicL] at hl; omega) (growslice_fits (by omega) (by rw [hz2]; simp [magicL] at hl; omega))
      have hgc := grownCap_ge w (8 + cs.length) 8 5
      have hO : OwnB B (w.drew.alloc (.cells ((byteVs magicL).toArray ++ (byteVs cs).toArray ++ Builtin.zeroCells (Value.int .u8 0).cells (grownCap w (8 + cs.length) 8 5 - (8 + cs.length))) 5)) (.slice (some ⟨w.heap.size, 0, none⟩) (8 + cs.length) (grownCap w (8 + cs.length) 8 5)) (magicL ++ cs) := by
        unfold OwnB
        have h8 : magicL.length = 8 := rfl
        rw [List.length_append, byteVs_append, h8]
        refine ⟨by simp [byteVs_length, h8], .inr ⟨w.heap.size, _, _, rfl, hB, heap_alloc_new w.drew _, hgc, grownCap_le_maxLen w _ _ _ (by simp [magicL] at hl; unfold maxLen; omega), ?_, ?_⟩⟩
        · have hz1 : (Value.int IntKind.u8 0).cells.size = 1 := rfl
          simp only [Array.size_append, List.size_toArray, size_zeroCells, hz1, byteVs_length, h8]
          omega
        · simp only [Array.toList_append]
          rw [show (8 + cs.length) * 1 = (byteVs magicL ++ byteVs cs).length by simp [byteVs_length, h8]]
          exact List.take_left
      exact ⟨_, _, hrr, .inl hO, fun _ => hO, ⟨rfl, rfl, rfl, by simp, fun k hk _ => heap_alloc_old w.drew _ hk⟩, .inr ⟨w.heap.size, rfl, Nat.le_refl _⟩⟩
theorem wpList_append_M {ops : Array Oper} {rest : List Oper} {o : Oper} {a : Act} {Q : Exit → Act → World → Prop} {w : World} (hgd : o.guard = none) (s x : Operand)
    (hop : o.op = .call { callee := .builtin .append, args := #[s, x], argTypes := #[22, 22] })
    {B : Nat} {v : Value} {bs cs : List UInt8} (hs : a.eval s = v) (ho : MOwn B w v bs) {A : Option Addr} {m c : Nat} (hx : a.eval x = .slice A m c) (hm : m = cs.length) (hr : BytesAt w A cs)
    (hl : bs.length + cs.length ≤ 140737488355328) (hB : B ≤ w.heap.size) (h : ∀ v' w', MGrew B v v' bs cs w w' → wpList Try.prog ops Q rest (a.put o.dst v') w') : wpList Try.prog ops Q (o :: rest) a w :=
  wpList_plain hgd fun _ hK => by
    obtain ⟨v', w', hrun, hg⟩ := run_append_M (ty := o.type) ho (c := c) hm hr hl hB
    unfold Oper.wp execOp
    simp only [hop, resolve, invoke, builtin, Sem.run_bind, Sem.run_pure, Result.andThen_ok, List.map_toArray, List.map_cons, List.map_nil, hs, hx, hrun]
    exact hK _ _ (h v' w' hg)
end Go.Proofs.Ytekmjegeiminnaa
