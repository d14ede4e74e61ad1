/- ShiftCells returns true for every input, and leaves its arguments as they were; no condition. -/
import Derived.Test.YtbaejlmpoflogaaW6
import Derived.Test.YtbaejlmpoflogaaK1
import Derived.Deep.Slices
import Derived.Deep.Fields
import Derived.ChangeSame
import Derived.SizedLaws
namespace Go.Proofs.Ytbaejlmpoflogaa
open Go.ChangeShapes Go.WideShapes Go.ChangeAt Go.RowKit Go.Deep
set_option linter.unusedVariables false
set_option linter.unusedSimpArgs false

section
variable {H : Type} {enc : TypeId × Value → H} {P : Program} {w : World} {base : Nat} {spare : Nat → Bool} {held : Bool}
theorem open_slice_fields {t e : TypeId} {fs : Array Field} {fuel : Nat} {cs : List Value} {x : DataW H × List MemPlace} (ht : P.underlying t = some (.slice e)) (he : P.underlying e = some (.struct fs))
    (hone : oneCellFields P fs = true) (hC : P.cellsOf e = fs.size) (h : DataW.trod enc P w base spare held fuel t cs = some x) :
    (cs = [.slice none 0 0] ∧ x = (.nil, [])) ∨
    ∃ (a : Addr) (len cap m : Nat) (D : Nat → DataW H) (Pl : Nat → List MemPlace), cs = [.slice (some a) len cap] ∧ base ≤ a.block ∧ len ≤ cap ∧ cap ≤ maxLen ∧ m = (if spare a.block then cap else len) ∧
      x = (.slice ((List.range len).map D) ((List.range (m - len)).map fun j => D (len + j)), MemPlace.row a (m * fs.size) ++ (List.range m).flatMap Pl) ∧
      ∀ i, i < m → ∃ (ys : List (DataW H × List MemPlace)) (n : Nat), D i = .agg (ys.map (·.1)) ∧ Pl i = ys.flatMap (·.2) ∧ ys.length = fs.size ∧
        ∀ (j : Nat) (f : Field), fs[j]? = some f → ∃ (v : Value) (y : DataW H × List MemPlace), w.cell? (a.add (i * fs.size + j)) = some v ∧ ys[j]? = some y ∧ DataW.trod enc P w base spare held n f.type [v] = some y := by
  rcases open_slice ht h with h0 | ⟨a, len, cap, m, n, D, Pl, hcs, hb, hl, hm, hmm, hx, hi⟩
  · exact .inl h0
  · refine .inr ⟨a, len, cap, m, D, Pl, hcs, hb, hl, hm, hmm, by rw [hC] at hx; exact hx, fun i him => ?_⟩
    obtain ⟨cs', hc, ht'⟩ := hi i him
    rw [hC] at hc
    obtain ⟨ys, n', hn', hy, hlen, hyl, hf⟩ := DataW.trod_struct he ht'
    obtain ⟨_, hcl, hat⟩ := World.cells?_some hc
    simp only [Prod.mk.injEq] at hy
    refine ⟨ys, n', hy.1, hy.2, hyl, fun j f hj => ?_⟩
    obtain ⟨ho, hk⟩ := hone_of hone j f hj
    have hjl : j < fs.size := (Array.getElem?_eq_some_iff.1 hj).1
    have hcell := hat j hjl
    have hv : cs'[j]? = some (cs'[j]'(by omega)) := List.getElem?_eq_getElem (by omega)
    have h1 := hf j f hj
    rw [ho, hk] at h1
    have hone' : (cs'.drop j).take 1 = [cs'[j]'(by omega)] := by
      rw [List.drop_eq_getElem_cons (by omega)]
      rfl
    rw [hone'] at h1
    have hys : ys[j]? = some (ys[j]'(by omega)) := List.getElem?_eq_getElem (by omega)
    refine ⟨_, _, ?_, hys, h1.trans hys⟩
    rw [← Go.Deep.add_add, hcell, hv]
end

instance : Inhabited CellV := ⟨⟨0, 0, ByteArray.empty⟩⟩

/-- A slice of cells that came in. -/
theorem open_cells {H : Type} {enc : TypeId × Value → H} {W : World} {v : Value} {d : DataW H} {p : List MemPlace} {fuel : Nat}
    (h : DataW.trod enc Try.prog W 0 (fun _ => true) true fuel 43 [v] = some (d, p)) :
    ∃ (a : Option Addr) (cap : Nat) (l : List CellV), v = .slice a l.length cap ∧ l.length ≤ cap ∧ CellsAt W a l ∧ SliceIn W a l cap ∧ (l = [] ∨ ∃ elems sp, d = .slice elems sp ∧ elems.length = l.length) ∧
      ∀ i (hi : i < l.length), (-9223372036854775808 ≤ l[i].row ∧ l[i].row ≤ 9223372036854775807) ∧ (-9223372036854775808 ≤ l[i].col ∧ l[i].col ≤ 9223372036854775807) := by
  rcases open_slice_fields Try.underlying43 Try.underlying49 (by kernel_rfl) (by kernel_rfl) h with ⟨hcs, _⟩ | ⟨A, len, cap, m, D, Pl, hcs, _, hl, hm, hmm, hx, hi⟩
  · simp only [List.cons.injEq, and_true] at hcs
    subst hcs
    exact ⟨none, 0, [], rfl, Nat.le_refl _, fun i h => by simp at h, .inl ⟨rfl, rfl, rfl⟩, .inl rfl, fun i h => by simp at h⟩
  · simp only [List.cons.injEq, and_true] at hcs
    subst hcs
    have hcell : ∀ i, i < len → ∃ c : CellV, W.cell? (A.add (i * 3)) = some (.int .i64 c.row) ∧ W.cell? (A.add (i * 3 + 1)) = some (.int .i64 c.col) ∧ W.cell? (A.add (i * 3 + 2)) = some (.string c.text) ∧
        (-9223372036854775808 ≤ c.row ∧ c.row ≤ 9223372036854775807) ∧ (-9223372036854775808 ≤ c.col ∧ c.col ≤ 9223372036854775807) := by
      intro i hil
      obtain ⟨ys, n, _, _, hy, hf⟩ := hi i (by rw [hmm]; simp; omega)
      obtain ⟨v0, y0, h0, _, t0⟩ := hf 0 _ rfl
      obtain ⟨v1, y1, h1, _, t1⟩ := hf 1 _ rfl
      obtain ⟨v2, y2, h2, _, t2⟩ := hf 2 _ rfl
      obtain ⟨x0, e0, _, w0⟩ := DataW.trod_int Try.underlying3 t0
      obtain ⟨x1, e1, _, w1⟩ := DataW.trod_int Try.underlying3 t1
      obtain ⟨x2, e2, _, w2⟩ := DataW.trod_string Try.underlying9 t2
      simp only [List.cons.injEq, and_true] at e0 e1 e2
      subst e0 e1 e2
      exact ⟨⟨x0, x1, x2⟩, h0, h1, h2, bounds_i64 w0, bounds_i64 w1⟩
    obtain ⟨F, hF⟩ := choose_lt (α := CellV) hcell
    have hlen : ((List.range len).map F).length = len := by simp
    refine ⟨some A, cap, (List.range len).map F, by rw [hlen], by rw [hlen]; exact hl, ?_, .inr ⟨A, rfl, ?_⟩, .inr ⟨_, _, (Prod.mk.inj hx).1, by simp⟩, ?_⟩
    · intro i hi'
      have hil : i < len := by simpa using hi'
      obtain ⟨k0, k1, k2, _⟩ := hF i hil
      have hs : A.spot = none := by
        have z := (hF 0 (by omega)).1
        simp only [Nat.zero_mul, Addr.add, if_true] at z
        cases hsp : A.spot with
        | none => rfl
        | some x => (unfold World.cell? at z; rw [hsp] at z; split at z <;> simp at z)
      refine ⟨A.block, A.off, by cases A; simp_all, ?_⟩
      have e : ∀ j, A.add j = ⟨A.block, A.off + j, none⟩ := fun j => by unfold Addr.add; split <;> (cases A; simp_all)
      simp only [List.getElem_map, List.getElem_range]
      rw [e] at k0 k1 k2
      exact ⟨k0, by rw [Nat.add_assoc]; exact k1, by rw [Nat.add_assoc]; exact k2⟩
    · intro j u hu
      have hj : j < len * 3 := by have := (List.getElem?_eq_some_iff.1 hu).1; rw [flatC_length, hlen] at this; exact this
      have hil : j / 3 < len := by omega
      obtain ⟨k0, k1, k2, _⟩ := hF (j / 3) hil
      obtain ⟨q1, q2, q3⟩ := flatC_get ((List.range len).map F) (j / 3) (by rw [hlen]; exact hil)
      simp only [List.getElem_map, List.getElem_range] at q1 q2 q3
      have key : W.cell? (A.add j) = some u := by
        have hm3 : j % 3 = 0 ∨ j % 3 = 1 ∨ j % 3 = 2 := by omega
        rcases hm3 with h3 | h3 | h3
        · have ej : j / 3 * 3 = j := by omega
          rw [ej] at q1 k0; rw [q1] at hu; cases hu; exact k0
        · have ej : j / 3 * 3 + 1 = j := by omega
          rw [ej] at q2 k1; rw [q2] at hu; cases hu; exact k1
        · have ej : j / 3 * 3 + 2 = j := by omega
          rw [ej] at q3 k2; rw [q3] at hu; cases hu; exact k2
      have e : (A.add j).block = A.block := by unfold Addr.add; split <;> rfl
      exact ⟨by have := World.block_lt_of_cell? W _ key; rw [e] at this; exact this, key⟩
    · intro i hi'
      have hil : i < len := by simpa using hi'
      obtain ⟨_, _, _, k1, k2⟩ := hF i hil
      simp only [List.getElem_map, List.getElem_range]
      exact ⟨k1, k2⟩

set_option maxRecDepth 100000 in
theorem scells_lifted (os : Os) (started : os.Started) (H : Type) (enc : TypeId × Value → H) :
    ReturnsInHanded {} Try.checked os 6 .any (Rows.shiftCellsSpec.pre6 enc Try.prog Try.f6 Rows.shiftCellsRow.domain false) (Rows.shiftCellsSpec.post enc Try.prog Try.f6 false true false false) := by
  refine returnsInHanded_of_change_sized (C := Try.checked) own started (by kernel_rfl) Try.func6
    (ChangeSpec.witness6 (enc := enc) (C := Try.checked) false ⟨#[], #[.agg #[.int .i64 0, .int .i64 0, .int .i64 0], .bool false, .slice none 0 0], []⟩ 8 (by kernel_rfl) (by kernel_rfl) (by kernel_rfl) (by kernel_rfl)) ?_
  intro W base args ds gs before hval0 hW hcnd hsz _
  have hval : ∀ (j : Nat) t v, Try.f6.params[j]? = some t → args[j]? = some v → Value.okWide Try.prog W .any base t v := hval0
  have hW' := hW
  obtain ⟨p, q, hA0, hV, rfl, hfz, hnd⟩ := hW
  have hA : DataW.TrodAll enc Try.prog W 0 (fun _ => true) true Try.f6.params.toList args.toList ds p := hA0
  rw [Try.params6] at hA hval
  obtain ⟨v0, v1, v2, d0, d1, d2, p0, p1, p2, rfl, rfl, rfl, h0, h1, h2⟩ := trodAll_three hA
  obtain ⟨rfl, rfl⟩ := trodVars_none hV
  have k0 := h0
  have k1 := h1
  have k2 := h2
  have lt0 : ∀ x ∈ p0, x.block < W.heap.size := by obtain ⟨m, hm⟩ := k0; exact DataW.trod_lt m _ _ _ hm
  have lt1 : ∀ x ∈ p1, x.block < W.heap.size := by obtain ⟨m, hm⟩ := k1; exact DataW.trod_lt m _ _ _ hm
  have lt2 : ∀ x ∈ p2, x.block < W.heap.size := by obtain ⟨m, hm⟩ := k2; exact DataW.trod_lt m _ _ _ hm
  obtain ⟨a, n, m, rfl, ba, bn, bm⟩ := open_shift (hval 0 27 v0 rfl rfl) h0
  obtain ⟨b, rfl, hd1, _⟩ := open_bool Try.underlying4 (hval 1 4 v1 rfl rfl) h1
  obtain ⟨a2, len2, cap2, rfl⟩ := okWide_slice Try.underlying43 (hval 2 43 v2 rfl rfl)
  obtain ⟨fuel2, hf2⟩ := h2
  obtain ⟨A, cap, l, hv2, hlc, hcells, hin, hdat, hbd⟩ := open_cells hf2
  simp only [Value.slice.injEq] at hv2
  obtain ⟨rfl, rfl, rfl⟩ := hv2
  have hreach : l.length * 32 ≤ 140737488351232 := by
    rcases hdat with rfl | ⟨elems, sp, rfl, hle⟩
    · simp
    · have := sized_slice hsz (j := 2) (t := 43) (e := 49) rfl rfl Try.underlying43
      rw [show Try.checked.prog.bytesOf 49 = 32 by kernel_rfl, hle] at this
      have hr : reachBytes = 140737488351232 := by decide
      omega
  clear hA0 hval0
  refine (shiftcells_walk a n m b a2 cap2 l W ba bn bm hreach hcells hin hbd).mono fun e W' ⟨he, bel⟩ => ?_
  subst he
  exact ⟨_, rfl, _, _, _, [], _, [], hW', trodAll_mk1 (shut_bool Try.underlying4 _),
    trodAll_mk3 (Below.trod laidOut (by kernel_rfl) (of_decide_eq_true (by kernel_rfl)) k0 bel lt0) (Below.trod laidOut (by kernel_rfl) (of_decide_eq_true (by kernel_rfl)) k1 bel lt1) (Below.trod laidOut (by kernel_rfl) (of_decide_eq_true (by kernel_rfl)) k2 bel lt2),
    rfl, bel.frame _, fun h => by cases h⟩

theorem scells_holds : Rows.ShiftCellsSaid :=
  OpenClaim.holds_of_wide 6 Try.f6 rfl rfl rfl rfl rfl rfl rfl ⟨rfl, rfl, rfl, rfl, rfl⟩ rfl rfl rfl rfl rfl (by kernel_rfl) Try.func6 (by kernel_rfl)
    (of_decide_eq_true (by kernel_rfl)) (by unfold Func.isWrapper; first | (rw [if_pos (by decide +kernel)]; kernel_rfl) | (rw [if_neg (by decide +kernel)]; exact ⟨rfl, rfl⟩))
    (fun os started H enc _ => scells_lifted os started H enc)
#print axioms scells_holds
end Go.Proofs.Ytbaejlmpoflogaa
