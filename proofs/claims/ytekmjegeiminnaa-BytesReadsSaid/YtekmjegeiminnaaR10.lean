/- BytesReads returns true for every input, and leaves its argument as it was; no condition. -/
import Derived.Test.YtekmjegeiminnaaF7
import Derived.Test.YtekmjegeiminnaaK1
namespace Go.Proofs.Ytekmjegeiminnaa
open Go.ChangeShapes Go.WideShapes Go.ChangeAt Go.RowKit Go.Deep
set_option linter.unusedVariables false
set_option linter.unusedSimpArgs false

set_option maxRecDepth 100000 in
theorem block_of_ok {W : World} {base : Nat} {A : Addr} {len cap : Nat} (h : Value.okWide Try.prog W .any base 22 (.slice (some A) len cap)) : A.block < W.heap.size := by
  simp only [Value.okWide, Try.underlying22, Cell.okWide, Cell.ok] at h
  obtain ⟨-, -, -, -, row, cells, hs, -⟩ := h
  unfold World.shape? at hs
  cases hg : W.heap[A.block]? with
  | none => rw [hg] at hs; simp at hs
  | some o => exact (Array.getElem?_eq_some_iff.1 hg).1
set_option maxRecDepth 100000 in
theorem breads_lifted (os : Os) (started : os.Started) (H : Type) (enc : TypeId × Value → H) :
    ReturnsInHanded {} Try.checked os 12 .any (Rows.bytesReadsSpec.pre6 enc Try.prog Try.f12 Rows.bytesReadsRow.domain false) (Rows.bytesReadsSpec.post enc Try.prog Try.f12 false true false false) := by
  refine returnsInHanded_of_change_sized (C := Try.checked) own started (by kernel_rfl) Try.func12
    (ChangeSpec.witness6 (enc := enc) (C := Try.checked) false ⟨#[], #[.slice none 0 0], []⟩ 8 (by kernel_rfl) (by kernel_rfl) (by kernel_rfl) (by kernel_rfl)) ?_
  intro W base args ds gs before hval0 hW hcnd hsz _
  have hval : ∀ (j : Nat) t v, Try.f12.params[j]? = some t → args[j]? = some v → Value.okWide Try.prog W .any base t v := hval0
  have hW' := hW
  obtain ⟨p, q, hA0, hV, rfl, hfz, hnd⟩ := hW
  have hA : DataW.TrodAll enc Try.prog W 0 (fun _ => true) true Try.f12.params.toList args.toList ds p := hA0
  rw [Try.params12] at hA hval
  obtain ⟨v0, d0, rfl, rfl, h0⟩ := trodAll_one hA
  obtain ⟨rfl, rfl⟩ := trodVars_none hV
  have k0 := h0
  have lt0 : ∀ x ∈ p, x.block < W.heap.size := by obtain ⟨m, hm⟩ := k0; exact DataW.trod_lt m _ _ _ hm
  obtain ⟨a0, len0, cap0, rfl⟩ := okWide_slice Try.underlying22 (hval 0 22 v0 rfl rfl)
  have hblk : ∀ A, a0 = some A → A.block < W.heap.size := fun A hA => by subst hA; exact block_of_ok (hval 0 22 _ rfl rfl)
  obtain ⟨fuel, hf⟩ := h0
  obtain ⟨a, cap, bs, hv, hlc, hb, _, hdat⟩ := open_bytes hf
  simp only [Value.slice.injEq] at hv
  obtain ⟨rfl, rfl, rfl⟩ := hv
  have hreach : cap0 ≤ 140737488351232 := by
    rcases hdat with rfl | ⟨elems, sp, rfl, hle⟩
    · simp
    · have := sized_slice hsz (j := 0) (t := 22) (e := 5) rfl rfl Try.underlying22
      rw [show Try.checked.prog.bytesOf 5 = 1 by kernel_rfl, hle] at this
      have hr : reachBytes = 140737488351232 := by decide
      omega
  clear hA0 hval0
  refine (reads_law a0 cap0 bs W hb hlc (by omega) hblk).mono fun e W' ⟨he, bel⟩ => ?_
  subst he
  exact ⟨_, rfl, _, _, _, [], _, [], hW', trodAll_mk1 (shut_bool Try.underlying4 _),
    trodAll_mk1 (Below.trod laidOut (by kernel_rfl) (of_decide_eq_true (by kernel_rfl)) k0 bel lt0),
    rfl, bel.frame _, fun h => by cases h⟩

theorem breads_holds : Rows.BytesReadsSaid :=
  OpenClaim.holds_of_wide 12 Try.f12 rfl rfl rfl rfl rfl rfl rfl ⟨rfl, rfl, rfl, rfl, rfl⟩ rfl rfl rfl rfl rfl (by kernel_rfl) Try.func12 (by kernel_rfl)
    (of_decide_eq_true (by kernel_rfl)) (by unfold Func.isWrapper; first | (rw [if_pos (by decide +kernel)]; kernel_rfl) | (rw [if_neg (by decide +kernel)]; exact ⟨rfl, rfl⟩))
    (fun os started H enc _ => breads_lifted os started H enc)
#print axioms breads_holds
end Go.Proofs.Ytekmjegeiminnaa
