/- JournalScans returns true for every input of bulk at most 1048576, and leaves its arguments as they were. -/
import Derived.Test.YtekmjegeiminnaaJ9
import Derived.Test.YtekmjegeiminnaaK3
import Derived.Deep.CondSized
namespace Go.Proofs.Ytekmjegeiminnaa
open Go.ChangeShapes Go.WideShapes Go.ChangeAt Go.RowKit Go.Deep
set_option linter.unusedVariables false
set_option linter.unusedSimpArgs false

set_option maxRecDepth 100000 in
theorem block_ok {W : World} {base : Nat} {A : Addr} {len cap : Nat} (h : Value.okWide Try.prog W .any base 22 (.slice (some A) len cap)) : A.block < W.heap.size := by
  simp only [Value.okWide, Try.underlying22, Cell.okWide, Cell.ok] at h
  obtain ⟨-, -, -, -, row, cells, hs, -⟩ := h
  unfold World.shape? at hs
  cases hg : W.heap[A.block]? with
  | none => rw [hg] at hs; simp at hs
  | some o => exact (Array.getElem?_eq_some_iff.1 hg).1

set_option maxRecDepth 100000 in
set_option maxHeartbeats 1000000 in
theorem jscans_lifted (os : Os) (started : os.Started) (H : Type) (enc : TypeId × Value → H) (F0 : Stop.Interp) :
    ReturnsInHanded {} Try.checked os 13 .any ((Rows.OpenSpec.upto Rows.journalScansSpec).pre6 enc Try.prog Try.f13 Rows.journalScansUptoRow.domain false) (((Rows.OpenSpec.upto Rows.journalScansSpec).at F0).post enc Try.prog Try.f13 false true false false) := by
  refine returnsInHanded_of_cond_sized (C := Try.checked) (s := Rows.OpenSpec.upto Rows.journalScansSpec) (k := Rows.uptoSmall) rfl own started (by kernel_rfl) Try.func13
    (OpenSpec.witness (enc := enc) (C := Try.checked) (s := Rows.OpenSpec.upto Rows.journalScansSpec) (k := Rows.uptoSmall) rfl false ⟨#[], #[.slice none 0 0, .int .i64 0, .slice none 0 0], []⟩ 8 (by kernel_rfl) (by kernel_rfl) (by kernel_rfl)
      (x := ([.nil, .lit (.int .i64 0), .nil], [], [])) (by kernel_rfl) (by kernel_rfl) (by kernel_rfl)) ?_
  intro W base args ds gs before hval0 hW hcnd hk hsz _
  have hval : ∀ (j : Nat) t v, Try.f13.params[j]? = some t → args[j]? = some v → Value.okWide Try.prog W .any base t v := hval0
  have hW' := hW
  obtain ⟨p, q, hA0, hV, rfl, hfz, hnd⟩ := hW
  have hA : DataW.TrodAll enc Try.prog W 0 (fun _ => true) true Try.f13.params.toList args.toList ds p := hA0
  rw [Try.params13] at hA hval
  obtain ⟨v0, v1, v2, d0, d1, d2, p0, p1, p2, rfl, rfl, rfl, h0, h1, h2⟩ := trodAll_three hA
  obtain ⟨rfl, rfl⟩ := trodVars_none hV
  have k0 := h0
  have k1 := h1
  have k2 := h2
  have lt0 : ∀ x ∈ p0, x.block < W.heap.size := by obtain ⟨m, hm⟩ := k0; exact DataW.trod_lt m _ _ _ hm
  have lt1 : ∀ x ∈ p1, x.block < W.heap.size := by obtain ⟨m, hm⟩ := k1; exact DataW.trod_lt m _ _ _ hm
  have lt2 : ∀ x ∈ p2, x.block < W.heap.size := by obtain ⟨m, hm⟩ := k2; exact DataW.trod_lt m _ _ _ hm
  have hbk : Rows.uptoBulk d0 ≤ 1048576 ∧ Rows.uptoBulk d1 ≤ 1048576 ∧ Rows.uptoBulk d2 ≤ 1048576 := by
    have : Rows.uptoBulkAll [d0, d1, d2] ≤ 1048576 := by simpa [Rows.uptoSmall] using hk
    simp only [Rows.uptoBulkAll] at this
    omega
  obtain ⟨hbk0, hbk1, hbk2⟩ := hbk
  obtain ⟨a0, len0, cap0, rfl⟩ := okWide_slice Try.underlying22 (hval 0 22 v0 rfl rfl)
  have hblk0 : ∀ A, a0 = some A → A.block < W.heap.size := fun A hA => by subst hA; exact block_ok (hval 0 22 _ rfl rfl)
  obtain ⟨fuel0, hf0⟩ := h0
  obtain ⟨ab0, cb0, bs0, hv0, hlc0, hby0, _, hdat0⟩ := open_bytes hf0
  simp only [Value.slice.injEq] at hv0
  obtain ⟨rfl, rfl, rfl⟩ := hv0
  have hreach0 : cap0 ≤ 140737488351232 := by
    rcases hdat0 with rfl | ⟨elems, sp, rfl, hle⟩
    · simp
    · have := List.all_eq_true.1 hsz cap0 (DataW.weights_mem_each (j := 0) (t := 22) rfl rfl cap0 (by
        show cap0 ∈ DataW.weights Try.prog 22 _
        simp only [DataW.weights, Try.underlying22, List.mem_cons]
        left
        rw [show Try.prog.bytesOf 5 = 1 by kernel_rfl, hle]
        omega))
      have hr : reachBytes = 140737488351232 := by decide
      simp only [decide_eq_true_eq] at this
      omega
  obtain ⟨x1, rfl, _, _, w1⟩ := open_int Try.underlying3 (hval 1 3 v1 rfl rfl) h1
  have hb1 := bounds_i64 w1
  obtain ⟨a2, len2, cap2, rfl⟩ := okWide_slice Try.underlying73 (hval 2 73 v2 rfl rfl)
  obtain ⟨fuel2, hf2⟩ := h2
  have hwt2 : ∀ n ∈ d2.weights Try.prog 73, n ≤ reachBytes := fun n hn => by
    have := List.all_eq_true.1 hsz n (DataW.weights_mem_each (j := 2) (t := 73) rfl rfl n hn)
    simpa using this
  obtain ⟨l2, hrep2, hok2, hlen2⟩ := opens_ops hf2 hwt2
  have hlen2' : (tOps.cod.enc l2).length ≤ 10 * Rows.uptoBulk d2 := hlen2
  clear hA0 hval0
  refine (scans_law a0 cap0 bs0 x1 (.slice a2 len2 cap2) l2 W hby0 hlc0 (by omega) hblk0 ⟨by omega, by omega⟩ hrep2 hok2 (by omega)).mono fun e W' ⟨he, bel⟩ => ?_
  subst he
  exact ⟨_, rfl, _, _, _, [], _, [], hW', trodAll_mk1 (shut_bool Try.underlying4 _),
    trodAll_mk3 (Below.trod laidOut (by kernel_rfl) (of_decide_eq_true (by kernel_rfl)) k0 bel lt0) (Below.trod laidOut (by kernel_rfl) (of_decide_eq_true (by kernel_rfl)) k1 bel lt1) (Below.trod laidOut (by kernel_rfl) (of_decide_eq_true (by kernel_rfl)) k2 bel lt2),
    rfl, bel.frame _, fun h => by cases h⟩

theorem jscans_holds : Rows.JournalScansUptoSaid :=
  OpenClaim.holds_of_cond 13 Try.f13 rfl rfl rfl rfl rfl rfl rfl ⟨rfl, rfl, rfl, rfl, rfl⟩ rfl rfl rfl rfl rfl (by kernel_rfl) Try.func13 (by kernel_rfl)
    (of_decide_eq_true (by kernel_rfl)) (by unfold Func.isWrapper; first | (rw [if_pos (by decide +kernel)]; kernel_rfl) | (rw [if_neg (by decide +kernel)]; exact ⟨rfl, rfl⟩))
    (fun os started H enc _ F0 => jscans_lifted os started H enc F0)
#print axioms jscans_holds
end Go.Proofs.Ytekmjegeiminnaa
