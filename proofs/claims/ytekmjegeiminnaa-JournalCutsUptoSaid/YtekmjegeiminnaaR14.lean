/- JournalCuts returns true for every input of bulk at most 1048576, and leaves its arguments as they were. -/
import Derived.Test.YtekmjegeiminnaaJ7
import Derived.Test.YtekmjegeiminnaaK3
import Derived.Deep.CondSized
namespace Go.Proofs.Ytekmjegeiminnaa
open Go.ChangeShapes Go.WideShapes Go.ChangeAt Go.RowKit Go.Deep
set_option linter.unusedVariables false
set_option linter.unusedSimpArgs false

theorem c73 : Try.prog.cellsOf 73 = tOps.sz := by kernel_rfl
theorem opens_groups : Opens (tList tOps) 87 := opens_list opens_ops Try.underlying87 c73 (by decide)
theorem encM_mem {α : Type} (A : Cod α) : ∀ {l : List α} {x : α}, x ∈ l → (A.enc x).length ≤ (encM A l).length
  | y :: l, x, h => by
    rw [encM_cons, List.length_append]
    rcases List.mem_cons.1 h with rfl | h
    · omega
    · have := encM_mem A h; omega

set_option maxRecDepth 100000 in
set_option maxHeartbeats 1000000 in
theorem jcuts_lifted (os : Os) (started : os.Started) (H : Type) (enc : TypeId × Value → H) (F0 : Stop.Interp) :
    ReturnsInHanded {} Try.checked os 15 .any ((Rows.OpenSpec.upto Rows.journalCutsSpec).pre6 enc Try.prog Try.f15 Rows.journalCutsUptoRow.domain false) (((Rows.OpenSpec.upto Rows.journalCutsSpec).at F0).post enc Try.prog Try.f15 false true false false) := by
  refine returnsInHanded_of_cond_sized (C := Try.checked) (s := Rows.OpenSpec.upto Rows.journalCutsSpec) (k := Rows.uptoSmall) rfl own started (by kernel_rfl) Try.func15
    (OpenSpec.witness (enc := enc) (C := Try.checked) (s := Rows.OpenSpec.upto Rows.journalCutsSpec) (k := Rows.uptoSmall) rfl false ⟨#[], #[.int .i64 0, .slice none 0 0, .int .u64 0], []⟩ 8 (by kernel_rfl) (by kernel_rfl) (by kernel_rfl)
      (x := ([.lit (.int .i64 0), .nil, .lit (.int .u64 0)], [], [])) (by kernel_rfl) (by kernel_rfl) (by kernel_rfl)) ?_
  intro W base args ds gs before hval0 hW hcnd hk hsz _
  have hval : ∀ (j : Nat) t v, Try.f15.params[j]? = some t → args[j]? = some v → Value.okWide Try.prog W .any base t v := hval0
  have hW' := hW
  obtain ⟨p, q, hA0, hV, rfl, hfz, hnd⟩ := hW
  have hA : DataW.TrodAll enc Try.prog W 0 (fun _ => true) true Try.f15.params.toList args.toList ds p := hA0
  rw [Try.params15] at hA hval
  obtain ⟨v0, v1, v2, d0, d1, d2, p0, p1, p2, rfl, rfl, rfl, h0, h1, h2⟩ := trodAll_three hA
  obtain ⟨rfl, rfl⟩ := trodVars_none hV
  have k0 := h0
  have k1 := h1
  have k2 := h2
  have lt0 : ∀ x ∈ p0, x.block < W.heap.size := by obtain ⟨m, hm⟩ := k0; exact DataW.trod_lt m _ _ _ hm
  have lt1 : ∀ x ∈ p1, x.block < W.heap.size := by obtain ⟨m, hm⟩ := k1; exact DataW.trod_lt m _ _ _ hm
  have lt2 : ∀ x ∈ p2, x.block < W.heap.size := by obtain ⟨m, hm⟩ := k2; exact DataW.trod_lt m _ _ _ hm
  have hbk : Rows.uptoBulk d0 ≤ 1048576 ∧ Rows.uptoBulk d1 ≤ 1048576 ∧ Rows.uptoBulk d2 ≤ 1048576 := by
    have : Rows.uptoBulkAll [d0, d1, d2] ≤ 1048576 := by simpa [Rows.uptoSmall] using hk
    simp only [Rows.uptoBulkAll] at this
    omega
  obtain ⟨hbk0, hbk1, hbk2⟩ := hbk
  obtain ⟨x0, rfl, _, _, w0⟩ := open_int Try.underlying3 (hval 0 3 v0 rfl rfl) h0
  have hb0 := bounds_i64 w0
  obtain ⟨a1, len1, cap1, rfl⟩ := okWide_slice Try.underlying87 (hval 1 87 v1 rfl rfl)
  obtain ⟨fuel1, hf1⟩ := h1
  have hwt1 : ∀ n ∈ d1.weights Try.prog 87, n ≤ reachBytes := fun n hn => by
    have := List.all_eq_true.1 hsz n (DataW.weights_mem_each (j := 1) (t := 87) rfl rfl n hn)
    simpa using this
  obtain ⟨gs1, hrep1, hok1, hlen1⟩ := opens_groups hf1 hwt1
  have hlen1' : (encN gs1.length ++ encM tOps.cod gs1).length ≤ 10 * Rows.uptoBulk d1 := hlen1
  rw [List.length_append] at hlen1'
  obtain ⟨ar1, cr1, her1, -, -, hel1⟩ := hrep1
  have he1 : Value.slice a1 len1 cap1 = .slice ar1 gs1.length cr1 := (List.cons.inj her1).1
  simp only [Value.slice.injEq] at he1
  obtain ⟨rfl, rfl, rfl⟩ := he1
  have hgok1 : ∀ g ∈ gs1, tOps.cod.ok g ∧ (tOps.cod.enc g).length ≤ 100000000000 := fun g hg => ⟨hok1.2 g hg, by have := encM_mem tOps.cod hg; omega⟩
  obtain ⟨x2, rfl, _, _, w2⟩ := open_int Try.underlying42 (hval 2 42 v2 rfl rfl) h2
  have hb2 := bounds_u64 w2
  obtain ⟨n2, rfl⟩ := Int.eq_ofNat_of_zero_le hb2.1
  clear hA0 hval0
  refine (cuts_law x0 a1 cap1 gs1 n2 W ⟨by omega, by omega⟩ hel1 hgok1 (by omega)).mono fun e W' ⟨he, bel⟩ => ?_
  subst he
  exact ⟨_, rfl, _, _, _, [], _, [], hW', trodAll_mk1 (shut_bool Try.underlying4 _),
    trodAll_mk3 (Below.trod laidOut (by kernel_rfl) (of_decide_eq_true (by kernel_rfl)) k0 bel lt0) (Below.trod laidOut (by kernel_rfl) (of_decide_eq_true (by kernel_rfl)) k1 bel lt1) (Below.trod laidOut (by kernel_rfl) (of_decide_eq_true (by kernel_rfl)) k2 bel lt2),
    rfl, bel.frame _, fun h => by cases h⟩

theorem jcuts_holds : Rows.JournalCutsUptoSaid :=
  OpenClaim.holds_of_cond 15 Try.f15 rfl rfl rfl rfl rfl rfl rfl ⟨rfl, rfl, rfl, rfl, rfl⟩ rfl rfl rfl rfl rfl (by kernel_rfl) Try.func15 (by kernel_rfl)
    (of_decide_eq_true (by kernel_rfl)) (by unfold Func.isWrapper; first | (rw [if_pos (by decide +kernel)]; kernel_rfl) | (rw [if_neg (by decide +kernel)]; exact ⟨rfl, rfl⟩))
    (fun os started H enc _ F0 => jcuts_lifted os started H enc F0)
#print axioms jcuts_holds
end Go.Proofs.Ytekmjegeiminnaa
