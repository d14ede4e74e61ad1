/- How a slice of ints that came in is opened. -/
import Derived.Test.YtekmjegeiminnaaK1
namespace Go.Proofs.Ytekmjegeiminnaa
open Go.ChangeShapes Go.WideShapes Go.ChangeAt Go.RowKit Go.Deep
set_option linter.unusedVariables false
set_option linter.unusedSimpArgs false

/-- A slice of ints that came in. -/
theorem open_is {H : Type} {enc : TypeId × Value → H} {W : World} {v : Value} {d : DataW H} {p : List MemPlace} {fuel : Nat}
    (h : DataW.trod enc Try.prog W 0 (fun _ => true) true fuel 36 [v] = some (d, p)) :
    ∃ (a : Option Addr) (cap : Nat) (xs : List Int), v = .slice a xs.length cap ∧ xs.length ≤ cap ∧ IntsAt W a xs ∧ ∀ x ∈ xs, I64 x := by
  rcases open_slice Try.underlying36 h with ⟨hcs, _⟩ | ⟨A, len, cap, m, n, D, Pl, hcs, hb, hl, hm, hmm, hx, hi⟩
  · simp only [List.cons.injEq, and_true] at hcs
    subst hcs
    exact ⟨none, 0, [], rfl, Nat.le_refl _, fun i h => by simp at h, fun x hx => by simp at hx⟩
  · simp only [List.cons.injEq, and_true] at hcs
    subst hcs
    rw [show Try.prog.cellsOf 3 = 1 by kernel_rfl] at hi
    have hcell : ∀ i, i < len → ∃ c : Int, W.cell? (A.add i) = some (.int .i64 c) ∧ I64 c := by
      intro i hil
      obtain ⟨cs', hc, ht'⟩ := hi i (by rw [hmm]; simp; omega)
      rw [Nat.mul_one] at hc
      obtain ⟨_, hcl, hat⟩ := World.cells?_some hc
      have hcell := hat 0 (by omega)
      have hv : cs'[0]? = some (cs'[0]'(by omega)) := List.getElem?_eq_getElem (by omega)
      have e1 : cs' = [cs'[0]'(by omega)] := by
        match cs', hcl with
        | [c], _ => rfl
      rw [e1] at ht'
      obtain ⟨x0, e0, _, w0⟩ := DataW.trod_int Try.underlying3 ht'
      simp only [List.cons.injEq, and_true] at e0
      rw [hv, e0] at hcell
      have hbd : I64 x0 := by
        have := bounds_i64 w0; unfold I64; omega
      rw [Go.Deep.add_add, Nat.add_zero] at hcell
      exact ⟨x0, hcell, hbd⟩
    obtain ⟨F, hF⟩ := choose_row (α := Int) hcell
    have hlen : ((List.range len).map F).length = len := by simp
    refine ⟨some A, cap, (List.range len).map F, by rw [hlen], by rw [hlen]; exact hl, fun i hi' => ?_, fun x hx => ?_⟩
    · have hil : i < len := by simpa using hi'
      have hs : A.spot = none := by
        have z := (hF 0 (by omega)).1
        have := spot_none z
        unfold Addr.add at this; split at this <;> simp_all
      have e : A.add i = ⟨A.block, A.off + i, none⟩ := by unfold Addr.add; split <;> (cases A; simp_all)
      refine ⟨A.block, A.off, by cases A; simp_all, ?_⟩
      simp only [List.getElem_map, List.getElem_range]
      rw [← e]; exact (hF i hil).1
    · simp only [List.mem_map, List.mem_range] at hx
      obtain ⟨i, hi, rfl⟩ := hx
      exact (hF i hi).2
end Go.Proofs.Ytekmjegeiminnaa
