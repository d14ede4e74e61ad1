/- Small helpers that the rows of this seat share: how a slice of bytes or of ints that came in is opened. -/
import Derived.Test.YtekmjegeiminnaaRows
import Derived.Test.YtekmjegeiminnaaB10
import Derived.ProofKit
import Derived.OpenShut
import Derived.ChangeOld
import Derived.Deep.Slices
import Derived.Deep.Fields
import Derived.ChangeSame
import Derived.SizedLaws
namespace Go.Proofs.Ytekmjegeiminnaa
open Go.ChangeShapes Go.WideShapes Go.ChangeAt Go.RowKit Go.Deep
set_option linter.unusedVariables false
set_option linter.unusedSimpArgs false

theorem own : ownKnob Try.prog.godebug = none := by kernel_rfl
theorem laidOut : laidOutB Try.prog = true := by kernel_rfl

theorem choose_row {α : Type} [Inhabited α] {n : Nat} {p : Nat → α → Prop} (h : ∀ i, i < n → ∃ a, p i a) : ∃ F : Nat → α, ∀ i, i < n → p i (F i) :=
  ⟨fun i => if hi : i < n then (h i hi).choose else default, fun i hi => by
    have := (h i hi).choose_spec
    simp only [dif_pos hi]
    exact this⟩
theorem spot_none {W : World} {A : Addr} {v : Value} (z : W.cell? A = some v) : A.spot = none := by
  cases hsp : A.spot with
  | none => rfl
  | some x => (unfold World.cell? at z; rw [hsp] at z; split at z <;> simp at z)
/-- A slice of bytes that came in. -/
theorem open_bytes {H : Type} {enc : TypeId × Value → H} {W : World} {v : Value} {d : DataW H} {p : List MemPlace} {fuel : Nat}
    (h : DataW.trod enc Try.prog W 0 (fun _ => true) true fuel 22 [v] = some (d, p)) :
    ∃ (a : Option Addr) (cap : Nat) (bs : List UInt8), v = .slice a bs.length cap ∧ bs.length ≤ cap ∧ BytesAt W a bs ∧ (bs = [] ∨ ∃ elems sp, d = .slice elems sp ∧ elems.length = bs.length) ∧ (cap = 0 ∨ ∃ elems sp, d = .slice elems sp ∧ elems.length + sp.length = cap) := by
  rcases open_slice Try.underlying22 h with ⟨hcs, _⟩ | ⟨A, len, cap, m, n, D, Pl, hcs, hb, hl, hm, hmm, hx, hi⟩
  · simp only [List.cons.injEq, and_true] at hcs
    subst hcs
    exact ⟨none, 0, [], rfl, Nat.le_refl _, fun i h => by simp at h, .inl rfl, .inl rfl⟩
  · simp only [List.cons.injEq, and_true] at hcs
    subst hcs
    rw [show Try.prog.cellsOf 5 = 1 by kernel_rfl] at hi
    have hcell : ∀ i, i < len → ∃ c : UInt8, W.cell? (A.add i) = some (bV c) := by
      intro i hil
      obtain ⟨cs', hc, ht'⟩ := hi i (by rw [hmm]; simp; omega)
      rw [Nat.mul_one] at hc
      obtain ⟨_, hcl, hat⟩ := World.cells?_some hc
      have hcell := hat 0 (by omega)
      have hv : cs'[0]? = some (cs'[0]'(by omega)) := List.getElem?_eq_getElem (by omega)
      have e1 : cs' = [cs'[0]'(by omega)] := by
        match cs', hcl with
        | [c], _ => rfl
      rw [e1] at ht'
      obtain ⟨x0, e0, _, w0⟩ := DataW.trod_int Try.underlying5 ht'
      simp only [List.cons.injEq, and_true] at e0
      rw [hv, e0] at hcell
      have hbd : 0 ≤ x0 ∧ x0 ≤ 255 := by
        have := bounds_u8 w0; omega
      refine ⟨UInt8.ofNat x0.toNat, ?_⟩
      rw [Go.Deep.add_add, Nat.add_zero] at hcell
      rw [hcell, bV, ofNat_small (by omega)]
      congr 2; omega
    obtain ⟨F, hF⟩ := choose_row (α := UInt8) hcell
    have hlen : ((List.range len).map F).length = len := by simp
    refine ⟨some A, cap, (List.range len).map F, by rw [hlen], by rw [hlen]; exact hl, fun i hi' => ?_, .inr ⟨_, _, (Prod.mk.inj hx).1, by simp⟩, .inr ⟨_, _, (Prod.mk.inj hx).1, ?_⟩⟩
    · have hil : i < len := by simpa using hi'
      have hs : A.spot = none := by
        have z := hF 0 (by omega)
        have := spot_none z
        unfold Addr.add at this; split at this <;> simp_all
      have e : A.add i = ⟨A.block, A.off + i, none⟩ := by unfold Addr.add; split <;> (cases A; simp_all)
      refine ⟨A.block, A.off, by cases A; simp_all, ?_⟩
      simp only [List.getElem_map, List.getElem_range]
      rw [← e]; exact hF i hil
    · simp at hmm; simp; omega
end Go.Proofs.Ytekmjegeiminnaa
