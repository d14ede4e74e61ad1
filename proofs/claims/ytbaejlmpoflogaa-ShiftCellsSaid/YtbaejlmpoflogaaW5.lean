/- ShiftCells walked. -/
import Derived.Test.YtbaejlmpoflogaaW4
namespace Go.Proofs.Ytbaejlmpoflogaa
open Go.RowKit
set_option linter.unusedVariables false
set_option linter.unusedSimpArgs false

theorem flat_at {w : World} {b o : Nat} {l : List CellV} (h : CellsAt w (some ⟨b, o, none⟩) l) : ∀ j u, (flatC l)[j]? = some u → w.cell? ((⟨b, o, none⟩ : Addr).add j) = some u := by
  intro j u hu
  have hj : j < l.length * 3 := by rw [← flatC_length]; exact (List.getElem?_eq_some_iff.1 hu).1
  have hi : j / 3 < l.length := by omega
  obtain ⟨b', o', he, k1, k2, k3⟩ := h (j / 3) hi
  simp only [Option.some.injEq, Addr.mk.injEq, and_true] at he
  obtain ⟨rfl, rfl⟩ := he
  obtain ⟨q1, q2, q3⟩ := flatC_get l (j / 3) hi
  have e : (⟨b, o, none⟩ : Addr).add j = ⟨b, o + j, none⟩ := by unfold Addr.add; split <;> simp_all
  rw [e]
  have hm : j % 3 = 0 ∨ j % 3 = 1 ∨ j % 3 = 2 := by omega
  rcases hm with hm | hm | hm
  · have ej : j = j / 3 * 3 := by omega
    rw [ej] at hu; rw [q1] at hu; cases hu
    rw [show o + j = o + j / 3 * 3 by omega]; exact k1
  · have ej : j = j / 3 * 3 + 1 := by omega
    rw [ej] at hu; rw [q2] at hu; cases hu
    rw [show o + j = o + j / 3 * 3 + 1 by omega]; exact k2
  · have ej : j = j / 3 * 3 + 2 := by omega
    rw [ej] at hu; rw [q3] at hu; cases hu
    rw [show o + j = o + j / 3 * 3 + 2 by omega]; exact k3
theorem flat_one (l : List CellV) : ∀ u ∈ flatC l, u.oneCell' = true := by
  intro u hu
  simp [flatC] at hu
  obtain ⟨c, _, h⟩ := hu
  rcases h with rfl | rfl | rfl <;> rfl

/-- What the law holds between the calls: the shift, the kept copy. -/
structure LawSt (w0 : World) (a n m : Int) (l : List CellV) (vk : Value) (w : World) : Prop where
  below : Below w0.heap.size w0 w
  s : Cells3 w0.heap.size a n m w
  kept : w.ownsRow (w0.heap.size + 1) 49 3 vk l.length (flatC l)
  size : w0.heap.size < w.heap.size
theorem LawSt.on {w0 : World} {a n m : Int} {l : List CellV} {vk : Value} {w w' : World} (h : LawSt w0 a n m l vk w) (hb : Below w.heap.size w w') : LawSt w0 a n m l vk w' :=
  ⟨h.below.trans (hb.mono h.below.size), h.s.on hb h.size, h.kept.kept (below_grown hb none) (by cases hv : vk.ownBlock <;> simp), Nat.lt_of_lt_of_le h.size hb.size⟩

/-- The row that the law may write to. -/
def Zap (B : Nat) (a : Option Addr) (n : Nat) (w : World) : Prop :=
  ∀ j, j < n * 3 → ∃ g, a = some ⟨g, 0, none⟩ ∧ B ≤ g ∧ (∃ u, w.cell? ⟨g, j, none⟩ = some u) ∧ w.frozen? ⟨g, j, none⟩ = false
theorem Zap.start {w : World} {B : Nat} {a : Option Addr} {cap : Nat} {xs : List CellV} (h : w.ownsRow B 49 3 (.slice a xs.length cap) xs.length (flatC xs)) : Zap B a xs.length w := by
  intro j hj
  rcases h.2 with ⟨h1, hn⟩ | ⟨g, cap', cur, h1, hg, hh, hc, hm, hs, ht⟩
  · omega
  · simp only [Value.slice.injEq] at h1
    obtain ⟨rfl, _, rfl⟩ := h1
    refine ⟨g, rfl, hg, ?_, h.frozenAt j⟩
    have := h.cellAt j hj
    rw [this]
    have hl : j < (flatC xs).length := by rw [flatC_length]; exact hj
    exact ⟨_, List.getElem?_eq_getElem hl⟩
theorem Zap.set {w : World} {B g i : Nat} {n : Nat} (h : Zap B (some ⟨g, 0, none⟩) n w) (v : Value) : Zap B (some ⟨g, 0, none⟩) n (w.setCell ⟨g, i, none⟩ v) := by
  intro j hj
  obtain ⟨g', he, hB, ⟨u, hu⟩, hf⟩ := h j hj
  simp only [Option.some.injEq, Addr.mk.injEq, and_true] at he
  subst he
  refine ⟨g, rfl, hB, ?_, (World.frozen?_setCell _ _ _ _).trans hf⟩
  by_cases e : i = j
  · subst e; exact ⟨v, World.cell?_setCell_same _ _ _ hu⟩
  · exact ⟨u, (World.cell?_setCell_other _ _ _ _ (by intro h; cases h; exact e rfl)).trans hu⟩
end Go.Proofs.Ytbaejlmpoflogaa
