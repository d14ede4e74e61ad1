/- Plain laws on values in bytes, put together out of numbers, texts, pairs and lists: what is written is read, what is read was so written. -/
import Derived.Test.YtekmjegeiminnaaB18
set_option linter.unusedVariables false
set_option linter.unusedSimpArgs false
namespace Go.Proofs.Ytekmjegeiminnaa
open Go.RowKit

/-- How values stand in bytes. -/
structure Cod (α : Type) where
  enc : α → List UInt8
  dec : List UInt8 → Option (α × List UInt8)
  ok : α → Prop
  de : ∀ x r, ok x → dec (enc x ++ r) = some (x, r)
  ed : ∀ bs x r, dec bs = some (x, r) → bs = enc x ++ r ∧ ok x
  pos : ∀ x, 0 < (enc x).length
def cN : Cod Int where
  enc := encN
  dec := decN
  ok := I64
  de := fun x r h => decN_encN h r
  ed := fun bs x r h => encN_decN h
  pos := encN_pos
def encT (s : List UInt8) : List UInt8 := encN s.length ++ s
def decT (bs : List UInt8) : Option (List UInt8 × List UInt8) := (decC bs).map fun p => (p.2.take p.1, p.2.drop p.1)
theorem decC_ed {bs r : List UInt8} {n : Nat} (h : decC bs = some (n, r)) : bs = encN n ++ r ∧ n ≤ r.length ∧ n ≤ 9223372036854775807 := by
  unfold decC at h
  cases hd : decN bs with
  | none => rw [hd] at h; cases h
  | some p =>
    rw [hd] at h
    simp only [Option.bind_some] at h
    split at h
    · rename_i hc
      simp only [Option.some.injEq, Prod.mk.injEq] at h
      obtain ⟨rfl, rfl⟩ := h
      obtain ⟨e, h1, h2⟩ := encN_decN (bs := bs) (n := p.1) (rest := p.2) (by rw [hd])
      refine ⟨?_, by omega, by omega⟩
      rw [show ((p.1.toNat : Nat) : Int) = p.1 by omega]; exact e
    · cases h
theorem decT_encT {s : List UInt8} (h : s.length ≤ 9223372036854775807) (r : List UInt8) : decT (encT s ++ r) = some (s, r) := by
  unfold decT encT
  rw [List.append_assoc, decC_encN (by simp) h]
  simp
theorem encT_decT {bs s r : List UInt8} (h : decT bs = some (s, r)) : bs = encT s ++ r ∧ s.length ≤ 9223372036854775807 := by
  unfold decT at h
  cases hd : decC bs with
  | none => rw [hd] at h; cases h
  | some p =>
    rw [hd] at h
    simp only [Option.map_some, Option.some.injEq, Prod.mk.injEq] at h
    obtain ⟨rfl, rfl⟩ := h
    obtain ⟨e, h1, h2⟩ := decC_ed (bs := bs) (n := p.1) (r := p.2) (by rw [hd])
    have hl : (p.2.take p.1).length = p.1 := by rw [List.length_take]; omega
    refine ⟨?_, by omega⟩
    unfold encT
    rw [hl, List.append_assoc, List.take_append_drop]; exact e
def cT : Cod (List UInt8) where
  enc := encT
  dec := decT
  ok := fun s => s.length ≤ 9223372036854775807
  de := fun x r h => decT_encT h r
  ed := fun bs x r h => encT_decT h
  pos := fun x => by unfold encT; have := encN_pos (x.length : Int); rw [List.length_append]; omega
def cPair {α β : Type} (a : Cod α) (b : Cod β) : Cod (α × β) where
  enc := fun x => a.enc x.1 ++ b.enc x.2
  dec := fun bs => (a.dec bs).bind fun p => (b.dec p.2).map fun q => ((p.1, q.1), q.2)
  ok := fun x => a.ok x.1 ∧ b.ok x.2
  de := fun x r h => by
    simp only [List.append_assoc, a.de _ _ h.1, Option.bind_some, b.de _ _ h.2, Option.map_some]
  ed := fun bs x r h => by
    cases h1 : a.dec bs with
    | none => rw [h1] at h; cases h
    | some p =>
      rw [h1] at h
      simp only [Option.bind_some] at h
      cases h2 : b.dec p.2 with
      | none => rw [h2] at h; cases h
      | some q =>
        rw [h2] at h
        simp only [Option.map_some, Option.some.injEq, Prod.mk.injEq] at h
        obtain ⟨rfl, rfl⟩ := h
        obtain ⟨e1, o1⟩ := a.ed bs p.1 p.2 (by rw [h1])
        obtain ⟨e2, o2⟩ := b.ed p.2 q.1 q.2 (by rw [h2])
        exact ⟨by rw [e1, e2, List.append_assoc], o1, o2⟩
  pos := fun x => by have := a.pos x.1; rw [List.length_append]; omega
/-- So many values, one by one. -/
def encM {α : Type} (a : Cod α) (l : List α) : List UInt8 := (l.map a.enc).flatten
def decM {α : Type} (a : Cod α) : Nat → List UInt8 → Option (List α × List UInt8)
  | 0, r => some ([], r)
  | n + 1, r => (a.dec r).bind fun p => (decM a n p.2).map fun q => (p.1 :: q.1, q.2)
theorem encM_cons {α : Type} (a : Cod α) (x : α) (l : List α) : encM a (x :: l) = a.enc x ++ encM a l := by simp [encM]
theorem encM_append {α : Type} (a : Cod α) (l m : List α) : encM a (l ++ m) = encM a l ++ encM a m := by simp [encM]
theorem encM_one {α : Type} (a : Cod α) (x : α) : encM a [x] = a.enc x := by simp [encM]
theorem encM_ge {α : Type} (a : Cod α) : ∀ (l : List α), l.length ≤ (encM a l).length
  | [] => by simp
  | x :: l => by have := encM_ge a l; have := a.pos x; rw [encM_cons, List.length_append, List.length_cons]; omega
theorem decM_encM {α : Type} (a : Cod α) : ∀ (l : List α) (r : List UInt8), (∀ x ∈ l, a.ok x) → decM a l.length (encM a l ++ r) = some (l, r)
  | [], r, _ => by simp [encM, decM]
  | x :: l, r, h => by
    rw [encM_cons, List.append_assoc, List.length_cons, decM, a.de _ _ (h x (List.mem_cons_self ..))]
    simp [decM_encM a l r (fun y hy => h y (List.mem_cons_of_mem _ hy))]
theorem encM_decM {α : Type} (a : Cod α) : ∀ (n : Nat) (bs : List UInt8) (l : List α) (r : List UInt8), decM a n bs = some (l, r) → bs = encM a l ++ r ∧ l.length = n ∧ ∀ x ∈ l, a.ok x
  | 0, bs, l, r, h => by
    simp only [decM, Option.some.injEq, Prod.mk.injEq] at h
    obtain ⟨rfl, rfl⟩ := h
    exact ⟨by simp [encM], rfl, fun x hx => by cases hx⟩
  | n + 1, bs, l, r, h => by
    simp only [decM] at h
    cases h1 : a.dec bs with
    | none => rw [h1] at h; cases h
    | some p =>
      rw [h1] at h
      simp only [Option.bind_some] at h
      cases h2 : decM a n p.2 with
      | none => rw [h2] at h; cases h
      | some q =>
        rw [h2] at h
        simp only [Option.map_some, Option.some.injEq, Prod.mk.injEq] at h
        obtain ⟨rfl, rfl⟩ := h
        obtain ⟨e1, o1⟩ := a.ed bs p.1 p.2 (by rw [h1])
        obtain ⟨e2, l2, o2⟩ := encM_decM a n p.2 q.1 q.2 (by rw [h2])
        refine ⟨by rw [encM_cons, List.append_assoc, ← e2]; exact e1, by rw [List.length_cons, l2], fun x hx => ?_⟩
        rcases List.mem_cons.1 hx with rfl | hx
        · exact o1
        · exact o2 x hx
def encL {α : Type} (a : Cod α) (l : List α) : List UInt8 := encN l.length ++ encM a l
def decL {α : Type} (a : Cod α) (bs : List UInt8) : Option (List α × List UInt8) := (decC bs).bind fun p => decM a p.1 p.2
def cList {α : Type} (a : Cod α) : Cod (List α) where
  enc := encL a
  dec := decL a
  ok := fun l => l.length ≤ 9223372036854775807 ∧ ∀ x ∈ l, a.ok x
  de := fun l r h => by
    unfold decL encL
    rw [List.append_assoc, decC_encN (by have := encM_ge a l; simp; omega) h.1]
    exact decM_encM a l r h.2
  ed := fun bs l r h => by
    unfold decL at h
    cases hd : decC bs with
    | none => rw [hd] at h; cases h
    | some p =>
      rw [hd] at h
      simp only [Option.bind_some] at h
      obtain ⟨e, h1, h2⟩ := decC_ed (bs := bs) (n := p.1) (r := p.2) (by rw [hd])
      obtain ⟨e2, l2, o2⟩ := encM_decM a p.1 p.2 l r h
      refine ⟨?_, by omega, o2⟩
      unfold encL
      rw [l2, List.append_assoc, ← e2]; exact e
  pos := fun x => by unfold encL; have := encN_pos (x.length : Int); rw [List.length_append]; omega
/-- A value whose bytes are all that there is. -/
def whole {α : Type} (a : Cod α) (bs : List UInt8) : Option α := (a.dec bs).bind fun p => if p.2.length = 0 then some p.1 else none
theorem whole_enc {α : Type} (a : Cod α) {x : α} (h : a.ok x) : whole a (a.enc x) = some x := by
  unfold whole
  have := a.de x [] h
  rw [List.append_nil] at this
  rw [this]; rfl
theorem enc_whole {α : Type} (a : Cod α) {bs : List UInt8} {x : α} (h : whole a bs = some x) : bs = a.enc x ∧ a.ok x := by
  unfold whole at h
  cases hd : a.dec bs with
  | none => rw [hd] at h; cases h
  | some p =>
    rw [hd] at h
    simp only [Option.bind_some] at h
    split at h
    · rename_i h0
      simp only [Option.some.injEq] at h
      subst h
      obtain ⟨e, o⟩ := a.ed bs p.1 p.2 (by rw [hd])
      exact ⟨by rw [e, List.eq_nil_of_length_eq_zero h0, List.append_nil], o⟩
    · cases h

/-! ### The kinds of values -/
abbrev Txt := List UInt8
abbrev ValD := Int × Int × Txt
abbrev CellD := Int × Int × Txt
abbrev NameD := Txt × Txt × Txt
abbrev LinkD := Txt × Txt × Int × Int × ValD
abbrev SheetD := Txt × List CellD
abbrev BookD := List SheetD × List NameD × List LinkD
abbrev OpD := Int × Txt × Txt × Int × Int × Int × Int × Txt × NameD × LinkD × List CellD
def cVal : Cod ValD := cPair cN (cPair cN cT)
def cCell : Cod CellD := cPair cN (cPair cN cT)
def cName : Cod NameD := cPair cT (cPair cT cT)
def cLink : Cod LinkD := cPair cT (cPair cT (cPair cN (cPair cN cVal)))
def cSheet : Cod SheetD := cPair cT (cList cCell)
def cBook : Cod BookD := cPair (cList cSheet) (cPair (cList cName) (cList cLink))
def cOp : Cod OpD := cPair cN (cPair cT (cPair cT (cPair cN (cPair cN (cPair cN (cPair cN (cPair cT (cPair cName (cPair cLink (cList cCell))))))))))
end Go.Proofs.Ytekmjegeiminnaa
