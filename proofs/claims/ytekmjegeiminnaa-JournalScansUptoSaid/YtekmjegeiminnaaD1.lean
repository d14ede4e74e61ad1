/- The codec over any kind of value: how values lie in memory ('Ty'), runs of calls on one variable ('Run'), what writing and reading calls promise, put together out of parts. -/
import Derived.Test.YtekmjegeiminnaaB14
import Derived.Test.YtekmjegeiminnaaP6
import Derived.Deep.MidRow
namespace Go.Proofs.Ytekmjegeiminnaa
open Go.RowKit
set_option linter.unusedVariables false
set_option linter.unusedSimpArgs false

theorem Upd.range {M : Nat → Prop} {w w' : World} (h : Upd M w w') {b o : Nat} {cs : List Value} (hr : w.rangeAt b o cs) (hm : ¬ M b) : w'.rangeAt b o cs := fun j v hv => h.cell (hr j v hv) hm
theorem range_append {w : World} {b o : Nat} {l r : List Value} : w.rangeAt b o (l ++ r) ↔ w.rangeAt b o l ∧ w.rangeAt b (o + l.length) r := by
  constructor
  · intro h
    refine ⟨fun j v hv => h j v ?_, fun j v hv => ?_⟩
    · rw [List.getElem?_append_left (List.getElem?_eq_some_iff.1 hv).1]; exact hv
    · have := h (l.length + j) v (by rw [List.getElem?_append_right (by omega), Nat.add_sub_cancel_left]; exact hv)
      rw [Nat.add_assoc]; exact this
  · rintro ⟨h1, h2⟩ j v hv
    by_cases hj : j < l.length
    · rw [List.getElem?_append_left hj] at hv; exact h1 j v hv
    · rw [List.getElem?_append_right (by omega)] at hv
      have := h2 _ v hv
      rw [show o + l.length + (j - l.length) = o + j by omega] at this; exact this
theorem range_one {w : World} {b o : Nat} {v : Value} : w.rangeAt b o [v] ↔ w.cell? ⟨b, o, none⟩ = some v := by
  constructor
  · intro h; exact h 0 v rfl
  · intro h j u hu
    have : j = 0 := by have := (List.getElem?_eq_some_iff.1 hu).1; simp at this; omega
    subst this; simp at hu; subst hu; exact h

/-- A kind of value: in bytes, and in memory (S: the blocks that its slices may lie in). -/
structure Ty (α : Type) where
  cod : Cod α
  sz : Nat
  zero : List Value
  zlen : zero.length = sz
  rep : (Nat → Prop) → World → List Value → α → Prop
  len : ∀ {S : Nat → Prop} {w : World} {vs : List Value} {x : α}, rep S w vs x → vs.length = sz
  upd : ∀ {S M : Nat → Prop} {w w' : World} {vs : List Value} {x : α}, rep S w vs x → Upd M w w' → (∀ k, S k → ¬ M k) → rep S w' vs x
  mono : ∀ {S S' : Nat → Prop} {w : World} {vs : List Value} {x : α}, rep S w vs x → (∀ k, S k → S' k) → rep S' w vs x
  one : ∀ {S : Nat → Prop} {w : World} {vs : List Value} {x : α}, rep S w vs x → ∀ u ∈ vs, u.oneCell' = true
def tInt : Ty Int where
  cod := cN
  sz := 1
  zero := [.int .i64 0]
  zlen := rfl
  rep := fun _ _ vs x => vs = [.int .i64 x]
  len := fun h => by rw [h]; rfl
  upd := fun h _ _ => h
  mono := fun h _ => h
  one := fun h u hu => by rw [h] at hu; simp at hu; subst hu; rfl
def tStr : Ty Txt where
  cod := cT
  sz := 1
  zero := [.string (strOf [])]
  zlen := rfl
  rep := fun _ _ vs x => vs = [.string (strOf x)]
  len := fun h => by rw [h]; rfl
  upd := fun h _ _ => h
  mono := fun h _ => h
  one := fun h u hu => by rw [h] at hu; simp at hu; subst hu; rfl
def tPair {α β : Type} (A : Ty α) (B : Ty β) : Ty (α × β) where
  cod := cPair A.cod B.cod
  sz := A.sz + B.sz
  zero := A.zero ++ B.zero
  zlen := by rw [List.length_append, A.zlen, B.zlen]
  rep := fun S w vs x => ∃ l r, vs = l ++ r ∧ A.rep S w l x.1 ∧ B.rep S w r x.2
  len := fun h => by obtain ⟨l, r, rfl, h1, h2⟩ := h; rw [List.length_append, A.len h1, B.len h2]
  upd := fun h hu hm => by obtain ⟨l, r, e, h1, h2⟩ := h; exact ⟨l, r, e, A.upd h1 hu hm, B.upd h2 hu hm⟩
  mono := fun h hs => by obtain ⟨l, r, e, h1, h2⟩ := h; exact ⟨l, r, e, A.mono h1 hs, B.mono h2 hs⟩
  one := fun h u hu => by
    obtain ⟨l, r, rfl, h1, h2⟩ := h
    rcases List.mem_append.1 hu with hu | hu
    · exact A.one h1 u hu
    · exact B.one h2 u hu
/-- A slice's elements. -/
def Elems {α : Type} (A : Ty α) (S : Nat → Prop) (w : World) (a : Option Addr) (xs : List α) : Prop :=
  ∀ i (hi : i < xs.length), ∃ b o us, a = some ⟨b, o, none⟩ ∧ S b ∧ w.rangeAt b (o + i * A.sz) us ∧ A.rep S w us xs[i]
theorem Elems.upd {α : Type} {A : Ty α} {S M : Nat → Prop} {w w' : World} {a : Option Addr} {xs : List α} (h : Elems A S w a xs) (hu : Upd M w w') (hm : ∀ k, S k → ¬ M k) : Elems A S w' a xs := fun i hi => by
  obtain ⟨b, o, us, ha, hs, hr, hx⟩ := h i hi
  exact ⟨b, o, us, ha, hs, hu.range hr (hm b hs), A.upd hx hu hm⟩
theorem Elems.mono {α : Type} {A : Ty α} {S S' : Nat → Prop} {w : World} {a : Option Addr} {xs : List α} (h : Elems A S w a xs) (hs : ∀ k, S k → S' k) : Elems A S' w a xs := fun i hi => by
  obtain ⟨b, o, us, ha, h1, hr, hx⟩ := h i hi
  exact ⟨b, o, us, ha, hs b h1, hr, A.mono hx hs⟩
def tList {α : Type} (A : Ty α) : Ty (List α) where
  cod := cList A.cod
  sz := 1
  zero := [.slice none 0 0]
  zlen := rfl
  rep := fun S w vs xs => ∃ a cap, vs = [.slice a xs.length cap] ∧ xs.length ≤ cap ∧ (cap : Int) ≤ 9223372036854775807 ∧ Elems A S w a xs
  len := fun h => by obtain ⟨a, cap, rfl, -⟩ := h; rfl
  upd := fun h hu hm => by obtain ⟨a, cap, e, h1, h2, h3⟩ := h; exact ⟨a, cap, e, h1, h2, h3.upd hu hm⟩
  mono := fun h hs => by obtain ⟨a, cap, e, h1, h2, h3⟩ := h; exact ⟨a, cap, e, h1, h2, h3.mono hs⟩
  one := fun h u hu => by obtain ⟨a, cap, rfl, -⟩ := h; simp at hu; subst hu; rfl
/-- A value in a variable. -/
def At {α : Type} (T : Ty α) (S : Nat → Prop) (w : World) (pb po : Nat) (x : α) : Prop := ∃ vs, w.rangeAt pb po vs ∧ T.rep S w vs x
theorem At.upd {α : Type} {T : Ty α} {S M : Nat → Prop} {w w' : World} {pb po : Nat} {x : α} (h : At T S w pb po x) (hu : Upd M w w') (hp : ¬ M pb) (hm : ∀ k, S k → ¬ M k) : At T S w' pb po x := by
  obtain ⟨vs, h1, h2⟩ := h
  exact ⟨vs, hu.range h1 hp, T.upd h2 hu hm⟩
theorem At.mono {α : Type} {T : Ty α} {S S' : Nat → Prop} {w : World} {pb po : Nat} {x : α} (h : At T S w pb po x) (hm : ∀ k, S k → S' k) : At T S' w pb po x := by
  obtain ⟨vs, h1, h2⟩ := h
  exact ⟨vs, h1, T.mono h2 hm⟩
theorem at_pair {α β : Type} {A : Ty α} {B : Ty β} {S : Nat → Prop} {w : World} {pb po : Nat} {x : α × β} : At (tPair A B) S w pb po x ↔ At A S w pb po x.1 ∧ At B S w pb (po + A.sz) x.2 := by
  constructor
  · rintro ⟨vs, h1, l, r, rfl, h2, h3⟩
    obtain ⟨h4, h5⟩ := range_append.1 h1
    rw [A.len h2] at h5
    exact ⟨⟨l, h4, h2⟩, ⟨r, h5, h3⟩⟩
  · rintro ⟨⟨l, h4, h2⟩, ⟨r, h5, h3⟩⟩
    refine ⟨l ++ r, range_append.2 ⟨h4, ?_⟩, l, r, rfl, h2, h3⟩
    rw [A.len h2]; exact h5

/-! ### Runs of calls on a variable's parts -/
abbrev Call := Nat × Nat × Option Nat
abbrev vP (b o : Nat) : Value := .pointer (some ⟨b, o, none⟩)
abbrev unitE : Ending := .returned (.tuple #[])
def callArgs (c pb : Nat) : Call → Array Value
  | (_, o, none) => #[vP c 0, vP pb o]
  | (_, o, some g) => #[vP c 0, vP pb o, .func (.func g) #[vP c 0] #[]]
/-- New blocks alone, and what is to be kept now. -/
structure Ext (P : Nat → Prop) (w : World) (P1 : Nat → Prop) (w1 : World) : Prop where
  upd : Upd (fun _ => False) w w1
  keep : ∀ k, P1 k → P k ∨ (w.heap.size ≤ k ∧ k < w1.heap.size)
theorem Ext.refl (P : Nat → Prop) (w : World) : Ext P w P w := ⟨Upd.refl _ _, fun k h => .inl h⟩
theorem Ext.trans {P P1 P2 : Nat → Prop} {w w1 w2 : World} (h : Ext P w P1 w1) (k : Ext P1 w1 P2 w2) : Ext P w P2 w2 := by
  refine ⟨h.upd.trans k.upd (fun _ _ h => h), fun i hi => ?_⟩
  have s1 := h.upd.size
  have s2 := k.upd.size
  rcases k.keep i hi with h3 | h3
  · rcases h.keep i h3 with h4 | h4
    · exact .inl h4
    · exact .inr ⟨h4.1, by omega⟩
  · exact .inr ⟨by omega, h3.2⟩
def Keeps (P : Nat → Prop) (w w' : World) : Prop := ∀ k, k < w.heap.size → P k → w'.heap[k]? = w.heap[k]?
def Run (c pb : Nat) : List Call → ((Nat → Prop) → Ending → World → Prop) → (Nat → Prop) → World → Prop
  | [], Q, P, w => ∀ w1 P1, Ext P w P1 w1 → Q P1 unitE w1
  | x :: l, Q, P, w => ∀ w1 P1, Ext P w P1 w1 → Calls Try.prog x.1 (callArgs c pb x) w1 fun e w2 => Keeps P1 w1 w2 ∧ ((e = unitE ∧ Run c pb l Q P1 w2) ∨ ((∃ p, e = .panicked p) ∧ Q P1 e w2))
theorem Run.mono {c pb : Nat} {Q R : (Nat → Prop) → Ending → World → Prop} (hq : ∀ P e w, Q P e w → R P e w) : ∀ {l : List Call} {P : Nat → Prop} {w : World}, Run c pb l Q P w → Run c pb l R P w
  | [], P, w, h => fun w1 P1 he => hq _ _ _ (h w1 P1 he)
  | x :: l, P, w, h => fun w1 P1 he => (h w1 P1 he).mono fun e w2 ⟨h1, h2⟩ => ⟨h1, h2.imp (fun ⟨h3, h4⟩ => ⟨h3, Run.mono hq h4⟩) (fun ⟨h3, h4⟩ => ⟨h3, hq _ _ _ h4⟩)⟩
theorem Run.append {c pb : Nat} {Q : (Nat → Prop) → Ending → World → Prop} {l2 : List Call} : ∀ {l1 : List Call} {P : Nat → Prop} {w : World},
    Run c pb l1 (fun P1 e w' => (e = unitE ∧ Run c pb l2 Q P1 w') ∨ ((∃ p, e = .panicked p) ∧ Q P1 e w')) P w → Run c pb (l1 ++ l2) Q P w
  | [], P, w, h => by
    rcases h w P (Ext.refl _ _) with h | ⟨⟨p, h⟩, -⟩
    · exact h.2
    · cases h
  | x :: l, P, w, h => fun w1 P1 he => (h w1 P1 he).mono fun e w2 ⟨h1, h2⟩ => ⟨h1, by
    rcases h2 with ⟨h3, h4⟩ | ⟨h3, h4⟩
    · exact .inl ⟨h3, Run.append h4⟩
    · rcases h4 with ⟨h5, -⟩ | h5
      · obtain ⟨p, h3⟩ := h3; rw [h5] at h3; cases h3
      · exact .inr h5⟩
/-- A run begins in whatever worlds are more. -/
theorem Run.ext {c pb : Nat} {Q : (Nat → Prop) → Ending → World → Prop} : ∀ {l : List Call} {P P1 : Nat → Prop} {w w1 : World}, Run c pb l Q P w → Ext P w P1 w1 → Run c pb l Q P1 w1
  | [], _, _, _, _, h, he => fun w2 P2 h2 => h w2 P2 (he.trans h2)
  | _ :: _, _, _, _, _, h, he => fun w2 P2 h2 => h w2 P2 (he.trans h2)

/-! ### Writing -/
structure WPre (c pb : Nat) (v : Value) (bs : List UInt8) (P : Nat → Prop) (w : World) : Prop where
  cod : CodW w c v
  own : OwnB (c + 1) w v bs
  ne : pb ≠ c ∧ ∀ k, v.ownBlock = some k → pb ≠ k
  lt : pb < w.heap.size
  pc : ¬ P c
  pv : ∀ k, v.ownBlock = some k → ¬ P k
  pl : ∀ k, P k → k < w.heap.size
theorem WPre.ext {c pb : Nat} {v : Value} {bs : List UInt8} {P P1 : Nat → Prop} {w w1 : World} (h : WPre c pb v bs P w) (he : Ext P w P1 w1) : WPre c pb v bs P1 w1 := by
  have hs := he.upd.size
  refine ⟨h.cod.upd he.upd (fun h => h), h.own.on he.upd (fun _ _ h => h), h.ne, Nat.lt_of_lt_of_le h.lt hs, fun hp => ?_, fun k hk hp => ?_, fun k hk => ?_⟩
  · have := h.cod.lt
    rcases he.keep c hp with h1 | h1
    · exact h.pc h1
    · omega
  · have := (h.own.lt k hk).2
    rcases he.keep k hp with h1 | h1
    · exact h.pv k hk h1
    · omega
  · rcases he.keep k hk with h1 | h1
    · have := h.pl k h1; omega
    · omega
theorem WPre.wrote {c pb : Nat} {v v' : Value} {bs cs : List UInt8} {P : Nat → Prop} {w w' : World} (h : WPre c pb v bs P w) (hw : Wrote c v v' cs w w') : WPre c pb v' cs P w' := by
  have hs := hw.upd.size
  refine ⟨hw.cod, hw.own, ⟨h.ne.1, fun k hk => ?_⟩, Nat.lt_of_lt_of_le h.lt hs, h.pc, fun k hk hp => ?_, fun k hk => Nat.lt_of_lt_of_le (h.pl k hk) hs⟩
  · rcases hw.at_ with e | ⟨g, e, hg⟩
    · exact h.ne.2 k (e ▸ hk)
    · rw [e] at hk; cases hk; have := h.lt; omega
  · rcases hw.at_ with e | ⟨g, e, hg⟩
    · exact h.pv k (e ▸ hk) hp
    · rw [e] at hk; cases hk; have := h.pl _ hp; omega
theorem WPre.keeps {c pb : Nat} {v v' : Value} {bs cs : List UInt8} {P : Nat → Prop} {w w' : World} (h : WPre c pb v bs P w) (hw : Wrote c v v' cs w w') : Keeps P w w' := fun k hk hp => hw.upd.block k hk (fun hm => by
  rcases hm with rfl | hm
  · exact h.pc hp
  · exact h.pv k hm.symm hp)
theorem Wrote.ahead {c : Nat} {v v' : Value} {cs : List UInt8} {w w1 w' : World} (hu : Upd (fun _ => False) w w1) (h : Wrote c v v' cs w1 w') : Wrote c v v' cs w w' := by
  refine ⟨h.cod, h.own, (hu.mono (N := fun k => k = c ∨ some k = v.ownBlock) (fun _ _ h => h.elim)).trans h.upd (fun _ _ h => h), ?_⟩
  rcases h.at_ with e | ⟨g, e, hg⟩
  · exact .inl e
  · exact .inr ⟨g, e, Nat.le_trans hu.size hg⟩
theorem WPre.inner {c pb : Nat} {v : Value} {bs : List UInt8} {P : Nat → Prop} {w : World} (h : WPre c pb v bs P w) : (∀ k, k < c → ¬ (k = c ∨ some k = v.ownBlock)) ∧ ¬ (pb = c ∨ some pb = v.ownBlock) := by
  refine ⟨fun k hk hm => ?_, fun hm => ?_⟩
  · rcases hm with hm | hm
    · omega
    · have := (h.own.lt k hm.symm).1; omega
  · rcases hm with hm | hm
    · exact h.ne.1 hm
    · exact h.ne.2 _ hm.symm rfl
/-- A call that writes a value. -/
def WFun {α : Type} (f : Nat) (ex : Option Nat) (T : Ty α) : Prop := ∀ (c pb po : Nat) (v : Value) (bs : List UInt8) (x : α) (w : World), WPre c pb v bs (fun _ => False) w → At T (· < c) w pb po x → T.cod.ok x →
  bs.length + (T.cod.enc x).length ≤ 140737488354000 → Calls Try.prog f (callArgs c pb (f, po, ex)) w fun e w' => e = unitE ∧ ∃ v', Wrote c v v' (bs ++ T.cod.enc x) w w'
def WRun {α : Type} (l : Nat → List Call) (T : Ty α) : Prop := ∀ (c pb po : Nat) (v : Value) (bs : List UInt8) (x : α) (P : Nat → Prop) (w : World), WPre c pb v bs P w → At T (· < c) w pb po x → T.cod.ok x →
  bs.length + (T.cod.enc x).length ≤ 140737488354000 → Run c pb (l po) (fun P1 e w' => e = unitE ∧ ∃ v', Wrote c v v' (bs ++ T.cod.enc x) w w' ∧ WPre c pb v' (bs ++ T.cod.enc x) P1 w') P w
theorem WFun.run {α : Type} {f : Nat} {ex : Option Nat} {T : Ty α} (h : WFun f ex T) : WRun (fun po => [(f, po, ex)]) T := by
  intro c pb po v bs x P w hp ha ho hl w1 P1 he
  have hp1 := hp.ext he
  have hq : WPre c pb v bs (fun _ => False) w1 := ⟨hp1.cod, hp1.own, hp1.ne, hp1.lt, fun h => h, fun _ _ h => h, fun _ h => h.elim⟩
  refine (h c pb po v bs x w1 hq (ha.upd he.upd (fun h => h) (fun _ _ h => h)) ho hl).mono ?_
  rintro e w2 ⟨rfl, v', hw⟩
  refine ⟨hp1.keeps hw, .inl ⟨rfl, fun w3 P3 h3 => ⟨rfl, v', ?_, (hp1.wrote hw).ext h3⟩⟩⟩
  exact Wrote.ahead he.upd (hw.new (h3.upd.toBelow (Nat.le_refl _) (fun _ _ h => h)))
theorem WRun.pair {α β : Type} {l1 l2 : Nat → List Call} {A : Ty α} {B : Ty β} (h1 : WRun l1 A) (h2 : WRun l2 B) : WRun (fun po => l1 po ++ l2 (po + A.sz)) (tPair A B) := by
  intro c pb po v bs x P w hp ha ho hl
  have hl' : bs.length + ((A.cod.enc x.1).length + (B.cod.enc x.2).length) ≤ 140737488354000 := by
    have e : ((tPair A B).cod.enc x) = A.cod.enc x.1 ++ B.cod.enc x.2 := rfl
    rw [e, List.length_append] at hl; exact hl
  obtain ⟨ha1, ha2⟩ := at_pair.1 ha
  refine Run.append (Run.mono ?_ (h1 c pb po v bs x.1 P w hp ha1 ho.1 (by omega)))
  rintro P1 e w1 ⟨rfl, v1, hw, hp1⟩
  refine .inl ⟨rfl, Run.mono ?_ (h2 c pb (po + A.sz) v1 _ x.2 P1 w1 hp1 (ha2.upd hw.upd hp.inner.2 hp.inner.1) ho.2 (by rw [List.length_append]; omega))⟩
  rintro P2 e w2 ⟨rfl, v2, hw2, hp2⟩
  rw [List.append_assoc] at hw2 hp2
  exact ⟨rfl, v2, hw.trans hw2, hp2⟩
/-- Out of the function's own walk. -/
theorem WRun.fn {α : Type} {f : Nat} {l : Nat → List Call} {T : Ty α} (h : WRun l T)
    (hs : ∀ (c pb po : Nat) (Q : (Nat → Prop) → Ending → World → Prop) (w : World), c < w.heap.size → pb < w.heap.size → Run c pb (l po) Q (fun _ => False) w → Calls Try.prog f #[vP c 0, vP pb po] w fun e w' => ∃ P1, Q P1 e w') : WFun f none T := by
  intro c pb po v bs x w hp ha ho hl
  refine (hs c pb po _ w hp.cod.lt hp.lt (h c pb po v bs x _ w hp ha ho hl)).mono ?_
  rintro e w1 ⟨P1, rfl, v', hw, -⟩
  exact ⟨rfl, v', hw⟩

/-! ### Reading -/
/-- Of a variable's block those cells alone have turned. -/
def Stay (w w' : World) (pb po n : Nat) : Prop := ∀ vs t, w.heap[pb]? = some (.cells vs t (0, 0)) → ∃ vs', w'.heap[pb]? = some (.cells vs' t (0, 0)) ∧ vs'.size = vs.size ∧ ∀ j, (j < po ∨ po + n ≤ j) → vs'[j]? = vs[j]?
theorem Stay.trans {w w1 w2 : World} {pb po n po' n' : Nat} (h : Stay w w1 pb po n) (k : Stay w1 w2 pb po' n') {o m : Nat} (h1 : o ≤ po ∧ po + n ≤ o + m) (h2 : o ≤ po' ∧ po' + n' ≤ o + m) : Stay w w2 pb o m := fun vs t hv => by
  obtain ⟨vs1, e1, s1, g1⟩ := h vs t hv
  obtain ⟨vs2, e2, s2, g2⟩ := k vs1 t e1
  refine ⟨vs2, e2, by omega, fun j hj => ?_⟩
  rw [g2 j (by omega), g1 j (by omega)]
theorem Stay.of {w w' : World} {pb : Nat} (h : w'.heap[pb]? = w.heap[pb]?) (po n : Nat) : Stay w w' pb po n := fun vs t hv => ⟨vs, by rw [h]; exact hv, rfl, fun _ _ => rfl⟩
theorem Stay.range {w w' : World} {pb po n : Nat} (h : Stay w w' pb po n) {vs : Array Value} {t : TypeId} (hv : w.heap[pb]? = some (.cells vs t (0, 0))) {o : Nat} {cs : List Value} (hr : w.rangeAt pb o cs) (ho : o + cs.length ≤ po ∨ po + n ≤ o) : w'.rangeAt pb o cs := by
  obtain ⟨vs', e, s, g⟩ := h vs t hv
  intro j u hu
  have hj : j < cs.length := (List.getElem?_eq_some_iff.1 hu).1
  have h1 := hr j u hu
  simp only [World.cell?, hv] at h1
  simp only [World.cell?, e]
  rw [g (o + j) (by omega)]; exact h1
/-- A variable's block. -/
def VarB (w : World) (pb : Nat) : Prop := ∃ vs t, w.heap[pb]? = some (.cells vs t (0, 0))
theorem VarB.lt {w : World} {pb : Nat} (h : VarB w pb) : pb < w.heap.size := by obtain ⟨vs, t, h⟩ := h; exact (Array.getElem?_eq_some_iff.1 h).1
theorem VarB.frozen {w : World} {pb : Nat} (h : VarB w pb) (o : Nat) : w.frozen? ⟨pb, o, none⟩ = false := by obtain ⟨vs, t, h⟩ := h; simp [World.frozen?, h]
theorem VarB.upd {M : Nat → Prop} {w w' : World} {pb : Nat} (h : VarB w pb) (hu : Upd M w w') (hm : ¬ M pb) : VarB w' pb := by
  have hl := h.lt
  obtain ⟨vs, t, h⟩ := h
  exact ⟨vs, t, by rw [hu.block pb hl hm]; exact h⟩
theorem VarB.stay {w w' : World} {pb po n : Nat} (h : VarB w pb) (hs : Stay w w' pb po n) : VarB w' pb := by
  obtain ⟨vs, t, h⟩ := h
  obtain ⟨vs', e, -⟩ := hs vs t h
  exact ⟨vs', t, e⟩
structure RPre (c pb bb : Nat) (rs : List UInt8) (P : Nat → Prop) (w : World) : Prop where
  cod : CodR w c bb rs
  blt : bb < w.heap.size
  nc : pb ≠ c
  nb : pb ≠ bb
  var : VarB w pb
  len : rs.length ≤ 100000000000
  pc : ¬ P c
  pp : ¬ P pb
  pl : ∀ k, P k → k < w.heap.size
theorem RPre.ext {c pb bb : Nat} {rs : List UInt8} {P P1 : Nat → Prop} {w w1 : World} (h : RPre c pb bb rs P w) (he : Ext P w P1 w1) : RPre c pb bb rs P1 w1 := by
  have hs := he.upd.size
  refine ⟨h.cod.upd he.upd (fun h => h) (fun h => h), Nat.lt_of_lt_of_le h.blt hs, h.nc, h.nb, h.var.upd he.upd (fun h => h), h.len, fun hp => ?_, fun hp => ?_, fun k hk => ?_⟩
  · have := h.cod.lt
    rcases he.keep c hp with h1 | h1
    · exact h.pc h1
    · omega
  · have := h.var.lt
    rcases he.keep pb hp with h1 | h1
    · exact h.pp h1
    · omega
  · rcases he.keep k hk with h1 | h1
    · have := h.pl k h1; omega
    · omega
/-- What a reading call leaves. -/
def RPost {α : Type} (T : Ty α) (c pb po bb : Nat) (rs : List UInt8) (w : World) (e : Ending) (w' : World) : Prop :=
  Upd (fun k => k = c ∨ k = pb) w w' ∧ Stay w w' pb po T.sz ∧
  ((∃ x r, T.cod.dec rs = some (x, r) ∧ e = unitE ∧ CodR w' c bb r ∧ At T (fun k => w.heap.size ≤ k ∧ k < w'.heap.size) w' pb po x) ∨ (T.cod.dec rs = none ∧ e = .panicked wrongP))
def RFun {α : Type} (f : Nat) (ex : Option Nat) (T : Ty α) : Prop := ∀ (c pb po bb : Nat) (rs : List UInt8) (w : World), RPre c pb bb rs (fun _ => False) w → w.rangeAt pb po T.zero →
  Calls Try.prog f (callArgs c pb (f, po, ex)) w (RPost T c pb po bb rs w)
def RRun {α : Type} (l : Nat → List Call) (T : Ty α) : Prop := ∀ (c pb po bb : Nat) (rs : List UInt8) (P : Nat → Prop) (w : World), RPre c pb bb rs P w → w.rangeAt pb po T.zero →
  Run c pb (l po) (fun P1 e w' => RPost T c pb po bb rs w e w' ∧ ¬ P1 c ∧ ¬ P1 pb ∧ ∀ k, P1 k → k < w'.heap.size) P w
theorem RPost.ahead {α : Type} {T : Ty α} {c pb po bb : Nat} {rs : List UInt8} {w w1 w' : World} {e : Ending} (hp : pb < w.heap.size) (hu : Upd (fun _ => False) w w1) (h : RPost T c pb po bb rs w1 e w') : RPost T c pb po bb rs w e w' := by
  obtain ⟨h1, h2, h3⟩ := h
  refine ⟨(hu.mono (N := fun k => k = c ∨ k = pb) (fun _ _ h => h.elim)).trans h1 (fun _ _ h => h), ?_, ?_⟩
  · exact (Stay.of (hu.block pb hp (fun h => h)) po T.sz).trans h2 ⟨Nat.le_refl _, Nat.le_refl _⟩ ⟨Nat.le_refl _, Nat.le_refl _⟩
  · rcases h3 with ⟨x, r, h3, h4, h5, vs, h6, h7⟩ | h3
    · exact .inl ⟨x, r, h3, h4, h5, vs, h6, T.mono h7 (fun k hk => ⟨Nat.le_trans hu.size hk.1, hk.2⟩)⟩
    · exact .inr h3
theorem RPost.behind {α : Type} {T : Ty α} {c pb po bb : Nat} {rs : List UInt8} {w w1 w' : World} (hp : pb < w.heap.size) (hc : c < w.heap.size) (hb : bb < w.heap.size) (hu : Upd (fun _ => False) w1 w') (h : RPost T c pb po bb rs w unitE w1) : RPost T c pb po bb rs w unitE w' := by
  obtain ⟨h1, h2, h3⟩ := h
  refine ⟨h1.trans hu (fun _ _ h => h.elim), ?_, ?_⟩
  · exact h2.trans (Stay.of (hu.block pb (Nat.lt_of_lt_of_le hp h1.size) (fun h => h)) po T.sz) ⟨Nat.le_refl _, Nat.le_refl _⟩ ⟨Nat.le_refl _, Nat.le_refl _⟩
  · rcases h3 with ⟨x, r, h3, h4, h5, h6⟩ | ⟨h3, h4⟩
    · exact .inl ⟨x, r, h3, h4, h5.upd hu (fun h => h) (fun h => h), (h6.upd hu (fun h => h) (fun _ _ h => h)).mono (fun k hk => ⟨hk.1, Nat.lt_of_lt_of_le hk.2 hu.size⟩)⟩
    · cases h4
theorem RFun.run {α : Type} {f : Nat} {ex : Option Nat} {T : Ty α} (h : RFun f ex T) : RRun (fun po => [(f, po, ex)]) T := by
  intro c pb po bb rs P w hp hz w1 P1 he
  have hp1 := hp.ext he
  have hq : RPre c pb bb rs (fun _ => False) w1 := ⟨hp1.cod, hp1.blt, hp1.nc, hp1.nb, hp1.var, hp1.len, fun h => h, fun h => h, fun _ h => h.elim⟩
  refine (h c pb po bb rs w1 hq (he.upd.range hz (fun h => h))).mono ?_
  rintro e w2 hr
  have hk : Keeps P1 w1 w2 := fun k hk hP => hr.1.block k hk (fun hm => by
    rcases hm with rfl | rfl
    · exact hp1.pc hP
    · exact hp1.pp hP)
  refine ⟨hk, ?_⟩
  have hr0 := RPost.ahead hp.var.lt he.upd hr
  rcases hr.2.2 with ⟨x, r, h3, rfl, h5, h6⟩ | ⟨h3, rfl⟩
  · refine .inl ⟨rfl, fun w3 P3 h3 => ⟨RPost.behind hp.var.lt hp.cod.lt hp.blt h3.upd hr0, ?_⟩⟩
    have s1 := hr.1.size
    have s3 := h3.upd.size
    refine ⟨fun hP => ?_, fun hP => ?_, fun k hP => ?_⟩
    · rcases h3.keep _ hP with h4 | h4
      · exact hp1.pc h4
      · have := hp1.cod.lt; omega
    · rcases h3.keep _ hP with h4 | h4
      · exact hp1.pp h4
      · have := hp1.var.lt; omega
    · rcases h3.keep _ hP with h4 | h4
      · have := hp1.pl k h4; omega
      · omega
  · exact .inr ⟨⟨_, rfl⟩, hr0, hp1.pc, hp1.pp, fun k hP => Nat.lt_of_lt_of_le (hp1.pl k hP) hr.1.size⟩
theorem RRun.pair {α β : Type} {l1 l2 : Nat → List Call} {A : Ty α} {B : Ty β} (h1 : RRun l1 A) (h2 : RRun l2 B) : RRun (fun po => l1 po ++ l2 (po + A.sz)) (tPair A B) := by
  intro c pb po bb rs P w hp hz
  obtain ⟨hz1, hz2⟩ := range_append.1 (show w.rangeAt pb po (A.zero ++ B.zero) from hz)
  rw [A.zlen] at hz2
  have hd : ∀ rs, (tPair A B).cod.dec rs = (A.cod.dec rs).bind fun p => (B.cod.dec p.2).map fun q => ((p.1, q.1), q.2) := fun _ => rfl
  have hsz : (tPair A B).sz = A.sz + B.sz := rfl
  refine Run.append (Run.mono ?_ (h1 c pb po bb rs P w hp hz1))
  rintro P1 e w1 ⟨⟨hu, hst, hr⟩, hpc, hpp, hpl⟩
  obtain ⟨bv, bt, hbl⟩ := hp.var
  have hvar : VarB w pb := ⟨bv, bt, hbl⟩
  rcases hr with ⟨x, r, h3, rfl, h5, h6⟩ | ⟨h3, rfl⟩
  · have hlen : r.length ≤ 100000000000 := by
      have := (A.cod.ed _ _ _ h3).1
      have h4 := congrArg List.length this
      rw [List.length_append] at h4
      have := hp.len; omega
    refine .inl ⟨rfl, Run.mono ?_ (h2 c pb (po + A.sz) bb r P1 w1 ⟨h5, Nat.lt_of_lt_of_le hp.blt hu.size, hp.nc, hp.nb, hvar.stay hst, hlen, hpc, hpp, hpl⟩ (hst.range hbl hz2 (.inr (Nat.le_refl _))))⟩
    rintro P2 e w2 ⟨⟨hu2, hst2, hr2⟩, hpc2, hpp2, hpl2⟩
    refine ⟨⟨hu.trans hu2 (fun _ _ h => h), hst.trans hst2 ⟨by omega, by omega⟩ ⟨by omega, by omega⟩, ?_⟩, hpc2, hpp2, hpl2⟩
    rcases hr2 with ⟨y, r2, g3, rfl, g5, g6⟩ | ⟨g3, rfl⟩
    · refine .inl ⟨(x, y), r2, by rw [hd, h3]; simp [g3], rfl, g5, at_pair.2 ⟨?_, ?_⟩⟩
      · obtain ⟨vs, k1, k2⟩ := h6
        obtain ⟨vs1, e1, s1, -⟩ := hst bv bt hbl
        refine ⟨vs, hst2.range e1 k1 (.inl (by rw [A.len k2]; exact Nat.le_refl _)), A.mono (A.upd k2 hu2 (fun k hk hm => ?_)) (fun k hk => ⟨hk.1, Nat.lt_of_lt_of_le hk.2 hu2.size⟩)⟩
        have := hk.1
        have := hp.cod.lt
        have := hvar.lt
        omega
      · obtain ⟨vs, k1, k2⟩ := g6
        exact ⟨vs, k1, B.mono k2 (fun k hk => ⟨Nat.le_trans hu.size hk.1, hk.2⟩)⟩
    · exact .inr ⟨by rw [hd, h3]; simp [g3], rfl⟩
  · exact .inr ⟨⟨_, rfl⟩, ⟨hu, hst.trans (Stay.of rfl po 0) ⟨Nat.le_refl _, by omega⟩ ⟨Nat.le_refl _, by omega⟩, .inr ⟨by rw [hd, h3]; rfl, rfl⟩⟩, hpc, hpp, hpl⟩
theorem RRun.fn {α : Type} {f : Nat} {l : Nat → List Call} {T : Ty α} (h : RRun l T)
    (hs : ∀ (c pb po : Nat) (Q : (Nat → Prop) → Ending → World → Prop) (w : World), c < w.heap.size → pb < w.heap.size → Run c pb (l po) Q (fun _ => False) w → Calls Try.prog f #[vP c 0, vP pb po] w fun e w' => ∃ P1, Q P1 e w') : RFun f none T := by
  intro c pb po bb rs w hp hz
  refine (hs c pb po _ w hp.cod.lt hp.var.lt (h c pb po bb rs _ w hp hz)).mono ?_
  rintro e w1 ⟨P1, hr, -⟩
  exact hr
end Go.Proofs.Ytekmjegeiminnaa
