/- Slices of ints that the calls have made; the reading codec's list, walked. -/
import Derived.Test.YtekmjegeiminnaaB10
import Derived.Deep.RegionHeld3
namespace Go.Proofs.Ytekmjegeiminnaa
open Go.RowKit
set_option linter.unusedVariables false
set_option linter.unusedSimpArgs false

def intVs (xs : List Int) : List Value := xs.map (.int .i64 ·)
theorem intVs_length (xs : List Int) : (intVs xs).length = xs.length := by simp [intVs]
theorem intVs_append (xs ys : List Int) : intVs (xs ++ ys) = intVs xs ++ intVs ys := by simp [intVs]
theorem intVs_get (xs : List Int) (i : Nat) (h : i < xs.length) : (intVs xs)[i]? = some (.int .i64 xs[i]) := by simp [intVs, h]
/-- The slice v, made by the calls from block B on, owns these ints. -/
def OwnI (B : Nat) (w : World) (v : Value) (xs : List Int) : Prop := w.ownsRow B 3 1 v xs.length (intVs xs)
theorem OwnI.nil (B : Nat) (w : World) : OwnI B w (.slice none 0 0) [] := World.ownsRow_nil _ _ _ _
theorem OwnI.lt {B : Nat} {w : World} {v : Value} {xs : List Int} (h : OwnI B w v xs) : ∀ k, v.ownBlock = some k → B ≤ k ∧ k < w.heap.size := World.ownsRow.lt h
theorem OwnI.weaken {B C : Nat} {w : World} {v : Value} {xs : List Int} (h : OwnI B w v xs) (hC : C ≤ B) : OwnI C w v xs := by
  obtain ⟨h1, h2 | ⟨g, cap, cur, h2, h3, h4⟩⟩ := h
  · exact ⟨h1, .inl h2⟩
  · exact ⟨h1, .inr ⟨g, cap, cur, h2, Nat.le_trans hC h3, h4⟩⟩
theorem OwnI.on {B : Nat} {M : Nat → Prop} {w w' : World} {v : Value} {xs : List Int} (h : OwnI B w v xs) (hu : Upd M w w') (hm : ∀ k, v.ownBlock = some k → ¬ M k) : OwnI B w' v xs := by
  refine ⟨h.1, ?_⟩
  rcases h.2 with hn | ⟨g, cap, cur, rfl, hb, hgg, rest⟩
  · exact .inl hn
  · exact .inr ⟨g, cap, cur, rfl, hb, by rw [hu.block g (Array.getElem?_eq_some_iff.1 hgg).1 (hm g rfl)]; exact hgg, rest⟩
/-- An owned slice reads as its ints. -/
theorem OwnI.reads {B : Nat} {w : World} {v : Value} {xs : List Int} (h : OwnI B w v xs) : ∃ a cap, v = .slice a xs.length cap ∧ IntsAt w a xs ∧ xs.length ≤ cap ∧ (∀ A, a = some A → v.ownBlock = some A.block ∧ A.off = 0 ∧ A.spot = none) := by
  rcases h.2 with ⟨rfl, hn⟩ | ⟨g, cap, cur, rfl, hg, hh, hc, hm, hs, ht⟩
  · exact ⟨none, 0, by rw [hn], fun i hi => by omega, by omega, fun A hA => by cases hA⟩
  · refine ⟨_, _, rfl, fun i hi => ⟨g, 0, rfl, ?_⟩, hc, fun A hA => by cases hA; exact ⟨rfl, rfl, rfl⟩⟩
    have := World.ownsRow.cells (g := g) h rfl i _ (intVs_get xs i hi)
    have e : (⟨g, 0, none⟩ : Addr).add i = ⟨g, i, none⟩ := by unfold Addr.add; split <;> simp_all
    rw [e] at this
    simpa using this
theorem Try.info3 : (Try.prog.info? 3).map (fun i => (i.zero, i.size, i.bytes)) = some (some (.int .i64 0), 1, 8) := by kernel_rfl
/-- What an append of ints leaves. -/
structure GrewI (B : Nat) (v v' : Value) (xs : List Int) (w w' : World) : Prop where
  own : OwnI B w' v' xs
  upd : Upd (fun k => some k = v.ownBlock) w w'
  at_ : v'.ownBlock = v.ownBlock ∨ ∃ g, v'.ownBlock = some g ∧ w.heap.size ≤ g
/-- An append of one int onto a row of the calls' own: its run. -/
theorem run_append_I {w : World} {ty : TypeId} {B : Nat} {v : Value} {xs : List Int} {x : Int} (ho : OwnI B w v xs) {A : Addr} {c : Nat} (hr : w.cell? A = some (.int .i64 x)) (hA : A.spot = none) (hl : xs.length ≤ 10000000000000) (hB : B ≤ w.heap.size) :
    ∃ v' w', (Builtin.append_ #[36, 36] ty #[v, .slice (some A) 1 c]).run Try.prog w = .ok v' w' ∧ GrewI B v v' (xs ++ [x]) w w' := by
  obtain ⟨i0, hi, hz0, hz1, hz2⟩ := info_parts Try.info3
  obtain ⟨v', w', hrun, h2, h3, _, h5⟩ := run_append_own_at (P := Try.prog) w B 36 ty 3 i0 (.int .i64 0) 1 8 Try.underlying36 hi hz0 hz1 hz2 rfl (by decide) v xs.length (intVs xs) ho A 1 c [.int .i64 x]
      rfl (fun j u hj => by
        have : j = 0 := by
          have := (List.getElem?_eq_some_iff.1 hj).1; simp at this; omega
        subst this; simp at hj; subst hj
        obtain ⟨b, o, s⟩ := A
        simp only at hA; subst hA
        simpa [Addr.add] using hr) (by intro u hu; simp at hu; subst hu; rfl) (by unfold maxLen; omega) (by omega) hB
  refine ⟨v', w', hrun, ⟨?_, Upd.ofGrown h3, ?_⟩⟩
  · unfold OwnI; rw [List.length_append, intVs_append]; exact h2
  · rcases h5 with h5 | h5
    · exact .inl h5
    · exact .inr ⟨_, h5, Nat.le_refl _⟩
theorem step_append_I {ops : Array Oper} {o : Oper} {a : Act} {K : Act → World → Prop} {Q : Exit → Act → World → Prop} {E : Prop} {w : World} (hgd : o.guard = none) (s x : Operand)
    (hop : o.op = .call { callee := .builtin .append, args := #[s, x], argTypes := #[36, 36] })
    {B : Nat} {v : Value} {xs : List Int} {n : Int} (hs : a.eval s = v) (ho : OwnI B w v xs) {A : Addr} {c : Nat} (hx : a.eval x = .slice (some A) 1 c) (hr : w.cell? A = some (.int .i64 n)) (hA : A.spot = none)
    (hl : xs.length ≤ 10000000000000) (hB : B ≤ w.heap.size) (h : ∀ v' w', GrewI B v v' (xs ++ [n]) w w' → K (a.put o.dst v') w') :
    if Region.wanted o (yielded ops a.tmps) = true then Oper.wp Try.prog o a w K Q else E := by
  have hw : Region.wanted o (yielded ops a.tmps) = true := by simp [Region.wanted, hgd]
  rw [if_pos hw]
  obtain ⟨v', w', hrun, hg⟩ := run_append_I (ty := o.type) ho (c := c) hr hA hl hB
  unfold Oper.wp execOp
  simp only [hop, resolve, invoke, builtin, Sem.run_bind, Sem.run_pure, Result.andThen_ok, List.map_toArray, List.map_cons, List.map_nil, hs, hx, hrun]
  exact h v' w' hg
/-- Ints that are read, so many. -/
def decS : Nat → List UInt8 → Option (List Int × List UInt8)
  | 0, r => some ([], r)
  | n + 1, r => (decN r).bind fun p => (decS n p.2).map fun q => (p.1 :: q.1, q.2)
def decI (rs : List UInt8) : Option (List Int × List UInt8) := (decC rs).bind fun p => decS p.1 p.2
end Go.Proofs.Ytekmjegeiminnaa
