/- What Cells computes, as a plain function on lists; two slices that the call itself has made; the reference's Pos with its world written out. -/
import Derived.Test.YtbaejlmpoflogaaW1
import Derived.Maps.AppendAt
import Derived.Deep.AppendLies
namespace Go.Proofs.Ytbaejlmpoflogaa
open Go.RowKit
set_option linter.unusedVariables false
set_option linter.unusedSimpArgs false

theorem posV_bdd {a n m : Int} (hg : goodB a n m = true) (p : Int) : -9223372036854775808 ≤ posV a n m p ∧ posV a n m p ≤ 9223372036854775807 := by
  obtain ⟨g1, g2, g3, g4, g5⟩ := good_facts hg
  unfold posV
  split
  · rename_i h
    obtain ⟨_, q1, q2, q3⟩ := h
    split <;> omega
  · omega

def lineOf (cols : Bool) (c : CellV) : Int := if cols then c.col else c.row
def movedTo (cols : Bool) (c : CellV) (q : Int) : CellV := if cols then ⟨c.row, q, c.text⟩ else ⟨q, c.col, c.text⟩
def goC (a n m : Int) (cols : Bool) : List CellV → List CellV → List CellV → Option (List CellV × List CellV)
  | [], st, go => some (st, go)
  | c :: r, st, go =>
    if posO a n m (lineOf cols c) = true then goC a n m cols r (st ++ [movedTo cols c (posV a n m (lineOf cols c))]) go
    else if 0 < n ∨ lineOf cols c < 1 ∨ m < lineOf cols c then none else goC a n m cols r st (go ++ [c])

abbrev flat1 (c : CellV) : List Value := [.int .i64 c.row, .int .i64 c.col, .string c.text]
def flatC (xs : List CellV) : List Value := xs.flatMap flat1
theorem flatC_length (xs : List CellV) : (flatC xs).length = xs.length * 3 := by
  induction xs with
  | nil => rfl
  | cons c r ih => simp [flatC] at ih ⊢; omega
theorem flatC_snoc (xs : List CellV) (c : CellV) : flatC (xs ++ [c]) = flatC xs ++ flat1 c := by simp [flatC]
theorem flatC_get (xs : List CellV) (i : Nat) (h : i < xs.length) : (flatC xs)[i * 3]? = some (.int .i64 xs[i].row) ∧ (flatC xs)[i * 3 + 1]? = some (.int .i64 xs[i].col) ∧ (flatC xs)[i * 3 + 2]? = some (.string xs[i].text) := by
  induction xs generalizing i with
  | nil => simp at h
  | cons c r ih =>
    cases i with
    | zero => simp [flatC]
    | succ i =>
      have := ih i (by simpa using h)
      have e : flatC (c :: r) = flat1 c ++ flatC r := by simp [flatC]
      rw [e]
      refine ⟨?_, ?_, ?_⟩
      · rw [List.getElem?_append_right (by simp; omega)]; simp only [List.length_cons, List.length_nil]; rw [show (i + 1) * 3 - (0 + 1 + 1 + 1) = i * 3 by omega]; simpa using this.1
      · rw [List.getElem?_append_right (by simp; omega)]; simp only [List.length_cons, List.length_nil]; rw [show (i + 1) * 3 + 1 - (0 + 1 + 1 + 1) = i * 3 + 1 by omega]; simpa using this.2.1
      · rw [List.getElem?_append_right (by simp; omega)]; simp only [List.length_cons, List.length_nil]; rw [show (i + 1) * 3 + 2 - (0 + 1 + 1 + 1) = i * 3 + 2 by omega]; simpa using this.2.2

theorem CellAt.same {w w' : World} {b o : Nat} {c : CellV} (h : CellAt w b o c) (hh : ∀ j, w'.cell? ⟨b, j, none⟩ = w.cell? ⟨b, j, none⟩) : CellAt w' b o c :=
  ⟨(hh _).trans h.1, (hh _).trans h.2.1, (hh _).trans h.2.2⟩
theorem CellAt.lt {w : World} {b o : Nat} {c : CellV} (h : CellAt w b o c) : b < w.heap.size := World.block_lt_of_cell? w _ h.1
theorem CellsAt.on {w w' : World} {a : Option Addr} {xs : List CellV} (h : CellsAt w a xs) (hb : Below w.heap.size w w') : CellsAt w' a xs := fun i hi => by
  obtain ⟨b, o, ha, hc⟩ := h i hi
  exact ⟨b, o, ha, hc.same fun j => hb.cell (by exact hc.lt)⟩
/-- An owned row of cells is a slice that reads as them. -/
theorem owned_reads {w : World} {B : Nat} {v : Value} {xs : List CellV} (h : w.ownsRow B 49 3 v xs.length (flatC xs)) : ∃ a cap, v = .slice a xs.length cap ∧ CellsAt w a xs := by
  rcases h.2 with ⟨rfl, hn⟩ | ⟨g, cap, cur, rfl, hg, hh, hc, hm, hs, ht⟩
  · exact ⟨none, 0, by rw [hn], fun i hi => by omega⟩
  · refine ⟨_, _, rfl, fun i hi => ⟨g, 0, rfl, ?_⟩⟩
    have hget : ∀ j u, (flatC xs)[j]? = some u → w.cell? ⟨g, j, none⟩ = some u := fun j u hu => by
      have := h.cells (g := g) rfl j u hu
      have e : (⟨g, 0, none⟩ : Addr).add j = ⟨g, j, none⟩ := by unfold Addr.add; split <;> simp_all
      rwa [e] at this
    obtain ⟨k1, k2, k3⟩ := flatC_get xs i hi
    exact ⟨by simpa using hget _ _ k1, by simpa using hget _ _ k2, by simpa using hget _ _ k3⟩

/-- Two slices of cells that the call has made, in rows of their own. -/
structure Two (B : Nat) (v1 v2 : Value) (xs ys : List CellV) (w : World) : Prop where
  own1 : w.ownsRow B 49 3 v1 xs.length (flatC xs)
  own2 : w.ownsRow B 49 3 v2 ys.length (flatC ys)
  apart : v1.ownBlock = none ∨ v1.ownBlock ≠ v2.ownBlock
theorem below_grown {w w' : World} (h : Below w.heap.size w w') (row : Option Nat) : w.grownBy w' row := ⟨h.os, h.tape, h.output, h.size, fun k hk _ => h.block k hk⟩
theorem Two.on {B : Nat} {v1 v2 : Value} {xs ys : List CellV} {w w' : World} (h : Two B v1 v2 xs ys w) (hb : Below w.heap.size w w') : Two B v1 v2 xs ys w' :=
  ⟨h.own1.kept (below_grown hb none) (by cases hv : v1.ownBlock <;> simp), h.own2.kept (below_grown hb none) (by cases hv : v2.ownBlock <;> simp), h.apart⟩
theorem Two.swap {B : Nat} {v1 v2 : Value} {xs ys : List CellV} {w : World} (h : Two B v1 v2 xs ys w) : Two B v2 v1 ys xs w :=
  ⟨h.own2, h.own1, by rcases h.apart with h1 | h1
                      · cases hv : v2.ownBlock with
                        | none => exact .inl rfl
                        | some g => exact .inr (by rw [h1]; simp)
                      · exact .inr (Ne.symm h1)⟩
/-- Behind an append onto the first. -/
theorem Two.push1 {B : Nat} {v1 v2 v' : Value} {xs ys : List CellV} {w w' : World} {c : CellV} (h : Two B v1 v2 xs ys w) (h1 : w'.ownsRow B 49 3 v' (xs.length + 1) (flatC xs ++ flat1 c)) (hg : w.grownBy w' v1.ownBlock)
    (ho : v'.ownBlock = v1.ownBlock ∨ v'.ownBlock = some w.heap.size) : Two B v' v2 (xs ++ [c]) ys w' := by
  refine ⟨by simpa [flatC_snoc] using h1, h.own2.kept hg ?_, ?_⟩
  · rcases h.apart with k | k
    · cases hv : v2.ownBlock with
      | none => exact .inl rfl
      | some g => exact .inr (by rw [k]; simp)
    · exact .inr (Ne.symm k)
  · rcases ho with ho | ho
    · rw [ho]; exact h.apart
    · refine .inr ?_
      rw [ho]
      intro he
      have := (h.own2.lt _ he.symm).2
      omega
theorem Two.push2 {B : Nat} {v1 v2 v' : Value} {xs ys : List CellV} {w w' : World} {c : CellV} (h : Two B v1 v2 xs ys w) (h1 : w'.ownsRow B 49 3 v' (ys.length + 1) (flatC ys ++ flat1 c)) (hg : w.grownBy w' v2.ownBlock)
    (ho : v'.ownBlock = v2.ownBlock ∨ v'.ownBlock = some w.heap.size) : Two B v1 v' xs (ys ++ [c]) w' := (h.swap.push1 h1 hg ho).swap

/-- What is appended lies in the newest block. -/
theorem news_at {w : World} {B : Nat} {t : TypeId} (cs : Array Value) (hB : B = w.heap.size) : ∀ j u, cs.toList[j]? = some u → (w.alloc (.cells cs t)).cell? ((⟨B, 0, none⟩ : Addr).add j) = some u := by
  subst hB; exact World.news_of_block (heap_alloc_new w _)
theorem Cells3.grown {B : Nat} {a n m : Int} {w w' : World} {row : Option Nat} (h : Cells3 B a n m w) (hg : w.grownBy w' row) (hne : ∀ k, row = some k → B < k) : Cells3 B a n m w' :=
  ⟨hg.cell h.1 (fun e => by have := hne B e.symm; omega), hg.cell h.2.1 (fun e => by have := hne B e.symm; omega), hg.cell h.2.2 (fun e => by have := hne B e.symm; omega)⟩
theorem Two.weaken {B C : Nat} {v1 v2 : Value} {xs ys : List CellV} {w : World} (h : Two B v1 v2 xs ys w) (hB : C ≤ B) : Two C v1 v2 xs ys w := by
  have k : ∀ {v : Value} {n : Nat} {zs : List Value}, w.ownsRow B 49 3 v n zs → w.ownsRow C 49 3 v n zs := by
    rintro v n zs ⟨h1, h2 | ⟨g, cap, cur, h2, h3, h4⟩⟩
    · exact ⟨h1, .inl h2⟩
    · exact ⟨h1, .inr ⟨g, cap, cur, h2, Nat.le_trans hB h3, h4⟩⟩
  exact ⟨k h.own1, k h.own2, h.apart⟩
theorem goC_keep {a n m : Int} {cols : Bool} {l r st go : List CellV} {c : CellV} {x : Option (List CellV × List CellV)} (h : x = goC a n m cols l st go) (hl : l = c :: r) (hp : posO a n m (lineOf cols c) = true) :
    x = goC a n m cols r (st ++ [movedTo cols c (posV a n m (lineOf cols c))]) go := by rw [h, hl, goC, if_pos hp]
theorem goC_gone {a n m : Int} {cols : Bool} {l r st go : List CellV} {c : CellV} {x : Option (List CellV × List CellV)} (h : x = goC a n m cols l st go) (hl : l = c :: r) (hp : posO a n m (lineOf cols c) = false)
    (hn : ¬ (0 < n ∨ lineOf cols c < 1 ∨ m < lineOf cols c)) : x = goC a n m cols r st (go ++ [c]) := by rw [h, hl, goC, if_neg (by rw [hp]; decide), if_neg hn]
theorem goC_none {a n m : Int} {cols : Bool} {l r st go : List CellV} {c : CellV} {x : Option (List CellV × List CellV)} (h : x = goC a n m cols l st go) (hl : l = c :: r) (hp : posO a n m (lineOf cols c) = false)
    (hn : 0 < n ∨ lineOf cols c < 1 ∨ m < lineOf cols c) : x = none := by rw [h, hl, goC, if_neg (by rw [hp]; decide), if_pos hn]
theorem one_cell (r c : Int) (t : ByteArray) : ∀ u ∈ flat1 ⟨r, c, t⟩, u.oneCell' = true := by
  intro u hu; simp at hu; rcases hu with rfl | rfl | rfl <;> rfl

set_option maxHeartbeats 4000000 in
theorem pos_ref_w (a n m p : Int) (hg : goodB a n m = true) (hp : I64 p) (w : World) :
    Calls Try.prog 10 #[.agg #[.int .i64 a, .int .i64 n, .int .i64 m], .int .i64 p] w fun e w' => e = retIB (posV a n m p) (posO a n m p) ∧
      w' = (w.alloc (.cells #[.int .i64 a, .int .i64 n, .int .i64 m] 31)).alloc (.cells #[.int .i64 a, .int .i64 n, .int .i64 m] 31) := by
  obtain ⟨g1, g2, g3, g4, g5⟩ := good_facts hg
  go_enter Try.func10, Try.ntmps10
  go_wp2_with fail
  refine (good_ref_w a n m ⟨by omega, by omega⟩ ⟨by omega, by omega⟩ ⟨by omega, by omega⟩ _).mono ?_
  rintro e w1 ⟨rfl, rfl⟩
  rw [hg]
  have HG := hidden hg
  have HN : -1000 ≤ n ∧ n ≤ 1000 := by omega
  have G5 := hidden g5
  unfold I64 at hp
  clear hg g5
  go_wp2
  all_goals go_ret2
  all_goals (refine ⟨?_, rfl⟩; have g5 := G5.out)
  all_goals first
    | exact pos_out (by rintro ⟨_, q1, q2, q3⟩; simp at *; omega)
    | exact pos_lo ⟨HG.out, by omega, by omega, by omega⟩ (by omega)
    | exact pos_hi ⟨HG.out, by omega, by omega, by simp at *; omega⟩ (by omega)
end Go.Proofs.Ytbaejlmpoflogaa
