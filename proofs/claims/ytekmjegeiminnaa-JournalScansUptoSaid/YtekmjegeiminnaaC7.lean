/- Rows of chunks that the calls have made; plain and same, walked. -/
import Derived.Test.YtekmjegeiminnaaC6
namespace Go.Proofs.Ytekmjegeiminnaa
open Go.RowKit
set_option linter.unusedVariables false
set_option linter.unusedSimpArgs false

theorem Try.info121 : (Try.prog.info? 121).map (fun i => (i.zero, i.size, i.bytes)) = some (some (.agg #[.string ⟨#[]⟩, .slice none 0 0]), 2, 40) := by kernel_rfl
theorem Try.info124 : (Try.prog.info? 124).map (fun i => (i.zero, i.size, i.bytes)) = some (some (.agg #[.string ⟨#[]⟩, .slice none 0 0]), 2, 40) := by kernel_rfl

def pairCells (ps : List (Value × Value)) : List Value := ps.flatMap fun p => [p.1, p.2]
theorem pairCells_length (ps : List (Value × Value)) : (pairCells ps).length = ps.length * 2 := by
  induction ps with
  | nil => rfl
  | cons p r ih => simp only [pairCells, List.flatMap_cons, List.length_append, List.length_cons, List.length_nil] at ih ⊢; omega
theorem pairCells_snoc (ps : List (Value × Value)) (p : Value × Value) : pairCells (ps ++ [p]) = pairCells ps ++ [p.1, p.2] := by simp [pairCells]
theorem pairCells_get : ∀ (ps : List (Value × Value)) (i : Nat) (h : i < ps.length), (pairCells ps)[i * 2]? = some ps[i].1 ∧ (pairCells ps)[i * 2 + 1]? = some ps[i].2
  | p :: r, 0, _ => by simp [pairCells]
  | p :: r, i + 1, h => by
    have := pairCells_get r i (by simpa using h)
    have e : pairCells (p :: r) = p.1 :: p.2 :: pairCells r := by simp [pairCells]
    rw [e, show (i + 1) * 2 = i * 2 + 1 + 1 by omega]
    simpa using this
/-- The slice v, made by the calls from block B on, owns these pairs of cells. -/
def OwnP (e : TypeId) (B : Nat) (w : World) (v : Value) (ps : List (Value × Value)) : Prop := w.ownsRow B e 2 v ps.length (pairCells ps)
theorem OwnP.nil (e : TypeId) (B : Nat) (w : World) : OwnP e B w (.slice none 0 0) [] := World.ownsRow_nil _ _ _ _
theorem OwnP.lt {e : TypeId} {B : Nat} {w : World} {v : Value} {ps : List (Value × Value)} (h : OwnP e B w v ps) : ∀ k, v.ownBlock = some k → B ≤ k ∧ k < w.heap.size := World.ownsRow.lt h
theorem OwnP.on {e : TypeId} {B : Nat} {M : Nat → Prop} {w w' : World} {v : Value} {ps : List (Value × Value)} (h : OwnP e B w v ps) (hu : Upd M w w') (hm : ∀ k, v.ownBlock = some k → ¬ M k) : OwnP e B w' v ps := by
  refine ⟨h.1, ?_⟩
  rcases h.2 with hn | ⟨g, cap, cur, rfl, hb, hgg, rest⟩
  · exact .inl hn
  · exact .inr ⟨g, cap, cur, rfl, hb, by rw [hu.block g (Array.getElem?_eq_some_iff.1 hgg).1 (hm g rfl)]; exact hgg, rest⟩
/-- What an append of a pair leaves. -/
structure GrewP (e : TypeId) (B : Nat) (v v' : Value) (ps : List (Value × Value)) (w w' : World) : Prop where
  own : OwnP e B w' v' ps
  upd : Upd (fun k => some k = v.ownBlock) w w'
  at_ : v'.ownBlock = v.ownBlock ∨ ∃ g, v'.ownBlock = some g ∧ w.heap.size ≤ g
theorem run_append_P {w : World} {t ty e : TypeId} {i0 : TypeInfo} (ht : Try.prog.underlying t = some (.slice e)) (hi : Try.prog.info? e = some i0) (hz0 : i0.zero = some (.agg #[.string ⟨#[]⟩, .slice none 0 0])) (hz1 : i0.size = 2) (hz2 : i0.bytes = 40)
    {B : Nat} {v : Value} {ps : List (Value × Value)} {p : Value × Value} (ho : OwnP e B w v ps) {b o c : Nat} (h0 : w.cell? ⟨b, o, none⟩ = some p.1) (h1 : w.cell? ⟨b, o + 1, none⟩ = some p.2) (o1 : p.1.oneCell' = true) (o2 : p.2.oneCell' = true)
    (hl : ps.length ≤ 1000000000000) (hB : B ≤ w.heap.size) :
    ∃ v' w', (Builtin.append_ #[t, t] ty #[v, .slice (some ⟨b, o, none⟩) 1 c]).run Try.prog w = .ok v' w' ∧ GrewP e B v v' (ps ++ [p]) w w' := by
  obtain ⟨v', w', hrun, h2, h3, _, h5⟩ := run_append_own_at (P := Try.prog) w B t ty e i0 (.agg #[.string ⟨#[]⟩, .slice none 0 0]) 2 40 ht hi hz0 hz1 hz2 rfl (by decide) v ps.length (pairCells ps) ho ⟨b, o, none⟩ 1 c [p.1, p.2]
      rfl (fun j u hj => by
        match j, hj with
        | 0, hj => simp at hj; subst hj; simpa [Addr.add] using h0
        | 1, hj => simp at hj; subst hj; simpa [Addr.add] using h1
        | j + 2, hj => simp at hj) (by intro u hu; simp at hu; rcases hu with rfl | rfl <;> assumption) (by unfold maxLen; omega) (by omega) hB
  refine ⟨v', w', hrun, ⟨?_, Upd.ofGrown h3, ?_⟩⟩
  · unfold OwnP; rw [List.length_append, pairCells_snoc]; exact h2
  · rcases h5 with h5 | h5
    · exact .inl h5
    · exact .inr ⟨_, h5, Nat.le_refl _⟩
theorem wp_append_P {o : Oper} {a : Act} {K : Act → World → Prop} {Q : Exit → Act → World → Prop} {w : World} (s x : Operand) (t : TypeId)
    (hop : o.op = .call { callee := .builtin .append, args := #[s, x], argTypes := #[t, t] }) {e : TypeId} {i0 : TypeInfo} (ht : Try.prog.underlying t = some (.slice e)) (hi : Try.prog.info? e = some i0) (hz0 : i0.zero = some (.agg #[.string ⟨#[]⟩, .slice none 0 0])) (hz1 : i0.size = 2) (hz2 : i0.bytes = 40)
    {B : Nat} {v : Value} {ps : List (Value × Value)} {p : Value × Value} (hs : a.eval s = v) (ho : OwnP e B w v ps) {b o' c : Nat} (hx : a.eval x = .slice (some ⟨b, o', none⟩) 1 c) (h0 : w.cell? ⟨b, o', none⟩ = some p.1) (h1 : w.cell? ⟨b, o' + 1, none⟩ = some p.2) (o1 : p.1.oneCell' = true) (o2 : p.2.oneCell' = true)
    (hl : ps.length ≤ 1000000000000) (hB : B ≤ w.heap.size) (h : ∀ v' w', GrewP e B v v' (ps ++ [p]) w w' → K (a.put o.dst v') w') : o.wp Try.prog a w K Q := by
  obtain ⟨v', w', hrun, hg⟩ := run_append_P (ty := o.type) ht hi hz0 hz1 hz2 ho (c := c) h0 h1 o1 o2 hl hB
  unfold Oper.wp execOp
  simp only [hop, resolve, invoke, builtin, Sem.run_bind, Sem.run_pure, Result.andThen_ok, List.map_toArray, List.map_cons, List.map_nil, hs, hx, hrun]
  exact h v' w' hg
theorem wpList_append_P {ops : Array Oper} {rest : List Oper} {o : Oper} {a : Act} {Q : Exit → Act → World → Prop} {w : World} (hgd : o.guard = none) (s x : Operand) (t : TypeId)
    (hop : o.op = .call { callee := .builtin .append, args := #[s, x], argTypes := #[t, t] }) {e : TypeId} {i0 : TypeInfo} (ht : Try.prog.underlying t = some (.slice e)) (hi : Try.prog.info? e = some i0) (hz0 : i0.zero = some (.agg #[.string ⟨#[]⟩, .slice none 0 0])) (hz1 : i0.size = 2) (hz2 : i0.bytes = 40)
    {B : Nat} {v : Value} {ps : List (Value × Value)} (p : Value × Value) (hs : a.eval s = v) (ho : OwnP e B w v ps) {b o' c : Nat} (hx : a.eval x = .slice (some ⟨b, o', none⟩) 1 c) (h0 : w.cell? ⟨b, o', none⟩ = some p.1) (h1 : w.cell? ⟨b, o' + 1, none⟩ = some p.2) (o1 : p.1.oneCell' = true) (o2 : p.2.oneCell' = true)
    (hl : ps.length ≤ 1000000000000) (hB : B ≤ w.heap.size) (h : ∀ v' w', GrewP e B v v' (ps ++ [p]) w w' → wpList Try.prog ops Q rest (a.put o.dst v') w') : wpList Try.prog ops Q (o :: rest) a w :=
  wpList_plain hgd fun _ hK => wp_append_P s x t hop ht hi hz0 hz1 hz2 hs ho hx h0 h1 o1 o2 hl hB fun v' w' hg => hK _ _ (h v' w' hg)
theorem step_append_P {ops : Array Oper} {o : Oper} {a : Act} {K : Act → World → Prop} {Q : Exit → Act → World → Prop} {E : Prop} {w : World} (hgd : o.guard = none) (s x : Operand) (t : TypeId)
    (hop : o.op = .call { callee := .builtin .append, args := #[s, x], argTypes := #[t, t] }) {e : TypeId} {i0 : TypeInfo} (ht : Try.prog.underlying t = some (.slice e)) (hi : Try.prog.info? e = some i0) (hz0 : i0.zero = some (.agg #[.string ⟨#[]⟩, .slice none 0 0])) (hz1 : i0.size = 2) (hz2 : i0.bytes = 40)
    {B : Nat} {v : Value} {ps : List (Value × Value)} (p : Value × Value) (hs : a.eval s = v) (ho : OwnP e B w v ps) {b o' c : Nat} (hx : a.eval x = .slice (some ⟨b, o', none⟩) 1 c) (h0 : w.cell? ⟨b, o', none⟩ = some p.1) (h1 : w.cell? ⟨b, o' + 1, none⟩ = some p.2) (o1 : p.1.oneCell' = true) (o2 : p.2.oneCell' = true)
    (hl : ps.length ≤ 1000000000000) (hB : B ≤ w.heap.size) (h : ∀ v' w', GrewP e B v v' (ps ++ [p]) w w' → K (a.put o.dst v') w') :
    if Region.wanted o (yielded ops a.tmps) = true then Oper.wp Try.prog o a w K Q else E := by
  have hw : Region.wanted o (yielded ops a.tmps) = true := by simp [Region.wanted, hgd]
  rw [if_pos hw]
  exact wp_append_P s x t hop ht hi hz0 hz1 hz2 hs ho hx h0 h1 o1 o2 hl hB h

/-- The pair of values is a chunk. -/
def ChkV (S : Nat → Prop) (w : World) (p : Value × Value) (c : Chk) : Prop :=
  p.1 = .string (strOf c.1) ∧ ∃ d cap, p.2 = .slice d c.2.length cap ∧ c.2.length ≤ cap ∧ (cap : Int) ≤ 9223372036854775807 ∧ BytesAt w d c.2 ∧ (∀ A, d = some A → 0 < c.2.length → S A.block)
def AllV (S : Nat → Prop) (w : World) (ps : List (Value × Value)) (l : List Chk) : Prop := ps.length = l.length ∧ ∀ i (h1 : i < ps.length) (h2 : i < l.length), ChkV S w ps[i] l[i]
theorem AllV.nil (S : Nat → Prop) (w : World) : AllV S w [] [] := ⟨rfl, fun i h => by simp at h⟩
theorem ChkV.upd {S M : Nat → Prop} {w w' : World} {p : Value × Value} {c : Chk} (h : ChkV S w p c) (hu : Upd M w w') (hm : ∀ k, S k → ¬ M k) : ChkV S w' p c := by
  obtain ⟨e, d, cap, e2, h1, h2, h3, h4⟩ := h
  exact ⟨e, d, cap, e2, h1, h2, h3.upd0 hu (fun A hA h0 => hm _ (h4 A hA h0)), h4⟩
theorem ChkV.mono {S T : Nat → Prop} {w : World} {p : Value × Value} {c : Chk} (h : ChkV S w p c) (hm : ∀ k, S k → T k) : ChkV T w p c := by
  obtain ⟨e, d, cap, e2, h1, h2, h3, h4⟩ := h
  exact ⟨e, d, cap, e2, h1, h2, h3, fun A hA h0 => hm _ (h4 A hA h0)⟩
theorem AllV.upd {S M : Nat → Prop} {w w' : World} {ps : List (Value × Value)} {l : List Chk} (h : AllV S w ps l) (hu : Upd M w w') (hm : ∀ k, S k → ¬ M k) : AllV S w' ps l := ⟨h.1, fun i h1 h2 => (h.2 i h1 h2).upd hu hm⟩
theorem AllV.mono {S T : Nat → Prop} {w : World} {ps : List (Value × Value)} {l : List Chk} (h : AllV S w ps l) (hm : ∀ k, S k → T k) : AllV T w ps l := ⟨h.1, fun i h1 h2 => (h.2 i h1 h2).mono hm⟩
theorem AllV.snoc {S : Nat → Prop} {w : World} {ps : List (Value × Value)} {l : List Chk} (h : AllV S w ps l) {p : Value × Value} {c : Chk} (hc : ChkV S w p c) : AllV S w (ps ++ [p]) (l ++ [c]) := by
  refine ⟨by simp [h.1], fun i h1 h2 => ?_⟩
  have hl := h.1
  by_cases hi : i < l.length
  · rw [List.getElem_append_left (by omega), List.getElem_append_left hi]
    exact h.2 i (by omega) hi
  · simp at h2
    have : i = l.length := by omega
    subst this
    rw [List.getElem_append_right (by omega), List.getElem_append_right (by omega)]
    simpa using hc
/-- A row of the calls' own reads as its chunks. -/
theorem OwnP.chunks {e : TypeId} {B : Nat} {w : World} {v : Value} {ps : List (Value × Value)} {l : List Chk} {S : Nat → Prop} (h : OwnP e B w v ps) (hv : AllV S w ps l) (hS : ∀ k, v.ownBlock = some k → S k) : ∃ a cap, v = .slice a l.length cap ∧ ChunksAt S w a l ∧ l.length ≤ cap := by
  have hl := hv.1
  rcases h.2 with ⟨rfl, hn⟩ | ⟨g, cap, cur, rfl, hg, hh, hc, hm, hs, ht⟩
  · exact ⟨none, 0, by rw [← hl, hn], fun i hi => by omega, by omega⟩
  · refine ⟨_, _, by rw [← hl], fun i hi => ?_, by omega⟩
    obtain ⟨e1, d, dc, e2, h1, h2, h3, h4⟩ := hv.2 i (by omega) hi
    have hadd : ∀ j, (⟨g, 0, none⟩ : Addr).add j = ⟨g, j, none⟩ := fun j => by unfold Addr.add; split <;> simp_all
    obtain ⟨p1, p2⟩ := pairCells_get ps i (by omega)
    have c0 := World.ownsRow.cells (g := g) h rfl (i * 2) _ p1
    have c1 := World.ownsRow.cells (g := g) h rfl (i * 2 + 1) _ p2
    rw [hadd] at c0 c1
    refine ⟨g, 0, d, dc, rfl, ?_, ?_, h1, h2, h3, hS _ rfl, h4⟩
    · rw [Nat.zero_add, c0, e1]
    · rw [Nat.zero_add, c1, e2]

/-- Chunks, of this and of blocks that are there. -/
def ChunksR (l : List Chk) (w : World) (e : Ending) (w' : World) : Prop :=
  Below w.heap.size w w' ∧ ∃ a cap, e = .returned (.slice a l.length cap) ∧ ChunksAt (· < w'.heap.size) w' a l

set_option maxRecDepth 100000 in
set_option maxHeartbeats 8000000 in
theorem plain_any (a : Option Addr) (len cap : Nat) (l : List Chk) (w : World) (h : ChunksAt (· < w.heap.size) w a l) (hl : l.length ≤ 1000000000) (hlen : len = l.length) :
    Calls Try.prog 37 #[.slice a len cap] w (ChunksR l w) := by
  subst hlen
  have H := hidden h
  clear h
  obtain ⟨i0, hi, hz0, hz1, hz2⟩ := info_parts Try.info124
  go_enter Try.func37, Try.ntmps37
  go_wp2_with fail
  go_loopw [3, 8] (fun s3 s8 wr => ∃ (k : Nat) (ps : List (Value × Value)), s8 = .int .i64 k ∧ k ≤ l.length ∧ OwnP 124 w.heap.size wr s3 ps ∧ AllV (· < w.heap.size) wr ps (l.take k) ∧ Below w.heap.size w wr) (fun _ s8 _ => l.length - (intOf s8).toNat)
  case atStart => exact ⟨0, [], rfl, by omega, OwnP.nil _ _ _, AllV.nil _ _, Below.refl _ _⟩
  case round =>
    obtain ⟨k, ps, rfl, hk, ho, hv, hb⟩ := hrel
    have HO := hidden ho
    have HV := hidden hv
    have HB := hidden hb
    clear ho hv hb
    by_cases hlt : k < l.length
    · obtain ⟨b, o, d, cap', rfl, c0, c1, h1, h2, h3, h4, h5⟩ := H.out.below HB.out k hlt
      have HT := hidden (take_snoc' l hlt)
      have HN : Hid (ps.length = k) := hidden (by have := HV.out.1; rw [List.length_take] at this; omega)
      generalize l[k] = c at c0 c1 h1 h3 h5 HT
      have HCV : Hid (ChkV (· < w.heap.size) wr (.string (strOf c.1), .slice d c.2.length cap') c) := hidden ⟨rfl, d, cap', rfl, h1, h2, h3, h5⟩
      clear h3 h5
      have z0 : ((wr.alloc (.cells #[.string (strOf c.1), .slice d c.2.length cap'] 121)).alloc (.cells #[.string (strOf c.1), .slice d c.2.length cap'] 124)).cell? ⟨wr.heap.size + 1, 0, none⟩ = some (.string (strOf c.1)) := by
        rw [World.cell?_alloc_at _ _ _ _ (by simp)]; rfl
      have z1 : ((wr.alloc (.cells #[.string (strOf c.1), .slice d c.2.length cap'] 121)).alloc (.cells #[.string (strOf c.1), .slice d c.2.length cap'] 124)).cell? ⟨wr.heap.size + 1, 0 + 1, none⟩ = some (.slice d c.2.length cap') := by
        rw [World.cell?_alloc_at _ _ _ _ (by simp)]; rfl
      have UA : Hid (Upd (fun _ => False) wr ((wr.alloc (.cells #[.string (strOf c.1), .slice d c.2.length cap'] 121)).alloc (.cells #[.string (strOf c.1), .slice d c.2.length cap'] 124))) := hidden ((Upd.new _ _).trans (Upd.new _ _) (fun _ _ h => h))
      have Z0 := hidden z0
      have Z1 := hidden z1
      clear z0 z1
      go_wp2_with (at_builtin; refine wpList_append_P rfl (.tmp 12) (.tmp 18) 51 rfl Try.underlying51 hi hz0 hz1 hz2 (.string (strOf c.1), .slice d c.2.length cap') rfl (HO.out.on UA.out (fun _ _ h => h)) rfl Z0.out Z1.out rfl rfl (by rw [HN.out]; omega) (by have := HB.out.size; have := UA.out.size; omega) ?_; intro v2 w2 g2)
      have HO2 := hidden g2.own
      have hu2 : Upd (fun k => w.heap.size ≤ k) wr w2 := (UA.out.mono (fun _ _ h => h.elim)).trans g2.upd (fun i hi h => by have := (HO.out.lt i h.symm).1; omega)
      have HV2 : Hid (AllV (· < w.heap.size) w2 (ps ++ [(.string (strOf c.1), .slice d c.2.length cap')]) (l.take (k + 1))) := hidden (by
        rw [HT.out]
        exact ((HV.out.upd hu2 (fun _ h1 h2 => by omega)).snoc (HCV.out.upd hu2 (fun _ h1 h2 => by omega))))
      have HB2 : Hid (Below w.heap.size w w2) := hidden (HB.out.trans (hu2.toBelow HB.out.size (fun k hk h => by omega)))
      clear g2 hu2
      go_wp2_with fail
      exact ⟨⟨k + 1, _, by go_num, by omega, HO2.out, HV2.out, HB2.out⟩, by simp [intOf]; omega⟩
    · have hk' : k = l.length := by omega
      subst hk'
      have HV' : Hid (AllV (· < w.heap.size) wr ps l) := hidden (by have := HV.out; rw [List.take_length] at this; exact this)
      obtain ⟨a2, c2, e2, q2, -⟩ := HO.out.chunks (HV'.out.mono (T := (· < wr.heap.size)) (fun k hk => Nat.lt_of_lt_of_le hk HB.out.size)) (fun k hk => (HO.out.lt k hk).2)
      subst e2
      have Q2 := hidden q2
      clear q2
      go_wp2_with fail
      go_ret
      exact ⟨HB.out, a2, c2, rfl, Q2.out⟩

set_option maxRecDepth 100000 in
set_option maxHeartbeats 8000000 in
theorem samec_any (a1 a2 : Option Addr) (l1 l2 c1 c2 : Nat) (l : List Chk) (w : World) (h1 : ChunksAt (· < w.heap.size) w a1 l) (h2 : ChunksAt (· < w.heap.size) w a2 l) (hl : l.length ≤ 1000000000) (e1 : l1 = l.length) (e2 : l2 = l.length) :
    Calls Try.prog 36 #[.slice a1 l1 c1, .slice a2 l2 c2] w fun e w' => e = .returned (.bool true) ∧ Below w.heap.size w w' := by
  subst e1; subst e2
  have H1 := hidden h1
  have H2 := hidden h2
  clear h1 h2
  go_enter Try.func36, Try.ntmps36
  go_wp2_with fail
  go_loopw [13] (fun s wr => ∃ (k : Nat), s = .int .i64 k ∧ k ≤ l.length ∧ Below w.heap.size w wr) (fun s _ => (l.length - intOf s).toNat)
  case atStart => exact ⟨0, rfl, by omega, Below.refl _ _⟩
  case round =>
    obtain ⟨k, rfl, hk, hb⟩ := hrel
    have HB := hidden hb
    clear hb
    by_cases hlt : k < l.length
    · obtain ⟨b, o, d, cap, rfl, p0, p1, -, -, h3, -, -⟩ := H1.out.below HB.out k hlt
      obtain ⟨b', o', d', cap', rfl, q0, q1, -, -, h3', -, -⟩ := H2.out.below HB.out k hlt
      have i1 : (0 : Int) ≤ (k : Int) := by omega
      have i2 : (k : Int) < (l.length : Int) := by omega
      generalize l[k] = c at p0 p1 q0 q1 h3 h3'
      have H3 := hidden h3
      have H3' := hidden h3'
      clear h3 h3'
      go_wp2_with fail
      go_quiet ((go_at_call 22; with_reducible exact quiet_eq (same_eq _ _ _ _ _ _ c.2 _ (H3.out.drewN _) (H3'.out.drewN _) rfl rfl)))
      go_wp2_with fail
      exact ⟨⟨k + 1, by go_num, by omega, below_dn HB.out _⟩, by simp [intOf]; omega⟩
    · go_wp2_with fail
      go_ret
      exact ⟨rfl, HB.out⟩
end Go.Proofs.Ytekmjegeiminnaa
