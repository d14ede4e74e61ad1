/- How a slice of chunks, and a text, that came in are opened. -/
import Derived.Test.YtekmjegeiminnaaK1
import Derived.Test.YtekmjegeiminnaaC1
import Derived.ChangeMaps5
import Derived.Test.YtekmjegeiminnaaD12
namespace Go.Proofs.Ytekmjegeiminnaa
open Go.ChangeShapes Go.WideShapes Go.ChangeAt Go.RowKit Go.Deep
set_option linter.unusedVariables false
set_option linter.unusedSimpArgs false

theorem add_spot {A : Addr} (h : (A.add 0).spot = none) : A.spot = none := by unfold Addr.add at h; split at h <;> simp_all
theorem add_eq {A : Addr} (h : A.spot = none) (j : Nat) : A.add j = ⟨A.block, A.off + j, none⟩ := by unfold Addr.add; split <;> (cases A; simp_all)
theorem addr_eta {A : Addr} (h : A.spot = none) : some A = some ⟨A.block, A.off, none⟩ := by cases A; simp_all
theorem weightsAll_mem {H : Type} {P : Program} {e : TypeId} : ∀ {l : List (DataW H)} {d : DataW H} {n : Nat}, d ∈ l → n ∈ d.weights P e → n ∈ DataW.weightsAll P e l
  | d0 :: r, d, n, hd, hn => by
    simp only [DataW.weightsAll, List.mem_append]
    rcases List.mem_cons.1 hd with rfl | hd
    · exact .inl hn
    · exact .inr (weightsAll_mem hd hn)
theorem weights_agg {H : Type} {P : Program} {t : TypeId} {fs : Array Field} {parts : List (DataW H)} (h : P.underlying t = some (.struct fs)) : (DataW.agg parts).weights P t = DataW.weightsEach P (fs.toList.map (·.type)) parts := by
  simp [DataW.weights, h]
/-- A slice of bytes that came in, as a cell. -/
theorem open_bytes' {H : Type} {enc : TypeId × Value → H} {W : World} {v : Value} {x : DataW H × List MemPlace} {fuel : Nat}
    (h : DataW.trod enc Try.prog W 0 (fun _ => true) true fuel 22 [v] = some x) (hw : ∀ n ∈ x.1.weights Try.prog 22, n ≤ reachBytes) :
    ∃ (a : Option Addr) (cap : Nat) (bs : List UInt8), v = .slice a bs.length cap ∧ bs.length ≤ cap ∧ (cap : Int) ≤ 9223372036854775807 ∧ BytesAt W a bs ∧ bs.length ≤ 140737488351232 := by
  obtain ⟨d, p⟩ := x
  obtain ⟨a, cap, bs, e, hle, hb, h1, h2⟩ := open_bytes h
  have hr : reachBytes = 140737488351232 := by decide
  have hcap : cap ≤ 140737488351232 := by
    rcases h2 with h2 | ⟨elems, sp, rfl, h2⟩
    · omega
    · have := hw ((elems.length + sp.length) * Try.prog.bytesOf 5) (by simp [DataW.weights, Try.underlying22])
      rw [show Try.prog.bytesOf 5 = 1 by kernel_rfl] at this
      omega
  exact ⟨a, cap, bs, e, hle, by omega, hb, by omega⟩
set_option maxRecDepth 100000 in
/-- A slice of chunks that came in. -/
theorem open_chunks {H : Type} {enc : TypeId × Value → H} {W : World} {v : Value} {d : DataW H} {p : List MemPlace} {fuel : Nat}
    (h : DataW.trod enc Try.prog W 0 (fun _ => true) true fuel 44 [v] = some (d, p)) (hw : ∀ n ∈ d.weights Try.prog 44, n ≤ reachBytes) :
    ∃ (a : Option Addr) (cap : Nat) (l : List Chk), v = .slice a l.length cap ∧ l.length ≤ cap ∧ ChunksAt (· < W.heap.size) W a l ∧ Sized l := by
  rcases open_slice Try.underlying44 h with ⟨hcs, _⟩ | ⟨A, len, cap, m, n, D, Pl, hcs, hb, hl, hm, hmm, hx, hi⟩
  · simp only [List.cons.injEq, and_true] at hcs
    subst hcs
    exact ⟨none, 0, [], rfl, Nat.le_refl _, (fun i h => by simp at h : ChunksAt _ _ _ _), ⟨by simp, fun c hc => by simp at hc⟩⟩
  · simp only [List.cons.injEq, and_true] at hcs
    subst hcs
    obtain ⟨hd, -⟩ := Prod.mk.inj hx
    subst hd
    have hr : reachBytes = 140737488351232 := by decide
    have hmc : m = cap := by simpa using hmm
    subst hmc
    rw [show Try.prog.cellsOf 121 = 2 by kernel_rfl] at hi
    have hlen : len ≤ 140737488351232 := by
      have := hw ((len + (m - len)) * Try.prog.bytesOf 121) (by simp [DataW.weights, Try.underlying44])
      rw [show Try.prog.bytesOf 121 = 40 by kernel_rfl] at this
      omega
    have hcell : ∀ i, i < len → ∃ c : Chk, ∃ d' cap', W.cell? (A.add (i * 2)) = some (.string (strOf c.1)) ∧ W.cell? (A.add (i * 2 + 1)) = some (.slice d' c.2.length cap') ∧ c.2.length ≤ cap' ∧ (cap' : Int) ≤ 9223372036854775807 ∧ BytesAt W d' c.2 ∧ c.1.length ≤ 140737488351232 ∧ c.2.length ≤ 140737488351232 := by
      intro i hil
      obtain ⟨cs', hc, ht'⟩ := hi i (by omega)
      obtain ⟨_, hcl, hat⟩ := World.cells?_some hc
      obtain ⟨ys, n', hn', hy, hlen', hyl, hf⟩ := DataW.trod_struct Try.underlying121 ht'
      have h0 := hat 0 (by omega)
      have h1 := hat 1 (by omega)
      match cs', hcl, ys, hyl with
      | [c0, c1], _, [y0, y1], _ =>
        have f0 := hf 0 _ rfl
        have f1 := hf 1 _ rfl
        change DataW.trod enc Try.prog W 0 (fun _ => true) true n' 9 (([c0, c1].drop 0).take (Try.prog.cellsOf 9)) = some y0 at f0
        change DataW.trod enc Try.prog W 0 (fun _ => true) true n' 22 (([c0, c1].drop 1).take (Try.prog.cellsOf 22)) = some y1 at f1
        rw [show Try.prog.cellsOf 9 = 1 by kernel_rfl] at f0
        rw [show Try.prog.cellsOf 22 = 1 by kernel_rfl] at f1
        have hy1 : D i = .agg [y0.1, y1.1] := by have := (Prod.mk.inj hy).1; simpa using this
        have hwi : ∀ n ∈ (D i).weights Try.prog 121, n ≤ reachBytes := fun n hn => hw n (by
          simp only [DataW.weights, Try.underlying44, List.mem_cons, List.mem_append]
          right; left
          exact weightsAll_mem (List.mem_map.2 ⟨i, List.mem_range.2 hil, rfl⟩) hn)
        rw [hy1] at hwi
        rw [weights_agg Try.underlying121] at hwi
        obtain ⟨s, e0, ey, hs⟩ := DataW.trod_string Try.underlying9 f0
        have e0 : [c0] = [Value.string s] := e0
        have hw1 : ∀ n ∈ y1.1.weights Try.prog 22, n ≤ reachBytes := fun n hn => hwi n (by simp [DataW.weightsEach, hn])
        obtain ⟨d', cap', bs, e1, g1, g2, g3, g4⟩ := open_bytes' f1 hw1
        have hsl : s.size ≤ 140737488351232 := by
          have ey' : y0 = (.lit (.string s.data.toList), []) := ey
          have := hwi s.data.toList.length (by rw [ey']; simp [DataW.weightsEach, DataW.weights])
          rw [hr] at this; exact this
        have c0e : c0 = .string s := by simpa using e0
        have c1e : c1 = .slice d' bs.length cap' := by simpa using e1
        refine ⟨(s.data.toList, bs), d', cap', ?_, ?_, g1, g2, g3, hsl, g4⟩
        · rw [Go.Deep.add_add, Nat.add_zero] at h0
          rw [h0, c0e]; rfl
        · rw [Go.Deep.add_add] at h1
          rw [h1, c1e]; rfl
    obtain ⟨F, hF⟩ := choose_row (α := Chk) hcell
    have hln : ((List.range len).map F).length = len := by simp
    refine ⟨some A, m, (List.range len).map F, by rw [hln], by rw [hln]; exact hl, fun i hi' => ?_, ⟨by rw [hln]; exact hlen, fun c hc => ?_⟩⟩
    · have hil : i < len := by simpa using hi'
      obtain ⟨d', cap', x0, x1, g1, g2, g3, -, -⟩ := hF i hil
      have hs : A.spot = none := by
        obtain ⟨_, _, z0, -⟩ := hF 0 (by omega)
        exact add_spot (spot_none z0)
      rw [add_eq hs] at x0 x1
      simp only [List.getElem_map, List.getElem_range]
      refine ⟨A.block, A.off, d', cap', addr_eta hs, x0, ?_, g1, g2, g3, World.block_lt_of_cell? W ⟨A.block, A.off + i * 2, none⟩ x0, fun B hB h0 => ?_⟩
      · rw [Nat.add_assoc]; exact x1
      · obtain ⟨b', o', e', hc'⟩ := g3 0 h0
        rw [hB] at e'; cases e'
        exact World.block_lt_of_cell? W ⟨b', o' + 0, none⟩ hc'
    · simp only [List.mem_map, List.mem_range] at hc
      obtain ⟨i, hi', rfl⟩ := hc
      obtain ⟨d', cap', -, -, -, -, -, g5, g6⟩ := hF i hi'
      exact ⟨g5, g6⟩
end Go.Proofs.Ytekmjegeiminnaa

/- How values that came in are opened, kind by kind. -/
namespace Go.Proofs.Ytekmjegeiminnaa
open Go.ChangeShapes Go.WideShapes Go.ChangeAt Go.RowKit Go.Deep
set_option linter.unusedVariables false
set_option linter.unusedSimpArgs false

/-- Whatever cells read as a value of type t hold a value of that kind; its bytes are bounded by its bulk. -/
def Opens {α : Type} (T : Ty α) (t : TypeId) : Prop :=
  ∀ {H : Type} {enc : TypeId × Value → H} {W : World} {fuel : Nat} {cs : List Value} {x : DataW H × List MemPlace}, DataW.trod enc Try.prog W 0 (fun _ => true) true fuel t cs = some x → (∀ n ∈ x.1.weights Try.prog t, n ≤ reachBytes) →
    ∃ y, T.rep (· < W.heap.size) W cs y ∧ T.cod.ok y ∧ (T.cod.enc y).length ≤ 10 * Rows.uptoBulk x.1
theorem opens_int : Opens tInt 3 := by
  intro H enc W fuel cs x h hw
  obtain ⟨x0, e0, ex, w0⟩ := DataW.trod_int Try.underlying3 h
  have hb := bounds_i64 w0
  refine ⟨x0, e0, ⟨by omega, by omega⟩, ?_⟩
  have h1 := encN_length (n := x0) ⟨by omega, by omega⟩
  rw [ex]
  show (encN x0).length ≤ 10 * Rows.uptoBulk (DataW.lit _)
  simp only [Rows.uptoBulk]
  omega
theorem opens_str : Opens tStr 9 := by
  intro H enc W fuel cs x h hw
  obtain ⟨s, e0, ex, hs⟩ := DataW.trod_string Try.underlying9 h
  have hr : reachBytes = 140737488351232 := by decide
  have hsl : s.data.toList.length ≤ 140737488351232 := by
    have := hw s.data.toList.length (by rw [ex]; simp [DataW.weights])
    rw [hr] at this; exact this
  refine ⟨s.data.toList, by rw [e0]; rfl, by show _ ≤ _; omega, ?_⟩
  have h1 := encN_length (n := (s.data.toList.length : Int)) ⟨by omega, by omega⟩
  rw [ex]
  show (encT s.data.toList).length ≤ 10 * Rows.uptoBulk (DataW.lit (.string s.data.toList))
  simp only [Rows.uptoBulk]
  unfold encT
  rw [List.length_append]
  omega
theorem encM_bulk {α H : Type} (A : Cod α) (G : Nat → α) (D : Nat → DataW H) : ∀ (l : List Nat), (∀ i ∈ l, (A.enc (G i)).length ≤ 10 * Rows.uptoBulk (D i)) → (encM A (l.map G)).length ≤ 10 * Rows.uptoBulkAll (l.map D)
  | [], _ => by simp [encM, Rows.uptoBulkAll]
  | i :: l, h => by
    have h1 := encM_bulk A G D l (fun j hj => h j (List.mem_cons_of_mem _ hj))
    have h2 := h i (List.mem_cons_self ..)
    simp only [List.map_cons, encM_cons, List.length_append, Rows.uptoBulkAll]
    omega
theorem opens_list {α : Type} [Inhabited α] {A : Ty α} {e t : TypeId} (hA : Opens A e) (ht : Try.prog.underlying t = some (.slice e)) (hC : Try.prog.cellsOf e = A.sz) (hsz : 0 < A.sz) : Opens (tList A) t := by
  intro H enc W fuel cs x h hw
  rcases open_slice ht h with ⟨hcs, hx⟩ | ⟨A0, len, cap, m, n, D, Pl, hcs, hb, hl, hm, hmm, hx, hi⟩
  · refine ⟨[], ⟨none, 0, hcs, Nat.le_refl _, by decide, fun i hi => by simp at hi⟩, ⟨by simp, fun y hy => by simp at hy⟩, ?_⟩
    rw [hx]
    show (encN 0 ++ encM A.cod []).length ≤ 10 * Rows.uptoBulk (DataW.nil)
    have h1 := encN_length (n := 0) ⟨by omega, by omega⟩
    simp only [Rows.uptoBulk, List.length_append, encM, List.map_nil, List.flatten_nil, List.length_nil]
    omega
  · have hmc : m = cap := by simpa using hmm
    subst hmc
    rw [hC] at hi
    have hx1 := congrArg Prod.fst hx
    simp only at hx1
    rw [hx1] at hw ⊢
    have hcell : ∀ i, i < len → ∃ q : α × List Value, (∀ j u, q.2[j]? = some u → W.cell? (A0.add (i * A.sz + j)) = some u) ∧ A.rep (· < W.heap.size) W q.2 q.1 ∧ A.cod.ok q.1 ∧ (A.cod.enc q.1).length ≤ 10 * Rows.uptoBulk (D i) := by
      intro i hil
      obtain ⟨cs', hc, ht'⟩ := hi i (by omega)
      obtain ⟨_, hcl, hat⟩ := World.cells?_some hc
      have hwi : ∀ n ∈ (D i).weights Try.prog e, n ≤ reachBytes := fun n hn => hw n (by
        simp only [DataW.weights, ht, List.mem_cons, List.mem_append]
        right; left
        exact weightsAll_mem (List.mem_map.2 ⟨i, List.mem_range.2 hil, rfl⟩) hn)
      obtain ⟨y, h1, h2, h3⟩ := hA ht' hwi
      refine ⟨(y, cs'), fun j u hj => ?_, h1, h2, h3⟩
      have hjl : j < cs'.length := (List.getElem?_eq_some_iff.1 hj).1
      have := hat j (by omega)
      rw [Go.Deep.add_add] at this
      rw [this]; exact hj
    obtain ⟨F, hF⟩ := choose_row (α := α × List Value) hcell
    have hlen : ((List.range len).map fun i => (F i).1).length = len := by simp
    refine ⟨(List.range len).map fun i => (F i).1, ⟨some A0, m, by rw [hcs, hlen], by rw [hlen]; exact hl, by unfold maxLen at hm; omega, fun i hi' => ?_⟩, ⟨by rw [hlen]; unfold maxLen at hm; omega, fun y hy => ?_⟩, ?_⟩
    · have hil : i < len := by simpa using hi'
      obtain ⟨g1, g2, -, -⟩ := hF i hil
      obtain ⟨f1, f2, -, -⟩ := hF 0 (by omega)
      have hs : A0.spot = none := by
        have hl0 := A.len f2
        have hz := f1 0 ((F 0).2[0]'(by omega)) (List.getElem?_eq_getElem (by omega))
        rw [Nat.zero_mul] at hz
        exact add_spot (spot_none hz)
      simp only [List.getElem_map, List.getElem_range]
      refine ⟨A0.block, A0.off, (F i).2, addr_eta hs, ?_, fun j u hj => ?_, g2⟩
      · have hl0 := A.len f2
        have hz := f1 0 ((F 0).2[0]'(by omega)) (List.getElem?_eq_getElem (by omega))
        rw [add_eq hs] at hz
        exact World.block_lt_of_cell? W ⟨A0.block, _, none⟩ hz
      · have := g1 j u hj
        rw [add_eq hs] at this
        rw [Nat.add_assoc]; exact this
    · simp only [List.mem_map, List.mem_range] at hy
      obtain ⟨i, hi', rfl⟩ := hy
      exact (hF i hi').2.2.1
    · show (encN _ ++ encM A.cod _).length ≤ _
      rw [List.length_append, hlen]
      have h1 := encN_length (n := (len : Int)) ⟨by omega, by unfold maxLen at hm; omega⟩
      have h2 := encM_bulk A.cod (fun i => (F i).1) D (List.range len) (fun i hi => (hF i (List.mem_range.1 hi)).2.2.2)
      simp only [Rows.uptoBulk]
      omega
/-! ### Structs, field by field -/
noncomputable def offs : List TypeId → Nat → Nat
  | [], _ => 0
  | _ :: _, 0 => 0
  | t :: ts, i + 1 => Try.prog.cellsOf t + offs ts i
def OpensS {α : Type} (T : Ty α) (ts : List TypeId) : Prop :=
  ∀ {H : Type} {enc : TypeId × Value → H} {W : World} {n o : Nat} {cs : List Value} {ys : List (DataW H × List MemPlace)}, cs.length = o + T.sz → ys.length = ts.length →
    (∀ i t, ts[i]? = some t → DataW.trod enc Try.prog W 0 (fun _ => true) true n t ((cs.drop (o + offs ts i)).take (Try.prog.cellsOf t)) = ys[i]?) → (∀ k ∈ DataW.weightsEach Try.prog ts (ys.map (·.1)), k ≤ reachBytes) →
    ∃ y, T.rep (· < W.heap.size) W (cs.drop o) y ∧ T.cod.ok y ∧ (T.cod.enc y).length ≤ 10 * Rows.uptoBulkAll (ys.map (·.1))
theorem OpensS.one {α : Type} {T : Ty α} {t : TypeId} (hT : Opens T t) (hC : Try.prog.cellsOf t = T.sz) : OpensS T [t] := by
  intro H enc W n o cs ys hcl hyl hf hw
  match ys, hyl with
  | [y0], _ =>
    have h0 := hf 0 t rfl
    simp only [offs, Nat.add_zero, hC, List.getElem?_cons_zero] at h0
    rw [List.take_of_length_le (by rw [List.length_drop]; omega)] at h0
    obtain ⟨y, h1, h2, h3⟩ := hT h0 (fun k hk => hw k (by simp [DataW.weightsEach, hk]))
    refine ⟨y, h1, h2, ?_⟩
    simp only [List.map_cons, List.map_nil, Rows.uptoBulkAll]
    omega
theorem OpensS.cons {α β : Type} {A : Ty α} {B : Ty β} {t : TypeId} {ts : List TypeId} (hA : Opens A t) (hC : Try.prog.cellsOf t = A.sz) (hB : OpensS B ts) : OpensS (tPair A B) (t :: ts) := by
  intro H enc W n o cs ys hcl hyl hf hw
  match ys, hyl with
  | y0 :: ys, hyl =>
    have hsz : (tPair A B).sz = A.sz + B.sz := rfl
    have h0 := hf 0 t rfl
    simp only [offs, Nat.add_zero, hC, List.getElem?_cons_zero] at h0
    obtain ⟨y, h1, h2, h3⟩ := hA h0 (fun k hk => hw k (by simp [DataW.weightsEach, hk]))
    obtain ⟨z, g1, g2, g3⟩ := hB (enc := enc) (W := W) (n := n) (o := o + A.sz) (cs := cs) (ys := ys) (by omega) (by simpa using hyl) (fun i ti hi => by
      have := hf (i + 1) ti (by simpa using hi)
      simp only [offs, hC, List.getElem?_cons_succ] at this
      rw [Nat.add_assoc]; exact this) (fun k hk => hw k (by simp [DataW.weightsEach, hk]))
    refine ⟨(y, z), ⟨(cs.drop o).take A.sz, cs.drop (o + A.sz), ?_, h1, g1⟩, ⟨h2, g2⟩, ?_⟩
    · rw [← List.drop_drop, List.take_append_drop]
    · show (A.cod.enc y ++ B.cod.enc z).length ≤ _
      rw [List.length_append]
      simp only [List.map_cons, Rows.uptoBulkAll]
      omega
theorem OpensS.struct {α : Type} {T : Ty α} {t : TypeId} {fs : Array Field} {ts : List TypeId} (hS : OpensS T ts) (ht : Try.prog.underlying t = some (.struct fs)) (hts : fs.toList.map (·.type) = ts) (hof : ∀ i f, fs[i]? = some f → f.offset = offs ts i) (hC : Try.prog.cellsOf t = T.sz) : Opens T t := by
  intro H enc W fuel cs x h hw
  obtain ⟨ys, n', -, hx, hcl, hyl, hf⟩ := DataW.trod_struct ht h
  rw [hx] at hw ⊢
  simp only at hw ⊢
  rw [weights_agg ht, hts] at hw
  obtain ⟨y, h1, h2, h3⟩ := hS (enc := enc) (W := W) (n := n') (o := 0) (cs := cs) (ys := ys) (by rw [hcl, hC]; omega) (by rw [hyl, ← hts]; simp) (fun i ti hi => by
    subst hts
    have hi' : ∃ f, fs[i]? = some f ∧ f.type = ti := by
      rw [List.getElem?_map] at hi
      cases hq : fs.toList[i]? with
      | none => rw [hq] at hi; cases hi
      | some f => rw [hq] at hi; exact ⟨f, by simpa using hq, by simpa using hi⟩
    obtain ⟨f, hf1, rfl⟩ := hi'
    have := hf i f hf1
    rw [hof i f hf1] at this
    rw [Nat.zero_add]; exact this) hw
  refine ⟨y, by simpa using h1, h2, ?_⟩
  simp only [Rows.uptoBulk]
  omega
end Go.Proofs.Ytekmjegeiminnaa

/- Books and operations that came in, opened. -/
namespace Go.Proofs.Ytekmjegeiminnaa
open Go.ChangeShapes Go.WideShapes Go.ChangeAt Go.RowKit Go.Deep
set_option linter.unusedVariables false
set_option linter.unusedSimpArgs false

theorem hof_of {fs : Array Field} {ts : List TypeId} (h : (List.range fs.size).map (offs ts) = fs.toList.map (·.offset)) : ∀ i f, fs[i]? = some f → f.offset = offs ts i := fun i f hf => by
  have hi : i < fs.size := (Array.getElem?_eq_some_iff.1 hf).1
  have h1 : (fs.toList.map (·.offset))[i]? = some f.offset := by rw [List.getElem?_map]; simp [hf]
  rw [← h, List.getElem?_map, List.getElem?_range hi] at h1
  simpa using h1.symm
theorem c3 : Try.prog.cellsOf 3 = tInt.sz := by kernel_rfl
theorem c9 : Try.prog.cellsOf 9 = tStr.sz := by kernel_rfl
theorem opens_val : Opens tVal 103 := OpensS.struct (ts := [3, 3, 9]) (OpensS.cons opens_int c3 (OpensS.cons opens_int c3 (OpensS.one opens_str c9))) Try.underlying103 rfl (hof_of (by kernel_rfl)) (by kernel_rfl)
theorem opens_cell : Opens tCell 186 := OpensS.struct (ts := [3, 3, 9]) (OpensS.cons opens_int c3 (OpensS.cons opens_int c3 (OpensS.one opens_str c9))) Try.underlying186 rfl (hof_of (by kernel_rfl)) (by kernel_rfl)
theorem opens_name : Opens tName 101 := OpensS.struct (ts := [9, 9, 9]) (OpensS.cons opens_str c9 (OpensS.cons opens_str c9 (OpensS.one opens_str c9))) Try.underlying101 rfl (hof_of (by kernel_rfl)) (by kernel_rfl)
theorem c103 : Try.prog.cellsOf 103 = tVal.sz := by kernel_rfl
theorem opens_link : Opens tLink 105 := OpensS.struct (ts := [9, 9, 3, 3, 103]) (OpensS.cons opens_str c9 (OpensS.cons opens_str c9 (OpensS.cons opens_int c3 (OpensS.cons opens_int c3 (OpensS.one opens_val c103))))) Try.underlying105 rfl (hof_of (by kernel_rfl)) (by kernel_rfl)
theorem opens_cells : Opens (tList tCell) 106 := opens_list opens_cell Try.underlying106 (by kernel_rfl) (by decide)
theorem c106 : Try.prog.cellsOf 106 = (tList tCell).sz := by kernel_rfl
theorem opens_sheet : Opens tSheet 128 := OpensS.struct (ts := [9, 106]) (OpensS.cons opens_str c9 (OpensS.one opens_cells c106)) Try.underlying128 rfl (hof_of (by kernel_rfl)) (by kernel_rfl)
theorem c101 : Try.prog.cellsOf 101 = tName.sz := by kernel_rfl
theorem c105 : Try.prog.cellsOf 105 = tLink.sz := by kernel_rfl
theorem opens_op : Opens tOp 108 := OpensS.struct (ts := [3, 9, 9, 3, 3, 3, 3, 9, 101, 105, 106]) (OpensS.cons opens_int c3 (OpensS.cons opens_str c9 (OpensS.cons opens_str c9 (OpensS.cons opens_int c3 (OpensS.cons opens_int c3 (OpensS.cons opens_int c3 (OpensS.cons opens_int c3 (OpensS.cons opens_str c9 (OpensS.cons opens_name c101 (OpensS.cons opens_link c105 (OpensS.one opens_cells c106))))))))))) Try.underlying108 rfl (hof_of (by kernel_rfl)) (by kernel_rfl)
theorem opens_ops : Opens tOps 73 := opens_list opens_op Try.underlying73 (by kernel_rfl) (by decide)
theorem opens_sheets : Opens (tList tSheet) 64 := opens_list opens_sheet Try.underlying64 (by kernel_rfl) (by decide)
theorem opens_names : Opens (tList tName) 65 := opens_list opens_name Try.underlying65 (by kernel_rfl) (by decide)
theorem opens_links : Opens (tList tLink) 66 := opens_list opens_link Try.underlying66 (by kernel_rfl) (by decide)
theorem opens_book : Opens tBook 68 := OpensS.struct (ts := [64, 65, 66]) (OpensS.cons opens_sheets (by kernel_rfl) (OpensS.cons opens_names (by kernel_rfl) (OpensS.one opens_links (by kernel_rfl)))) Try.underlying68 rfl (hof_of (by kernel_rfl)) (by kernel_rfl)
end Go.Proofs.Ytekmjegeiminnaa
