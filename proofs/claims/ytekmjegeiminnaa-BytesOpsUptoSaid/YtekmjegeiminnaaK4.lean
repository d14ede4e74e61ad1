/- How values that came in are opened, kind by kind. -/
import Derived.Test.YtekmjegeiminnaaK3
import Derived.Test.YtekmjegeiminnaaD12
namespace Go.Proofs.Ytekmjegeiminnaa
open Go.ChangeShapes Go.WideShapes Go.ChangeAt Go.RowKit Go.Deep
set_option linter.unusedVariables false
set_option linter.unusedSimpArgs false

/-- Whatever cells read as a value of type t hold a value of that kind; its bytes are bounded by its bulk. -/
def Opens {α : Type} (T : Ty α) (t : TypeId) : Prop :=
  ∀ {H : Type} {enc : TypeId × Value → H} {W : World} {fuel : Nat} {cs : List Value} {x : DataW H × List MemPlace}, DataW.trod enc Try.prog W 0 (fun _ => true) true fuel t cs = some x → (∀ n ∈ x.1.weights Try.prog t, n ≤ reachBytes) →
    ∃ y, T.rep (· < W.heap.size) W cs y ∧ T.cod.ok y ∧ (T.cod.enc y).length ≤ 10 * Rows.uptoBulk x.1
theorem opens_int : Opens tInt 3 := by
  intro H enc W fuel cs x h hw
  obtain ⟨x0, e0, ex, w0⟩ := DataW.trod_int Try.underlying3 h
  have hb := bounds_i64 w0
  refine ⟨x0, e0, ⟨by omega, by omega⟩, ?_⟩
  have h1 := encN_length (n := x0) ⟨by omega, by omega⟩
  rw [ex]
  show (encN x0).length ≤ 10 * Rows.uptoBulk (DataW.lit _)
  simp only [Rows.uptoBulk]
  omega
theorem opens_str : Opens tStr 9 := by
  intro H enc W fuel cs x h hw
  obtain ⟨s, e0, ex, hs⟩ := DataW.trod_string Try.underlying9 h
  have hr : reachBytes = 140737488351232 := by decide
  have hsl : s.data.toList.length ≤ 140737488351232 := by
    have := hw s.data.toList.length (by rw [ex]; simp [DataW.weights])
    rw [hr] at this; exact this
  refine ⟨s.data.toList, by rw [e0]; rfl, by show _ ≤ _; omega, ?_⟩
  have h1 := encN_length (n := (s.data.toList.length : Int)) ⟨by omega, by omega⟩
  rw [ex]
  show (encT s.data.toList).length ≤ 10 * Rows.uptoBulk (DataW.lit (.string s.data.toList))
  simp only [Rows.uptoBulk]
  unfold encT
  rw [List.length_append]
  omega
theorem encM_bulk {α H : Type} (A : Cod α) (G : Nat → α) (D : Nat → DataW H) : ∀ (l : List Nat), (∀ i ∈ l, (A.enc (G i)).length ≤ 10 * Rows.uptoBulk (D i)) → (encM A (l.map G)).length ≤ 10 * Rows.uptoBulkAll (l.map D)
  | [], _ => by simp [encM, Rows.uptoBulkAll]
  | i :: l, h => by
    have h1 := encM_bulk A G D l (fun j hj => h j (List.mem_cons_of_mem _ hj))
    have h2 := h i (List.mem_cons_self ..)
    simp only [List.map_cons, encM_cons, List.length_append, Rows.uptoBulkAll]
    omega
theorem opens_list {α : Type} [Inhabited α] {A : Ty α} {e t : TypeId} (hA : Opens A e) (ht : Try.prog.underlying t = some (.slice e)) (hC : Try.prog.cellsOf e = A.sz) (hsz : 0 < A.sz) : Opens (tList A) t := by
  intro H enc W fuel cs x h hw
  rcases open_slice ht h with ⟨hcs, hx⟩ | ⟨A0, len, cap, m, n, D, Pl, hcs, hb, hl, hm, hmm, hx, hi⟩
  · refine ⟨[], ⟨none, 0, hcs, Nat.le_refl _, by decide, fun i hi => by simp at hi⟩, ⟨by simp, fun y hy => by simp at hy⟩, ?_⟩
    rw [hx]
    show (encN 0 ++ encM A.cod []).length ≤ 10 * Rows.uptoBulk (DataW.nil)
    have h1 := encN_length (n := 0) ⟨by omega, by omega⟩
    simp only [Rows.uptoBulk, List.length_append, encM, List.map_nil, List.flatten_nil, List.length_nil]
    omega
  · have hmc : m = cap := by simpa using hmm
    subst hmc
    rw [hC] at hi
    have hx1 := congrArg Prod.fst hx
    simp only at hx1
    rw [hx1] at hw ⊢
    have hcell : ∀ i, i < len → ∃ q : α × List Value, (∀ j u, q.2[j]? = some u → W.cell? (A0.add (i * A.sz + j)) = some u) ∧ A.rep (· < W.heap.size) W q.2 q.1 ∧ A.cod.ok q.1 ∧ (A.cod.enc q.1).length ≤ 10 * Rows.uptoBulk (D i) := by
      intro i hil
      obtain ⟨cs', hc, ht'⟩ := hi i (by omega)
      obtain ⟨_, hcl, hat⟩ := World.cells?_some hc
      have hwi : ∀ n ∈ (D i).weights Try.prog e, n ≤ reachBytes := fun n hn => hw n (by
        simp only [DataW.weights, ht, List.mem_cons, List.mem_append]
        right; left
        exact weightsAll_mem (List.mem_map.2 ⟨i, List.mem_range.2 hil, rfl⟩) hn)
      obtain ⟨y, h1, h2, h3⟩ := hA ht' hwi
      refine ⟨(y, cs'), fun j u hj => ?_, h1, h2, h3⟩
      have hjl : j < cs'.length := (List.getElem?_eq_some_iff.1 hj).1
      have := hat j (by omega)
      rw [Go.Deep.add_add] at this
      rw [this]; exact hj
    obtain ⟨F, hF⟩ := choose_row (α := α × List Value) hcell
    have hlen : ((List.range len).map fun i => (F i).1).length = len := by simp
    refine ⟨(List.range len).map fun i => (F i).1, ⟨some A0, m, by rw [hcs, hlen], by rw [hlen]; exact hl, by unfold maxLen at hm; omega, fun i hi' => ?_⟩, ⟨by rw [hlen]; unfold maxLen at hm; omega, fun y hy => ?_⟩, ?_⟩
    · have hil : i < len := by simpa using hi'
      obtain ⟨g1, g2, -, -⟩ := hF i hil
      obtain ⟨f1, f2, -, -⟩ := hF 0 (by omega)
      have hs : A0.spot = none := by
        have hl0 := A.len f2
        have hz := f1 0 ((F 0).2[0]'(by omega)) (List.getElem?_eq_getElem (by omega))
        rw [Nat.zero_mul] at hz
        exact add_spot (spot_none hz)
      simp only [List.getElem_map, List.getElem_range]
      refine ⟨A0.block, A0.off, (F i).2, addr_eta hs, ?_, fun j u hj => ?_, g2⟩
      · have hl0 := A.len f2
        have hz := f1 0 ((F 0).2[0]'(by omega)) (List.getElem?_eq_getElem (by omega))
        rw [add_eq hs] at hz
        exact World.block_lt_of_cell? W ⟨A0.block, _, none⟩ hz
      · have := g1 j u hj
        rw [add_eq hs] at this
        rw [Nat.add_assoc]; exact this
    · simp only [List.mem_map, List.mem_range] at hy
      obtain ⟨i, hi', rfl⟩ := hy
      exact (hF i hi').2.2.1
    · show (encN _ ++ encM A.cod _).length ≤ _
      rw [List.length_append, hlen]
      have h1 := encN_length (n := (len : Int)) ⟨by omega, by unfold maxLen at hm; omega⟩
      have h2 := encM_bulk A.cod (fun i => (F i).1) D (List.range len) (fun i hi => (hF i (List.mem_range.1 hi)).2.2.2)
      simp only [Rows.uptoBulk]
      omega
/-! ### Structs, field by field -/
noncomputable def offs : List TypeId → Nat → Nat
  | [], _ => 0
  | _ :: _, 0 => 0
  | t :: ts, i + 1 => Try.prog.cellsOf t + offs ts i
def OpensS {α : Type} (T : Ty α) (ts : List TypeId) : Prop :=
  ∀ {H : Type} {enc : TypeId × Value → H} {W : World} {n o : Nat} {cs : List Value} {ys : List (DataW H × List MemPlace)}, cs.length = o + T.sz → ys.length = ts.length →
    (∀ i t, ts[i]? = some t → DataW.trod enc Try.prog W 0 (fun _ => true) true n t ((cs.drop (o + offs ts i)).take (Try.prog.cellsOf t)) = ys[i]?) → (∀ k ∈ DataW.weightsEach Try.prog ts (ys.map (·.1)), k ≤ reachBytes) →
    ∃ y, T.rep (· < W.heap.size) W (cs.drop o) y ∧ T.cod.ok y ∧ (T.cod.enc y).length ≤ 10 * Rows.uptoBulkAll (ys.map (·.1))
theorem OpensS.one {α : Type} {T : Ty α} {t : TypeId} (hT : Opens T t) (hC : Try.prog.cellsOf t = T.sz) : OpensS T [t] := by
  intro H enc W n o cs ys hcl hyl hf hw
  match ys, hyl with
  | [y0], _ =>
    have h0 := hf 0 t rfl
    simp only [offs, Nat.add_zero, hC, List.getElem?_cons_zero] at h0
    rw [List.take_of_length_le (by rw [List.length_drop]; omega)] at h0
    obtain ⟨y, h1, h2, h3⟩ := hT h0 (fun k hk => hw k (by simp [DataW.weightsEach, hk]))
    refine ⟨y, h1, h2, ?_⟩
    simp only [List.map_cons, List.map_nil, Rows.uptoBulkAll]
    omega
theorem OpensS.cons {α β : Type} {A : Ty α} {B : Ty β} {t : TypeId} {ts : List TypeId} (hA : Opens A t) (hC : Try.prog.cellsOf t = A.sz) (hB : OpensS B ts) : OpensS (tPair A B) (t :: ts) := by
  intro H enc W n o cs ys hcl hyl hf hw
  match ys, hyl with
  | y0 :: ys, hyl =>
    have hsz : (tPair A B).sz = A.sz + B.sz := rfl
    have h0 := hf 0 t rfl
    simp only [offs, Nat.add_zero, hC, List.getElem?_cons_zero] at h0
    obtain ⟨y, h1, h2, h3⟩ := hA h0 (fun k hk => hw k (by simp [DataW.weightsEach, hk]))
    obtain ⟨z, g1, g2, g3⟩ := hB (enc := enc) (W := W) (n := n) (o := o + A.sz) (cs := cs) (ys := ys) (by omega) (by simpa using hyl) (fun i ti hi => by
      have := hf (i + 1) ti (by simpa using hi)
      simp only [offs, hC, List.getElem?_cons_succ] at this
      rw [Nat.add_assoc]; exact this) (fun k hk => hw k (by simp [DataW.weightsEach, hk]))
    refine ⟨(y, z), ⟨(cs.drop o).take A.sz, cs.drop (o + A.sz), ?_, h1, g1⟩, ⟨h2, g2⟩, ?_⟩
    · rw [← List.drop_drop, List.take_append_drop]
    · show (A.cod.enc y ++ B.cod.enc z).length ≤ _
      rw [List.length_append]
      simp only [List.map_cons, Rows.uptoBulkAll]
      omega
theorem OpensS.struct {α : Type} {T : Ty α} {t : TypeId} {fs : Array Field} {ts : List TypeId} (hS : OpensS T ts) (ht : Try.prog.underlying t = some (.struct fs)) (hts : fs.toList.map (·.type) = ts) (hof : ∀ i f, fs[i]? = some f → f.offset = offs ts i) (hC : Try.prog.cellsOf t = T.sz) : Opens T t := by
  intro H enc W fuel cs x h hw
  obtain ⟨ys, n', -, hx, hcl, hyl, hf⟩ := DataW.trod_struct ht h
  rw [hx] at hw ⊢
  simp only at hw ⊢
  rw [weights_agg ht, hts] at hw
  obtain ⟨y, h1, h2, h3⟩ := hS (enc := enc) (W := W) (n := n') (o := 0) (cs := cs) (ys := ys) (by rw [hcl, hC]; omega) (by rw [hyl, ← hts]; simp) (fun i ti hi => by
    subst hts
    have hi' : ∃ f, fs[i]? = some f ∧ f.type = ti := by
      rw [List.getElem?_map] at hi
      cases hq : fs.toList[i]? with
      | none => rw [hq] at hi; cases hi
      | some f => rw [hq] at hi; exact ⟨f, by simpa using hq, by simpa using hi⟩
    obtain ⟨f, hf1, rfl⟩ := hi'
    have := hf i f hf1
    rw [hof i f hf1] at this
    rw [Nat.zero_add]; exact this) hw
  refine ⟨y, by simpa using h1, h2, ?_⟩
  simp only [Rows.uptoBulk]
  omega
end Go.Proofs.Ytekmjegeiminnaa

/- Books and operations that came in, opened. -/
namespace Go.Proofs.Ytekmjegeiminnaa
open Go.ChangeShapes Go.WideShapes Go.ChangeAt Go.RowKit Go.Deep
set_option linter.unusedVariables false
set_option linter.unusedSimpArgs false

theorem hof_of {fs : Array Field} {ts : List TypeId} (h : (List.range fs.size).map (offs ts) = fs.toList.map (·.offset)) : ∀ i f, fs[i]? = some f → f.offset = offs ts i := fun i f hf => by
  have hi : i < fs.size := (Array.getElem?_eq_some_iff.1 hf).1
  have h1 : (fs.toList.map (·.offset))[i]? = some f.offset := by rw [List.getElem?_map]; simp [hf]
  rw [← h, List.getElem?_map, List.getElem?_range hi] at h1
  simpa using h1.symm
theorem c3 : Try.prog.cellsOf 3 = tInt.sz := by kernel_rfl
theorem c9 : Try.prog.cellsOf 9 = tStr.sz := by kernel_rfl
theorem opens_val : Opens tVal 103 := OpensS.struct (ts := [3, 3, 9]) (OpensS.cons opens_int c3 (OpensS.cons opens_int c3 (OpensS.one opens_str c9))) Try.underlying103 rfl (hof_of (by kernel_rfl)) (by kernel_rfl)
theorem opens_cell : Opens tCell 186 := OpensS.struct (ts := [3, 3, 9]) (OpensS.cons opens_int c3 (OpensS.cons opens_int c3 (OpensS.one opens_str c9))) Try.underlying186 rfl (hof_of (by kernel_rfl)) (by kernel_rfl)
theorem opens_name : Opens tName 101 := OpensS.struct (ts := [9, 9, 9]) (OpensS.cons opens_str c9 (OpensS.cons opens_str c9 (OpensS.one opens_str c9))) Try.underlying101 rfl (hof_of (by kernel_rfl)) (by kernel_rfl)
theorem c103 : Try.prog.cellsOf 103 = tVal.sz := by kernel_rfl
theorem opens_link : Opens tLink 105 := OpensS.struct (ts := [9, 9, 3, 3, 103]) (OpensS.cons opens_str c9 (OpensS.cons opens_str c9 (OpensS.cons opens_int c3 (OpensS.cons opens_int c3 (OpensS.one opens_val c103))))) Try.underlying105 rfl (hof_of (by kernel_rfl)) (by kernel_rfl)
theorem opens_cells : Opens (tList tCell) 106 := opens_list opens_cell Try.underlying106 (by kernel_rfl) (by decide)
theorem c106 : Try.prog.cellsOf 106 = (tList tCell).sz := by kernel_rfl
theorem opens_sheet : Opens tSheet 128 := OpensS.struct (ts := [9, 106]) (OpensS.cons opens_str c9 (OpensS.one opens_cells c106)) Try.underlying128 rfl (hof_of (by kernel_rfl)) (by kernel_rfl)
theorem c101 : Try.prog.cellsOf 101 = tName.sz := by kernel_rfl
theorem c105 : Try.prog.cellsOf 105 = tLink.sz := by kernel_rfl
theorem opens_op : Opens tOp 108 := OpensS.struct (ts := [3, 9, 9, 3, 3, 3, 3, 9, 101, 105, 106]) (OpensS.cons opens_int c3 (OpensS.cons opens_str c9 (OpensS.cons opens_str c9 (OpensS.cons opens_int c3 (OpensS.cons opens_int c3 (OpensS.cons opens_int c3 (OpensS.cons opens_int c3 (OpensS.cons opens_str c9 (OpensS.cons opens_name c101 (OpensS.cons opens_link c105 (OpensS.one opens_cells c106))))))))))) Try.underlying108 rfl (hof_of (by kernel_rfl)) (by kernel_rfl)
theorem opens_ops : Opens tOps 73 := opens_list opens_op Try.underlying73 (by kernel_rfl) (by decide)
theorem opens_sheets : Opens (tList tSheet) 64 := opens_list opens_sheet Try.underlying64 (by kernel_rfl) (by decide)
theorem opens_names : Opens (tList tName) 65 := opens_list opens_name Try.underlying65 (by kernel_rfl) (by decide)
theorem opens_links : Opens (tList tLink) 66 := opens_list opens_link Try.underlying66 (by kernel_rfl) (by decide)
theorem opens_book : Opens tBook 68 := OpensS.struct (ts := [64, 65, 66]) (OpensS.cons opens_sheets (by kernel_rfl) (OpensS.cons opens_names (by kernel_rfl) (OpensS.one opens_links (by kernel_rfl)))) Try.underlying68 rfl (hof_of (by kernel_rfl)) (by kernel_rfl)
end Go.Proofs.Ytekmjegeiminnaa
