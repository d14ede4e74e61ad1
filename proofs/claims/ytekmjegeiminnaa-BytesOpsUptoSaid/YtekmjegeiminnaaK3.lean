/- How a slice of chunks, and a text, that came in are opened. -/
import Derived.Test.YtekmjegeiminnaaK1
import Derived.Test.YtekmjegeiminnaaC2
import Derived.ChangeMaps5
namespace Go.Proofs.Ytekmjegeiminnaa
open Go.ChangeShapes Go.WideShapes Go.ChangeAt Go.RowKit Go.Deep
set_option linter.unusedVariables false
set_option linter.unusedSimpArgs false

theorem add_spot {A : Addr} (h : (A.add 0).spot = none) : A.spot = none := by unfold Addr.add at h; split at h <;> simp_all
theorem add_eq {A : Addr} (h : A.spot = none) (j : Nat) : A.add j = ⟨A.block, A.off + j, none⟩ := by unfold Addr.add; split <;> (cases A; simp_all)
theorem addr_eta {A : Addr} (h : A.spot = none) : some A = some ⟨A.block, A.off, none⟩ := by cases A; simp_all
theorem weightsAll_mem {H : Type} {P : Program} {e : TypeId} : ∀ {l : List (DataW H)} {d : DataW H} {n : Nat}, d ∈ l → n ∈ d.weights P e → n ∈ DataW.weightsAll P e l
  | d0 :: r, d, n, hd, hn => by
    simp only [DataW.weightsAll, List.mem_append]
    rcases List.mem_cons.1 hd with rfl | hd
    · exact .inl hn
    · exact .inr (weightsAll_mem hd hn)
theorem weights_agg {H : Type} {P : Program} {t : TypeId} {fs : Array Field} {parts : List (DataW H)} (h : P.underlying t = some (.struct fs)) : (DataW.agg parts).weights P t = DataW.weightsEach P (fs.toList.map (·.type)) parts := by
  simp [DataW.weights, h]
/-- A slice of bytes that came in, as a cell. -/
theorem open_bytes' {H : Type} {enc : TypeId × Value → H} {W : World} {v : Value} {x : DataW H × List MemPlace} {fuel : Nat}
    (h : DataW.trod enc Try.prog W 0 (fun _ => true) true fuel 22 [v] = some x) (hw : ∀ n ∈ x.1.weights Try.prog 22, n ≤ reachBytes) :
    ∃ (a : Option Addr) (cap : Nat) (bs : List UInt8), v = .slice a bs.length cap ∧ bs.length ≤ cap ∧ (cap : Int) ≤ 9223372036854775807 ∧ BytesAt W a bs ∧ bs.length ≤ 140737488351232 := by
  obtain ⟨d, p⟩ := x
  obtain ⟨a, cap, bs, e, hle, hb, h1, h2⟩ := open_bytes h
  have hr : reachBytes = 140737488351232 := by decide
  have hcap : cap ≤ 140737488351232 := by
    rcases h2 with h2 | ⟨elems, sp, rfl, h2⟩
    · omega
    · have := hw ((elems.length + sp.length) * Try.prog.bytesOf 5) (by simp [DataW.weights, Try.underlying22])
      rw [show Try.prog.bytesOf 5 = 1 by kernel_rfl] at this
      omega
  exact ⟨a, cap, bs, e, hle, by omega, hb, by omega⟩
set_option maxRecDepth 100000 in
/-- A slice of chunks that came in. -/
theorem open_chunks {H : Type} {enc : TypeId × Value → H} {W : World} {v : Value} {d : DataW H} {p : List MemPlace} {fuel : Nat}
    (h : DataW.trod enc Try.prog W 0 (fun _ => true) true fuel 44 [v] = some (d, p)) (hw : ∀ n ∈ d.weights Try.prog 44, n ≤ reachBytes) :
    ∃ (a : Option Addr) (cap : Nat) (l : List Chk), v = .slice a l.length cap ∧ l.length ≤ cap ∧ ChunksAt (· < W.heap.size) W a l ∧ Sized l := by
  rcases open_slice Try.underlying44 h with ⟨hcs, _⟩ | ⟨A, len, cap, m, n, D, Pl, hcs, hb, hl, hm, hmm, hx, hi⟩
  · simp only [List.cons.injEq, and_true] at hcs
    subst hcs
    exact ⟨none, 0, [], rfl, Nat.le_refl _, (fun i h => by simp at h : ChunksAt _ _ _ _), ⟨by simp, fun c hc => by simp at hc⟩⟩
  · simp only [List.cons.injEq, and_true] at hcs
    subst hcs
    obtain ⟨hd, -⟩ := Prod.mk.inj hx
    subst hd
    have hr : reachBytes = 140737488351232 := by decide
    have hmc : m = cap := by simpa using hmm
    subst hmc
    rw [show Try.prog.cellsOf 121 = 2 by kernel_rfl] at hi
    have hlen : len ≤ 140737488351232 := by
      have := hw ((len + (m - len)) * Try.prog.bytesOf 121) (by simp [DataW.weights, Try.underlying44])
      rw [show Try.prog.bytesOf 121 = 40 by kernel_rfl] at this
      omega
    have hcell : ∀ i, i < len → ∃ c : Chk, ∃ d' cap', W.cell? (A.add (i * 2)) = some (.string (strOf c.1)) ∧ W.cell? (A.add (i * 2 + 1)) = some (.slice d' c.2.length cap') ∧ c.2.length ≤ cap' ∧ (cap' : Int) ≤ 9223372036854775807 ∧ BytesAt W d' c.2 ∧ c.1.length ≤ 140737488351232 ∧ c.2.length ≤ 140737488351232 := by
      intro i hil
      obtain ⟨cs', hc, ht'⟩ := hi i (by omega)
      obtain ⟨_, hcl, hat⟩ := World.cells?_some hc
      obtain ⟨ys, n', hn', hy, hlen', hyl, hf⟩ := DataW.trod_struct Try.underlying121 ht'
      have h0 := hat 0 (by omega)
      have h1 := hat 1 (by omega)
      match cs', hcl, ys, hyl with
      | [c0, c1], _, [y0, y1], _ =>
        have f0 := hf 0 _ rfl
        have f1 := hf 1 _ rfl
        change DataW.trod enc Try.prog W 0 (fun _ => true) true n' 9 (([c0, c1].drop 0).take (Try.prog.cellsOf 9)) = some y0 at f0
        change DataW.trod enc Try.prog W 0 (fun _ => true) true n' 22 (([c0, c1].drop 1).take (Try.prog.cellsOf 22)) = some y1 at f1
        rw [show Try.prog.cellsOf 9 = 1 by kernel_rfl] at f0
        rw [show Try.prog.cellsOf 22 = 1 by kernel_rfl] at f1
        have hy1 : D i = .agg [y0.1, y1.1] := by have := (Prod.mk.inj hy).1; simpa using this
        have hwi : ∀ n ∈ (D i).weights Try.prog 121, n ≤ reachBytes := fun n hn => hw n (by
          simp only [DataW.weights, Try.underlying44, List.mem_cons, List.mem_append]
          right; left
          exact weightsAll_mem (List.mem_map.2 ⟨i, List.mem_range.2 hil, rfl⟩) hn)
        rw [hy1] at hwi
        rw [weights_agg Try.underlying121] at hwi
        obtain ⟨s, e0, ey, hs⟩ := DataW.trod_string Try.underlying9 f0
        have e0 : [c0] = [Value.string s] := e0
        have hw1 : ∀ n ∈ y1.1.weights Try.prog 22, n ≤ reachBytes := fun n hn => hwi n (by simp [DataW.weightsEach, hn])
        obtain ⟨d', cap', bs, e1, g1, g2, g3, g4⟩ := open_bytes' f1 hw1
        have hsl : s.size ≤ 140737488351232 := by
          have ey' : y0 = (.lit (.string s.data.toList), []) := ey
          have := hwi s.data.toList.length (by rw [ey']; simp [DataW.weightsEach, DataW.weights])
          rw [hr] at this; exact this
        have c0e : c0 = .string s := by simpa using e0
        have c1e : c1 = .slice d' bs.length cap' := by simpa using e1
        refine ⟨(s.data.toList, bs), d', cap', ?_, ?_, g1, g2, g3, hsl, g4⟩
        · rw [Go.Deep.add_add, Nat.add_zero] at h0
          rw [h0, c0e]; rfl
        · rw [Go.Deep.add_add] at h1
          rw [h1, c1e]; rfl
    obtain ⟨F, hF⟩ := choose_row (α := Chk) hcell
    have hln : ((List.range len).map F).length = len := by simp
    refine ⟨some A, m, (List.range len).map F, by rw [hln], by rw [hln]; exact hl, fun i hi' => ?_, ⟨by rw [hln]; exact hlen, fun c hc => ?_⟩⟩
    · have hil : i < len := by simpa using hi'
      obtain ⟨d', cap', x0, x1, g1, g2, g3, -, -⟩ := hF i hil
      have hs : A.spot = none := by
        obtain ⟨_, _, z0, -⟩ := hF 0 (by omega)
        exact add_spot (spot_none z0)
      rw [add_eq hs] at x0 x1
      simp only [List.getElem_map, List.getElem_range]
      refine ⟨A.block, A.off, d', cap', addr_eta hs, x0, ?_, g1, g2, g3, World.block_lt_of_cell? W ⟨A.block, A.off + i * 2, none⟩ x0, fun B hB h0 => ?_⟩
      · rw [Nat.add_assoc]; exact x1
      · obtain ⟨b', o', e', hc'⟩ := g3 0 h0
        rw [hB] at e'; cases e'
        exact World.block_lt_of_cell? W ⟨b', o' + 0, none⟩ hc'
    · simp only [List.mem_map, List.mem_range] at hc
      obtain ⟨i, hi', rfl⟩ := hc
      obtain ⟨d', cap', -, -, -, -, -, g5, g6⟩ := hF i hi'
      exact ⟨g5, g6⟩
end Go.Proofs.Ytekmjegeiminnaa
