/- What a loop of the reference's Reader keeps; cells, walked. -/
import Derived.Test.YtekmjegeiminnaaF2
import Derived.Test.YtekmjegeiminnaaD9
namespace Go.Proofs.Ytekmjegeiminnaa
open Go.RowKit
set_option linter.unusedVariables false
set_option linter.unusedSimpArgs false

/-- What a loop over n items keeps: of the bytes rs these values have been read. -/
def LoopD {α : Type} (A : Cod α) (wr : Bool) (rs : List UInt8) (wrk : Bool) (cur : List UInt8) (n : Nat) (xs : List α) : Prop :=
  cur.length ≤ rs.length ∧ (wr = true → wrk = true) ∧ (wr = false → (wrk = false ∧ decL A rs = (decM A (n - xs.length) cur).map (fun q => (xs ++ q.1, q.2))) ∨ (wrk = true ∧ decL A rs = none))
theorem LoopD.start {α : Type} {A : Cod α} {wr wr1 : Bool} {rs rs1 : List UInt8} {n : Nat} (h : Dec decC wr rs wr1 rs1 n) : LoopD A wr rs wr1 rs1 n [] := by
  refine ⟨h.1, h.2.1, fun e => ?_⟩
  rcases h.2.2 e with ⟨h1, h2⟩ | ⟨h1, h2⟩
  · exact .inl ⟨h1, by unfold decL; rw [h2]; simp⟩
  · exact .inr ⟨h1, by unfold decL; rw [h2]; rfl⟩
theorem LoopD.step {α : Type} {A : Cod α} {wr wr2 : Bool} {rs cur cur2 : List UInt8} {n : Nat} {xs : List α} {x : α} (h : LoopD A wr rs false cur n xs) (hn : xs.length < n) (hd : Dec A.dec false cur wr2 cur2 x) : LoopD A wr rs wr2 cur2 n (xs ++ [x]) := by
  refine ⟨Nat.le_trans hd.1 h.1, fun e => (by cases h.2.1 e), fun e => ?_⟩
  rcases h.2.2 e with ⟨-, h2⟩ | ⟨h1, -⟩
  · rw [show n - xs.length = (n - (xs ++ [x]).length) + 1 by simp; omega, decM] at h2
    rcases hd.2.2 rfl with ⟨k1, k2⟩ | ⟨k1, k2⟩
    · refine .inl ⟨k1, ?_⟩
      rw [h2, k2]
      simp only [Option.bind_some, Option.map_map]
      congr 1
      funext q
      simp
    · exact .inr ⟨k1, by rw [h2, k2]; rfl⟩
  · cases h1
theorem LoopD.done {α : Type} {A : Cod α} {wr wrk : Bool} {rs cur : List UInt8} {n : Nat} {xs : List α} (h : LoopD A wr rs wrk cur n xs) (hn : wrk = true ∨ n ≤ xs.length) (hle : xs.length ≤ n) : Dec (cList A).dec wr rs wrk cur xs := by
  refine ⟨h.1, h.2.1, fun e => ?_⟩
  rcases h.2.2 e with ⟨h1, h2⟩ | ⟨h1, h2⟩
  · rcases hn with hn | hn
    · rw [h1] at hn; cases hn
    · refine .inl ⟨h1, ?_⟩
      show decL A rs = _
      rw [h2, show n - xs.length = 0 by omega, decM]; simp
  · exact .inr ⟨h1, h2⟩

/-- The state of a loop: M: the old blocks that it writes. -/
structure ListD {α : Type} (A : Ty α) (ety : TypeId) (M : Nat → Prop) (w : World) (r bb : Nat) (wr : Bool) (rs : List UInt8) (n : Nat) (xs : List α) (cur : List UInt8) (v : Value) (wrk : Bool) (wk : World) : Prop where
  rd : RdR wk r bb cur wrk
  own : OwnT A ety w.heap.size wk v xs
  upd : Upd M w wk
  dec : LoopD A.cod wr rs wrk cur n xs
  le : xs.length ≤ n
theorem ListD.on {α : Type} {A : Ty α} {ety : TypeId} {M N : Nat → Prop} {w wk w1 : World} {r bb : Nat} {wr wrk : Bool} {rs cur : List UInt8} {n : Nat} {xs : List α} {v : Value} (h : ListD A ety M w r bb wr rs n xs cur v wrk wk) (hu : Upd N wk w1) (hN : ∀ k, k < w.heap.size → N k → M k) (hN2 : ∀ k, w.heap.size ≤ k → k < wk.heap.size → ¬ N k) (hr : ¬ N r) (hb : ¬ N bb) : ListD A ety M w r bb wr rs n xs cur v wrk w1 :=
  ⟨h.rd.upd hu hr hb, h.own.on hu hN2, h.upd.trans hu hN, h.dec, h.le⟩
/-- Behind the read of an item, its append out of a fresh block. -/
theorem ListD.next {α : Type} {A : Ty α} {ety : TypeId} {M : Nat → Prop} {w wk w3 w4 : World} {r bb : Nat} {wr wr2 : Bool} {rs cur cur2 : List UInt8} {n : Nat} {xs : List α} {x : α} {v v2 : Value}
    (h : ListD A ety M w r bb wr rs n xs cur v false wk) (hM : M r) (hr : r < w.heap.size) (hb : bb < w.heap.size) (hu : Upd (fun k => k = r) wk w3) (hrd : RdR w3 r bb cur2 wr2) (hd : Dec A.cod.dec false cur wr2 cur2 x) (hn : xs.length < n)
    {o : Obj} (g : GrewT A ety w.heap.size v v2 (xs ++ [x]) (w3.alloc o) w4) : ListD A ety M w r bb wr rs n (xs ++ [x]) cur2 v2 wr2 w4 := by
  have hn' : ∀ k, k < w.heap.size → ¬ some k = v.ownBlock := fun k hk e => by have := (h.own.lt k e.symm).1; omega
  have h1 : Upd (fun k => k = r) wk (w3.alloc o) := hu.trans (Upd.new (M := fun k => k = r) _ _) (fun _ _ h => h)
  refine ⟨(hrd.upd (Upd.new (M := fun _ => False) _ _) (fun h => h) (fun h => h)).upd g.upd (hn' _ hr) (hn' _ hb), g.own, ?_, h.dec.step hn hd, by simp; omega⟩
  exact (h.upd.trans h1 (fun i hi e => by subst e; exact hM)).trans g.upd (fun i hi e => (hn' i hi e).elim)
/-- .. and where the item holds slices of its own. -/
theorem ListD.carry {α : Type} {A : Ty α} {ety : TypeId} {M : Nat → Prop} {w wk w3 : World} {r bb : Nat} {wr : Bool} {rs cur : List UInt8} {n : Nat} {xs : List α} {v : Value}
    (h : ListD A ety M w r bb wr rs n xs cur v false wk) (hr : r < w.heap.size) (hu : Upd (fun k => k = r) wk w3) (o : Obj) : OwnT A ety w.heap.size (w3.alloc o) v xs :=
  (h.own.on hu (fun k hk _ e => by omega)).on (Upd.new (M := fun _ => False) _ _) (fun _ _ _ h => h)

theorem wpList_append_T {α : Type} {A : Ty α} {ops : Array Oper} {rest : List Oper} {o : Oper} {a : Act} {Q : Exit → Act → World → Prop} {w : World} (hgd : o.guard = none) (s y : Operand) (t : TypeId)
    (hop : o.op = .call { callee := .builtin .append, args := #[s, y], argTypes := #[t, t] })
    {ety : TypeId} {i0 : TypeInfo} {z : Value} {bytes : Nat} (ht : Try.prog.underlying t = some (.slice ety)) (hi : Try.prog.info? ety = some i0) (hz0 : i0.zero = some z) (hz1 : i0.size = A.sz) (hz2 : i0.bytes = bytes) (hzs : z.cells.size = A.sz) (hsz : 0 < A.sz)
    {B : Nat} {v : Value} {xs : List α} {x : α} (hs : a.eval s = v) (ho : OwnT A ety B w v xs) {b c : Nat} (hy : a.eval y = .slice (some ⟨b, 0, none⟩) 1 c) {us : List Value} (hr : w.rangeAt b 0 us) (hx : A.rep (fun k => B ≤ k ∧ k < w.heap.size ∧ some k ≠ v.ownBlock) w us x)
    (hl : xs.length ≤ 1000000000000) (hlb : (xs.length + 1) * bytes ≤ 140737488355328) (hB : B ≤ w.heap.size) (h : ∀ v' w', GrewT A ety B v v' (xs ++ [x]) w w' → wpList Try.prog ops Q rest (a.put o.dst v') w') : wpList Try.prog ops Q (o :: rest) a w :=
  wpList_plain hgd fun _ hK => by
    obtain ⟨v', w', hrun, hg⟩ := run_append_T (ty := o.type) ht hi hz0 hz1 hz2 hzs hsz ho (c := c) hr hx hl hlb hB
    unfold Oper.wp execOp
    simp only [hop, resolve, invoke, builtin, Sem.run_bind, Sem.run_pure, Result.andThen_ok, List.map_toArray, List.map_cons, List.map_nil, hs, hy, hrun]
    exact hK _ _ (h v' w' hg)
theorem new_range (w : World) (vs : List Value) (t : TypeId) : (w.alloc (.cells vs.toArray t)).rangeAt w.heap.size 0 vs := fun j v hj => by
  rw [Nat.zero_add, World.cell?_alloc_at _ _ _ _ rfl]; simpa using hj

/-- What cells leaves. -/
def RdCells (r bb : Nat) (rs : List UInt8) (wr : Bool) (w : World) (e : Ending) (w' : World) : Prop :=
  ∃ (xs : List CellD) (v : Value) (rs' : List UInt8) (wr' : Bool), e = .returned v ∧ OwnT tCell 186 w.heap.size w' v xs ∧ RdR w' r bb rs' wr' ∧ Upd (fun k => k = r) w w' ∧ Dec (cList cCell).dec wr rs wr' rs' xs

set_option maxRecDepth 100000 in
set_option maxHeartbeats 8000000 in
theorem cells_rd (r bb : Nat) (rs : List UInt8) (q : Bool) (w : World) (h : RdR w r bb rs q) (hl : rs.length ≤ 100000000000) (hb : bb < w.heap.size) :
    Calls Try.prog 93 #[vP r 0] w (RdCells r bb rs q w) := by
  have hr := h.lt
  have HC := hidden h
  clear h
  obtain ⟨i0, hi, hz0, hz1, hz2⟩ := info_parts Try.infoT186
  have HINF := hidden (And.intro hi (And.intro hz0 (And.intro hz1 hz2)))
  clear hi hz0 hz1 hz2
  go_enter Try.func93, Try.ntmps93
  go_wp2_with fail
  with_reducible refine (count_rd r bb rs q w HC.out hl).mono ?_
  rintro e w1 ⟨n, r1, wr1, rfl, h1, hu, hd, hn⟩
  have hnl : n ≤ 100000000000 := by have := hd.1; omega
  have HS : Hid (ListD tCell 186 (fun k => k = r) w r bb q rs n [] r1 (.slice none 0 0) wr1 w1) := hidden ⟨h1, OwnT.nil _ _ _ _, hu, LoopD.start hd, by simp⟩
  clear h1 hu hd hn
  go_wp2_with fail
  go_loopw [3, 5] (fun s3 s5 wr => ∃ (k : Nat) (xs : List CellD) (cur : List UInt8) (wrk : Bool) (v : Value), s3 = v ∧ s5 = .int .i64 k ∧ k = xs.length ∧ ListD tCell 186 (fun k => k = r) w r bb q rs n xs cur v wrk wr) (fun _ s5 _ => (n - intOf s5).toNat)
  case atStart => exact ⟨0, [], r1, wr1, _, rfl, rfl, rfl, HS.out⟩
  case round =>
    obtain ⟨k, xs, cur, wrk, v, hs3, rfl, hk, hL⟩ := hrel
    obtain ⟨av, capv, hv⟩ := hL.own.is
    subst hv
    subst hs3
    have HL := hidden hL
    have hle := hL.le
    have hcl := hL.dec.1
    obtain ⟨a, cap, c0, c1, cf, -⟩ := hL.rd.facts
    have HK := hidden hk
    clear hL hk
    by_cases hlt : k < n
    · cases wrk with
      | true =>
        go_wp2_with fail
        go_ret
        exact ⟨xs, _, cur, true, rfl, HL.out.own, HL.out.rd, HL.out.upd, HL.out.dec.done (.inl rfl) HL.out.le⟩
      | false =>
        go_wp2_with fail
        with_reducible refine (num_rd r bb cur false wr HL.out.rd).mono ?_
        rintro e w2 ⟨x0, rs2, wr2, rfl, h1, hu, hd, -, -⟩
        have H2 := hidden h1
        have U2 := hidden hu
        have D2 := hidden hd
        clear h1 hu hd c0 c1 cf
        go_wp2_with fail
        with_reducible refine (num_rd r bb rs2 wr2 w2 H2.out).mono ?_
        rintro e w3 ⟨x1, rs3, wr3, rfl, h1, hu, hd, -, -⟩
        have H3 := hidden h1
        have U3 := hidden (U2.out.trans hu (fun _ _ h => h))
        have D3 := hidden hd
        have hl3 : rs3.length ≤ 100000000000 := by have := hd.1; have := D2.out.1; omega
        clear h1 hu hd
        go_wp2_with fail
        with_reducible refine (text_rd r bb rs3 wr3 w3 H3.out hl3).mono ?_
        rintro e w4 ⟨x2, rs4, wr4, rfl, h1, hu, hd⟩
        have H4 := hidden h1
        have U4 := hidden (U3.out.trans hu (fun _ _ h => h))
        have D4 : Hid (Dec tCell.cod.dec false cur wr4 rs4 (x0, x1, x2)) := hidden (D2.out.pair (D3.out.pair hd))
        have HO := hidden (HL.out.carry hr U4.out (.cells #[.int .i64 x0, .int .i64 x1, .string (strOf x2)] 186))
        have HRN : Hid ((w4.alloc (.cells #[.int .i64 x0, .int .i64 x1, .string (strOf x2)] 186)).rangeAt w4.heap.size 0 [.int .i64 x0, .int .i64 x1, .string (strOf x2)]) := hidden (new_range _ _ _)
        have HRP : ∀ (S : Nat → Prop) (W : World), tCell.rep S W [.int .i64 x0, .int .i64 x1, .string (strOf x2)] (x0, x1, x2) := fun S W => ⟨[.int .i64 x0], _, rfl, rfl, [.int .i64 x1], _, rfl, rfl, rfl⟩
        have HRP := hidden HRP
        have HXL : Hid (xs.length ≤ 1000000000000) := hidden (by omega)
        have HXB : Hid ((xs.length + 1) * 32 ≤ 140737488355328) := hidden (by omega)
        have HB : Hid (w.heap.size ≤ (w4.alloc (.cells #[.int .i64 x0, .int .i64 x1, .string (strOf x2)] 186)).heap.size) := hidden (by have := HL.out.upd.size; have := U4.out.size; rw [World.size_alloc]; omega)
        clear h1 hu hd
        go_wp2_with (at_builtin; go_loud (refine wpList_append_T (A := tCell) rfl (.tmp 26) (.tmp 32) 106 rfl und106 HINF.out.1 HINF.out.2.1 HINF.out.2.2.1 HINF.out.2.2.2 rfl (by decide) (B := w.heap.size) (v := .slice av xs.length capv) (xs := xs) (x := (x0, x1, x2)) rfl HO.out (b := w4.heap.size) (c := 1) rfl HRN.out (HRP.out _ _) HXL.out HXB.out HB.out ?_); intro v2 w5 g; have G := hidden g; clear g)
        exact ⟨⟨k + 1, xs ++ [(x0, x1, x2)], rs4, wr4, v2, rfl, by go_num, by rw [HK.out]; simp, HL.out.next rfl hr hb U4.out H4.out D4.out (by have := HK.out; omega) G.out⟩, by simp [intOf]; omega⟩
    · go_wp2_with fail
      go_ret
      exact ⟨xs, _, cur, wrk, rfl, HL.out.own, HL.out.rd, HL.out.upd, HL.out.dec.done (.inr (by have := HK.out; omega)) HL.out.le⟩
end Go.Proofs.Ytekmjegeiminnaa
