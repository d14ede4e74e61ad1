/- The reference's Cells, walked. -/
import Derived.Test.YtbaejlmpoflogaaW2
namespace Go.Proofs.Ytbaejlmpoflogaa
open Go.RowKit
set_option linter.unusedVariables false
set_option linter.unusedSimpArgs false

abbrev zeroCell : Value := .agg #[.int .i64 0, .int .i64 0, .string ByteArray.empty]
theorem Try.info49 : (Try.prog.info? 49).map (fun i => (i.zero, i.size, i.bytes)) = some (some zeroCell, 3, 32) := by kernel_rfl

/-- What Cells answers. -/
def CellsR (a n m : Int) (cols : Bool) (l : List CellV) (w : World) (e : Ending) (w' : World) : Prop :=
  Below w.heap.size w w' ∧
  match (if goodB a n m = true then goC a n m cols l [] [] else none) with
  | none => e = .returned (.tuple #[.slice none 0 0, .slice none 0 0, .bool false])
  | some (st, go) => st.length + go.length ≤ l.length ∧ ∃ v1 v2, e = .returned (.tuple #[v1, v2, .bool true]) ∧ Two w.heap.size v1 v2 st go w'
theorem CellsR.none {a n m : Int} {cols : Bool} {l : List CellV} {w w' : World} (hb : Below w.heap.size w w') (h : (if goodB a n m = true then goC a n m cols l [] [] else none) = none) :
    CellsR a n m cols l w (.returned (.tuple #[.slice none 0 0, .slice none 0 0, .bool false])) w' := ⟨hb, by rw [h]⟩
theorem CellsR.some {a n m : Int} {cols : Bool} {l st go : List CellV} {w w' : World} {v1 v2 : Value} (hb : Below w.heap.size w w') (hg : goodB a n m = true) (h : goC a n m cols l [] [] = some (st, go))
    (hl : st.length + go.length ≤ l.length) (ht : Two w.heap.size v1 v2 st go w') : CellsR a n m cols l w (.returned (.tuple #[v1, v2, .bool true])) w' := ⟨hb, by rw [if_pos hg, h]; exact ⟨hl, v1, v2, rfl, ht⟩⟩

theorem cells_bad (a n m : Int) (cols : Bool) (ad : Option Addr) (len cap : Nat) (l : List CellV) (hg : goodB a n m = false) (ha : I64 a) (hn : I64 n) (hm : I64 m) (w : World) :
    Calls Try.prog 18 #[S3 a n m, .bool cols, .slice ad len cap] w (CellsR a n m cols l w) := by
  go_enter Try.func18, Try.ntmps18
  go_wp2_with fail
  refine (good_ref_w a n m ha hn hm _).mono ?_
  rintro e w1 ⟨rfl, rfl⟩
  rw [hg]
  have HG := hidden hg
  clear ha hn hm hg
  go_wp2
  go_ret3
  exact CellsR.none (((Below.refl _ _).alloc (Nat.le_refl _) _).alloc (by simp) _) (by rw [HG.out]; rfl)

/-- Where the loop stands behind k cells. -/
def At (a n m : Int) (cols : Bool) (l : List CellV) (w0 : World) (k : Nat) (v1 v2 : Value) (w : World) : Prop :=
  ∃ st go, goC a n m cols l [] [] = goC a n m cols (l.drop k) st go ∧ st.length + go.length ≤ k ∧ Two (w0.heap.size + 1) v1 v2 st go w ∧ Below w0.heap.size w0 w

set_option maxHeartbeats 16000000 in
theorem cells_ref (a n m : Int) (cols : Bool) (ad : Option Addr) (cap : Nat) (l : List CellV) (hg : goodB a n m = true) (w : World) (hl : l.length * 32 ≤ 140737488351232) (hc : CellsAt w ad l)
    (hr : ∀ i (h : i < l.length), I64 l[i].row ∧ I64 l[i].col) :
    Calls Try.prog 18 #[S3 a n m, .bool cols, .slice ad l.length cap] w (CellsR a n m cols l w) := by
  obtain ⟨g1, g2, g3, g4, g5⟩ := good_facts hg
  have gn : -1000 ≤ n ∧ n ≤ 1000 := by omega
  clear g5
  have HC := hidden hc
  have HR := hidden hr
  clear hc hr
  go_enter Try.func18, Try.ntmps18
  go_wp2_with fail
  refine (good_ref_w a n m ⟨by omega, by omega⟩ ⟨by omega, by omega⟩ ⟨by omega, by omega⟩ _).mono ?_
  rintro e w1 ⟨rfl, rfl⟩
  rw [hg]
  have HG := hidden hg
  clear hg
  go_wp2_with fail
  obtain ⟨i0, hi, hz0, hz1, hz2⟩ := info_parts Try.info49
  go_loopw [9, 10, 21] (fun v1 v2 i wr => ∃ k : Nat, i = .int .i64 k ∧ k ≤ l.length ∧ Cells3 w.heap.size a n m wr ∧ w.heap.size < wr.heap.size ∧ At a n m cols l w k v1 v2 wr) (fun _ _ i _ => l.length - (intOf i).toNat)
  case atStart =>
    exact ⟨0, rfl, Nat.zero_le _, ⟨by go_simp, by go_simp, by go_simp⟩, by simp; omega, [], [], rfl, by simp, ⟨World.ownsRow_nil _ _ _ _, World.ownsRow_nil _ _ _ _, .inl rfl⟩, (((Below.refl _ _).alloc (Nat.le_refl _) _).alloc (by simp) _)⟩
  case round =>
    obtain ⟨k, rfl, hk, ⟨c0, c1, c2⟩, hz, st, go, hgo, hsz, two, bel⟩ := hrel
    by_cases hlt : k < l.length
    · obtain ⟨b, o, rfl, p1, p2, p3⟩ := (HC.out.on bel) k hlt
      have hrb := HR.out k hlt
      have hdrop : l.drop k = l[k] :: l.drop (k + 1) := List.drop_eq_getElem_cons hlt
      have HGO := hidden hgo
      have HD := hidden hdrop
      clear hgo hdrop
      have hk1 : (0 : Int) ≤ (k : Int) := by omega
      have hk2 : (k : Int) < (l.length : Int) := by omega
      have hbz := World.block_lt_of_cell? _ _ p1
      simp only at hbz
      have z1 : w.heap.size < wr.heap.size + 1 := by omega
      have z2 : w.heap.size < wr.heap.size + 1 + 1 := by omega
      have z3 : w.heap.size < wr.heap.size + 1 + 1 + 1 := by omega
      generalize l[k] = c at p1 p2 p3 hrb HD
      obtain ⟨r, cc, t⟩ := c
      obtain ⟨hr1, hr2⟩ := hrb
      simp only at p1 p2 p3 hr1 hr2
      have HR1 := hidden hr1
      have HR2 := hidden hr2
      unfold I64 at hr1 hr2
      cases cols with
      | true =>
        go_wp2_with fail
        refine (pos_ref_w a n m cc HG.out HR2.out _).mono ?_
        rintro e w2 ⟨rfl, rfl⟩
        have hb := posV_bdd HG.out cc
        cases hp : posO a n m cc with
        | true =>
          have HP := hidden hp
          clear hp
          generalize hq : posV a n m cc = q at hb
          have HQ := hidden hq
          clear hq
          have HB1 : Hid (Below w.heap.size w ((((wr.alloc (.cells #[.int .i64 r, .int .i64 q, .string t] 49)).alloc (.cells #[.int .i64 a, .int .i64 n, .int .i64 m] 31)).alloc (.cells #[.int .i64 a, .int .i64 n, .int .i64 m] 31)).alloc (.cells #[.int .i64 r, .int .i64 q, .string t] 49))) :=
            (((bel.alloc (Nat.le_of_lt hz) _).alloc (by simp; omega) _).alloc (by simp; omega) _).alloc (by simp; omega) _
          have HB2 : Hid (Below wr.heap.size wr ((((wr.alloc (.cells #[.int .i64 r, .int .i64 q, .string t] 49)).alloc (.cells #[.int .i64 a, .int .i64 n, .int .i64 m] 31)).alloc (.cells #[.int .i64 a, .int .i64 n, .int .i64 m] 31)).alloc (.cells #[.int .i64 r, .int .i64 q, .string t] 49))) :=
            ((((Below.refl _ _).alloc (Nat.le_refl _) _).alloc (by simp) _).alloc (by simp; omega) _).alloc (by simp; omega) _
          have TW := two.on HB2.out
          have CW := hidden (Cells3.on ⟨c0, c1, c2⟩ HB2.out hz)
          clear two
          go_wp2_with (at_builtin; refine wpList_append_own_at _ rfl (.tmp 60) (.tmp 62) 43 rfl (w.heap.size + 1) 49 i0 zeroCell 3 32 Try.underlying43 hi hz0 hz1 hz2 rfl (by decide) u9 st.length (flatC st) rfl TW.own1 ⟨wr.heap.size + 1 + 1 + 1, 0, none⟩ 1 1 (flat1 ⟨r, q, t⟩) rfl rfl (news_at #[.int .i64 r, .int .i64 q, .string t] (by simp)) (one_cell _ _ t) (by unfold maxLen; omega) (by omega) (by simp; omega) ?_; intro v' w1 hown' hgrow hnil hblk)
          have hlt1 := fun k hk => (TW.own1.lt k hk).1
          refine ⟨⟨k + 1, by go_num, by omega, CW.out.grown hgrow (fun k hk => by have := hlt1 k hk; omega), Nat.lt_of_lt_of_le (by simp; omega) hgrow.size, st ++ [⟨r, q, t⟩], go, ?_, by simp; omega, TW.push1 hown' hgrow hblk, HB1.out.grown hgrow (by simp; omega) (fun k hk => by have := hlt1 k hk; omega)⟩, by simp [intOf]; omega⟩
          have := goC_keep HGO.out HD.out HP.out
          simpa [movedTo, lineOf, HQ.out] using this
        | false =>
          have HP := hidden hp
          clear hp
          by_cases hn : 0 < n ∨ cc < 1 ∨ m < cc
          · have HN := hidden hn
            have hno : goC a n m true l [] [] = none := goC_none HGO.out HD.out HP.out hn
            have HNO := hidden hno
            have hdis : (decide (0 < n) || decide (cc < 1) || decide (m < cc)) = true := by simpa [or_assoc] using hn
            have HB1 : Hid (Below w.heap.size w (((wr.alloc (.cells #[.int .i64 r, .int .i64 cc, .string t] 49)).alloc (.cells #[.int .i64 a, .int .i64 n, .int .i64 m] 31)).alloc (.cells #[.int .i64 a, .int .i64 n, .int .i64 m] 31))) :=
              (((bel.alloc (Nat.le_of_lt hz) _).alloc (by simp; omega) _).alloc (by simp; omega) _)
            clear hn hno two bel
            go_wp2
            all_goals (try go_ret3)
            all_goals first
              | exact CellsR.none HB1.out (by rw [if_pos HG.out]; exact HNO.out)
              | (exfalso; have := HN.out; omega)
          · have HN := hidden hn
            have hn1 : n ≤ 0 := by omega
            have hn2 : 1 ≤ cc := by omega
            have hn3 : cc ≤ m := by omega
            clear hn
            have HB1 : Hid (Below w.heap.size w ((((wr.alloc (.cells #[.int .i64 r, .int .i64 cc, .string t] 49)).alloc (.cells #[.int .i64 a, .int .i64 n, .int .i64 m] 31)).alloc (.cells #[.int .i64 a, .int .i64 n, .int .i64 m] 31)).alloc (.cells #[.int .i64 r, .int .i64 cc, .string t] 49))) :=
              (((bel.alloc (Nat.le_of_lt hz) _).alloc (by simp; omega) _).alloc (by simp; omega) _).alloc (by simp; omega) _
            have HB2 : Hid (Below wr.heap.size wr ((((wr.alloc (.cells #[.int .i64 r, .int .i64 cc, .string t] 49)).alloc (.cells #[.int .i64 a, .int .i64 n, .int .i64 m] 31)).alloc (.cells #[.int .i64 a, .int .i64 n, .int .i64 m] 31)).alloc (.cells #[.int .i64 r, .int .i64 cc, .string t] 49))) :=
              ((((Below.refl _ _).alloc (Nat.le_refl _) _).alloc (by simp) _).alloc (by simp; omega) _).alloc (by simp; omega) _
            have TW := two.on HB2.out
            have CW := hidden (Cells3.on ⟨c0, c1, c2⟩ HB2.out hz)
            clear two
            go_wp2_with (at_builtin; refine wpList_append_own_at _ rfl (.tmp 51) (.tmp 53) 43 rfl (w.heap.size + 1) 49 i0 zeroCell 3 32 Try.underlying43 hi hz0 hz1 hz2 rfl (by decide) u10 go.length (flatC go) rfl TW.own2 ⟨wr.heap.size + 1 + 1 + 1, 0, none⟩ 1 1 (flat1 ⟨r, cc, t⟩) rfl rfl (news_at #[.int .i64 r, .int .i64 cc, .string t] (by simp)) (one_cell _ _ t) (by unfold maxLen; omega) (by omega) (by simp; omega) ?_; intro v' w1 hown' hgrow hnil hblk)
            have hlt1 := fun k hk => (TW.own2.lt k hk).1
            exact ⟨⟨k + 1, by go_num, by omega, CW.out.grown hgrow (fun k hk => by have := hlt1 k hk; omega), Nat.lt_of_lt_of_le (by simp; omega) hgrow.size, st, go ++ [⟨r, cc, t⟩], goC_gone (c := ⟨r, cc, t⟩) HGO.out HD.out HP.out HN.out, by simp; omega, TW.push2 hown' hgrow hblk, HB1.out.grown hgrow (by simp; omega) (fun k hk => by have := hlt1 k hk; omega)⟩, by simp [intOf]; omega⟩
      | false =>
        go_wp2_with fail
        refine (pos_ref_w a n m r HG.out HR1.out _).mono ?_
        rintro e w2 ⟨rfl, rfl⟩
        have hb := posV_bdd HG.out r
        cases hp : posO a n m r with
        | true =>
          have HP := hidden hp
          clear hp
          generalize hq : posV a n m r = q at hb
          have HQ := hidden hq
          clear hq
          have HB1 : Hid (Below w.heap.size w ((((wr.alloc (.cells #[.int .i64 q, .int .i64 cc, .string t] 49)).alloc (.cells #[.int .i64 a, .int .i64 n, .int .i64 m] 31)).alloc (.cells #[.int .i64 a, .int .i64 n, .int .i64 m] 31)).alloc (.cells #[.int .i64 q, .int .i64 cc, .string t] 49))) :=
            (((bel.alloc (Nat.le_of_lt hz) _).alloc (by simp; omega) _).alloc (by simp; omega) _).alloc (by simp; omega) _
          have HB2 : Hid (Below wr.heap.size wr ((((wr.alloc (.cells #[.int .i64 q, .int .i64 cc, .string t] 49)).alloc (.cells #[.int .i64 a, .int .i64 n, .int .i64 m] 31)).alloc (.cells #[.int .i64 a, .int .i64 n, .int .i64 m] 31)).alloc (.cells #[.int .i64 q, .int .i64 cc, .string t] 49))) :=
            ((((Below.refl _ _).alloc (Nat.le_refl _) _).alloc (by simp) _).alloc (by simp; omega) _).alloc (by simp; omega) _
          have TW := two.on HB2.out
          have CW := hidden (Cells3.on ⟨c0, c1, c2⟩ HB2.out hz)
          clear two
          go_wp2_with (at_builtin; refine wpList_append_own_at _ rfl (.tmp 60) (.tmp 62) 43 rfl (w.heap.size + 1) 49 i0 zeroCell 3 32 Try.underlying43 hi hz0 hz1 hz2 rfl (by decide) u9 st.length (flatC st) rfl TW.own1 ⟨wr.heap.size + 1 + 1 + 1, 0, none⟩ 1 1 (flat1 ⟨q, cc, t⟩) rfl rfl (news_at #[.int .i64 q, .int .i64 cc, .string t] (by simp)) (one_cell _ _ t) (by unfold maxLen; omega) (by omega) (by simp; omega) ?_; intro v' w1 hown' hgrow hnil hblk)
          have hlt1 := fun k hk => (TW.own1.lt k hk).1
          refine ⟨⟨k + 1, by go_num, by omega, CW.out.grown hgrow (fun k hk => by have := hlt1 k hk; omega), Nat.lt_of_lt_of_le (by simp; omega) hgrow.size, st ++ [⟨q, cc, t⟩], go, ?_, by simp; omega, TW.push1 hown' hgrow hblk, HB1.out.grown hgrow (by simp; omega) (fun k hk => by have := hlt1 k hk; omega)⟩, by simp [intOf]; omega⟩
          have := goC_keep HGO.out HD.out HP.out
          simpa [movedTo, lineOf, HQ.out] using this
        | false =>
          have HP := hidden hp
          clear hp
          by_cases hn : 0 < n ∨ r < 1 ∨ m < r
          · have HN := hidden hn
            have hno : goC a n m false l [] [] = none := goC_none HGO.out HD.out HP.out hn
            have HNO := hidden hno
            have hdis : (decide (0 < n) || decide (r < 1) || decide (m < r)) = true := by simpa [or_assoc] using hn
            have HB1 : Hid (Below w.heap.size w (((wr.alloc (.cells #[.int .i64 r, .int .i64 cc, .string t] 49)).alloc (.cells #[.int .i64 a, .int .i64 n, .int .i64 m] 31)).alloc (.cells #[.int .i64 a, .int .i64 n, .int .i64 m] 31))) :=
              (((bel.alloc (Nat.le_of_lt hz) _).alloc (by simp; omega) _).alloc (by simp; omega) _)
            clear hn hno two bel
            go_wp2
            all_goals (try go_ret3)
            all_goals first
              | exact CellsR.none HB1.out (by rw [if_pos HG.out]; exact HNO.out)
              | (exfalso; have := HN.out; omega)
          · have HN := hidden hn
            have hn1 : n ≤ 0 := by omega
            have hn2 : 1 ≤ r := by omega
            have hn3 : r ≤ m := by omega
            clear hn
            have HB1 : Hid (Below w.heap.size w ((((wr.alloc (.cells #[.int .i64 r, .int .i64 cc, .string t] 49)).alloc (.cells #[.int .i64 a, .int .i64 n, .int .i64 m] 31)).alloc (.cells #[.int .i64 a, .int .i64 n, .int .i64 m] 31)).alloc (.cells #[.int .i64 r, .int .i64 cc, .string t] 49))) :=
              (((bel.alloc (Nat.le_of_lt hz) _).alloc (by simp; omega) _).alloc (by simp; omega) _).alloc (by simp; omega) _
            have HB2 : Hid (Below wr.heap.size wr ((((wr.alloc (.cells #[.int .i64 r, .int .i64 cc, .string t] 49)).alloc (.cells #[.int .i64 a, .int .i64 n, .int .i64 m] 31)).alloc (.cells #[.int .i64 a, .int .i64 n, .int .i64 m] 31)).alloc (.cells #[.int .i64 r, .int .i64 cc, .string t] 49))) :=
              ((((Below.refl _ _).alloc (Nat.le_refl _) _).alloc (by simp) _).alloc (by simp; omega) _).alloc (by simp; omega) _
            have TW := two.on HB2.out
            have CW := hidden (Cells3.on ⟨c0, c1, c2⟩ HB2.out hz)
            clear two
            go_wp2_with (at_builtin; refine wpList_append_own_at _ rfl (.tmp 51) (.tmp 53) 43 rfl (w.heap.size + 1) 49 i0 zeroCell 3 32 Try.underlying43 hi hz0 hz1 hz2 rfl (by decide) u10 go.length (flatC go) rfl TW.own2 ⟨wr.heap.size + 1 + 1 + 1, 0, none⟩ 1 1 (flat1 ⟨r, cc, t⟩) rfl rfl (news_at #[.int .i64 r, .int .i64 cc, .string t] (by simp)) (one_cell _ _ t) (by unfold maxLen; omega) (by omega) (by simp; omega) ?_; intro v' w1 hown' hgrow hnil hblk)
            have hlt1 := fun k hk => (TW.own2.lt k hk).1
            exact ⟨⟨k + 1, by go_num, by omega, CW.out.grown hgrow (fun k hk => by have := hlt1 k hk; omega), Nat.lt_of_lt_of_le (by simp; omega) hgrow.size, st, go ++ [⟨r, cc, t⟩], goC_gone (c := ⟨r, cc, t⟩) HGO.out HD.out HP.out HN.out, by simp; omega, TW.push2 hown' hgrow hblk, HB1.out.grown hgrow (by simp; omega) (fun k hk => by have := hlt1 k hk; omega)⟩, by simp [intOf]; omega⟩
    · have hk1 : ¬ (k : Int) < (l.length : Int) := by omega
      have hdrop : l.drop k = [] := List.drop_eq_nil_of_le (by omega)
      have hfin : goC a n m cols l [] [] = some (st, go) := by rw [hgo, hdrop]; rfl
      have HF := hidden hfin
      clear hgo hdrop hfin
      go_wp2
      go_ret3
      exact CellsR.some bel HG.out HF.out (by omega) (two.weaken (by omega))
end Go.Proofs.Ytbaejlmpoflogaa
