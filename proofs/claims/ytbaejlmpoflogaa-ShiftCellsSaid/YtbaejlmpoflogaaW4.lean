/- Package shift's Cells, walked. -/
import Derived.Test.YtbaejlmpoflogaaW3
namespace Go.Proofs.Ytbaejlmpoflogaa
open Go.RowKit
set_option linter.unusedVariables false
set_option linter.unusedSimpArgs false

set_option maxHeartbeats 4000000 in
theorem moves_w (a n m : Int) (hg : goodB a n m = true) (w : World) :
    Calls Try.prog 20 #[.agg #[.int .i64 a, .int .i64 n, .int .i64 m]] w fun e w' =>
      e = .returned (.func (.func 22) #[] #[.pointer (some ⟨w.heap.size, 0, none⟩), .pointer (some ⟨w.heap.size + 1, 0, none⟩)]) ∧
      w' = (w.alloc (.cells #[.int .i64 a, .int .i64 n, .int .i64 m] 27)).alloc (.cells #[.int .i64 (if n < 0 then a - n else a)] 3) := by
  obtain ⟨g1, g2, g3, g4, g5⟩ := good_facts hg
  have hmf := hmf0
  have hb : -1000 ≤ n ∧ n ≤ 1000 := by omega
  clear g5 hg
  by_cases h : n < 0
  · rw [if_pos h]
    go_enter Try.func20, Try.ntmps20
    go_wp2
    go_ret
    exact ⟨rfl, rfl⟩
  · rw [if_neg h]
    go_enter Try.func20, Try.ntmps20
    go_wp2
    go_ret
    exact ⟨rfl, rfl⟩

theorem cells_bad_p (a n m : Int) (cols : Bool) (ad : Option Addr) (len cap : Nat) (l : List CellV) (hg : goodB a n m = false) (ha : I64 a) (hn : I64 n) (hm : I64 m) (w : World) :
    Calls Try.prog 17 #[S3 a n m, .bool cols, .slice ad len cap] w (CellsR a n m cols l w) := by
  go_enter Try.func17, Try.ntmps17
  go_wp2_with fail
  refine (good_any_w a n m ha hn hm _).mono ?_
  rintro e w1 ⟨rfl, rfl⟩
  rw [hg]
  have HG := hidden hg
  clear ha hn hm hg
  go_wp2
  go_ret3
  exact CellsR.none (((Below.refl _ _).alloc (Nat.le_refl _) _).alloc (by simp) _) (by rw [HG.out]; rfl)

/-- The shift, the closure's shift, the closure's end. -/
def Caps (B : Nat) (a n m : Int) (w : World) : Prop := Cells3 B a n m w ∧ Cells3 (B + 1 + 1) a n m w ∧ w.cell? ⟨B + 1 + 1 + 1, 0, none⟩ = some (.int .i64 (if n < 0 then a - n else a))
theorem Caps.on {B C : Nat} {a n m : Int} {w w' : World} (h : Caps B a n m w) (hb : Below C w w') (hB : B + 3 < C) : Caps B a n m w' :=
  ⟨h.1.on hb (by omega), h.2.1.on hb (by omega), by rw [hb.cell (by show B + 1 + 1 + 1 < C; omega)]; exact h.2.2⟩
theorem Caps.grown {B : Nat} {a n m : Int} {w w' : World} {row : Option Nat} (h : Caps B a n m w) (hg : w.grownBy w' row) (hne : ∀ k, row = some k → B + 3 < k) : Caps B a n m w' :=
  ⟨h.1.grown hg (fun k hk => by have := hne k hk; omega), h.2.1.grown hg (fun k hk => by have := hne k hk; omega), hg.cell h.2.2 (fun e => by have := hne (B + 1 + 1 + 1) e.symm; omega)⟩

/-- Where the loop stands behind k cells. -/
def AtP (a n m : Int) (cols : Bool) (l : List CellV) (w0 : World) (k : Nat) (v1 v2 : Value) (w : World) : Prop :=
  ∃ st go, goC a n m cols l [] [] = goC a n m cols (l.drop k) st go ∧ st.length + go.length ≤ k ∧ Two (w0.heap.size + 4) v1 v2 st go w ∧ Below w0.heap.size w0 w

set_option maxHeartbeats 16000000 in
theorem cells_prog (a n m : Int) (cols : Bool) (ad : Option Addr) (cap : Nat) (l : List CellV) (hg : goodB a n m = true) (w : World) (hl : l.length * 32 ≤ 140737488351232) (hc : CellsAt w ad l)
    (hr : ∀ i (h : i < l.length), I64 l[i].row ∧ I64 l[i].col) :
    Calls Try.prog 17 #[S3 a n m, .bool cols, .slice ad l.length cap] w (CellsR a n m cols l w) := by
  obtain ⟨g1, g2, g3, g4, g5⟩ := good_facts hg
  have gn : -1000 ≤ n ∧ n ≤ 1000 := by omega
  clear g5
  have HC := hidden hc
  have HR := hidden hr
  clear hc hr
  go_enter Try.func17, Try.ntmps17
  go_wp2_with fail
  refine (good_any_w a n m ⟨by omega, by omega⟩ ⟨by omega, by omega⟩ ⟨by omega, by omega⟩ _).mono ?_
  rintro e w1 ⟨rfl, rfl⟩
  rw [hg]
  have HG := hidden hg
  clear hg
  go_wp2_with fail
  refine (moves_w a n m HG.out _).mono ?_
  rintro e w2 ⟨rfl, rfl⟩
  obtain ⟨f, hf⟩ : ∃ f, (if n < 0 then a - n else a) = f := ⟨_, rfl⟩
  rw [hf]
  have HF := hidden hf
  clear hf
  simp only [World.size_alloc]
  go_wp2_with fail
  obtain ⟨i0, hi, hz0, hz1, hz2⟩ := info_parts Try.info49
  go_loopw [9, 10, 24] (fun v1 v2 i wr => ∃ k : Nat, i = .int .i64 k ∧ k ≤ l.length ∧ Caps w.heap.size a n m wr ∧ w.heap.size + 3 < wr.heap.size ∧ AtP a n m cols l w k v1 v2 wr) (fun _ _ i _ => l.length - (intOf i).toNat)
  case atStart =>
    refine ⟨0, rfl, Nat.zero_le _, ⟨⟨by go_simp, by go_simp, by go_simp⟩, ⟨by go_simp, by go_simp, by go_simp⟩, ?_⟩, by simp <;> omega, [], [], rfl, by simp, ⟨World.ownsRow_nil _ _ _ _, World.ownsRow_nil _ _ _ _, .inl rfl⟩, (((((Below.refl _ _).alloc (Nat.le_refl _) _).alloc (by simp) _).alloc (by simp; omega) _).alloc (by simp; omega) _)⟩
    rw [HF.out]; go_simp
  case round =>
    obtain ⟨k, rfl, hk, ⟨⟨c0, c1, c2⟩, ⟨e0, e1, e2⟩, f0⟩, hz, st, go, hgo, hsz, two, bel⟩ := hrel
    rw [HF.out] at f0
    have hzz : w.heap.size < wr.heap.size := by omega
    have hz' : w.heap.size + 1 + 1 < wr.heap.size := by omega
    have hz'' : w.heap.size + 1 + 1 + 1 < wr.heap.size := by omega
    by_cases hlt : k < l.length
    · obtain ⟨b, o, rfl, p1, p2, p3⟩ := (HC.out.on bel) k hlt
      have hrb := HR.out k hlt
      have hdrop : l.drop k = l[k] :: l.drop (k + 1) := List.drop_eq_getElem_cons hlt
      have HGO := hidden hgo
      have HD := hidden hdrop
      clear hgo hdrop
      have hk1 : (0 : Int) ≤ (k : Int) := by omega
      have hk2 : (k : Int) < (l.length : Int) := by omega
      have z1 : w.heap.size < wr.heap.size + 1 := by omega
      have z2 : w.heap.size + 1 + 1 < wr.heap.size + 1 := by omega
      have z3 : w.heap.size + 1 + 1 + 1 < wr.heap.size + 1 := by omega
      generalize l[k] = c at p1 p2 p3 hrb HD
      obtain ⟨r, cc, t⟩ := c
      obtain ⟨hr1, hr2⟩ := hrb
      simp only at p1 p2 p3 hr1 hr2
      have HR1 := hidden hr1
      have HR2 := hidden hr2
      unfold I64 at hr1 hr2
      cases cols with
      | true =>
        go_wp2_with fail
        refine (goes_any a n m cc f (w.heap.size + 1 + 1) (w.heap.size + 1 + 1 + 1) _ HG.out HR2.out HF.out.symm (by go_simp) (by go_simp) (by go_simp) (by go_simp)).mono ?_
        rintro e w2 ⟨rfl, rfl⟩
        have hb := posV_bdd HG.out cc
        cases hp : posO a n m cc with
        | true =>
          have HP := hidden hp
          clear hp
          generalize hq : posV a n m cc = q at hb
          have HQ := hidden hq
          clear hq
          have HB1 : Hid (Below w.heap.size w ((wr.alloc (.cells #[.int .i64 r, .int .i64 q, .string t] 49)).alloc (.cells #[.int .i64 r, .int .i64 q, .string t] 49))) := (bel.alloc (by omega) _).alloc (by simp; omega) _
          have HB2 : Hid (Below wr.heap.size wr ((wr.alloc (.cells #[.int .i64 r, .int .i64 q, .string t] 49)).alloc (.cells #[.int .i64 r, .int .i64 q, .string t] 49))) := ((Below.refl _ _).alloc (Nat.le_refl _) _).alloc (by simp) _
          have TW := two.on HB2.out
          have CW := hidden (Caps.on (B := w.heap.size) (a := a) (n := n) (m := m) ⟨⟨c0, c1, c2⟩, ⟨e0, e1, e2⟩, by rw [HF.out]; exact f0⟩ HB2.out hz)
          clear two
          go_wp2_with (at_builtin; go_loud (refine wpList_append_own_at _ rfl (.tmp 48) (.tmp 50) 43 rfl (w.heap.size + 4) 49 i0 zeroCell 3 32 Try.underlying43 hi hz0 hz1 hz2 rfl (by decide) u9 st.length (flatC st) rfl TW.own1 ⟨wr.heap.size + 1, 0, none⟩ 1 1 (flat1 ⟨r, q, t⟩) rfl rfl (news_at #[.int .i64 r, .int .i64 q, .string t] (by simp)) (one_cell _ _ t) (by unfold maxLen; omega) (by omega) (by simp; omega) ?_); intro v' w1 hown' hgrow hnil hblk)
          have hlt1 := fun k hk => (TW.own1.lt k hk).1
          refine ⟨⟨k + 1, by go_num, by omega, CW.out.grown hgrow (fun k hk => by have := hlt1 k hk; omega), Nat.lt_of_lt_of_le (by simp; omega) hgrow.size, st ++ [⟨r, q, t⟩], go, ?_, by simp; omega, TW.push1 hown' hgrow hblk, HB1.out.grown hgrow (by simp; omega) (fun k hk => by have := hlt1 k hk; omega)⟩, by simp [intOf]; omega⟩
          have := goC_keep HGO.out HD.out HP.out
          simpa [movedTo, lineOf, HQ.out] using this
        | false =>
          have HP := hidden hp
          clear hp
          by_cases hn : 0 < n ∨ cc < 1 ∨ m < cc
          · have HN := hidden hn
            have hno : goC a n m true l [] [] = none := goC_none HGO.out HD.out HP.out hn
            have HNO := hidden hno
            have HB1 : Hid (Below w.heap.size w (wr.alloc (.cells #[.int .i64 r, .int .i64 cc, .string t] 49))) := bel.alloc (by omega) _
            clear hno two bel
            by_cases h1 : 0 < n
            · clear hn
              go_wp2
              go_ret3
              exact CellsR.none HB1.out (by rw [if_pos HG.out]; exact HNO.out)
            · by_cases h2 : cc < 1
              · clear hn
                go_wp2
                go_ret3
                exact CellsR.none HB1.out (by rw [if_pos HG.out]; exact HNO.out)
              · have h3 : m < cc := by omega
                clear hn
                go_wp2_with fail
                go_quiet (fail)
                go_wp2
                go_ret3
                exact CellsR.none (below_dn HB1.out _) (by rw [if_pos HG.out]; exact HNO.out)
          · have HN := hidden hn
            have hn1 : n ≤ 0 := by omega
            have hn2 : 1 ≤ cc := by omega
            have hn3 : cc ≤ m := by omega
            clear hn
            have HBL := hidden bel
            have HTW := hidden two
            clear two bel
            go_wp2_with fail
            go_quiet (fail)
            have HB1 : Hid (Below w.heap.size w (((wr.alloc (.cells #[.int .i64 r, .int .i64 cc, .string t] 49)).drewN nq).alloc (.cells #[.int .i64 r, .int .i64 cc, .string t] 49))) := (below_dn (HBL.out.alloc (by omega) _) _).alloc (by show _ ≤ (wr.alloc _).heap.size; simp; omega) _
            have HB2 : Hid (Below wr.heap.size wr (((wr.alloc (.cells #[.int .i64 r, .int .i64 cc, .string t] 49)).drewN nq).alloc (.cells #[.int .i64 r, .int .i64 cc, .string t] 49))) := (below_dn ((Below.refl _ _).alloc (Nat.le_refl _) _) _).alloc (by show _ ≤ (wr.alloc _).heap.size; simp) _
            have TW := HTW.out.on HB2.out
            have CW := hidden (Caps.on (B := w.heap.size) (a := a) (n := n) (m := m) ⟨⟨c0, c1, c2⟩, ⟨e0, e1, e2⟩, by rw [HF.out]; exact f0⟩ HB2.out hz)
            go_wp2_with (at_builtin; go_loud (refine wpList_append_own_at _ rfl (.tmp 39) (.tmp 41) 43 rfl (w.heap.size + 4) 49 i0 zeroCell 3 32 Try.underlying43 hi hz0 hz1 hz2 rfl (by decide) u10 go.length (flatC go) rfl TW.own2 ⟨wr.heap.size + 1, 0, none⟩ 1 1 (flat1 ⟨r, cc, t⟩) rfl rfl (news_at #[.int .i64 r, .int .i64 cc, .string t] (by show _ = (wr.alloc _).heap.size; simp)) (one_cell _ _ t) (by unfold maxLen; omega) (by omega) (by show _ ≤ ((wr.alloc _).alloc _).heap.size; simp; omega) ?_); intro v' w1 hown' hgrow hnil hblk)
            have hlt1 := fun k hk => (TW.own2.lt k hk).1
            exact ⟨⟨k + 1, by go_num, by omega, CW.out.grown hgrow (fun k hk => by have := hlt1 k hk; omega), Nat.lt_of_lt_of_le (by show _ < ((wr.alloc _).alloc _).heap.size; simp; omega) hgrow.size, st, go ++ [⟨r, cc, t⟩], goC_gone (c := ⟨r, cc, t⟩) HGO.out HD.out HP.out HN.out, by simp; omega, TW.push2 hown' hgrow hblk, HB1.out.grown hgrow (by show _ ≤ ((wr.alloc _).alloc _).heap.size; simp; omega) (fun k hk => by have := hlt1 k hk; omega)⟩, by simp [intOf]; omega⟩
      | false =>
        go_wp2_with fail
        refine (goes_any a n m r f (w.heap.size + 1 + 1) (w.heap.size + 1 + 1 + 1) _ HG.out HR1.out HF.out.symm (by go_simp) (by go_simp) (by go_simp) (by go_simp)).mono ?_
        rintro e w2 ⟨rfl, rfl⟩
        have hb := posV_bdd HG.out r
        cases hp : posO a n m r with
        | true =>
          have HP := hidden hp
          clear hp
          generalize hq : posV a n m r = q at hb
          have HQ := hidden hq
          clear hq
          have HB1 : Hid (Below w.heap.size w ((wr.alloc (.cells #[.int .i64 q, .int .i64 cc, .string t] 49)).alloc (.cells #[.int .i64 q, .int .i64 cc, .string t] 49))) := (bel.alloc (by omega) _).alloc (by simp; omega) _
          have HB2 : Hid (Below wr.heap.size wr ((wr.alloc (.cells #[.int .i64 q, .int .i64 cc, .string t] 49)).alloc (.cells #[.int .i64 q, .int .i64 cc, .string t] 49))) := ((Below.refl _ _).alloc (Nat.le_refl _) _).alloc (by simp) _
          have TW := two.on HB2.out
          have CW := hidden (Caps.on (B := w.heap.size) (a := a) (n := n) (m := m) ⟨⟨c0, c1, c2⟩, ⟨e0, e1, e2⟩, by rw [HF.out]; exact f0⟩ HB2.out hz)
          clear two
          go_wp2_with (at_builtin; go_loud (refine wpList_append_own_at _ rfl (.tmp 48) (.tmp 50) 43 rfl (w.heap.size + 4) 49 i0 zeroCell 3 32 Try.underlying43 hi hz0 hz1 hz2 rfl (by decide) u9 st.length (flatC st) rfl TW.own1 ⟨wr.heap.size + 1, 0, none⟩ 1 1 (flat1 ⟨q, cc, t⟩) rfl rfl (news_at #[.int .i64 q, .int .i64 cc, .string t] (by simp)) (one_cell _ _ t) (by unfold maxLen; omega) (by omega) (by simp; omega) ?_); intro v' w1 hown' hgrow hnil hblk)
          have hlt1 := fun k hk => (TW.own1.lt k hk).1
          refine ⟨⟨k + 1, by go_num, by omega, CW.out.grown hgrow (fun k hk => by have := hlt1 k hk; omega), Nat.lt_of_lt_of_le (by simp; omega) hgrow.size, st ++ [⟨q, cc, t⟩], go, ?_, by simp; omega, TW.push1 hown' hgrow hblk, HB1.out.grown hgrow (by simp; omega) (fun k hk => by have := hlt1 k hk; omega)⟩, by simp [intOf]; omega⟩
          have := goC_keep HGO.out HD.out HP.out
          simpa [movedTo, lineOf, HQ.out] using this
        | false =>
          have HP := hidden hp
          clear hp
          by_cases hn : 0 < n ∨ r < 1 ∨ m < r
          · have HN := hidden hn
            have hno : goC a n m false l [] [] = none := goC_none HGO.out HD.out HP.out hn
            have HNO := hidden hno
            have HB1 : Hid (Below w.heap.size w (wr.alloc (.cells #[.int .i64 r, .int .i64 cc, .string t] 49))) := bel.alloc (by omega) _
            clear hno two bel
            by_cases h1 : 0 < n
            · clear hn
              go_wp2
              go_ret3
              exact CellsR.none HB1.out (by rw [if_pos HG.out]; exact HNO.out)
            · by_cases h2 : r < 1
              · clear hn
                go_wp2
                go_ret3
                exact CellsR.none HB1.out (by rw [if_pos HG.out]; exact HNO.out)
              · have h3 : m < r := by omega
                clear hn
                go_wp2_with fail
                go_quiet (fail)
                go_wp2
                go_ret3
                exact CellsR.none (below_dn HB1.out _) (by rw [if_pos HG.out]; exact HNO.out)
          · have HN := hidden hn
            have hn1 : n ≤ 0 := by omega
            have hn2 : 1 ≤ r := by omega
            have hn3 : r ≤ m := by omega
            clear hn
            have HBL := hidden bel
            have HTW := hidden two
            clear two bel
            go_wp2_with fail
            go_quiet (fail)
            have HB1 : Hid (Below w.heap.size w (((wr.alloc (.cells #[.int .i64 r, .int .i64 cc, .string t] 49)).drewN nq).alloc (.cells #[.int .i64 r, .int .i64 cc, .string t] 49))) := (below_dn (HBL.out.alloc (by omega) _) _).alloc (by show _ ≤ (wr.alloc _).heap.size; simp; omega) _
            have HB2 : Hid (Below wr.heap.size wr (((wr.alloc (.cells #[.int .i64 r, .int .i64 cc, .string t] 49)).drewN nq).alloc (.cells #[.int .i64 r, .int .i64 cc, .string t] 49))) := (below_dn ((Below.refl _ _).alloc (Nat.le_refl _) _) _).alloc (by show _ ≤ (wr.alloc _).heap.size; simp) _
            have TW := HTW.out.on HB2.out
            have CW := hidden (Caps.on (B := w.heap.size) (a := a) (n := n) (m := m) ⟨⟨c0, c1, c2⟩, ⟨e0, e1, e2⟩, by rw [HF.out]; exact f0⟩ HB2.out hz)
            go_wp2_with (at_builtin; go_loud (refine wpList_append_own_at _ rfl (.tmp 39) (.tmp 41) 43 rfl (w.heap.size + 4) 49 i0 zeroCell 3 32 Try.underlying43 hi hz0 hz1 hz2 rfl (by decide) u10 go.length (flatC go) rfl TW.own2 ⟨wr.heap.size + 1, 0, none⟩ 1 1 (flat1 ⟨r, cc, t⟩) rfl rfl (news_at #[.int .i64 r, .int .i64 cc, .string t] (by show _ = (wr.alloc _).heap.size; simp)) (one_cell _ _ t) (by unfold maxLen; omega) (by omega) (by show _ ≤ ((wr.alloc _).alloc _).heap.size; simp; omega) ?_); intro v' w1 hown' hgrow hnil hblk)
            have hlt1 := fun k hk => (TW.own2.lt k hk).1
            exact ⟨⟨k + 1, by go_num, by omega, CW.out.grown hgrow (fun k hk => by have := hlt1 k hk; omega), Nat.lt_of_lt_of_le (by show _ < ((wr.alloc _).alloc _).heap.size; simp; omega) hgrow.size, st, go ++ [⟨r, cc, t⟩], goC_gone (c := ⟨r, cc, t⟩) HGO.out HD.out HP.out HN.out, by simp; omega, TW.push2 hown' hgrow hblk, HB1.out.grown hgrow (by show _ ≤ ((wr.alloc _).alloc _).heap.size; simp; omega) (fun k hk => by have := hlt1 k hk; omega)⟩, by simp [intOf]; omega⟩
    · have hk1 : ¬ (k : Int) < (l.length : Int) := by omega
      have hdrop : l.drop k = [] := List.drop_eq_nil_of_le (by omega)
      have hfin : goC a n m cols l [] [] = some (st, go) := by rw [hgo, hdrop]; rfl
      have HFI := hidden hfin
      clear hgo hdrop hfin
      go_wp2
      go_ret3
      exact CellsR.some bel HG.out HFI.out (by omega) (two.weaken (by omega))
end Go.Proofs.Ytbaejlmpoflogaa
