/- The reference's Book, walked. Printed by gen_e4.py. -/
import Derived.Test.YtekmjegeiminnaaE3
namespace Go.Proofs.Ytekmjegeiminnaa
open Go.RowKit
set_option linter.unusedVariables false
set_option linter.unusedSimpArgs false

theorem name_vals {S : Nat → Prop} {w : World} {us : List Value} {x : NameD} (h : tName.rep S w us x) : us = [.string (strOf x.1), .string (strOf x.2.1), .string (strOf x.2.2)] := by
  obtain ⟨l, r, rfl, hl, l2, r2, rfl, hl2, hr2⟩ := h
  have e1 : l = [.string (strOf x.1)] := hl
  have e2 : l2 = [.string (strOf x.2.1)] := hl2
  have e3 : r2 = [.string (strOf x.2.2)] := hr2
  rw [e1, e2, e3]; rfl
theorem link_vals {S : Nat → Prop} {w : World} {us : List Value} {x : LinkD} (h : tLink.rep S w us x) : us = [.string (strOf x.1), .string (strOf x.2.1), .int .i64 x.2.2.1, .int .i64 x.2.2.2.1, .int .i64 x.2.2.2.2.1, .int .i64 x.2.2.2.2.2.1, .string (strOf x.2.2.2.2.2.2)] := by
  obtain ⟨l, r, rfl, hl, l2, r2, rfl, hl2, l3, r3, rfl, hl3, l4, r4, rfl, hl4, l5, r5, rfl, hl5, l6, r6, rfl, hl6, hr6⟩ := h
  have e1 : l = [.string (strOf x.1)] := hl
  have e2 : l2 = [.string (strOf x.2.1)] := hl2
  have e3 : l3 = [.int .i64 x.2.2.1] := hl3
  have e4 : l4 = [.int .i64 x.2.2.2.1] := hl4
  have e5 : l5 = [.int .i64 x.2.2.2.2.1] := hl5
  have e6 : l6 = [.int .i64 x.2.2.2.2.2.1] := hl6
  have e7 : r6 = [.string (strOf x.2.2.2.2.2.2)] := hr6
  rw [e1, e2, e3, e4, e5, e6, e7]; rfl
theorem sheet_vals {S : Nat → Prop} {w : World} {us : List Value} {x : SheetD} (h : tSheet.rep S w us x) : ∃ a cap, us = [.string (strOf x.1), .slice a x.2.length cap] ∧ x.2.length ≤ cap ∧ Elems tCell S w a x.2 := by
  obtain ⟨l, r, rfl, hl, a, cap, rfl, h1, h2, h3⟩ := h
  have e1 : l = [.string (strOf x.1)] := hl
  exact ⟨a, cap, by rw [e1]; rfl, h1, h3⟩
theorem two_cells {w : World} {b : Nat} {x y : Value} (h : w.rangeAt b 0 [x, y]) : w.cell? ⟨b, 0, none⟩ = some x ∧ w.cell? ⟨b, 1, none⟩ = some y := by
  have h0 := h 0 x rfl
  have h1 := h 1 y rfl
  simp only [Nat.zero_add] at h0 h1
  exact ⟨h0, h1⟩
theorem Grew.kept2 {B g : Nat} {v v' a0 a1 : Value} {bs cs : List UInt8} {w w' : World} (ho : OwnB B w v bs) (h : Grew B v v' cs w w') (hB : B ≤ w.heap.size) (hg : g < w.heap.size) (hne : some g ≠ v.ownBlock) (hr : w.cell? ⟨g, 0, none⟩ = some a0 ∧ w.cell? ⟨g, 1, none⟩ = some a1) :
    (w'.cell? ⟨g, 0, none⟩ = some a0 ∧ w'.cell? ⟨g, 1, none⟩ = some a1) ∧ B ≤ w'.heap.size ∧ g < w'.heap.size ∧ some g ≠ v'.ownBlock := by
  obtain ⟨h0, h1⟩ := hr
  refine ⟨⟨h.upd.cell h0 hne, h.upd.cell h1 hne⟩, Nat.le_trans hB h.upd.size, Nat.lt_of_lt_of_le hg h.upd.size, ?_⟩
  rcases h.at_ with e | ⟨q, e, hq⟩
  · rw [e]; exact hne
  · rw [e]; intro he; injection he with he; omega
theorem Grew.nil_upd {B : Nat} {v' : Value} {bs : List UInt8} {w w' : World} (h : Grew B (.slice none 0 0) v' bs w w') : Upd (fun _ => False) w w' := h.upd.mono (fun i _ e => by simp [Value.ownBlock] at e)
theorem Grew.nil_ne {B g : Nat} {v' : Value} {bs : List UInt8} {w w' : World} (h : Grew B (.slice none 0 0) v' bs w w') (hg : g < w.heap.size) : some g ≠ v'.ownBlock := by
  rcases h.at_ with e | ⟨q, e, hq⟩
  · rw [e]; simp [Value.ownBlock]
  · rw [e]; intro he; injection he with he; omega

set_option maxRecDepth 100000 in
set_option maxHeartbeats 16000000 in
theorem refbook (vs : List Value) (x : BookD) (w : World) (hr : tBook.rep (· < w.heap.size) w vs x) (hok : tBook.cod.ok x) (hl : (tBook.cod.enc x).length ≤ 140737488354000) :
    Calls Try.prog 48 #[.agg vs.toArray] w fun e w' => Below w.heap.size w w' ∧ ∃ v, e = .returned v ∧ OwnB w.heap.size w' v (tBook.cod.enc x) := by
  obtain ⟨s, n, l⟩ := x
  obtain ⟨q1, q2, rfl, ⟨a1, c1, rfl, hc1, -, he1⟩, q3, q4, rfl, ⟨a2, c2, rfl, hc2, -, he2⟩, ⟨a3, c3, rfl, hc3, -, he3⟩⟩ := hr
  simp only at hc1 hc2 hc3 he1 he2 he3
  have hu : Upd (fun _ => False) w (w.alloc (.cells #[.slice a1 s.length c1, .slice a2 n.length c2, .slice a3 l.length c3] 68)) := Upd.new _ _
  have hv := three_cells (w := w.alloc (.cells #[.slice a1 s.length c1, .slice a2 n.length c2, .slice a3 l.length c3] 68)) (b := w.heap.size) (fun j v hj => by
    rw [Nat.zero_add, World.cell?_alloc_at _ _ _ _ rfl]; simpa using hj)
  have hlt1 : w.heap.size < (w.alloc (.cells #[.slice a1 s.length c1, .slice a2 n.length c2, .slice a3 l.length c3] 68)).heap.size := by simp
  have HBEL : Hid (Below w.heap.size w (w.alloc (.cells #[.slice a1 s.length c1, .slice a2 n.length c2, .slice a3 l.length c3] 68))) := hidden ((Below.refl _ _).alloc (Nat.le_refl _) _)
  have E0 := hidden (he1.upd hu (fun _ _ h => h))
  have E1 := hidden (he2.upd hu (fun _ _ h => h))
  have E2 := hidden (he3.upd hu (fun _ _ h => h))
  have OK0 := hidden hok.1.2
  have OK1 := hidden hok.2.1.2
  have OK2 := hidden hok.2.2.2
  simp only at OK0 OK1 OK2
  have henc : tBook.cod.enc (s, n, l) = encN s.length ++ encM tSheet.cod s ++ encN n.length ++ encM tName.cod n ++ encN l.length ++ encM tLink.cod l := by
    show (encN s.length ++ encM tSheet.cod s) ++ ((encN n.length ++ encM tName.cod n) ++ (encN l.length ++ encM tLink.cod l)) = _
    simp only [List.append_assoc]
  have g0 := encM_ge tSheet.cod s
  have g1 := encM_ge tName.cod n
  have g2 := encM_ge tLink.cod l
  rw [henc] at hl ⊢
  obtain ⟨Q2, HQ2⟩ : ∃ Q, Hid (encN s.length ++ encM tSheet.cod s ++ encN n.length = Q) := ⟨_, rfl⟩
  obtain ⟨Q3, HQ3⟩ : ∃ Q, Hid (Q2 ++ encM tName.cod n ++ encN l.length = Q) := ⟨_, rfl⟩
  rw [HQ2.out, HQ3.out] at hl ⊢
  have z2 := congrArg List.length HQ2.out
  have z3 := congrArg List.length HQ3.out
  simp only [List.length_append] at hl z2 z3
  have LQ0 : Hid ((encN (s.length : Int)).length + (encM tSheet.cod s).length ≤ 140737488354000) := hidden (by omega)
  have LQ1 : Hid (Q2.length + (encM tName.cod n).length ≤ 140737488354000) := hidden (by omega)
  have LQ2 : Hid (Q3.length + (encM tLink.cod l).length ≤ 140737488354000) := hidden (by omega)
  have hs0 : s.length ≤ 140737488354000 := by omega
  have hs1 : n.length ≤ 140737488354000 := by omega
  have hs2 : l.length ≤ 140737488354000 := by omega
  have HPR : Hid ((encN (s.length : Int) ++ encM tSheet.cod s).length ≤ 140737488355000) := hidden (by rw [List.length_append]; omega)
  have HPR2 : Hid ((Q2 ++ encM tName.cod n).length ≤ 140737488355000) := hidden (by rw [List.length_append]; omega)
  clear hok hl henc g0 g1 g2 z2 z3 he1 he2 he3 hu
  have HB1 : Hid (w.heap.size ≤ (w.alloc (.cells #[.slice a1 s.length c1, .slice a2 n.length c2, .slice a3 l.length c3] 68)).heap.size) := hidden (by simp)
  obtain ⟨p0, p1, p2⟩ := hv
  simp only [List.cons_append, List.nil_append]
  go_enter Try.func48, Try.ntmps48
  go_wp2_with fail
  generalize w.alloc (.cells #[.slice a1 s.length c1, .slice a2 n.length c2, .slice a3 l.length c3] 68) = w1 at *
  with_reducible refine (refnum w.heap.size (.slice none 0 0) [] s.length w1 (by omega) (OwnB.nil _ _) HB1.out (by simp)).mono ?_
  rintro e w2 ⟨v2, rfl, g⟩
  rw [List.nil_append] at g
  have G0 := hidden g
  have p0' := g.nil_upd.cell p0 (fun h => h)
  clear g
  go_wp2_with fail
  go_loopw [3, 17] (fun s3 s17 wr => ∃ (k : Nat) (v' : Value), s3 = v' ∧ s17 = .int .i64 k ∧ k ≤ s.length ∧ Grew w.heap.size (.slice none 0 0) v' (encN s.length ++ encM tSheet.cod (s.take k)) w1 wr) (fun _ s17 _ => (s.length - intOf s17).toNat)
  case atStart => exact ⟨0, v2, rfl, rfl, by omega, by simpa [encM] using G0.out⟩
  case round =>
    rename World => wr0
    obtain ⟨k, v', rfl, rfl, hk, hr⟩ := hrel
    have HR := hidden hr
    clear hr
    by_cases hlt : k < s.length
    · obtain ⟨b, o, us, rfl, hS, hrg, hrep⟩ := (E0.out.upd HR.out.nil_upd (fun _ _ h => h)) k hlt
      have hxk : s.take (k + 1) = s.take k ++ [s[k]] := by rw [List.take_succ_eq_append_getElem hlt]
      have hxok := OK0.out _ (List.getElem_mem hlt)
      generalize s[k] = x at hrep hxk hxok
      obtain ⟨x0, x1⟩ := x
      obtain ⟨y1, y2, hus, hy, hel⟩ := sheet_vals hrep
      simp only at hus hy hel
      subst hus
      have HEL := hidden hel
      clear hel
      obtain ⟨P, HP⟩ : ∃ P, Hid (encN (s.length : Int) ++ encM tSheet.cod (s.take k) = P) := ⟨_, rfl⟩
      have HXK : Hid (encN (s.length : Int) ++ encM tSheet.cod (s.take (k + 1)) = P ++ encT x0 ++ encL tCell.cod x1) := by
        show _ = _; rw [hxk, encM_append, encM_one, ← HP.out]
        show _ ++ (_ ++ (encT x0 ++ (encL tCell.cod x1))) = _
        simp only [List.append_assoc]
      have hlen : P.length + ((encT x0).length + (encL tCell.cod x1).length) ≤ 140737488354000 := by
        have h1 := encM_take_le tSheet.cod s (k + 1)
        rw [hxk, encM_append, encM_one, List.length_append] at h1
        have e : (tSheet.cod.enc (x0, x1)).length = (encT x0).length + (encL tCell.cod x1).length := by
          show (encT x0 ++ (encL tCell.cod x1)).length = _
          simp only [List.length_append] <;> omega
        rw [e] at h1
        have := LQ0.out
        rw [← HP.out, List.length_append]; omega
      rw [HP.out] at HR
      have HRG : Hid (wr0.rangeAt b (o + k * 2) [.string (strOf x0), .slice y1 x1.length y2]) := hidden hrg
      obtain ⟨d, hu, hd, hi⟩ := row_of row128
      have HU := hidden hu
      have HDR := hidden hd
      have HI : Hid ((Try.prog.info? 128).map (·.size) = some ([.string (strOf x0), .slice y1 x1.length y2] : List Value).length) := hidden hi
      have HI2 : Hid ((Try.prog.info? 128).map (·.size) = some ([.string (strOf x0), .slice y1 x1.length y2] : List Value).toArray.size) := hidden hi
      have HONE := hidden (all_oneCell_toArray (tSheet.one hrep))
      have HTH : Hid (∀ (vs : Array Value) t, vs.size = 2 → (wr0.alloc (.cells vs t)).there wr0.heap.size 0 ([.string (strOf x0), .slice y1 x1.length y2] : List Value).toArray.size) := hidden (fun vs t h => by rw [show ([.string (strOf x0), .slice y1 x1.length y2] : List Value).toArray.size = vs.size from h.symm]; exact there_new wr0 vs t)
      have hmade := made_cells (w := wr0) (vs := #[.string { data := #[] }, .slice none 0 0]) (t := 128) (us := [.string (strOf x0), .slice y1 x1.length y2]) rfl
      have hfresh : Upd (fun _ => False) wr0 ((wr0.alloc (.cells #[.string { data := #[] }, .slice none 0 0] 128)).setCells wr0.heap.size 0 [.string (strOf x0), .slice y1 x1.length y2]) := fresh_new
      have HMADE := hidden hmade
      have HFRESH := hidden hfresh
      have HOC : Hid (∀ c ∈ x1, tCell.cod.ok c) := hidden hxok.2.2
      have hx1l : x1.length ≤ 140737488354000 := by
        have h1 := encM_ge tCell.cod x1
        have h2 : (encL tCell.cod x1).length = (encN (x1.length : Int)).length + (encM tCell.cod x1).length := by unfold encL; rw [List.length_append]
        omega
      clear hu hd hi hrg hrep hxok hxk hmade hfresh
      go_wp2_with (first
        | ((with_reducible refine wpList_load_mid (op := ⟨some 20, .load 128 (.tmp 19), _, _, _, _⟩) ?_ 128 (.tmp 19) ?_ b (o + k * 2) ?_ _ d HRG.out HU.out HDR.out HI.out ?_); rfl; rfl; rfl)
        | ((with_reducible refine wpList_store_mid (op := ⟨none, .store 128 (.tmp 5) (.tmp 20), _, _, _, _⟩) ?_ 128 (.tmp 5) (.tmp 20) ?_ wr0.heap.size 0 (List.toArray [.string (strOf x0), .slice y1 x1.length y2]) ?_ ?_ (HTH.out _ _ ?_) HI2.out HONE.out ?_); rfl; rfl; rfl; rfl; rfl))
      generalize (wr0.alloc (.cells #[.string { data := #[] }, .slice none 0 0] 128)).setCells wr0.heap.size 0 [.string (strOf x0), .slice y1 x1.length y2] = W at HMADE HFRESH ⊢
      have O0 : Hid (OwnB w.heap.size W.drew u3 P) := hidden ((HR.out.own.on HFRESH.out (fun _ _ h => h)).on (Upd.drew (M := fun _ => False) _) (fun _ _ h => h))
      have B0 : Hid (w.heap.size ≤ W.drew.heap.size) := hidden (Nat.le_trans HB1.out (Nat.le_trans HR.out.upd.size HFRESH.out.size))
      have HNEW : Hid (Below wr0.heap.size wr0 W.drew) := hidden ((HFRESH.out.toBelow (Nat.le_refl _) (fun _ _ h => h)).trans (below_dn (Below.refl _ _) 1))
      have C0 : Hid (W.drew.cell? ⟨wr0.heap.size, 0, none⟩ = some (.string (strOf x0)) ∧ W.drew.cell? ⟨wr0.heap.size, 1, none⟩ = some (.slice y1 x1.length y2)) := hidden (two_cells HMADE.out.1)
      have L0 : Hid (wr0.heap.size < W.drew.heap.size) := hidden HMADE.out.2
      have N0 : Hid (some wr0.heap.size ≠ u3.ownBlock) := hidden (fun h => by have := (HR.out.own.lt _ h.symm).2; omega)
      have H0 : Hid (P.length + (encT x0).length ≤ 140737488354000) := hidden (by omega)
      have H1 : Hid ((P ++ encT x0).length + (encL tCell.cod x1).length ≤ 140737488354000) := hidden (by rw [List.length_append]; omega)
      have HX1 := hidden hx1l
      have HSO : Hid (∀ i, i < w.heap.size → ¬ some i = u3.ownBlock) := hidden (fun i hi e => by have := (HR.out.own.lt i e.symm).1; omega)
      have HELW : Hid (Elems tCell (· < w.heap.size) W.drew y1 x1) := hidden ((HEL.out.upd HFRESH.out (fun _ _ h => h)).upd (Upd.drew (M := fun _ => False) _) (fun _ _ h => h))
      have HYC := hidden hy
      clear hlen HTH HONE HI HI2 HDR HU HRG hx1l hy
      go_region_held3 (fun w' => w'.cell? ⟨wr0.heap.size, 0, none⟩ = some (.string (strOf x0)) ∧ w'.cell? ⟨wr0.heap.size, 1, none⟩ = some (.slice y1 x1.length y2)) (first | exact C0.out | exact C1.out | exact C2.out | go_keep)
        (first
          | (go_at_call 84; (with_reducible refine (reftext w.heap.size u3 P x0 _ O0.out B0.out H0.out).mono ?_); rintro e w3 ⟨v3, rfl, g1⟩; have G2 := hidden g1; obtain ⟨c1, b1, l1, n1⟩ := Grew.kept2 O0.out g1 B0.out L0.out N0.out C0.out; have C1 := hidden c1; have B1 := hidden b1; have L1 := hidden l1; have N1 := hidden n1; have HE2 := hidden (HELW.out.upd g1.upd HSO.out); clear g1 c1 b1 l1 n1)
          | (go_at_call 83; (with_reducible refine (refcells w.heap.size v3 (P ++ encT x0) y1 y2 x1 _ G2.out.own B1.out HYC.out HE2.out HOC.out H1.out HX1.out).mono ?_); rintro e w4 ⟨v4, rfl, g1⟩; have G3 := hidden g1; obtain ⟨c1, b1, l1, n1⟩ := Grew.kept2 G2.out.own g1 B1.out L1.out N1.out C1.out; have C2 := hidden c1; clear g1 c1 b1 l1 n1)
          | fail)
      go_wp2_with fail
      exact ⟨⟨k + 1, v4, rfl, by go_num, by omega, by rw [HXK.out]; exact HR.out.trans ((G2.out.ahead HNEW.out).trans G3.out)⟩, by simp [intOf]; omega⟩
    · have hk' : k = s.length := by omega
      subst hk'
      have HF := HR.out
      rw [List.take_length] at HF
      have H2 := hidden HF
      have p1' := HF.nil_upd.cell p1 (fun h => h)
      have HBw : Hid (w.heap.size ≤ wr0.heap.size) := hidden (Nat.le_trans HB1.out HF.upd.size)
      clear HF HR
      go_wp2_with fail
      with_reducible refine (refnum w.heap.size u3 _ n.length wr0 (by omega) H2.out.own HBw.out HPR.out).mono ?_
      rintro e w3 ⟨v3, rfl, g⟩
      rw [HQ2.out] at g
      have G1 := hidden (H2.out.trans g)
      have p1'' := G1.out.nil_upd.cell p1 (fun h => h)
      clear g
      go_wp2_with fail
      go_loopw [3, 37] (fun s3 s37 wr => ∃ (k : Nat) (v' : Value), s3 = v' ∧ s37 = .int .i64 k ∧ k ≤ n.length ∧ Grew w.heap.size (.slice none 0 0) v' (Q2 ++ encM tName.cod (n.take k)) w1 wr) (fun _ s37 _ => (n.length - intOf s37).toNat)
      case atStart => exact ⟨0, v3, rfl, rfl, by omega, by simpa [encM] using G1.out⟩
      case round =>
        rename World => wr1
        obtain ⟨k, v', rfl, rfl, hk, hr⟩ := hrel
        have HR := hidden hr
        clear hr
        by_cases hlt : k < n.length
        · obtain ⟨b, o, us, rfl, hS, hrg, hrep⟩ := (E1.out.upd HR.out.nil_upd (fun _ _ h => h)) k hlt
          have hxk : n.take (k + 1) = n.take k ++ [n[k]] := by rw [List.take_succ_eq_append_getElem hlt]
          have hxok := OK1.out _ (List.getElem_mem hlt)
          generalize n[k] = x at hrep hxk hxok
          obtain ⟨x0, x1, x2⟩ := x
          have hus := name_vals hrep
          simp only at hus
          subst hus
          obtain ⟨P, HP⟩ : ∃ P, Hid (Q2 ++ encM tName.cod (n.take k) = P) := ⟨_, rfl⟩
          have HXK : Hid (Q2 ++ encM tName.cod (n.take (k + 1)) = P ++ encT x0 ++ encT x1 ++ encT x2) := by
            show _ = _; rw [hxk, encM_append, encM_one, ← HP.out]
            show _ ++ (_ ++ (encT x0 ++ (encT x1 ++ (encT x2)))) = _
            simp only [List.append_assoc]
          have hlen : P.length + ((encT x0).length + (encT x1).length + (encT x2).length) ≤ 140737488354000 := by
            have h1 := encM_take_le tName.cod n (k + 1)
            rw [hxk, encM_append, encM_one, List.length_append] at h1
            have e : (tName.cod.enc (x0, x1, x2)).length = (encT x0).length + (encT x1).length + (encT x2).length := by
              show (encT x0 ++ (encT x1 ++ (encT x2))).length = _
              simp only [List.length_append] <;> omega
            rw [e] at h1
            have := LQ1.out
            rw [← HP.out, List.length_append]; omega
          rw [HP.out] at HR
          have HRG : Hid (wr1.rangeAt b (o + k * 3) [.string (strOf x0), .string (strOf x1), .string (strOf x2)]) := hidden hrg
          obtain ⟨d, hu, hd, hi⟩ := row_of row101
          have HU := hidden hu
          have HDR := hidden hd
          have HI : Hid ((Try.prog.info? 101).map (·.size) = some ([.string (strOf x0), .string (strOf x1), .string (strOf x2)] : List Value).length) := hidden hi
          have HI2 : Hid ((Try.prog.info? 101).map (·.size) = some ([.string (strOf x0), .string (strOf x1), .string (strOf x2)] : List Value).toArray.size) := hidden hi
          have HONE := hidden (all_oneCell_toArray (tName.one hrep))
          have HTH : Hid (∀ (vs : Array Value) t, vs.size = 3 → (wr1.alloc (.cells vs t)).there wr1.heap.size 0 ([.string (strOf x0), .string (strOf x1), .string (strOf x2)] : List Value).toArray.size) := hidden (fun vs t h => by rw [show ([.string (strOf x0), .string (strOf x1), .string (strOf x2)] : List Value).toArray.size = vs.size from h.symm]; exact there_new wr1 vs t)
          have hmade := made_cells (w := wr1) (vs := #[.string { data := #[] }, .string { data := #[] }, .string { data := #[] }]) (t := 101) (us := [.string (strOf x0), .string (strOf x1), .string (strOf x2)]) rfl
          have hfresh : Upd (fun _ => False) wr1 ((wr1.alloc (.cells #[.string { data := #[] }, .string { data := #[] }, .string { data := #[] }] 101)).setCells wr1.heap.size 0 [.string (strOf x0), .string (strOf x1), .string (strOf x2)]) := fresh_new
          have HMADE := hidden hmade
          have HFRESH := hidden hfresh
          clear hu hd hi hrg hrep hxok hxk hmade hfresh
          go_wp2_with (first
            | ((with_reducible refine wpList_load_mid (op := ⟨some 40, .load 101 (.tmp 39), _, _, _, _⟩) ?_ 101 (.tmp 39) ?_ b (o + k * 3) ?_ _ d HRG.out HU.out HDR.out HI.out ?_); rfl; rfl; rfl)
            | ((with_reducible refine wpList_store_mid (op := ⟨none, .store 101 (.tmp 7) (.tmp 40), _, _, _, _⟩) ?_ 101 (.tmp 7) (.tmp 40) ?_ wr1.heap.size 0 (List.toArray [.string (strOf x0), .string (strOf x1), .string (strOf x2)]) ?_ ?_ (HTH.out _ _ ?_) HI2.out HONE.out ?_); rfl; rfl; rfl; rfl; rfl)
            | ((with_reducible refine wpList_load_mid (op := ⟨some 42, .load 101 (.tmp 7), _, _, _, _⟩) ?_ 101 (.tmp 7) ?_ wr1.heap.size 0 ?_ _ d HMADE.out.1 HU.out HDR.out HI.out ?_); rfl; rfl; rfl))
          generalize (wr1.alloc (.cells #[.string { data := #[] }, .string { data := #[] }, .string { data := #[] }] 101)).setCells wr1.heap.size 0 [.string (strOf x0), .string (strOf x1), .string (strOf x2)] = W at HMADE HFRESH ⊢
          have O0 : Hid (OwnB w.heap.size W u3 P) := hidden ((HR.out.own.on HFRESH.out (fun _ _ h => h)).on (Upd.drewN (M := fun _ => False) _ 0) (fun _ _ h => h))
          have B0 : Hid (w.heap.size ≤ W.heap.size) := hidden (Nat.le_trans HB1.out (Nat.le_trans HR.out.upd.size HFRESH.out.size))
          have HNEW : Hid (Below wr1.heap.size wr1 W) := hidden (HFRESH.out.toBelow (Nat.le_refl _) (fun _ _ h => h))
          clear HTH HONE HI HI2 HDR HU HRG
          (with_reducible refine (refname w.heap.size u3 P x0 x1 x2 W O0.out B0.out (by omega)).mono ?_)
          rintro e w4 ⟨v4, rfl, g1⟩
          have G2 := hidden g1
          clear g1 hlen
          go_wp2_with fail
          exact ⟨⟨k + 1, v4, rfl, by go_num, by omega, by rw [HXK.out]; exact HR.out.trans (G2.out.ahead HNEW.out)⟩, by simp [intOf]; omega⟩
        · have hk' : k = n.length := by omega
          subst hk'
          have HF := HR.out
          rw [List.take_length] at HF
          have H3 := hidden HF
          have p2' := HF.nil_upd.cell p2 (fun h => h)
          have HBw : Hid (w.heap.size ≤ wr1.heap.size) := hidden (Nat.le_trans HB1.out HF.upd.size)
          clear HF HR
          go_wp2_with fail
          with_reducible refine (refnum w.heap.size u3 _ l.length wr1 (by omega) H3.out.own HBw.out HPR2.out).mono ?_
          rintro e w4 ⟨v4, rfl, g⟩
          rw [HQ3.out] at g
          have G2 := hidden (H3.out.trans g)
          have p2'' := G2.out.nil_upd.cell p2 (fun h => h)
          clear g
          go_wp2_with fail
          go_loopw [3, 53] (fun s3 s53 wr => ∃ (k : Nat) (v' : Value), s3 = v' ∧ s53 = .int .i64 k ∧ k ≤ l.length ∧ Grew w.heap.size (.slice none 0 0) v' (Q3 ++ encM tLink.cod (l.take k)) w1 wr) (fun _ s53 _ => (l.length - intOf s53).toNat)
          case atStart => exact ⟨0, v4, rfl, rfl, by omega, by simpa [encM] using G2.out⟩
          case round =>
            rename World => wr2
            obtain ⟨k, v', rfl, rfl, hk, hr⟩ := hrel
            have HR := hidden hr
            clear hr
            by_cases hlt : k < l.length
            · obtain ⟨b, o, us, rfl, hS, hrg, hrep⟩ := (E2.out.upd HR.out.nil_upd (fun _ _ h => h)) k hlt
              have hxk : l.take (k + 1) = l.take k ++ [l[k]] := by rw [List.take_succ_eq_append_getElem hlt]
              have hxok := OK2.out _ (List.getElem_mem hlt)
              generalize l[k] = x at hrep hxk hxok
              obtain ⟨x0, x1, x2, x3, x4, x5, x6⟩ := x
              have hus := link_vals hrep
              simp only at hus
              subst hus
              obtain ⟨P, HP⟩ : ∃ P, Hid (Q3 ++ encM tLink.cod (l.take k) = P) := ⟨_, rfl⟩
              have HXK : Hid (Q3 ++ encM tLink.cod (l.take (k + 1)) = P ++ encT x0 ++ encT x1 ++ encN x2 ++ encN x3 ++ cVal.enc (x4, x5, x6)) := by
                show _ = _; rw [hxk, encM_append, encM_one, ← HP.out]
                show _ ++ (_ ++ (encT x0 ++ (encT x1 ++ (encN x2 ++ (encN x3 ++ (cVal.enc (x4, x5, x6))))))) = _
                simp only [List.append_assoc]
              have hlen : P.length + ((encT x0).length + (encT x1).length + (encN x2).length + (encN x3).length + (cVal.enc (x4, x5, x6)).length) ≤ 140737488354000 := by
                have h1 := encM_take_le tLink.cod l (k + 1)
                rw [hxk, encM_append, encM_one, List.length_append] at h1
                have e : (tLink.cod.enc (x0, x1, x2, x3, x4, x5, x6)).length = (encT x0).length + (encT x1).length + (encN x2).length + (encN x3).length + (cVal.enc (x4, x5, x6)).length := by
                  show (encT x0 ++ (encT x1 ++ (encN x2 ++ (encN x3 ++ (cVal.enc (x4, x5, x6)))))).length = _
                  simp only [List.length_append] <;> omega
                rw [e] at h1
                have := LQ2.out
                rw [← HP.out, List.length_append]; omega
              rw [HP.out] at HR
              have HRG : Hid (wr2.rangeAt b (o + k * 7) [.string (strOf x0), .string (strOf x1), .int .i64 x2, .int .i64 x3, .int .i64 x4, .int .i64 x5, .string (strOf x6)]) := hidden hrg
              obtain ⟨d, hu, hd, hi⟩ := row_of row105
              have HU := hidden hu
              have HDR := hidden hd
              have HI : Hid ((Try.prog.info? 105).map (·.size) = some ([.string (strOf x0), .string (strOf x1), .int .i64 x2, .int .i64 x3, .int .i64 x4, .int .i64 x5, .string (strOf x6)] : List Value).length) := hidden hi
              have HI2 : Hid ((Try.prog.info? 105).map (·.size) = some ([.string (strOf x0), .string (strOf x1), .int .i64 x2, .int .i64 x3, .int .i64 x4, .int .i64 x5, .string (strOf x6)] : List Value).toArray.size) := hidden hi
              have HONE := hidden (all_oneCell_toArray (tLink.one hrep))
              have HTH : Hid (∀ (vs : Array Value) t, vs.size = 7 → (wr2.alloc (.cells vs t)).there wr2.heap.size 0 ([.string (strOf x0), .string (strOf x1), .int .i64 x2, .int .i64 x3, .int .i64 x4, .int .i64 x5, .string (strOf x6)] : List Value).toArray.size) := hidden (fun vs t h => by rw [show ([.string (strOf x0), .string (strOf x1), .int .i64 x2, .int .i64 x3, .int .i64 x4, .int .i64 x5, .string (strOf x6)] : List Value).toArray.size = vs.size from h.symm]; exact there_new wr2 vs t)
              have hmade := made_cells (w := wr2) (vs := #[.string { data := #[] }, .string { data := #[] }, .int .i64 0, .int .i64 0, .int .i64 0, .int .i64 0, .string { data := #[] }]) (t := 105) (us := [.string (strOf x0), .string (strOf x1), .int .i64 x2, .int .i64 x3, .int .i64 x4, .int .i64 x5, .string (strOf x6)]) rfl
              have hfresh : Upd (fun _ => False) wr2 ((wr2.alloc (.cells #[.string { data := #[] }, .string { data := #[] }, .int .i64 0, .int .i64 0, .int .i64 0, .int .i64 0, .string { data := #[] }] 105)).setCells wr2.heap.size 0 [.string (strOf x0), .string (strOf x1), .int .i64 x2, .int .i64 x3, .int .i64 x4, .int .i64 x5, .string (strOf x6)]) := fresh_new
              have HMADE := hidden hmade
              have HFRESH := hidden hfresh
              have o2 : -9223372036854775808 ≤ x2 ∧ x2 ≤ 9223372036854775807 := hxok.2.2.1
              have o3 : -9223372036854775808 ≤ x3 ∧ x3 ≤ 9223372036854775807 := hxok.2.2.2.1
              have o4 : -9223372036854775808 ≤ x4 ∧ x4 ≤ 9223372036854775807 := hxok.2.2.2.2.1
              have o5 : -9223372036854775808 ≤ x5 ∧ x5 ≤ 9223372036854775807 := hxok.2.2.2.2.2.1
              clear hu hd hi hrg hrep hxok hxk hmade hfresh
              go_wp2_with (first
                | ((with_reducible refine wpList_load_mid (op := ⟨some 56, .load 105 (.tmp 55), _, _, _, _⟩) ?_ 105 (.tmp 55) ?_ b (o + k * 7) ?_ _ d HRG.out HU.out HDR.out HI.out ?_); rfl; rfl; rfl)
                | ((with_reducible refine wpList_store_mid (op := ⟨none, .store 105 (.tmp 9) (.tmp 56), _, _, _, _⟩) ?_ 105 (.tmp 9) (.tmp 56) ?_ wr2.heap.size 0 (List.toArray [.string (strOf x0), .string (strOf x1), .int .i64 x2, .int .i64 x3, .int .i64 x4, .int .i64 x5, .string (strOf x6)]) ?_ ?_ (HTH.out _ _ ?_) HI2.out HONE.out ?_); rfl; rfl; rfl; rfl; rfl)
                | ((with_reducible refine wpList_load_mid (op := ⟨some 58, .load 105 (.tmp 9), _, _, _, _⟩) ?_ 105 (.tmp 9) ?_ wr2.heap.size 0 ?_ _ d HMADE.out.1 HU.out HDR.out HI.out ?_); rfl; rfl; rfl))
              generalize (wr2.alloc (.cells #[.string { data := #[] }, .string { data := #[] }, .int .i64 0, .int .i64 0, .int .i64 0, .int .i64 0, .string { data := #[] }] 105)).setCells wr2.heap.size 0 [.string (strOf x0), .string (strOf x1), .int .i64 x2, .int .i64 x3, .int .i64 x4, .int .i64 x5, .string (strOf x6)] = W at HMADE HFRESH ⊢
              have O0 : Hid (OwnB w.heap.size W u3 P) := hidden ((HR.out.own.on HFRESH.out (fun _ _ h => h)).on (Upd.drewN (M := fun _ => False) _ 0) (fun _ _ h => h))
              have B0 : Hid (w.heap.size ≤ W.heap.size) := hidden (Nat.le_trans HB1.out (Nat.le_trans HR.out.upd.size HFRESH.out.size))
              have HNEW : Hid (Below wr2.heap.size wr2 W) := hidden (HFRESH.out.toBelow (Nat.le_refl _) (fun _ _ h => h))
              clear HTH HONE HI HI2 HDR HU HRG
              (with_reducible refine (reflink w.heap.size u3 P x0 x1 x2 x3 x4 x5 x6 W o2 o3 o4 o5 O0.out B0.out (by omega)).mono ?_)
              rintro e w4 ⟨v4, rfl, g1⟩
              have G2 := hidden g1
              clear g1 hlen
              go_wp2_with fail
              exact ⟨⟨k + 1, v4, rfl, by go_num, by omega, by rw [HXK.out]; exact HR.out.trans (G2.out.ahead HNEW.out)⟩, by simp [intOf]; omega⟩
            · have hk' : k = l.length := by omega
              subst hk'
              have HF := HR.out
              rw [List.take_length] at HF
              have H4 := hidden HF
              clear HF HR
              go_wp2_with fail
              go_ret
              exact ⟨HBEL.out.trans (H4.out.nil_upd.toBelow HB1.out (fun _ _ h => h)), u3, rfl, H4.out.own⟩
end Go.Proofs.Ytekmjegeiminnaa
