/- The reference's writer of cells, walked. Printed by gen_e3.py. -/
import Derived.Test.YtekmjegeiminnaaE1
namespace Go.Proofs.Ytekmjegeiminnaa
open Go.RowKit
set_option linter.unusedVariables false
set_option linter.unusedSimpArgs false

theorem cell_vals {S : Nat → Prop} {w : World} {us : List Value} {x : CellD} (h : tCell.rep S w us x) : us = [.int .i64 x.1, .int .i64 x.2.1, .string (strOf x.2.2)] := by
  obtain ⟨l, r, rfl, hl, l2, r2, rfl, hl2, hr2⟩ := h
  have e1 : l = [.int .i64 x.1] := hl
  have e2 : l2 = [.int .i64 x.2.1] := hl2
  have e3 : r2 = [.string (strOf x.2.2)] := hr2
  rw [e1, e2, e3]; rfl
/-- A fresh variable that has been written. -/
theorem made_cells {w : World} {vs : Array Value} {t : TypeId} {us : List Value} (h : us.length = vs.size) : ((w.alloc (.cells vs t)).setCells w.heap.size 0 us).rangeAt w.heap.size 0 us ∧ w.heap.size < ((w.alloc (.cells vs t)).setCells w.heap.size 0 us).heap.size := by
  refine ⟨World.rangeAt_setCells_same _ _ _ _ (by rw [h]; exact there_new w vs t), ?_⟩
  have := (Upd.setCells (M := fun _ => True) (b := w.heap.size) trivial us 0 (w.alloc (.cells vs t))).size
  rw [World.size_alloc] at this; omega
theorem three_cells {w : World} {b : Nat} {x y z : Value} (h : w.rangeAt b 0 [x, y, z]) : w.cell? ⟨b, 0, none⟩ = some x ∧ w.cell? ⟨b, 1, none⟩ = some y ∧ w.cell? ⟨b, 2, none⟩ = some z := by
  have h0 := h 0 x rfl
  have h1 := h 1 y rfl
  have h2 := h 2 z rfl
  simp only [Nat.zero_add] at h0 h1 h2
  exact ⟨h0, h1, h2⟩

set_option maxRecDepth 100000 in
set_option maxHeartbeats 8000000 in
theorem refcells (B : Nat) (v : Value) (bs : List UInt8) (a : Option Addr) (cap : Nat) (xs : List CellD) (w : World) (ho : OwnB B w v bs) (hB : B ≤ w.heap.size) (hcap : xs.length ≤ cap) (he : Elems tCell (· < B) w a xs) (hok : ∀ x ∈ xs, tCell.cod.ok x) (hl : bs.length + (encL tCell.cod xs).length ≤ 140737488354000) (hxl : xs.length ≤ 140737488354000) :
    Calls Try.prog 83 #[v, .slice a xs.length cap] w fun e w' => ∃ v', e = .returned v' ∧ Grew B v v' (bs ++ encL tCell.cod xs) w w' := by
  have HO := hidden ho
  have HE := hidden he
  have HOK := hidden hok
  have hle : (encN (xs.length : Int)).length + (encM tCell.cod xs).length = (encL tCell.cod xs).length := by unfold encL; rw [List.length_append]
  have HL := hidden (And.intro hl hle)
  clear ho he hok hl hle
  go_enter Try.func83, Try.ntmps83
  go_wp2_with fail
  with_reducible refine (refnum B v bs _ w (by omega) HO.out hB (by have := HL.out; omega)).mono ?_
  rintro e w1 ⟨v1, rfl, g1⟩
  have G1 := hidden g1
  clear g1
  go_wp2_with fail
  go_loopw [0, 13] (fun s0 s wr => ∃ (k : Nat) (v' : Value), s0 = v' ∧ s = .int .i64 k ∧ k ≤ xs.length ∧ Grew B v v' (bs ++ encN xs.length ++ encM tCell.cod (xs.take k)) w wr) (fun _ s _ => (xs.length - intOf s).toNat)
  case atStart => exact ⟨0, v1, rfl, rfl, by omega, by simpa [encM] using G1.out⟩
  case round =>
    obtain ⟨k, v', rfl, rfl, hk, hr⟩ := hrel
    have HR := hidden hr
    clear hr
    by_cases hlt : k < xs.length
    · obtain ⟨b, o, us, rfl, hS, hrg, hrep⟩ := (HE.out.upd HR.out.upd (fun i hi e => by have := (HO.out.lt i e.symm).1; omega)) k hlt
      have hxk : xs.take (k + 1) = xs.take k ++ [xs[k]] := by rw [List.take_succ_eq_append_getElem hlt]
      have hxok := HOK.out _ (List.getElem_mem hlt)
      generalize xs[k] = x at hrep hxk hxok
      obtain ⟨x0, x1, x2⟩ := x
      have hus := cell_vals hrep
      simp only at hus
      subst hus
      obtain ⟨P, HP⟩ : ∃ P, Hid (bs ++ encN (xs.length : Int) ++ encM tCell.cod (xs.take k) = P) := ⟨_, rfl⟩
      have HXK : Hid (bs ++ encN xs.length ++ encM tCell.cod (xs.take (k + 1)) = P ++ encN x0 ++ encN x1 ++ encT x2) := by
        show _ = _; rw [hxk, encM_append, encM_one, ← HP.out]
        show _ ++ (_ ++ (encN x0 ++ (encN x1 ++ encT x2))) = _
        simp only [List.append_assoc]
      have hlen : P.length + ((encN x0).length + ((encN x1).length + (encT x2).length)) ≤ 140737488354000 := by
        have h1 := encM_take_le tCell.cod xs (k + 1)
        rw [hxk, encM_append, encM_one, List.length_append] at h1
        have e : (tCell.cod.enc (x0, x1, x2)).length = (encN x0).length + ((encN x1).length + (encT x2).length) := by
          show (encN x0 ++ (encN x1 ++ encT x2)).length = _
          simp only [List.length_append]
        rw [e] at h1
        have := HL.out
        rw [← HP.out, List.length_append, List.length_append]; omega
      have o0 : -9223372036854775808 ≤ x0 ∧ x0 ≤ 9223372036854775807 := hxok.1
      have o1 : -9223372036854775808 ≤ x1 ∧ x1 ≤ 9223372036854775807 := hxok.2.1
      rw [HP.out] at HR
      have HRG : Hid (wr.rangeAt b (o + k * 3) [.int .i64 x0, .int .i64 x1, .string (strOf x2)]) := hidden hrg
      obtain ⟨d, hu, hd, hi⟩ := row_of row186
      have HU := hidden hu
      have HDR := hidden hd
      have HI : Hid ((Try.prog.info? 186).map (·.size) = some [Value.int .i64 x0, .int .i64 x1, .string (strOf x2)].length) := hidden hi
      have HI2 : Hid ((Try.prog.info? 186).map (·.size) = some [Value.int .i64 x0, .int .i64 x1, .string (strOf x2)].toArray.size) := hidden hi
      have HONE := hidden (all_oneCell_toArray (tCell.one hrep))
      have HTH : Hid (∀ (vs : Array Value) t, vs.size = 3 → (wr.alloc (.cells vs t)).there wr.heap.size 0 [Value.int .i64 x0, .int .i64 x1, .string (strOf x2)].toArray.size) := hidden (fun vs t h => by rw [show [Value.int .i64 x0, .int .i64 x1, .string (strOf x2)].toArray.size = vs.size from h.symm]; exact there_new wr vs t)
      clear hu hd hi hrg hrep hxok hxk
      go_wp2_with (first
        | ((with_reducible refine wpList_load_mid (op := ⟨some 16, .load 186 (.tmp 15), _, _, _, _⟩) ?_ 186 (.tmp 15) ?_ b (o + k * 3) ?_ _ d HRG.out HU.out HDR.out HI.out ?_); rfl; rfl; rfl)
        | ((with_reducible refine wpList_store_mid (op := ⟨none, .store 186 (.tmp 6) (.tmp 16), _, _, _, _⟩) ?_ 186 (.tmp 6) (.tmp 16) ?_ wr.heap.size 0 [Value.int .i64 x0, .int .i64 x1, .string (strOf x2)].toArray ?_ ?_ (HTH.out _ _ ?_) HI2.out HONE.out ?_); rfl; rfl; rfl; rfl; rfl))
      have hmade := made_cells (w := wr) (vs := #[.int .i64 0, .int .i64 0, .string { data := #[] }]) (t := 186) (us := [.int .i64 x0, .int .i64 x1, .string (strOf x2)]) rfl
      have hfresh : Upd (fun _ => False) wr ((wr.alloc (.cells #[.int .i64 0, .int .i64 0, .string { data := #[] }] 186)).setCells wr.heap.size 0 [.int .i64 x0, .int .i64 x1, .string (strOf x2)]) := fresh_new
      generalize (wr.alloc (.cells #[.int .i64 0, .int .i64 0, .string { data := #[] }] 186)).setCells wr.heap.size 0 [.int .i64 x0, .int .i64 x1, .string (strOf x2)] = W at hmade hfresh ⊢
      have C0 : Hid (W.drew.cell? ⟨wr.heap.size, 0, none⟩ = some (.int .i64 x0) ∧ W.drew.cell? ⟨wr.heap.size, 1, none⟩ = some (.int .i64 x1) ∧ W.drew.cell? ⟨wr.heap.size, 2, none⟩ = some (.string (strOf x2))) := hidden (three_cells hmade.1)
      have O0 : Hid (OwnB B W.drew u0 P) := hidden ((HR.out.own.on hfresh (fun _ _ h => h)).on (Upd.drew (M := fun _ => False) _) (fun _ _ h => h))
      have B0 : Hid (B ≤ W.drew.heap.size) := hidden (Nat.le_trans hB (Nat.le_trans HR.out.upd.size hfresh.size))
      have L0 : Hid (wr.heap.size < W.drew.heap.size) := hidden hmade.2
      have N0 : Hid (some wr.heap.size ≠ u0.ownBlock) := hidden (fun h => by have := (HR.out.own.lt _ h.symm).2; omega)
      have HNEW : Hid (Below wr.heap.size wr W.drew) := hidden ((hfresh.toBelow (Nat.le_refl _) (fun _ _ h => h)).trans (below_dn (Below.refl _ _) 1))
      have H0 : Hid (P.length ≤ 140737488355000) := hidden (by omega)
      have H1 : Hid ((P ++ encN x0).length ≤ 140737488355000) := hidden (by rw [List.length_append]; omega)
      have H2 : Hid ((P ++ encN x0 ++ encN x1).length + (encT x2).length ≤ 140737488354000) := hidden (by rw [List.length_append, List.length_append]; omega)
      clear hlen hmade hfresh HTH HONE HI HI2 HDR HU HRG
      go_region_held3 (fun w' => w'.cell? ⟨wr.heap.size, 0, none⟩ = some (.int .i64 x0) ∧ w'.cell? ⟨wr.heap.size, 1, none⟩ = some (.int .i64 x1) ∧ w'.cell? ⟨wr.heap.size, 2, none⟩ = some (.string (strOf x2))) (first | exact C0.out | exact C1.out | exact C2.out | exact C3.out | go_keep)
        (first
          | (go_at_call 74; (with_reducible refine (refnum B u0 P x0 _ o0 O0.out B0.out H0.out).mono ?_); rintro e w2 ⟨v2, rfl, g1⟩; have G2 := hidden g1; obtain ⟨c1, b1, l1, n1⟩ := Grew.kept3 O0.out g1 B0.out L0.out N0.out C0.out; have C1 := hidden c1; have B1 := hidden b1; have L1 := hidden l1; have N1 := hidden n1; clear g1 c1 b1 l1 n1)
          | (go_at_call 74; (with_reducible refine (refnum B v2 (P ++ encN x0) x1 _ o1 G2.out.own B1.out H1.out).mono ?_); rintro e w3 ⟨v3, rfl, g1⟩; have G3 := hidden g1; obtain ⟨c1, b1, l1, n1⟩ := Grew.kept3 G2.out.own g1 B1.out L1.out N1.out C1.out; have C2 := hidden c1; have B2 := hidden b1; have L2 := hidden l1; have N2 := hidden n1; clear g1 c1 b1 l1 n1)
          | (go_at_call 84; (with_reducible refine (reftext B v3 (P ++ encN x0 ++ encN x1) x2 _ G3.out.own B2.out H2.out).mono ?_); rintro e w4 ⟨v4, rfl, g1⟩; have G4 := hidden g1; obtain ⟨c1, b1, l1, n1⟩ := Grew.kept3 G3.out.own g1 B2.out L2.out N2.out C2.out; have C3 := hidden c1; clear g1 c1 b1 l1 n1)
          | fail)
      go_wp2_with fail
      exact ⟨⟨k + 1, v4, rfl, by go_num, by omega, by rw [HXK.out]; exact HR.out.trans (((G2.out.ahead HNEW.out).trans G3.out).trans G4.out)⟩, by simp [intOf]; omega⟩
    · have hk' : k = xs.length := by omega
      subst hk'
      have HF := HR.out
      rw [List.take_length, List.append_assoc] at HF
      have HF2 := hidden HF
      clear HF
      go_wp2_with fail
      go_ret
      exact ⟨u0, rfl, HF2.out⟩
end Go.Proofs.Ytekmjegeiminnaa
