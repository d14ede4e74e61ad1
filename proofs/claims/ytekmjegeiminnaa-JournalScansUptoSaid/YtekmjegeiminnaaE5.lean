/- The reference's Ops, walked. Printed by gen_e5.py. -/
import Derived.Test.YtekmjegeiminnaaE4
namespace Go.Proofs.Ytekmjegeiminnaa
open Go.RowKit
set_option linter.unusedVariables false
set_option linter.unusedSimpArgs false

theorem not_own {B : Nat} {w : World} {v : Value} {bs : List UInt8} (h : OwnB B w v bs) : ∀ i, i < B → ¬ some i = v.ownBlock := fun i hi e => by have := (h.lt i e.symm).1; omega
theorem op_vals {S : Nat → Prop} {w : World} {us : List Value} {x0 x3 x4 x5 x6 l2 l3 l4 l5 : Int} {x1 x2 x7 n0 n1 n2 l0 l1 l6 : List UInt8} {cs : List CellD} (h : tOp.rep S w us (x0, x1, x2, x3, x4, x5, x6, x7, (n0, n1, n2), (l0, l1, l2, l3, l4, l5, l6), cs)) :
    ∃ y1 y2, us = [.int .i64 x0, .string (strOf x1), .string (strOf x2), .int .i64 x3, .int .i64 x4, .int .i64 x5, .int .i64 x6, .string (strOf x7), .string (strOf n0), .string (strOf n1), .string (strOf n2), .string (strOf l0), .string (strOf l1), .int .i64 l2, .int .i64 l3, .int .i64 l4, .int .i64 l5, .string (strOf l6), .slice y1 cs.length y2] ∧ cs.length ≤ y2 ∧ Elems tCell S w y1 cs := by
  obtain ⟨a0, r0, rfl, h0, a1, r1, rfl, h1, a2, r2, rfl, h2, a3, r3, rfl, h3, a4, r4, rfl, h4, a5, r5, rfl, h5, a6, r6, rfl, h6, a7, r7, rfl, h7, a8, r8, rfl, h8, a9, r9, rfl, h9, y1, y2, rfl, e1, e2, e3⟩ := h
  have h8 := name_vals h8
  have h9 := link_vals h9
  simp only at h8 h9
  have h0 : a0 = [.int .i64 x0] := h0
  have h1 : a1 = [.string (strOf x1)] := h1
  have h2 : a2 = [.string (strOf x2)] := h2
  have h3 : a3 = [.int .i64 x3] := h3
  have h4 : a4 = [.int .i64 x4] := h4
  have h5 : a5 = [.int .i64 x5] := h5
  have h6 : a6 = [.int .i64 x6] := h6
  have h7 : a7 = [.string (strOf x7)] := h7
  subst h0 h1 h2 h3 h4 h5 h6 h7 h8 h9
  exact ⟨y1, y2, rfl, e1, e3⟩
set_option maxRecDepth 100000 in
set_option maxHeartbeats 16000000 in
theorem refops (v0 : Value) (xs : List OpD) (w : World) (hr : tOps.rep (· < w.heap.size) w [v0] xs) (hok : tOps.cod.ok xs) (hl : (tOps.cod.enc xs).length ≤ 140737488354000) :
    Calls Try.prog 51 #[v0] w fun e w' => Below w.heap.size w w' ∧ ∃ v, e = .returned v ∧ OwnB w.heap.size w' v (tOps.cod.enc xs) := by
  obtain ⟨a, cap, he, hcap, -, hel⟩ := hr
  simp only [List.cons.injEq, and_true] at he
  subst he
  have henc : tOps.cod.enc xs = encN xs.length ++ encM tOp.cod xs := rfl
  have hge := encM_ge tOp.cod xs
  rw [henc] at hl ⊢
  rw [List.length_append] at hl
  have LQ := hidden hl
  have HE := hidden hel
  have HOK : Hid (∀ x ∈ xs, tOp.cod.ok x) := hidden hok.2
  have hxl : xs.length ≤ 140737488354000 := by omega
  clear hok hl henc hge hel
  go_enter Try.func51, Try.ntmps51
  go_wp2_with fail
  with_reducible refine (refnum w.heap.size (.slice none 0 0) [] xs.length w (by omega) (OwnB.nil _ _) (Nat.le_refl _) (by simp)).mono ?_
  rintro e w1 ⟨v1, rfl, g⟩
  rw [List.nil_append] at g
  have G0 := hidden g
  clear g
  go_wp2_with fail
  go_loopw [3, 11] (fun s3 s11 wr => ∃ (k : Nat) (v' : Value), s3 = v' ∧ s11 = .int .i64 k ∧ k ≤ xs.length ∧ Grew w.heap.size (.slice none 0 0) v' (encN xs.length ++ encM tOp.cod (xs.take k)) w wr) (fun _ s11 _ => (xs.length - intOf s11).toNat)
  case atStart => exact ⟨0, v1, rfl, rfl, by omega, by simpa [encM] using G0.out⟩
  case round =>
    obtain ⟨k, v', rfl, rfl, hk, hr⟩ := hrel
    have HR := hidden hr
    clear hr
    by_cases hlt : k < xs.length
    · obtain ⟨b, o, us, rfl, hS, hrg, hrep⟩ := (HE.out.upd HR.out.nil_upd (fun _ _ h => h)) k hlt
      have hxk : xs.take (k + 1) = xs.take k ++ [xs[k]] := by rw [List.take_succ_eq_append_getElem hlt]
      have hxok := HOK.out _ (List.getElem_mem hlt)
      generalize xs[k] = x at hrep hxk hxok
      obtain ⟨x0, x1, x2, x3, x4, x5, x6, x7, ⟨n0, n1, n2⟩, ⟨l0, l1, l2, l3, l4, l5, l6⟩, cs⟩ := x
      obtain ⟨y1, y2, hus, hy, hec⟩ := op_vals hrep
      subst hus
      have HEL := hidden hec
      clear hec
      obtain ⟨P, HP⟩ : ∃ P, Hid (encN (xs.length : Int) ++ encM tOp.cod (xs.take k) = P) := ⟨_, rfl⟩
      have HXK : Hid (encN (xs.length : Int) ++ encM tOp.cod (xs.take (k + 1)) = P ++ encN x0 ++ encT x1 ++ encT x2 ++ encN x3 ++ encN x4 ++ encN x5 ++ encN x6 ++ encT x7 ++ encT n0 ++ encT n1 ++ encT n2 ++ encT l0 ++ encT l1 ++ encN l2 ++ encN l3 ++ cVal.enc (l4, l5, l6) ++ encL tCell.cod cs) := by
        show _ = _; rw [hxk, encM_append, encM_one, ← HP.out]
        show _ ++ (_ ++ (encN x0 ++ (encT x1 ++ (encT x2 ++ (encN x3 ++ (encN x4 ++ (encN x5 ++ (encN x6 ++ (encT x7 ++ ((encT n0 ++ (encT n1 ++ encT n2)) ++ ((encT l0 ++ (encT l1 ++ (encN l2 ++ (encN l3 ++ cVal.enc (l4, l5, l6))))) ++ (encL tCell.cod cs)))))))))))) = _
        simp only [List.append_assoc]
      have hlen : P.length + ((encN x0).length + (encT x1).length + (encT x2).length + (encN x3).length + (encN x4).length + (encN x5).length + (encN x6).length + (encT x7).length + (encT n0).length + (encT n1).length + (encT n2).length + (encT l0).length + (encT l1).length + (encN l2).length + (encN l3).length + (cVal.enc (l4, l5, l6)).length + (encL tCell.cod cs).length) ≤ 140737488354000 := by
        have h1 := encM_take_le tOp.cod xs (k + 1)
        rw [hxk, encM_append, encM_one, List.length_append] at h1
        have e : (tOp.cod.enc (x0, x1, x2, x3, x4, x5, x6, x7, (n0, n1, n2), (l0, l1, l2, l3, l4, l5, l6), cs)).length = (encN x0).length + (encT x1).length + (encT x2).length + (encN x3).length + (encN x4).length + (encN x5).length + (encN x6).length + (encT x7).length + (encT n0).length + (encT n1).length + (encT n2).length + (encT l0).length + (encT l1).length + (encN l2).length + (encN l3).length + (cVal.enc (l4, l5, l6)).length + (encL tCell.cod cs).length := by
          show (encN x0 ++ (encT x1 ++ (encT x2 ++ (encN x3 ++ (encN x4 ++ (encN x5 ++ (encN x6 ++ (encT x7 ++ ((encT n0 ++ (encT n1 ++ encT n2)) ++ ((encT l0 ++ (encT l1 ++ (encN l2 ++ (encN l3 ++ cVal.enc (l4, l5, l6))))) ++ (encL tCell.cod cs))))))))))).length = _
          simp only [List.length_append] <;> omega
        rw [e] at h1
        have := LQ.out
        rw [← HP.out, List.length_append]; omega
      rw [HP.out] at HR
      have o0 : -9223372036854775808 ≤ x0 ∧ x0 ≤ 9223372036854775807 := hxok.1
      have o3 : -9223372036854775808 ≤ x3 ∧ x3 ≤ 9223372036854775807 := hxok.2.2.2.1
      have o4 : -9223372036854775808 ≤ x4 ∧ x4 ≤ 9223372036854775807 := hxok.2.2.2.2.1
      have o5 : -9223372036854775808 ≤ x5 ∧ x5 ≤ 9223372036854775807 := hxok.2.2.2.2.2.1
      have o6 : -9223372036854775808 ≤ x6 ∧ x6 ≤ 9223372036854775807 := hxok.2.2.2.2.2.2.1
      have hlk : tLink.cod.ok (l0, l1, l2, l3, l4, l5, l6) := hxok.2.2.2.2.2.2.2.2.2.1
      have p2 : -9223372036854775808 ≤ l2 ∧ l2 ≤ 9223372036854775807 := hlk.2.2.1
      have p3 : -9223372036854775808 ≤ l3 ∧ l3 ≤ 9223372036854775807 := hlk.2.2.2.1
      have p4 : -9223372036854775808 ≤ l4 ∧ l4 ≤ 9223372036854775807 := hlk.2.2.2.2.1
      have p5 : -9223372036854775808 ≤ l5 ∧ l5 ≤ 9223372036854775807 := hlk.2.2.2.2.2.1
      have hcl : (tList tCell).cod.ok cs := hxok.2.2.2.2.2.2.2.2.2.2
      have HOC : Hid (∀ c ∈ cs, tCell.cod.ok c) := hidden hcl.2
      have HX1 : Hid (cs.length ≤ 140737488354000) := hidden (by
        have h1 := encM_ge tCell.cod cs
        have h2 : (encL tCell.cod cs).length = (encN (cs.length : Int)).length + (encM tCell.cod cs).length := by unfold encL; rw [List.length_append]
        omega)
      have HRG : Hid (wr.rangeAt b (o + k * 19) [.int .i64 x0, .string (strOf x1), .string (strOf x2), .int .i64 x3, .int .i64 x4, .int .i64 x5, .int .i64 x6, .string (strOf x7), .string (strOf n0), .string (strOf n1), .string (strOf n2), .string (strOf l0), .string (strOf l1), .int .i64 l2, .int .i64 l3, .int .i64 l4, .int .i64 l5, .string (strOf l6), .slice y1 cs.length y2]) := hidden hrg
      obtain ⟨d, hu, hd, hi⟩ := row_of row108
      have HU := hidden hu
      have HDR := hidden hd
      have HI : Hid ((Try.prog.info? 108).map (·.size) = some ([.int .i64 x0, .string (strOf x1), .string (strOf x2), .int .i64 x3, .int .i64 x4, .int .i64 x5, .int .i64 x6, .string (strOf x7), .string (strOf n0), .string (strOf n1), .string (strOf n2), .string (strOf l0), .string (strOf l1), .int .i64 l2, .int .i64 l3, .int .i64 l4, .int .i64 l5, .string (strOf l6), .slice y1 cs.length y2] : List Value).length) := hidden hi
      have HI2 : Hid ((Try.prog.info? 108).map (·.size) = some ([.int .i64 x0, .string (strOf x1), .string (strOf x2), .int .i64 x3, .int .i64 x4, .int .i64 x5, .int .i64 x6, .string (strOf x7), .string (strOf n0), .string (strOf n1), .string (strOf n2), .string (strOf l0), .string (strOf l1), .int .i64 l2, .int .i64 l3, .int .i64 l4, .int .i64 l5, .string (strOf l6), .slice y1 cs.length y2] : List Value).toArray.size) := hidden hi
      have HONE := hidden (all_oneCell_toArray (tOp.one hrep))
      have HTH : Hid (∀ (vs : Array Value) t, vs.size = 19 → (wr.alloc (.cells vs t)).there wr.heap.size 0 ([.int .i64 x0, .string (strOf x1), .string (strOf x2), .int .i64 x3, .int .i64 x4, .int .i64 x5, .int .i64 x6, .string (strOf x7), .string (strOf n0), .string (strOf n1), .string (strOf n2), .string (strOf l0), .string (strOf l1), .int .i64 l2, .int .i64 l3, .int .i64 l4, .int .i64 l5, .string (strOf l6), .slice y1 cs.length y2] : List Value).toArray.size) := hidden (fun vs t h => by rw [show ([.int .i64 x0, .string (strOf x1), .string (strOf x2), .int .i64 x3, .int .i64 x4, .int .i64 x5, .int .i64 x6, .string (strOf x7), .string (strOf n0), .string (strOf n1), .string (strOf n2), .string (strOf l0), .string (strOf l1), .int .i64 l2, .int .i64 l3, .int .i64 l4, .int .i64 l5, .string (strOf l6), .slice y1 cs.length y2] : List Value).toArray.size = vs.size from h.symm]; exact there_new wr vs t)
      have HMADE := hidden (made_cells (w := wr) (vs := #[.int .i64 0, .string { data := #[] }, .string { data := #[] }, .int .i64 0, .int .i64 0, .int .i64 0, .int .i64 0, .string { data := #[] }, .string { data := #[] }, .string { data := #[] }, .string { data := #[] }, .string { data := #[] }, .string { data := #[] }, .int .i64 0, .int .i64 0, .int .i64 0, .int .i64 0, .string { data := #[] }, .slice none 0 0]) (t := 108) (us := [.int .i64 x0, .string (strOf x1), .string (strOf x2), .int .i64 x3, .int .i64 x4, .int .i64 x5, .int .i64 x6, .string (strOf x7), .string (strOf n0), .string (strOf n1), .string (strOf n2), .string (strOf l0), .string (strOf l1), .int .i64 l2, .int .i64 l3, .int .i64 l4, .int .i64 l5, .string (strOf l6), .slice y1 cs.length y2]) rfl)
      have HFRESH : Hid (Upd (fun _ => False) wr ((wr.alloc (.cells #[.int .i64 0, .string { data := #[] }, .string { data := #[] }, .int .i64 0, .int .i64 0, .int .i64 0, .int .i64 0, .string { data := #[] }, .string { data := #[] }, .string { data := #[] }, .string { data := #[] }, .string { data := #[] }, .string { data := #[] }, .int .i64 0, .int .i64 0, .int .i64 0, .int .i64 0, .string { data := #[] }, .slice none 0 0] 108)).setCells wr.heap.size 0 [.int .i64 x0, .string (strOf x1), .string (strOf x2), .int .i64 x3, .int .i64 x4, .int .i64 x5, .int .i64 x6, .string (strOf x7), .string (strOf n0), .string (strOf n1), .string (strOf n2), .string (strOf l0), .string (strOf l1), .int .i64 l2, .int .i64 l3, .int .i64 l4, .int .i64 l5, .string (strOf l6), .slice y1 cs.length y2])) := hidden fresh_new
      clear hu hd hi hrg hrep hxok hxk hlk hcl
      go_wp2_with (first
        | ((with_reducible refine wpList_load_mid (op := ⟨some 14, .load 108 (.tmp 13), _, _, _, _⟩) ?_ 108 (.tmp 13) ?_ b (o + k * 19) ?_ _ d HRG.out HU.out HDR.out HI.out ?_); rfl; rfl; rfl)
        | ((with_reducible refine wpList_store_mid (op := ⟨none, .store 108 (.tmp 5) (.tmp 14), _, _, _, _⟩) ?_ 108 (.tmp 5) (.tmp 14) ?_ wr.heap.size 0 (List.toArray [.int .i64 x0, .string (strOf x1), .string (strOf x2), .int .i64 x3, .int .i64 x4, .int .i64 x5, .int .i64 x6, .string (strOf x7), .string (strOf n0), .string (strOf n1), .string (strOf n2), .string (strOf l0), .string (strOf l1), .int .i64 l2, .int .i64 l3, .int .i64 l4, .int .i64 l5, .string (strOf l6), .slice y1 cs.length y2]) ?_ ?_ (HTH.out _ _ ?_) HI2.out HONE.out ?_); rfl; rfl; rfl; rfl; rfl))
      generalize (wr.alloc (.cells #[.int .i64 0, .string { data := #[] }, .string { data := #[] }, .int .i64 0, .int .i64 0, .int .i64 0, .int .i64 0, .string { data := #[] }, .string { data := #[] }, .string { data := #[] }, .string { data := #[] }, .string { data := #[] }, .string { data := #[] }, .int .i64 0, .int .i64 0, .int .i64 0, .int .i64 0, .string { data := #[] }, .slice none 0 0] 108)).setCells wr.heap.size 0 [.int .i64 x0, .string (strOf x1), .string (strOf x2), .int .i64 x3, .int .i64 x4, .int .i64 x5, .int .i64 x6, .string (strOf x7), .string (strOf n0), .string (strOf n1), .string (strOf n2), .string (strOf l0), .string (strOf l1), .int .i64 l2, .int .i64 l3, .int .i64 l4, .int .i64 l5, .string (strOf l6), .slice y1 cs.length y2] = W at HMADE HFRESH ⊢
      clear HTH HONE HI HI2 HDR HU HRG
      have RA0 : Hid (W.drew.rangeAt wr.heap.size 0 [.int .i64 x0, .string (strOf x1), .string (strOf x2), .int .i64 x3, .int .i64 x4, .int .i64 x5, .int .i64 x6, .string (strOf x7), .string (strOf n0), .string (strOf n1), .string (strOf n2), .string (strOf l0), .string (strOf l1), .int .i64 l2, .int .i64 l3, .int .i64 l4, .int .i64 l5, .string (strOf l6), .slice y1 cs.length y2]) := hidden HMADE.out.1
      have OA0 : Hid (OwnB w.heap.size W.drew u3 P) := hidden ((HR.out.own.on HFRESH.out (fun _ _ h => h)).on (Upd.drew (M := fun _ => False) _) (fun _ _ h => h))
      have BA0 : Hid (w.heap.size ≤ W.drew.heap.size) := hidden (Nat.le_trans HR.out.nil_upd.size HFRESH.out.size)
      have LA0 : Hid (wr.heap.size < W.drew.heap.size) := hidden HMADE.out.2
      have NA0 : Hid (some wr.heap.size ≠ u3.ownBlock) := hidden (fun h => by have := (HR.out.own.lt _ h.symm).2; omega)
      have EA0 : Hid (Elems tCell (· < w.heap.size) W.drew y1 cs) := hidden ((HEL.out.upd HFRESH.out (fun _ _ h => h)).upd (Upd.drew (M := fun _ => False) _) (fun _ _ h => h))
      have HGR0 : Hid (Below wr.heap.size wr W.drew) := hidden ((HFRESH.out.toBelow (Nat.le_refl _) (fun _ _ h => h)).trans (below_dn (Below.refl _ _) 1))
      have HYC := hidden hy
      clear hy
      have CA0_0 : Hid (W.drew.cell? ⟨wr.heap.size, 0, none⟩ = some (.int .i64 x0) ∧ W.drew.cell? ⟨wr.heap.size, 1, none⟩ = some (.string (strOf x1)) ∧ W.drew.cell? ⟨wr.heap.size, 2, none⟩ = some (.string (strOf x2))) := hidden ⟨RA0.out 0 _ rfl, RA0.out 1 _ rfl, RA0.out 2 _ rfl⟩
      have HA0_0 : Hid ((P).length ≤ 140737488355000) := hidden (by (try simp only [List.length_append]); omega)
      have HA0_1 : Hid ((P ++ encN x0).length + (encT x1).length ≤ 140737488354000) := hidden (by (try simp only [List.length_append]); omega)
      have HA0_2 : Hid ((P ++ encN x0 ++ encT x1).length + (encT x2).length ≤ 140737488354000) := hidden (by (try simp only [List.length_append]); omega)
      go_region_held3 (fun w' => w'.cell? ⟨wr.heap.size, 0, none⟩ = some (.int .i64 x0) ∧ w'.cell? ⟨wr.heap.size, 1, none⟩ = some (.string (strOf x1)) ∧ w'.cell? ⟨wr.heap.size, 2, none⟩ = some (.string (strOf x2))) (first | exact CA0_0.out | exact CA0_1.out | exact CA0_2.out | exact CA0_3.out | go_keep)
        (first
          | (go_at_call 74; (with_reducible refine (refnum w.heap.size u3 (P) x0 _ o0 OA0.out BA0.out HA0_0.out).mono ?_); rintro e wA0_1 ⟨vA0_1, rfl, g1⟩; have GA0_1 := hidden g1; obtain ⟨c9, b9, q9, n9⟩ := Grew.kept OA0.out g1 BA0.out LA0.out NA0.out RA0.out; have RA0_1 := hidden c9; have CA0_1 : Hid (wA0_1.cell? ⟨wr.heap.size, 0, none⟩ = some (.int .i64 x0) ∧ wA0_1.cell? ⟨wr.heap.size, 1, none⟩ = some (.string (strOf x1)) ∧ wA0_1.cell? ⟨wr.heap.size, 2, none⟩ = some (.string (strOf x2))) := hidden ⟨c9 0 _ rfl, c9 1 _ rfl, c9 2 _ rfl⟩; have BA0_1 := hidden b9; have LA0_1 := hidden q9; have NA0_1 := hidden n9; have EA0_1 := hidden ((EA0.out).upd g1.upd (not_own OA0.out)); clear g1 c9 b9 q9 n9)
          | (go_at_call 84; (with_reducible refine (reftext w.heap.size vA0_1 (P ++ encN x0) x1 _ GA0_1.out.own BA0_1.out HA0_1.out).mono ?_); rintro e wA0_2 ⟨vA0_2, rfl, g1⟩; have GA0_2 := hidden g1; obtain ⟨c9, b9, q9, n9⟩ := Grew.kept GA0_1.out.own g1 BA0_1.out LA0_1.out NA0_1.out RA0_1.out; have RA0_2 := hidden c9; have CA0_2 : Hid (wA0_2.cell? ⟨wr.heap.size, 0, none⟩ = some (.int .i64 x0) ∧ wA0_2.cell? ⟨wr.heap.size, 1, none⟩ = some (.string (strOf x1)) ∧ wA0_2.cell? ⟨wr.heap.size, 2, none⟩ = some (.string (strOf x2))) := hidden ⟨c9 0 _ rfl, c9 1 _ rfl, c9 2 _ rfl⟩; have BA0_2 := hidden b9; have LA0_2 := hidden q9; have NA0_2 := hidden n9; have EA0_2 := hidden ((EA0_1.out).upd g1.upd (not_own GA0_1.out.own)); clear g1 c9 b9 q9 n9)
          | (go_at_call 84; (with_reducible refine (reftext w.heap.size vA0_2 (P ++ encN x0 ++ encT x1) x2 _ GA0_2.out.own BA0_2.out HA0_2.out).mono ?_); rintro e w1e ⟨v1e, rfl, g1⟩; have GA0_3 := hidden g1; obtain ⟨c9, b9, q9, n9⟩ := Grew.kept GA0_2.out.own g1 BA0_2.out LA0_2.out NA0_2.out RA0_2.out; have RA0_3 := hidden c9; have CA0_3 : Hid (w1e.cell? ⟨wr.heap.size, 0, none⟩ = some (.int .i64 x0) ∧ w1e.cell? ⟨wr.heap.size, 1, none⟩ = some (.string (strOf x1)) ∧ w1e.cell? ⟨wr.heap.size, 2, none⟩ = some (.string (strOf x2))) := hidden ⟨c9 0 _ rfl, c9 1 _ rfl, c9 2 _ rfl⟩; have BA0_3 := hidden b9; have LA0_3 := hidden q9; have NA0_3 := hidden n9; have EA0_3 := hidden ((EA0_2.out).upd g1.upd (not_own GA0_2.out.own)); clear g1 c9 b9 q9 n9)
          | fail)
      go_wp2_with fail
      have RA1 : Hid (w1e.drew.rangeAt wr.heap.size 0 [.int .i64 x0, .string (strOf x1), .string (strOf x2), .int .i64 x3, .int .i64 x4, .int .i64 x5, .int .i64 x6, .string (strOf x7), .string (strOf n0), .string (strOf n1), .string (strOf n2), .string (strOf l0), .string (strOf l1), .int .i64 l2, .int .i64 l3, .int .i64 l4, .int .i64 l5, .string (strOf l6), .slice y1 cs.length y2]) := hidden RA0_3.out
      have OA1 : Hid (OwnB w.heap.size w1e.drew v1e (P ++ encN x0 ++ encT x1 ++ encT x2)) := hidden (GA0_3.out.own.on (Upd.drew (M := fun _ => False) _) (fun _ _ h => h))
      have BA1 : Hid (w.heap.size ≤ w1e.drew.heap.size) := hidden BA0_3.out
      have LA1 : Hid (wr.heap.size < w1e.drew.heap.size) := hidden LA0_3.out
      have NA1 : Hid (some wr.heap.size ≠ v1e.ownBlock) := hidden NA0_3.out
      have EA1 : Hid (Elems tCell (· < w.heap.size) w1e.drew y1 cs) := hidden (EA0_3.out.upd (Upd.drew (M := fun _ => False) _) (fun _ _ h => h))
      have HGR1 : Hid (Below w1e.heap.size w1e w1e.drew) := hidden (below_dn (Below.refl _ _) 1)
      have CA1_0 : Hid (w1e.drew.cell? ⟨wr.heap.size, 3, none⟩ = some (.int .i64 x3) ∧ w1e.drew.cell? ⟨wr.heap.size, 4, none⟩ = some (.int .i64 x4) ∧ w1e.drew.cell? ⟨wr.heap.size, 5, none⟩ = some (.int .i64 x5) ∧ w1e.drew.cell? ⟨wr.heap.size, 6, none⟩ = some (.int .i64 x6)) := hidden ⟨RA1.out 3 _ rfl, RA1.out 4 _ rfl, RA1.out 5 _ rfl, RA1.out 6 _ rfl⟩
      have HA1_0 : Hid ((P ++ encN x0 ++ encT x1 ++ encT x2).length ≤ 140737488355000) := hidden (by (try simp only [List.length_append]); omega)
      have HA1_1 : Hid ((P ++ encN x0 ++ encT x1 ++ encT x2 ++ encN x3).length ≤ 140737488355000) := hidden (by (try simp only [List.length_append]); omega)
      have HA1_2 : Hid ((P ++ encN x0 ++ encT x1 ++ encT x2 ++ encN x3 ++ encN x4).length ≤ 140737488355000) := hidden (by (try simp only [List.length_append]); omega)
      have HA1_3 : Hid ((P ++ encN x0 ++ encT x1 ++ encT x2 ++ encN x3 ++ encN x4 ++ encN x5).length ≤ 140737488355000) := hidden (by (try simp only [List.length_append]); omega)
      go_region_held3 (fun w' => w'.cell? ⟨wr.heap.size, 3, none⟩ = some (.int .i64 x3) ∧ w'.cell? ⟨wr.heap.size, 4, none⟩ = some (.int .i64 x4) ∧ w'.cell? ⟨wr.heap.size, 5, none⟩ = some (.int .i64 x5) ∧ w'.cell? ⟨wr.heap.size, 6, none⟩ = some (.int .i64 x6)) (first | exact CA1_0.out | exact CA1_1.out | exact CA1_2.out | exact CA1_3.out | exact CA1_4.out | go_keep)
        (first
          | (go_at_call 74; (with_reducible refine (refnum w.heap.size v1e (P ++ encN x0 ++ encT x1 ++ encT x2) x3 _ o3 OA1.out BA1.out HA1_0.out).mono ?_); rintro e wA1_1 ⟨vA1_1, rfl, g1⟩; have GA1_1 := hidden g1; obtain ⟨c9, b9, q9, n9⟩ := Grew.kept OA1.out g1 BA1.out LA1.out NA1.out RA1.out; have RA1_1 := hidden c9; have CA1_1 : Hid (wA1_1.cell? ⟨wr.heap.size, 3, none⟩ = some (.int .i64 x3) ∧ wA1_1.cell? ⟨wr.heap.size, 4, none⟩ = some (.int .i64 x4) ∧ wA1_1.cell? ⟨wr.heap.size, 5, none⟩ = some (.int .i64 x5) ∧ wA1_1.cell? ⟨wr.heap.size, 6, none⟩ = some (.int .i64 x6)) := hidden ⟨c9 3 _ rfl, c9 4 _ rfl, c9 5 _ rfl, c9 6 _ rfl⟩; have BA1_1 := hidden b9; have LA1_1 := hidden q9; have NA1_1 := hidden n9; have EA1_1 := hidden ((EA1.out).upd g1.upd (not_own OA1.out)); clear g1 c9 b9 q9 n9)
          | (go_at_call 74; (with_reducible refine (refnum w.heap.size vA1_1 (P ++ encN x0 ++ encT x1 ++ encT x2 ++ encN x3) x4 _ o4 GA1_1.out.own BA1_1.out HA1_1.out).mono ?_); rintro e wA1_2 ⟨vA1_2, rfl, g1⟩; have GA1_2 := hidden g1; obtain ⟨c9, b9, q9, n9⟩ := Grew.kept GA1_1.out.own g1 BA1_1.out LA1_1.out NA1_1.out RA1_1.out; have RA1_2 := hidden c9; have CA1_2 : Hid (wA1_2.cell? ⟨wr.heap.size, 3, none⟩ = some (.int .i64 x3) ∧ wA1_2.cell? ⟨wr.heap.size, 4, none⟩ = some (.int .i64 x4) ∧ wA1_2.cell? ⟨wr.heap.size, 5, none⟩ = some (.int .i64 x5) ∧ wA1_2.cell? ⟨wr.heap.size, 6, none⟩ = some (.int .i64 x6)) := hidden ⟨c9 3 _ rfl, c9 4 _ rfl, c9 5 _ rfl, c9 6 _ rfl⟩; have BA1_2 := hidden b9; have LA1_2 := hidden q9; have NA1_2 := hidden n9; have EA1_2 := hidden ((EA1_1.out).upd g1.upd (not_own GA1_1.out.own)); clear g1 c9 b9 q9 n9)
          | (go_at_call 74; (with_reducible refine (refnum w.heap.size vA1_2 (P ++ encN x0 ++ encT x1 ++ encT x2 ++ encN x3 ++ encN x4) x5 _ o5 GA1_2.out.own BA1_2.out HA1_2.out).mono ?_); rintro e wA1_3 ⟨vA1_3, rfl, g1⟩; have GA1_3 := hidden g1; obtain ⟨c9, b9, q9, n9⟩ := Grew.kept GA1_2.out.own g1 BA1_2.out LA1_2.out NA1_2.out RA1_2.out; have RA1_3 := hidden c9; have CA1_3 : Hid (wA1_3.cell? ⟨wr.heap.size, 3, none⟩ = some (.int .i64 x3) ∧ wA1_3.cell? ⟨wr.heap.size, 4, none⟩ = some (.int .i64 x4) ∧ wA1_3.cell? ⟨wr.heap.size, 5, none⟩ = some (.int .i64 x5) ∧ wA1_3.cell? ⟨wr.heap.size, 6, none⟩ = some (.int .i64 x6)) := hidden ⟨c9 3 _ rfl, c9 4 _ rfl, c9 5 _ rfl, c9 6 _ rfl⟩; have BA1_3 := hidden b9; have LA1_3 := hidden q9; have NA1_3 := hidden n9; have EA1_3 := hidden ((EA1_2.out).upd g1.upd (not_own GA1_2.out.own)); clear g1 c9 b9 q9 n9)
          | (go_at_call 74; (with_reducible refine (refnum w.heap.size vA1_3 (P ++ encN x0 ++ encT x1 ++ encT x2 ++ encN x3 ++ encN x4 ++ encN x5) x6 _ o6 GA1_3.out.own BA1_3.out HA1_3.out).mono ?_); rintro e w2e ⟨v2e, rfl, g1⟩; have GA1_4 := hidden g1; obtain ⟨c9, b9, q9, n9⟩ := Grew.kept GA1_3.out.own g1 BA1_3.out LA1_3.out NA1_3.out RA1_3.out; have RA1_4 := hidden c9; have CA1_4 : Hid (w2e.cell? ⟨wr.heap.size, 3, none⟩ = some (.int .i64 x3) ∧ w2e.cell? ⟨wr.heap.size, 4, none⟩ = some (.int .i64 x4) ∧ w2e.cell? ⟨wr.heap.size, 5, none⟩ = some (.int .i64 x5) ∧ w2e.cell? ⟨wr.heap.size, 6, none⟩ = some (.int .i64 x6)) := hidden ⟨c9 3 _ rfl, c9 4 _ rfl, c9 5 _ rfl, c9 6 _ rfl⟩; have BA1_4 := hidden b9; have LA1_4 := hidden q9; have NA1_4 := hidden n9; have EA1_4 := hidden ((EA1_3.out).upd g1.upd (not_own GA1_3.out.own)); clear g1 c9 b9 q9 n9)
          | fail)
      go_wp2_with fail
      have RA2 : Hid (w2e.drew.rangeAt wr.heap.size 0 [.int .i64 x0, .string (strOf x1), .string (strOf x2), .int .i64 x3, .int .i64 x4, .int .i64 x5, .int .i64 x6, .string (strOf x7), .string (strOf n0), .string (strOf n1), .string (strOf n2), .string (strOf l0), .string (strOf l1), .int .i64 l2, .int .i64 l3, .int .i64 l4, .int .i64 l5, .string (strOf l6), .slice y1 cs.length y2]) := hidden RA1_4.out
      have OA2 : Hid (OwnB w.heap.size w2e.drew v2e (P ++ encN x0 ++ encT x1 ++ encT x2 ++ encN x3 ++ encN x4 ++ encN x5 ++ encN x6)) := hidden (GA1_4.out.own.on (Upd.drew (M := fun _ => False) _) (fun _ _ h => h))
      have BA2 : Hid (w.heap.size ≤ w2e.drew.heap.size) := hidden BA1_4.out
      have LA2 : Hid (wr.heap.size < w2e.drew.heap.size) := hidden LA1_4.out
      have NA2 : Hid (some wr.heap.size ≠ v2e.ownBlock) := hidden NA1_4.out
      have EA2 : Hid (Elems tCell (· < w.heap.size) w2e.drew y1 cs) := hidden (EA1_4.out.upd (Upd.drew (M := fun _ => False) _) (fun _ _ h => h))
      have HGR2 : Hid (Below w2e.heap.size w2e w2e.drew) := hidden (below_dn (Below.refl _ _) 1)
      have CA2_0 : Hid (w2e.drew.cell? ⟨wr.heap.size, 7, none⟩ = some (.string (strOf x7)) ∧ w2e.drew.cell? ⟨wr.heap.size, 8, none⟩ = some (.string (strOf n0)) ∧ w2e.drew.cell? ⟨wr.heap.size, 9, none⟩ = some (.string (strOf n1)) ∧ w2e.drew.cell? ⟨wr.heap.size, 10, none⟩ = some (.string (strOf n2)) ∧ w2e.drew.cell? ⟨wr.heap.size, 11, none⟩ = some (.string (strOf l0)) ∧ w2e.drew.cell? ⟨wr.heap.size, 12, none⟩ = some (.string (strOf l1)) ∧ w2e.drew.cell? ⟨wr.heap.size, 13, none⟩ = some (.int .i64 l2) ∧ w2e.drew.cell? ⟨wr.heap.size, 14, none⟩ = some (.int .i64 l3) ∧ w2e.drew.cell? ⟨wr.heap.size, 15, none⟩ = some (.int .i64 l4) ∧ w2e.drew.cell? ⟨wr.heap.size, 16, none⟩ = some (.int .i64 l5) ∧ w2e.drew.cell? ⟨wr.heap.size, 17, none⟩ = some (.string (strOf l6)) ∧ w2e.drew.cell? ⟨wr.heap.size, 18, none⟩ = some (.slice y1 cs.length y2)) := hidden ⟨RA2.out 7 _ rfl, RA2.out 8 _ rfl, RA2.out 9 _ rfl, RA2.out 10 _ rfl, RA2.out 11 _ rfl, RA2.out 12 _ rfl, RA2.out 13 _ rfl, RA2.out 14 _ rfl, RA2.out 15 _ rfl, RA2.out 16 _ rfl, RA2.out 17 _ rfl, RA2.out 18 _ rfl⟩
      have HA2_0 : Hid ((P ++ encN x0 ++ encT x1 ++ encT x2 ++ encN x3 ++ encN x4 ++ encN x5 ++ encN x6).length + (encT x7).length ≤ 140737488354000) := hidden (by (try simp only [List.length_append]); omega)
      have HA2_1 : Hid ((P ++ encN x0 ++ encT x1 ++ encT x2 ++ encN x3 ++ encN x4 ++ encN x5 ++ encN x6 ++ encT x7).length + ((encT n0).length + (encT n1).length + (encT n2).length) ≤ 140737488354000) := hidden (by (try simp only [List.length_append]); omega)
      have HA2_2 : Hid ((P ++ encN x0 ++ encT x1 ++ encT x2 ++ encN x3 ++ encN x4 ++ encN x5 ++ encN x6 ++ encT x7 ++ encT n0 ++ encT n1 ++ encT n2).length + ((encT l0).length + (encT l1).length + (encN l2).length + (encN l3).length + (cVal.enc (l4, l5, l6)).length) ≤ 140737488354000) := hidden (by (try simp only [List.length_append]); omega)
      have HA2_3 : Hid ((P ++ encN x0 ++ encT x1 ++ encT x2 ++ encN x3 ++ encN x4 ++ encN x5 ++ encN x6 ++ encT x7 ++ encT n0 ++ encT n1 ++ encT n2 ++ encT l0 ++ encT l1 ++ encN l2 ++ encN l3 ++ cVal.enc (l4, l5, l6)).length + (encL tCell.cod cs).length ≤ 140737488354000) := hidden (by (try simp only [List.length_append]); omega)
      go_region_held3 (fun w' => w'.cell? ⟨wr.heap.size, 7, none⟩ = some (.string (strOf x7)) ∧ w'.cell? ⟨wr.heap.size, 8, none⟩ = some (.string (strOf n0)) ∧ w'.cell? ⟨wr.heap.size, 9, none⟩ = some (.string (strOf n1)) ∧ w'.cell? ⟨wr.heap.size, 10, none⟩ = some (.string (strOf n2)) ∧ w'.cell? ⟨wr.heap.size, 11, none⟩ = some (.string (strOf l0)) ∧ w'.cell? ⟨wr.heap.size, 12, none⟩ = some (.string (strOf l1)) ∧ w'.cell? ⟨wr.heap.size, 13, none⟩ = some (.int .i64 l2) ∧ w'.cell? ⟨wr.heap.size, 14, none⟩ = some (.int .i64 l3) ∧ w'.cell? ⟨wr.heap.size, 15, none⟩ = some (.int .i64 l4) ∧ w'.cell? ⟨wr.heap.size, 16, none⟩ = some (.int .i64 l5) ∧ w'.cell? ⟨wr.heap.size, 17, none⟩ = some (.string (strOf l6)) ∧ w'.cell? ⟨wr.heap.size, 18, none⟩ = some (.slice y1 cs.length y2)) (first | exact CA2_0.out | exact CA2_1.out | exact CA2_2.out | exact CA2_3.out | exact CA2_4.out | go_keep)
        (first
          | (go_at_call 84; (with_reducible refine (reftext w.heap.size v2e (P ++ encN x0 ++ encT x1 ++ encT x2 ++ encN x3 ++ encN x4 ++ encN x5 ++ encN x6) x7 _ OA2.out BA2.out HA2_0.out).mono ?_); rintro e wA2_1 ⟨vA2_1, rfl, g1⟩; have GA2_1 := hidden g1; obtain ⟨c9, b9, q9, n9⟩ := Grew.kept OA2.out g1 BA2.out LA2.out NA2.out RA2.out; have RA2_1 := hidden c9; have CA2_1 : Hid (wA2_1.cell? ⟨wr.heap.size, 7, none⟩ = some (.string (strOf x7)) ∧ wA2_1.cell? ⟨wr.heap.size, 8, none⟩ = some (.string (strOf n0)) ∧ wA2_1.cell? ⟨wr.heap.size, 9, none⟩ = some (.string (strOf n1)) ∧ wA2_1.cell? ⟨wr.heap.size, 10, none⟩ = some (.string (strOf n2)) ∧ wA2_1.cell? ⟨wr.heap.size, 11, none⟩ = some (.string (strOf l0)) ∧ wA2_1.cell? ⟨wr.heap.size, 12, none⟩ = some (.string (strOf l1)) ∧ wA2_1.cell? ⟨wr.heap.size, 13, none⟩ = some (.int .i64 l2) ∧ wA2_1.cell? ⟨wr.heap.size, 14, none⟩ = some (.int .i64 l3) ∧ wA2_1.cell? ⟨wr.heap.size, 15, none⟩ = some (.int .i64 l4) ∧ wA2_1.cell? ⟨wr.heap.size, 16, none⟩ = some (.int .i64 l5) ∧ wA2_1.cell? ⟨wr.heap.size, 17, none⟩ = some (.string (strOf l6)) ∧ wA2_1.cell? ⟨wr.heap.size, 18, none⟩ = some (.slice y1 cs.length y2)) := hidden ⟨c9 7 _ rfl, c9 8 _ rfl, c9 9 _ rfl, c9 10 _ rfl, c9 11 _ rfl, c9 12 _ rfl, c9 13 _ rfl, c9 14 _ rfl, c9 15 _ rfl, c9 16 _ rfl, c9 17 _ rfl, c9 18 _ rfl⟩; have BA2_1 := hidden b9; have LA2_1 := hidden q9; have NA2_1 := hidden n9; have EA2_1 := hidden ((EA2.out).upd g1.upd (not_own OA2.out)); clear g1 c9 b9 q9 n9)
          | (go_at_call 85; (with_reducible refine (refname w.heap.size vA2_1 (P ++ encN x0 ++ encT x1 ++ encT x2 ++ encN x3 ++ encN x4 ++ encN x5 ++ encN x6 ++ encT x7) n0 n1 n2 _ GA2_1.out.own BA2_1.out HA2_1.out).mono ?_); rintro e wA2_2 ⟨vA2_2, rfl, g1⟩; have GA2_2 := hidden g1; obtain ⟨c9, b9, q9, n9⟩ := Grew.kept GA2_1.out.own g1 BA2_1.out LA2_1.out NA2_1.out RA2_1.out; have RA2_2 := hidden c9; have CA2_2 : Hid (wA2_2.cell? ⟨wr.heap.size, 7, none⟩ = some (.string (strOf x7)) ∧ wA2_2.cell? ⟨wr.heap.size, 8, none⟩ = some (.string (strOf n0)) ∧ wA2_2.cell? ⟨wr.heap.size, 9, none⟩ = some (.string (strOf n1)) ∧ wA2_2.cell? ⟨wr.heap.size, 10, none⟩ = some (.string (strOf n2)) ∧ wA2_2.cell? ⟨wr.heap.size, 11, none⟩ = some (.string (strOf l0)) ∧ wA2_2.cell? ⟨wr.heap.size, 12, none⟩ = some (.string (strOf l1)) ∧ wA2_2.cell? ⟨wr.heap.size, 13, none⟩ = some (.int .i64 l2) ∧ wA2_2.cell? ⟨wr.heap.size, 14, none⟩ = some (.int .i64 l3) ∧ wA2_2.cell? ⟨wr.heap.size, 15, none⟩ = some (.int .i64 l4) ∧ wA2_2.cell? ⟨wr.heap.size, 16, none⟩ = some (.int .i64 l5) ∧ wA2_2.cell? ⟨wr.heap.size, 17, none⟩ = some (.string (strOf l6)) ∧ wA2_2.cell? ⟨wr.heap.size, 18, none⟩ = some (.slice y1 cs.length y2)) := hidden ⟨c9 7 _ rfl, c9 8 _ rfl, c9 9 _ rfl, c9 10 _ rfl, c9 11 _ rfl, c9 12 _ rfl, c9 13 _ rfl, c9 14 _ rfl, c9 15 _ rfl, c9 16 _ rfl, c9 17 _ rfl, c9 18 _ rfl⟩; have BA2_2 := hidden b9; have LA2_2 := hidden q9; have NA2_2 := hidden n9; have EA2_2 := hidden ((EA2_1.out).upd g1.upd (not_own GA2_1.out.own)); clear g1 c9 b9 q9 n9)
          | (go_at_call 86; (with_reducible refine (reflink w.heap.size vA2_2 (P ++ encN x0 ++ encT x1 ++ encT x2 ++ encN x3 ++ encN x4 ++ encN x5 ++ encN x6 ++ encT x7 ++ encT n0 ++ encT n1 ++ encT n2) l0 l1 l2 l3 l4 l5 l6 _ p2 p3 p4 p5 GA2_2.out.own BA2_2.out HA2_2.out).mono ?_); rintro e wA2_3 ⟨vA2_3, rfl, g1⟩; have GA2_3 := hidden g1; obtain ⟨c9, b9, q9, n9⟩ := Grew.kept GA2_2.out.own g1 BA2_2.out LA2_2.out NA2_2.out RA2_2.out; have RA2_3 := hidden c9; have CA2_3 : Hid (wA2_3.cell? ⟨wr.heap.size, 7, none⟩ = some (.string (strOf x7)) ∧ wA2_3.cell? ⟨wr.heap.size, 8, none⟩ = some (.string (strOf n0)) ∧ wA2_3.cell? ⟨wr.heap.size, 9, none⟩ = some (.string (strOf n1)) ∧ wA2_3.cell? ⟨wr.heap.size, 10, none⟩ = some (.string (strOf n2)) ∧ wA2_3.cell? ⟨wr.heap.size, 11, none⟩ = some (.string (strOf l0)) ∧ wA2_3.cell? ⟨wr.heap.size, 12, none⟩ = some (.string (strOf l1)) ∧ wA2_3.cell? ⟨wr.heap.size, 13, none⟩ = some (.int .i64 l2) ∧ wA2_3.cell? ⟨wr.heap.size, 14, none⟩ = some (.int .i64 l3) ∧ wA2_3.cell? ⟨wr.heap.size, 15, none⟩ = some (.int .i64 l4) ∧ wA2_3.cell? ⟨wr.heap.size, 16, none⟩ = some (.int .i64 l5) ∧ wA2_3.cell? ⟨wr.heap.size, 17, none⟩ = some (.string (strOf l6)) ∧ wA2_3.cell? ⟨wr.heap.size, 18, none⟩ = some (.slice y1 cs.length y2)) := hidden ⟨c9 7 _ rfl, c9 8 _ rfl, c9 9 _ rfl, c9 10 _ rfl, c9 11 _ rfl, c9 12 _ rfl, c9 13 _ rfl, c9 14 _ rfl, c9 15 _ rfl, c9 16 _ rfl, c9 17 _ rfl, c9 18 _ rfl⟩; have BA2_3 := hidden b9; have LA2_3 := hidden q9; have NA2_3 := hidden n9; have EA2_3 := hidden ((EA2_2.out).upd g1.upd (not_own GA2_2.out.own)); clear g1 c9 b9 q9 n9)
          | (go_at_call 83; (with_reducible refine (refcells w.heap.size vA2_3 (P ++ encN x0 ++ encT x1 ++ encT x2 ++ encN x3 ++ encN x4 ++ encN x5 ++ encN x6 ++ encT x7 ++ encT n0 ++ encT n1 ++ encT n2 ++ encT l0 ++ encT l1 ++ encN l2 ++ encN l3 ++ cVal.enc (l4, l5, l6)) y1 y2 cs _ GA2_3.out.own BA2_3.out HYC.out EA2_3.out HOC.out HA2_3.out HX1.out).mono ?_); rintro e w3e ⟨v3e, rfl, g1⟩; have GA2_4 := hidden g1; obtain ⟨c9, b9, q9, n9⟩ := Grew.kept GA2_3.out.own g1 BA2_3.out LA2_3.out NA2_3.out RA2_3.out; have RA2_4 := hidden c9; have CA2_4 : Hid (w3e.cell? ⟨wr.heap.size, 7, none⟩ = some (.string (strOf x7)) ∧ w3e.cell? ⟨wr.heap.size, 8, none⟩ = some (.string (strOf n0)) ∧ w3e.cell? ⟨wr.heap.size, 9, none⟩ = some (.string (strOf n1)) ∧ w3e.cell? ⟨wr.heap.size, 10, none⟩ = some (.string (strOf n2)) ∧ w3e.cell? ⟨wr.heap.size, 11, none⟩ = some (.string (strOf l0)) ∧ w3e.cell? ⟨wr.heap.size, 12, none⟩ = some (.string (strOf l1)) ∧ w3e.cell? ⟨wr.heap.size, 13, none⟩ = some (.int .i64 l2) ∧ w3e.cell? ⟨wr.heap.size, 14, none⟩ = some (.int .i64 l3) ∧ w3e.cell? ⟨wr.heap.size, 15, none⟩ = some (.int .i64 l4) ∧ w3e.cell? ⟨wr.heap.size, 16, none⟩ = some (.int .i64 l5) ∧ w3e.cell? ⟨wr.heap.size, 17, none⟩ = some (.string (strOf l6)) ∧ w3e.cell? ⟨wr.heap.size, 18, none⟩ = some (.slice y1 cs.length y2)) := hidden ⟨c9 7 _ rfl, c9 8 _ rfl, c9 9 _ rfl, c9 10 _ rfl, c9 11 _ rfl, c9 12 _ rfl, c9 13 _ rfl, c9 14 _ rfl, c9 15 _ rfl, c9 16 _ rfl, c9 17 _ rfl, c9 18 _ rfl⟩; have BA2_4 := hidden b9; have LA2_4 := hidden q9; have NA2_4 := hidden n9; have EA2_4 := hidden ((EA2_3.out).upd g1.upd (not_own GA2_3.out.own)); clear g1 c9 b9 q9 n9)
          | fail)
      go_wp2_with fail
      refine ⟨⟨k + 1, v3e, rfl, by go_num, by omega, ?_⟩, by simp [intOf]; omega⟩
      rw [HXK.out]
      have hfin := HR.out.trans (((((((((((GA0_1.out.ahead HGR0.out).trans GA0_2.out).trans GA0_3.out).trans (GA1_1.out.ahead HGR1.out)).trans GA1_2.out).trans GA1_3.out).trans GA1_4.out).trans (GA2_1.out.ahead HGR2.out)).trans GA2_2.out).trans GA2_3.out).trans GA2_4.out)
      simp only [List.append_assoc] at hfin ⊢
      exact hfin
    · have hk' : k = xs.length := by omega
      subst hk'
      have HF := HR.out
      rw [List.take_length] at HF
      have H4 := hidden HF
      clear HF HR
      go_wp2_with fail
      go_ret
      exact ⟨H4.out.nil_upd.toBelow (Nat.le_refl _) (fun _ _ h => h), u3, rfl, H4.out.own⟩
end Go.Proofs.Ytekmjegeiminnaa
