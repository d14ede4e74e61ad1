/- The codec's lists, walked: both modes. Printed by gen_l.py. -/
import Derived.Test.YtekmjegeiminnaaD5
import Derived.Deep.RegionLaw
namespace Go.Proofs.Ytekmjegeiminnaa
open Go.RowKit
set_option linter.unusedVariables false
set_option linter.unusedSimpArgs false

theorem row186 : ((Try.prog.underlying 186).map TypeDesc.isRow, (Try.prog.info? 186).map (·.size)) = (some true, some 3) := by kernel_rfl
set_option maxRecDepth 100000 in
set_option maxHeartbeats 8000000 in
theorem lcell_w (c pb po : Nat) (a : Option Addr) (cap : Nat) (xs : List CellD) (v : Value) (bs : List UInt8) (w : World) (hp : WPre c pb v bs (fun _ => False) w) (hc : w.cell? ⟨pb, po, none⟩ = some (.slice a xs.length cap)) (hcap : xs.length ≤ cap) (he : Elems tCell (· < c) w a xs) (hok : ∀ x ∈ xs, tCell.cod.ok x) (hl : bs.length + (encL tCell.cod xs).length ≤ 140737488354000) (hxl : xs.length ≤ 140737488354000) :
    Calls Try.prog 123 #[vP c 0, vP pb po, .func (.func 124) #[vP c 0] #[]] w fun e w' => e = unitE ∧ ∃ v', Wrote c v v' (bs ++ encL tCell.cod xs) w w' := by
  have HP := hidden hp
  have HE := hidden he
  have HOK := hidden hok
  have HL := hidden hl
  have hle : (encN (xs.length : Int)).length + (encM tCell.cod xs).length = (encL tCell.cod xs).length := by unfold encL; rw [List.length_append]
  have HLE := hidden hle
  clear hp he hok hl hle
  go_enter Try.func123, Try.ntmps123
  go_wp2_with fail
  with_reducible refine (count_w c v bs _ w (by omega) HP.out.cod HP.out.own (by have := HL.out; have := HLE.out; omega)).mono ?_
  rintro e w1 ⟨rfl, v1, hw⟩
  have hc1 := hw.upd.cell hc HP.out.inner.2
  have HW := hidden hw
  obtain ⟨c0, c1, c2, cf⟩ := hw.cod.facts
  clear hw hc
  go_wp2_with fail
  go_loopw [25] (fun s wr => ∃ (k : Nat) (v' : Value), s = .int .i64 k ∧ k ≤ xs.length ∧ Wrote c v v' (bs ++ encN xs.length ++ encM tCell.cod (xs.take k)) w wr) (fun s _ => (xs.length - intOf s).toNat)
  case atStart => exact ⟨0, v1, rfl, by omega, by simpa [encM] using HW.out⟩
  case round =>
    obtain ⟨k, v', rfl, hk, hr⟩ := hrel
    have HR := hidden hr
    clear hr c0 c1 c2 cf hc1
    by_cases hlt : k < xs.length
    · obtain ⟨b, o, us, rfl, hS, hrg, hrep⟩ := (HE.out.upd HR.out.upd HP.out.inner.1) k hlt
      have hxk : xs.take (k + 1) = xs.take k ++ [xs[k]] := by rw [List.take_succ_eq_append_getElem hlt]
      have hxok := HOK.out _ (List.getElem_mem hlt)
      generalize xs[k] = x at hrep hxk hxok
      have HXK : Hid (bs ++ encN xs.length ++ encM tCell.cod (xs.take (k + 1)) = bs ++ encN xs.length ++ encM tCell.cod (xs.take k) ++ tCell.cod.enc x) := by
        show _ = _; rw [hxk, encM_append, encM_one]; simp only [List.append_assoc]
      have hlen : (bs ++ encN (xs.length : Int) ++ encM tCell.cod (xs.take k)).length + (tCell.cod.enc x).length ≤ 140737488354000 := by
        have h1 := encM_take_le tCell.cod xs (k + 1)
        rw [hxk, encM_append, encM_one, List.length_append] at h1
        have := HL.out
        have := HLE.out
        rw [List.length_append, List.length_append]; omega
      have HIT : Hid (∀ (vs : Array Value) t, vs.size = 3 → Calls Try.prog 124 #[vP c 0, vP wr.heap.size 0] ((wr.alloc (.cells vs t)).setCells wr.heap.size 0 us) fun e w' => e = unitE ∧ ∃ v2, Wrote c v' v2 (bs ++ encN xs.length ++ encM tCell.cod (xs.take k) ++ tCell.cod.enc x) wr w') :=
        hidden (fun vs t h => item_w cell_W HR.out.cod HR.out.own hrep hxok hlen vs t h)
      have HRG : Hid (wr.rangeAt b (o + k * 3) us) := hidden hrg
      obtain ⟨d, hu, hd, hi⟩ := row_of row186
      have hul : us.length = 3 := tCell.len hrep
      have HU := hidden hu
      have HDR := hidden hd
      have HI : Hid ((Try.prog.info? 186).map (·.size) = some us.length) := hidden (by rw [hul]; exact hi)
      have HI2 : Hid ((Try.prog.info? 186).map (·.size) = some us.toArray.size) := hidden (by rw [List.size_toArray]; exact HI.out)
      have HONE := hidden (all_oneCell_toArray (tCell.one hrep))
      have hus : 3 = us.toArray.size := by rw [List.size_toArray]; exact hul.symm
      have HTH : Hid (∀ (vs : Array Value) t, vs.size = 3 → (wr.alloc (.cells vs t)).there wr.heap.size 0 us.toArray.size) := hidden (fun vs t h => by rw [← hus, ← h]; exact there_new wr vs t)
      have ltc := HR.out.cod.lt
      clear hu hd hi hul hus hrg hrep hxok hxk hlen
      go_wp2_with (first
        | ((with_reducible refine wpList_load_mid (op := ⟨some 28, .load 186 (.tmp 27), _, _, _, _⟩) ?_ 186 (.tmp 27) ?_ b (o + k * 3) ?_ us d HRG.out HU.out HDR.out HI.out ?_); rfl; rfl; rfl)
        | ((with_reducible refine wpList_store_mid (op := ⟨none, .store 186 (.tmp 8) (.tmp 28), _, _, _, _⟩) ?_ 186 (.tmp 8) (.tmp 28) ?_ wr.heap.size 0 us.toArray ?_ ?_ (HTH.out _ _ ?_) HI2.out HONE.out ?_); rfl; rfl; rfl; rfl; rfl))
      (with_reducible refine (HIT.out _ _ ?_).mono ?_)
      · rfl
      rintro e w2 ⟨rfl, v2, hw2⟩
      have HW2 := hidden (HR.out.trans hw2)
      clear hw2
      go_wp2_with fail
      exact ⟨⟨k + 1, v2, by go_num, by omega, by rw [HXK.out]; exact HW2.out⟩, by simp [intOf]; omega⟩
    · have hk' : k = xs.length := by omega
      subst hk'
      have HF := HR.out
      rw [List.take_length, List.append_assoc] at HF
      have HF2 := hidden HF
      clear HF
      go_wp2_with fail
      exact ⟨rfl, .tuple #[], by simp [results, Try.results123, go_sem], rfl, v', HF2.out⟩
theorem lcell_W : WFun 123 (some 124) (tList tCell) := by
  intro c pb po v bs x w hp ha ho hl
  obtain ⟨vs, h1, a, cap, rfl, h2, h3, h4⟩ := ha
  have hge := encM_ge tCell.cod x
  have hle : (encN (x.length : Int)).length + (encM tCell.cod x).length = (encL tCell.cod x).length := by unfold encL; rw [List.length_append]
  have hl' : bs.length + (encL tCell.cod x).length ≤ 140737488354000 := hl
  exact lcell_w c pb po a cap x v bs w hp (range_one.1 h1) h2 h4 ho.2 hl (by omega)

theorem und106 : Try.prog.underlying 106 = some (.slice 186) := by kernel_rfl
theorem Try.infoT186 : (Try.prog.info? 186).map (fun i => (i.zero, i.size, i.bytes)) = some (some (.agg #[.int .i64 0, .int .i64 0, .string ⟨#[]⟩]), 3, 32) := by kernel_rfl
set_option maxRecDepth 100000 in
set_option maxHeartbeats 16000000 in
theorem lcell_r (c pb po bb : Nat) (rs : List UInt8) (w : World) (hp : RPre c pb bb rs (fun _ => False) w) (hz : w.cell? ⟨pb, po, none⟩ = some (.slice none 0 0)) :
    Calls Try.prog 123 #[vP c 0, vP pb po, .func (.func 124) #[vP c 0] #[]] w (RPost (tList tCell) c pb po bb rs w) := by
  have hlt := hp.cod.lt
  have hb := hp.blt
  have hpl := hp.var.lt
  have hpc := hp.nc
  have hpb := hp.nb
  have hpf := hp.var.frozen po
  have HP := hidden hp
  clear hp
  go_enter Try.func123, Try.ntmps123
  go_wp2_with fail
  with_reducible refine (count_r c bb rs _ w HP.out.cod hb).mono ?_
  rintro e w1 (⟨n, r0, hdc, rfl, hu, hc1⟩ | ⟨hdc, rfl, hu⟩)
  · have hp1 := hu.cell hz hpc
    have hpf1 := hu.frozen hpl hpf hpc
    have HD := hidden hdc
    have HU := hidden hu
    have HC := hidden hc1
    have hnl : n ≤ 100000000000 := by have := decC_le hdc; have := HP.out.len; omega
    have HR0 : Hid (r0.length ≤ rs.length) := hidden (by have := decC_le hdc; omega)
    clear hdc hu hpf hz
    obtain ⟨a, cap, c0, c1, c2, cf, -⟩ := hc1.facts
    clear hc1
    go_wp2_with fail
    go_loopw [35] (fun s wr => ∃ (k : Nat) (xs : List CellD) (cur : List UInt8) (v : Value), s = .int .i64 k ∧ k ≤ n ∧ xs.length = k ∧ cur.length ≤ rs.length ∧ decL tCell.cod rs = (decM tCell.cod (n - k) cur).map (fun q => (xs ++ q.1, q.2)) ∧ ListT tCell 186 w c pb po bb xs cur v wr) (fun s _ => (n - intOf s).toNat)
    case atStart =>
      have hs : Upd (fun k => k = pb) w1 (w1.setCell ⟨pb, po, none⟩ (.slice none 0 0)) := Upd.set rfl
      exact ⟨0, [], r0, .slice none 0 0, rfl, by omega, rfl, HR0.out, by unfold decL; rw [HD.out]; simp, HC.out.upd hs (by omega) (by omega), World.cell?_setCell_same _ _ _ hp1,
        (Stay.of (HU.out.block pb hpl hpc) po 1).trans (stay_set _ _ _ _) ⟨Nat.le_refl _, Nat.le_refl _⟩ ⟨Nat.le_refl _, Nat.le_refl _⟩, OwnT.nil _ _ _ _, (HU.out.mono (N := fun k => k = c ∨ k = pb) (fun _ _ h => .inl h)).trans hs (fun _ _ h => .inr h)⟩
    case round =>
      clear c0 c1 c2 cf hp1 hpf1
      obtain ⟨k, xs, cur, v, rfl, hk, hxk, hcur, hd, hlr⟩ := hrel
      subst hxk
      have HLR := hidden hlr
      have HDK := hidden hd
      clear hlr hd
      by_cases hkn : xs.length < n
      · go_wp2_with fail
        have HIT : Hid (Calls Try.prog 124 #[vP c 0, vP wr.heap.size 0] (wr.alloc (.cells #[.int .i64 0, .int .i64 0, .string ⟨#[]⟩] 186)) fun e w' =>
            Upd (fun k => k = c) wr w' ∧ ((∃ x r us, tCell.cod.dec cur = some (x, r) ∧ e = unitE ∧ CodR w' c bb r ∧ wr.heap.size < w'.heap.size ∧ w'.rangeAt wr.heap.size 0 us ∧ tCell.rep (fun k => wr.heap.size < k ∧ k < w'.heap.size) w' us x) ∨ (tCell.cod.dec cur = none ∧ e = .panicked wrongP))) :=
          hidden (item_r cell_R HLR.out.cod (Nat.lt_of_lt_of_le hb HLR.out.upd.size) (by have := HP.out.len; omega) 186)
        with_reducible refine HIT.out.mono ?_
        rintro e w2 ⟨hU2, ⟨x, r, us, hm, rfl, hcw, hsz, hrg, hrep⟩ | ⟨hm, rfl⟩⟩
        · obtain ⟨a0, a1, a2, rfl⟩ : ∃ a0 a1 a2 : Value, us = [a0, a1, a2] := by
            have hul := tCell.len hrep
            match us, hul with
            | [a0, a1, a2], _ => exact ⟨a0, a1, a2, rfl⟩
          have e0 : w2.cell? ⟨wr.heap.size, 0, none⟩ = some a0 := by have := hrg 0 a0 rfl; rw [Nat.zero_add] at this; exact this
          have e1 : w2.cell? ⟨wr.heap.size, 1, none⟩ = some a1 := by have := hrg 1 a1 rfl; rw [Nat.zero_add] at this; exact this
          have e2 : w2.cell? ⟨wr.heap.size, 2, none⟩ = some a2 := by have := hrg 2 a2 rfl; rw [Nat.zero_add] at this; exact this
          have hone := tCell.one hrep
          have HM := hidden hm
          have HRr : Hid (r.length ≤ rs.length) := hidden (by have := congrArg List.length (tCell.cod.ed _ _ _ hm).1; rw [List.length_append] at this; omega)
          have LT2 := ListT.on hpl hpc hlt HLR.out hU2 hcw
          have hpz := LT2.cell
          have hpfz := (HP.out.var.stay LT2.stay).frozen po
          have hlv : ∀ k, v.ownBlock = some k → k < wr.heap.size := fun k hk => (HLR.out.own.lt k hk).2
          have hsz2 := LT2.upd.size
          have hUA : Upd (fun _ => False) w2 (w2.alloc (.cells #[a0, a1, a2] 186)).drew := ptrs_new _ _ _
          have HLA : Hid (ListT tCell 186 w c pb po bb xs r v (w2.alloc (.cells #[a0, a1, a2] 186)).drew) := hidden (ListT.on hpl hpc hlt LT2 (hUA.mono (fun _ _ h => h.elim)) (LT2.cod.upd hUA (fun h => h) (fun h => h)))
          have HRN : Hid ((w2.alloc (.cells #[a0, a1, a2] 186)).drew.rangeAt w2.heap.size 0 [a0, a1, a2]) := hidden (ptrs_at (Upd.refl _ _) rfl)
          have HRP : Hid (tCell.rep (fun k => w.heap.size ≤ k ∧ k < (w2.alloc (.cells #[a0, a1, a2] 186)).drew.heap.size ∧ some k ≠ v.ownBlock) (w2.alloc (.cells #[a0, a1, a2] 186)).drew [a0, a1, a2] x) := hidden (tCell.mono (tCell.upd hrep hUA (fun _ _ h => h)) (fun k hk => ⟨by have := HLR.out.upd.size; omega, Nat.lt_of_lt_of_le hk.2 hUA.size, fun e => by have := hlv k e.symm; omega⟩))
          have HB : Hid (w.heap.size ≤ (w2.alloc (.cells #[a0, a1, a2] 186)).drew.heap.size) := hidden (Nat.le_trans hsz2 hUA.size)
          have HNP : Hid (¬ some pb = v.ownBlock) := hidden (fun h => by have := (HLR.out.own.lt _ h.symm).1; omega)
          have HN9 : Hid (¬ some wr.heap.size = v.ownBlock) := hidden (fun h => by have := hlv _ h.symm; omega)
          have HUA := hidden hUA
          have HXL : Hid (xs.length ≤ 1000000000000) := hidden (by omega)
          have HXB : Hid ((xs.length + 1) * 32 ≤ 140737488355328) := hidden (by omega)
          have HPF3 : Hid (∀ w3, Upd (fun k => some k = v.ownBlock) (w2.alloc (.cells #[a0, a1, a2] 186)).drew w3 → w3.frozen? ⟨pb, po, none⟩ = false) := hidden (fun w3 h => h.frozen (Nat.lt_of_lt_of_le hpl HB.out) (hUA.frozen (Nat.lt_of_lt_of_le hpl hsz2) hpfz (fun h => h)) HNP.out)
          have HPC3 : Hid (∀ w3, Upd (fun k => some k = v.ownBlock) (w2.alloc (.cells #[a0, a1, a2] 186)).drew w3 → w3.cell? ⟨pb, po, none⟩ = some v) := hidden (fun w3 h => h.cell (hUA.cell hpz (fun h => h)) HNP.out)
          have hpn : pb ≠ w2.heap.size := by omega
          have h9n : wr.heap.size ≠ w2.heap.size := by omega
          have hpl3 : pb < w2.heap.size := by omega
          obtain ⟨i0, hi, hz0, hz1, hz2⟩ := info_parts Try.infoT186
          have HINF := hidden (And.intro hi (And.intro hz0 (And.intro hz1 hz2)))
          obtain ⟨av, capv, hv⟩ := HLR.out.own.is
          subst hv
          clear hi hz0 hz1 hz2 hm hU2 hcw hrg hrep hUA LT2 hlv hone
          go_wp2_with fail
          go_region_law ((refine step_append_T (A := tCell) rfl (.tmp 42) (.tmp 44) 106 rfl und106 HINF.out.1 HINF.out.2.1 HINF.out.2.2.1 HINF.out.2.2.2 rfl (by decide) (B := w.heap.size) (v := .slice av xs.length capv) (xs := xs) (x := x) (by rfl) HLA.out.own (b := w2.heap.size) (c := 1) (by rfl) HRN.out HRP.out HXL.out HXB.out HB.out ?_; intro v3 w3 g3; have hpw := HPC3.out w3 g3.upd; have hpfw := HPF3.out w3 g3.upd; have G3 := hidden g3; obtain ⟨a3, cap3, rfl⟩ := g3.own.is; clear g3))
          all_goals
            go_wp2_with fail
            have HL3 := hidden (ListT.step (po := po) hlt hb hpl hpc hpb HLA.out G3.out)
            refine ⟨⟨xs.length + 1, xs ++ [x], r, .slice a3 (xs ++ [x]).length cap3, by go_num, by omega, by simp, HRr.out, ?_, ?_⟩, by simp [intOf]; omega⟩
            · rw [HDK.out, show n - xs.length = (n - (xs.length + 1)) + 1 by omega, decM, HM.out]
              simp only [Option.bind_some, Option.map_map]
              congr 1
              funext q
              simp
            · have hl3 := HL3.out
              rw [show (xs ++ [x]).length = xs.length + 1 by simp] at hl3 ⊢
              exact hl3
        · have h0 : Hid (decL tCell.cod rs = none) := by
            show _ = _; rw [HDK.out, show n - xs.length = (n - (xs.length + 1)) + 1 by omega, decM, hm]; rfl
          have HU4 : Hid (Upd (fun k => k = c ∨ k = pb) w w2) := hidden (HLR.out.upd.trans hU2 (fun _ _ h => .inl h))
          have HST : Hid (Stay w w2 pb po 1) := hidden (HLR.out.stay.trans (Stay.of (hU2.block pb (Nat.lt_of_lt_of_le hpl HLR.out.upd.size) hpc) po 1) ⟨Nat.le_refl _, Nat.le_refl _⟩ ⟨Nat.le_refl _, Nat.le_refl _⟩)
          clear hU2 hm
          go_wp2_with fail
          exact bodyPost_panic ⟨HU4.out, HST.out, .inr ⟨h0.out, rfl⟩⟩ rfl
      · have hkn' : xs.length = n := by omega
        subst hkn'
        have h0 : Hid (decL tCell.cod rs = some (xs, cur)) := by show _ = _; rw [HDK.out, Nat.sub_self, decM]; simp
        go_wp2_with fail
        refine ⟨rfl, .tuple #[], by simp [results, Try.results123, go_sem], ?_⟩
        exact ⟨HLR.out.upd, HLR.out.stay, .inl ⟨xs, cur, h0.out, rfl, HLR.out.cod, [v], range_one.2 HLR.out.cell, HLR.out.own.rep⟩⟩
  · have h0 : Hid (decL tCell.cod rs = none) := by show _ = _; unfold decL; rw [hdc]; rfl
    have HU := hidden hu
    have HST := hidden (Stay.of (hu.block pb hpl hpc) po 1)
    clear hu hdc hz
    go_wp2_with fail
    exact bodyPost_panic ⟨HU.out.mono (fun _ _ h => .inl h), HST.out, .inr ⟨h0.out, rfl⟩⟩ rfl
theorem lcell_R : RFun 123 (some 124) (tList tCell) := by
  intro c pb po bb rs w hp hz
  exact lcell_r c pb po bb rs w hp (range_one.1 hz)

end Go.Proofs.Ytekmjegeiminnaa
