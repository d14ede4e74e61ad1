/- The codec's lists, walked: both modes. Printed by gen_l.py. -/
import Derived.Test.YtekmjegeiminnaaD5
import Derived.Deep.RegionLaw
namespace Go.Proofs.Ytekmjegeiminnaa
open Go.RowKit
set_option linter.unusedVariables false
set_option linter.unusedSimpArgs false

theorem row105 : ((Try.prog.underlying 105).map TypeDesc.isRow, (Try.prog.info? 105).map (·.size)) = (some true, some 7) := by kernel_rfl
set_option maxRecDepth 100000 in
set_option maxHeartbeats 8000000 in
theorem llink_w (c pb po : Nat) (a : Option Addr) (cap : Nat) (xs : List LinkD) (v : Value) (bs : List UInt8) (w : World) (hp : WPre c pb v bs (fun _ => False) w) (hc : w.cell? ⟨pb, po, none⟩ = some (.slice a xs.length cap)) (hcap : xs.length ≤ cap) (he : Elems tLink (· < c) w a xs) (hok : ∀ x ∈ xs, tLink.cod.ok x) (hl : bs.length + (encL tLink.cod xs).length ≤ 140737488354000) (hxl : xs.length ≤ 140737488354000) :
    Calls Try.prog 111 #[vP c 0, vP pb po, .func (.func 112) #[vP c 0] #[]] w fun e w' => e = unitE ∧ ∃ v', Wrote c v v' (bs ++ encL tLink.cod xs) w w' := by
  have HP := hidden hp
  have HE := hidden he
  have HOK := hidden hok
  have HL := hidden hl
  have hle : (encN (xs.length : Int)).length + (encM tLink.cod xs).length = (encL tLink.cod xs).length := by unfold encL; rw [List.length_append]
  have HLE := hidden hle
  clear hp he hok hl hle
  go_enter Try.func111, Try.ntmps111
  go_wp2_with fail
  with_reducible refine (count_w c v bs _ w (by omega) HP.out.cod HP.out.own (by have := HL.out; have := HLE.out; omega)).mono ?_
  rintro e w1 ⟨rfl, v1, hw⟩
  have hc1 := hw.upd.cell hc HP.out.inner.2
  have HW := hidden hw
  obtain ⟨c0, c1, c2, cf⟩ := hw.cod.facts
  clear hw hc
  go_wp2_with fail
  go_loopw [25] (fun s wr => ∃ (k : Nat) (v' : Value), s = .int .i64 k ∧ k ≤ xs.length ∧ Wrote c v v' (bs ++ encN xs.length ++ encM tLink.cod (xs.take k)) w wr) (fun s _ => (xs.length - intOf s).toNat)
  case atStart => exact ⟨0, v1, rfl, by omega, by simpa [encM] using HW.out⟩
  case round =>
    obtain ⟨k, v', rfl, hk, hr⟩ := hrel
    have HR := hidden hr
    clear hr c0 c1 c2 cf hc1
    by_cases hlt : k < xs.length
    · obtain ⟨b, o, us, rfl, hS, hrg, hrep⟩ := (HE.out.upd HR.out.upd HP.out.inner.1) k hlt
      have hxk : xs.take (k + 1) = xs.take k ++ [xs[k]] := by rw [List.take_succ_eq_append_getElem hlt]
      have hxok := HOK.out _ (List.getElem_mem hlt)
      generalize xs[k] = x at hrep hxk hxok
      have HXK : Hid (bs ++ encN xs.length ++ encM tLink.cod (xs.take (k + 1)) = bs ++ encN xs.length ++ encM tLink.cod (xs.take k) ++ tLink.cod.enc x) := by
        show _ = _; rw [hxk, encM_append, encM_one]; simp only [List.append_assoc]
      have hlen : (bs ++ encN (xs.length : Int) ++ encM tLink.cod (xs.take k)).length + (tLink.cod.enc x).length ≤ 140737488354000 := by
        have h1 := encM_take_le tLink.cod xs (k + 1)
        rw [hxk, encM_append, encM_one, List.length_append] at h1
        have := HL.out
        have := HLE.out
        rw [List.length_append, List.length_append]; omega
      have HIT : Hid (∀ (vs : Array Value) t, vs.size = 7 → Calls Try.prog 112 #[vP c 0, vP wr.heap.size 0] ((wr.alloc (.cells vs t)).setCells wr.heap.size 0 us) fun e w' => e = unitE ∧ ∃ v2, Wrote c v' v2 (bs ++ encN xs.length ++ encM tLink.cod (xs.take k) ++ tLink.cod.enc x) wr w') :=
        hidden (fun vs t h => item_w link_W HR.out.cod HR.out.own hrep hxok hlen vs t h)
      have HRG : Hid (wr.rangeAt b (o + k * 7) us) := hidden hrg
      obtain ⟨d, hu, hd, hi⟩ := row_of row105
      have hul : us.length = 7 := tLink.len hrep
      have HU := hidden hu
      have HDR := hidden hd
      have HI : Hid ((Try.prog.info? 105).map (·.size) = some us.length) := hidden (by rw [hul]; exact hi)
      have HI2 : Hid ((Try.prog.info? 105).map (·.size) = some us.toArray.size) := hidden (by rw [List.size_toArray]; exact HI.out)
      have HONE := hidden (all_oneCell_toArray (tLink.one hrep))
      have hus : 7 = us.toArray.size := by rw [List.size_toArray]; exact hul.symm
      have HTH : Hid (∀ (vs : Array Value) t, vs.size = 7 → (wr.alloc (.cells vs t)).there wr.heap.size 0 us.toArray.size) := hidden (fun vs t h => by rw [← hus, ← h]; exact there_new wr vs t)
      have ltc := HR.out.cod.lt
      clear hu hd hi hul hus hrg hrep hxok hxk hlen
      go_wp2_with (first
        | ((with_reducible refine wpList_load_mid (op := ⟨some 28, .load 105 (.tmp 27), _, _, _, _⟩) ?_ 105 (.tmp 27) ?_ b (o + k * 7) ?_ us d HRG.out HU.out HDR.out HI.out ?_); rfl; rfl; rfl)
        | ((with_reducible refine wpList_store_mid (op := ⟨none, .store 105 (.tmp 8) (.tmp 28), _, _, _, _⟩) ?_ 105 (.tmp 8) (.tmp 28) ?_ wr.heap.size 0 us.toArray ?_ ?_ (HTH.out _ _ ?_) HI2.out HONE.out ?_); rfl; rfl; rfl; rfl; rfl))
      (with_reducible refine (HIT.out _ _ ?_).mono ?_)
      · rfl
      rintro e w2 ⟨rfl, v2, hw2⟩
      have HW2 := hidden (HR.out.trans hw2)
      clear hw2
      go_wp2_with fail
      exact ⟨⟨k + 1, v2, by go_num, by omega, by rw [HXK.out]; exact HW2.out⟩, by simp [intOf]; omega⟩
    · have hk' : k = xs.length := by omega
      subst hk'
      have HF := HR.out
      rw [List.take_length, List.append_assoc] at HF
      have HF2 := hidden HF
      clear HF
      go_wp2_with fail
      exact ⟨rfl, .tuple #[], by simp [results, Try.results111, go_sem], rfl, v', HF2.out⟩
theorem llink_W : WFun 111 (some 112) (tList tLink) := by
  intro c pb po v bs x w hp ha ho hl
  obtain ⟨vs, h1, a, cap, rfl, h2, h3, h4⟩ := ha
  have hge := encM_ge tLink.cod x
  have hle : (encN (x.length : Int)).length + (encM tLink.cod x).length = (encL tLink.cod x).length := by unfold encL; rw [List.length_append]
  have hl' : bs.length + (encL tLink.cod x).length ≤ 140737488354000 := hl
  exact llink_w c pb po a cap x v bs w hp (range_one.1 h1) h2 h4 ho.2 hl (by omega)

theorem und66 : Try.prog.underlying 66 = some (.slice 105) := by kernel_rfl
theorem Try.infoT105 : (Try.prog.info? 105).map (fun i => (i.zero, i.size, i.bytes)) = some (some (.agg #[.string ⟨#[]⟩, .string ⟨#[]⟩, .int .i64 0, .int .i64 0, .int .i64 0, .int .i64 0, .string ⟨#[]⟩]), 7, 80) := by kernel_rfl
set_option maxRecDepth 100000 in
set_option maxHeartbeats 16000000 in
theorem llink_r (c pb po bb : Nat) (rs : List UInt8) (w : World) (hp : RPre c pb bb rs (fun _ => False) w) (hz : w.cell? ⟨pb, po, none⟩ = some (.slice none 0 0)) :
    Calls Try.prog 111 #[vP c 0, vP pb po, .func (.func 112) #[vP c 0] #[]] w (RPost (tList tLink) c pb po bb rs w) := by
  have hlt := hp.cod.lt
  have hb := hp.blt
  have hpl := hp.var.lt
  have hpc := hp.nc
  have hpb := hp.nb
  have hpf := hp.var.frozen po
  have HP := hidden hp
  clear hp
  go_enter Try.func111, Try.ntmps111
  go_wp2_with fail
  with_reducible refine (count_r c bb rs _ w HP.out.cod hb).mono ?_
  rintro e w1 (⟨n, r0, hdc, rfl, hu, hc1⟩ | ⟨hdc, rfl, hu⟩)
  · have hp1 := hu.cell hz hpc
    have hpf1 := hu.frozen hpl hpf hpc
    have HD := hidden hdc
    have HU := hidden hu
    have HC := hidden hc1
    have hnl : n ≤ 100000000000 := by have := decC_le hdc; have := HP.out.len; omega
    have HR0 : Hid (r0.length ≤ rs.length) := hidden (by have := decC_le hdc; omega)
    clear hdc hu hpf hz
    obtain ⟨a, cap, c0, c1, c2, cf, -⟩ := hc1.facts
    clear hc1
    go_wp2_with fail
    go_loopw [35] (fun s wr => ∃ (k : Nat) (xs : List LinkD) (cur : List UInt8) (v : Value), s = .int .i64 k ∧ k ≤ n ∧ xs.length = k ∧ cur.length ≤ rs.length ∧ decL tLink.cod rs = (decM tLink.cod (n - k) cur).map (fun q => (xs ++ q.1, q.2)) ∧ ListT tLink 105 w c pb po bb xs cur v wr) (fun s _ => (n - intOf s).toNat)
    case atStart =>
      have hs : Upd (fun k => k = pb) w1 (w1.setCell ⟨pb, po, none⟩ (.slice none 0 0)) := Upd.set rfl
      exact ⟨0, [], r0, .slice none 0 0, rfl, by omega, rfl, HR0.out, by unfold decL; rw [HD.out]; simp, HC.out.upd hs (by omega) (by omega), World.cell?_setCell_same _ _ _ hp1,
        (Stay.of (HU.out.block pb hpl hpc) po 1).trans (stay_set _ _ _ _) ⟨Nat.le_refl _, Nat.le_refl _⟩ ⟨Nat.le_refl _, Nat.le_refl _⟩, OwnT.nil _ _ _ _, (HU.out.mono (N := fun k => k = c ∨ k = pb) (fun _ _ h => .inl h)).trans hs (fun _ _ h => .inr h)⟩
    case round =>
      clear c0 c1 c2 cf hp1 hpf1
      obtain ⟨k, xs, cur, v, rfl, hk, hxk, hcur, hd, hlr⟩ := hrel
      subst hxk
      have HLR := hidden hlr
      have HDK := hidden hd
      clear hlr hd
      by_cases hkn : xs.length < n
      · go_wp2_with fail
        have HIT : Hid (Calls Try.prog 112 #[vP c 0, vP wr.heap.size 0] (wr.alloc (.cells #[.string ⟨#[]⟩, .string ⟨#[]⟩, .int .i64 0, .int .i64 0, .int .i64 0, .int .i64 0, .string ⟨#[]⟩] 105)) fun e w' =>
            Upd (fun k => k = c) wr w' ∧ ((∃ x r us, tLink.cod.dec cur = some (x, r) ∧ e = unitE ∧ CodR w' c bb r ∧ wr.heap.size < w'.heap.size ∧ w'.rangeAt wr.heap.size 0 us ∧ tLink.rep (fun k => wr.heap.size < k ∧ k < w'.heap.size) w' us x) ∨ (tLink.cod.dec cur = none ∧ e = .panicked wrongP))) :=
          hidden (item_r link_R HLR.out.cod (Nat.lt_of_lt_of_le hb HLR.out.upd.size) (by have := HP.out.len; omega) 105)
        with_reducible refine HIT.out.mono ?_
        rintro e w2 ⟨hU2, ⟨x, r, us, hm, rfl, hcw, hsz, hrg, hrep⟩ | ⟨hm, rfl⟩⟩
        · obtain ⟨a0, a1, a2, a3, a4, a5, a6, rfl⟩ : ∃ a0 a1 a2 a3 a4 a5 a6 : Value, us = [a0, a1, a2, a3, a4, a5, a6] := by
            have hul := tLink.len hrep
            match us, hul with
            | [a0, a1, a2, a3, a4, a5, a6], _ => exact ⟨a0, a1, a2, a3, a4, a5, a6, rfl⟩
          have e0 : w2.cell? ⟨wr.heap.size, 0, none⟩ = some a0 := by have := hrg 0 a0 rfl; rw [Nat.zero_add] at this; exact this
          have e1 : w2.cell? ⟨wr.heap.size, 1, none⟩ = some a1 := by have := hrg 1 a1 rfl; rw [Nat.zero_add] at this; exact this
          have e2 : w2.cell? ⟨wr.heap.size, 2, none⟩ = some a2 := by have := hrg 2 a2 rfl; rw [Nat.zero_add] at this; exact this
          have e3 : w2.cell? ⟨wr.heap.size, 3, none⟩ = some a3 := by have := hrg 3 a3 rfl; rw [Nat.zero_add] at this; exact this
          have e4 : w2.cell? ⟨wr.heap.size, 4, none⟩ = some a4 := by have := hrg 4 a4 rfl; rw [Nat.zero_add] at this; exact this
          have e5 : w2.cell? ⟨wr.heap.size, 5, none⟩ = some a5 := by have := hrg 5 a5 rfl; rw [Nat.zero_add] at this; exact this
          have e6 : w2.cell? ⟨wr.heap.size, 6, none⟩ = some a6 := by have := hrg 6 a6 rfl; rw [Nat.zero_add] at this; exact this
          have hone := tLink.one hrep
          have HM := hidden hm
          have HRr : Hid (r.length ≤ rs.length) := hidden (by have := congrArg List.length (tLink.cod.ed _ _ _ hm).1; rw [List.length_append] at this; omega)
          have LT2 := ListT.on hpl hpc hlt HLR.out hU2 hcw
          have hpz := LT2.cell
          have hpfz := (HP.out.var.stay LT2.stay).frozen po
          have hlv : ∀ k, v.ownBlock = some k → k < wr.heap.size := fun k hk => (HLR.out.own.lt k hk).2
          have hsz2 := LT2.upd.size
          have hUA : Upd (fun _ => False) w2 (w2.alloc (.cells #[a0, a1, a2, a3, a4, a5, a6] 105)).drew := ptrs_new _ _ _
          have HLA : Hid (ListT tLink 105 w c pb po bb xs r v (w2.alloc (.cells #[a0, a1, a2, a3, a4, a5, a6] 105)).drew) := hidden (ListT.on hpl hpc hlt LT2 (hUA.mono (fun _ _ h => h.elim)) (LT2.cod.upd hUA (fun h => h) (fun h => h)))
          have HRN : Hid ((w2.alloc (.cells #[a0, a1, a2, a3, a4, a5, a6] 105)).drew.rangeAt w2.heap.size 0 [a0, a1, a2, a3, a4, a5, a6]) := hidden (ptrs_at (Upd.refl _ _) rfl)
          have HRP : Hid (tLink.rep (fun k => w.heap.size ≤ k ∧ k < (w2.alloc (.cells #[a0, a1, a2, a3, a4, a5, a6] 105)).drew.heap.size ∧ some k ≠ v.ownBlock) (w2.alloc (.cells #[a0, a1, a2, a3, a4, a5, a6] 105)).drew [a0, a1, a2, a3, a4, a5, a6] x) := hidden (tLink.mono (tLink.upd hrep hUA (fun _ _ h => h)) (fun k hk => ⟨by have := HLR.out.upd.size; omega, Nat.lt_of_lt_of_le hk.2 hUA.size, fun e => by have := hlv k e.symm; omega⟩))
          have HB : Hid (w.heap.size ≤ (w2.alloc (.cells #[a0, a1, a2, a3, a4, a5, a6] 105)).drew.heap.size) := hidden (Nat.le_trans hsz2 hUA.size)
          have HNP : Hid (¬ some pb = v.ownBlock) := hidden (fun h => by have := (HLR.out.own.lt _ h.symm).1; omega)
          have HN9 : Hid (¬ some wr.heap.size = v.ownBlock) := hidden (fun h => by have := hlv _ h.symm; omega)
          have HUA := hidden hUA
          have HXL : Hid (xs.length ≤ 1000000000000) := hidden (by omega)
          have HXB : Hid ((xs.length + 1) * 80 ≤ 140737488355328) := hidden (by omega)
          have HPF3 : Hid (∀ w3, Upd (fun k => some k = v.ownBlock) (w2.alloc (.cells #[a0, a1, a2, a3, a4, a5, a6] 105)).drew w3 → w3.frozen? ⟨pb, po, none⟩ = false) := hidden (fun w3 h => h.frozen (Nat.lt_of_lt_of_le hpl HB.out) (hUA.frozen (Nat.lt_of_lt_of_le hpl hsz2) hpfz (fun h => h)) HNP.out)
          have HPC3 : Hid (∀ w3, Upd (fun k => some k = v.ownBlock) (w2.alloc (.cells #[a0, a1, a2, a3, a4, a5, a6] 105)).drew w3 → w3.cell? ⟨pb, po, none⟩ = some v) := hidden (fun w3 h => h.cell (hUA.cell hpz (fun h => h)) HNP.out)
          have hpn : pb ≠ w2.heap.size := by omega
          have h9n : wr.heap.size ≠ w2.heap.size := by omega
          have hpl3 : pb < w2.heap.size := by omega
          obtain ⟨i0, hi, hz0, hz1, hz2⟩ := info_parts Try.infoT105
          have HINF := hidden (And.intro hi (And.intro hz0 (And.intro hz1 hz2)))
          obtain ⟨av, capv, hv⟩ := HLR.out.own.is
          subst hv
          clear hi hz0 hz1 hz2 hm hU2 hcw hrg hrep hUA LT2 hlv hone
          go_wp2_with fail
          go_region_law ((refine step_append_T (A := tLink) rfl (.tmp 42) (.tmp 44) 66 rfl und66 HINF.out.1 HINF.out.2.1 HINF.out.2.2.1 HINF.out.2.2.2 rfl (by decide) (B := w.heap.size) (v := .slice av xs.length capv) (xs := xs) (x := x) (by rfl) HLA.out.own (b := w2.heap.size) (c := 1) (by rfl) HRN.out HRP.out HXL.out HXB.out HB.out ?_; intro v3 w3 g3; have hpw := HPC3.out w3 g3.upd; have hpfw := HPF3.out w3 g3.upd; have G3 := hidden g3; obtain ⟨a3, cap3, rfl⟩ := g3.own.is; clear g3))
          all_goals
            go_wp2_with fail
            have HL3 := hidden (ListT.step (po := po) hlt hb hpl hpc hpb HLA.out G3.out)
            refine ⟨⟨xs.length + 1, xs ++ [x], r, .slice a3 (xs ++ [x]).length cap3, by go_num, by omega, by simp, HRr.out, ?_, ?_⟩, by simp [intOf]; omega⟩
            · rw [HDK.out, show n - xs.length = (n - (xs.length + 1)) + 1 by omega, decM, HM.out]
              simp only [Option.bind_some, Option.map_map]
              congr 1
              funext q
              simp
            · have hl3 := HL3.out
              rw [show (xs ++ [x]).length = xs.length + 1 by simp] at hl3 ⊢
              exact hl3
        · have h0 : Hid (decL tLink.cod rs = none) := by
            show _ = _; rw [HDK.out, show n - xs.length = (n - (xs.length + 1)) + 1 by omega, decM, hm]; rfl
          have HU4 : Hid (Upd (fun k => k = c ∨ k = pb) w w2) := hidden (HLR.out.upd.trans hU2 (fun _ _ h => .inl h))
          have HST : Hid (Stay w w2 pb po 1) := hidden (HLR.out.stay.trans (Stay.of (hU2.block pb (Nat.lt_of_lt_of_le hpl HLR.out.upd.size) hpc) po 1) ⟨Nat.le_refl _, Nat.le_refl _⟩ ⟨Nat.le_refl _, Nat.le_refl _⟩)
          clear hU2 hm
          go_wp2_with fail
          exact bodyPost_panic ⟨HU4.out, HST.out, .inr ⟨h0.out, rfl⟩⟩ rfl
      · have hkn' : xs.length = n := by omega
        subst hkn'
        have h0 : Hid (decL tLink.cod rs = some (xs, cur)) := by show _ = _; rw [HDK.out, Nat.sub_self, decM]; simp
        go_wp2_with fail
        refine ⟨rfl, .tuple #[], by simp [results, Try.results111, go_sem], ?_⟩
        exact ⟨HLR.out.upd, HLR.out.stay, .inl ⟨xs, cur, h0.out, rfl, HLR.out.cod, [v], range_one.2 HLR.out.cell, HLR.out.own.rep⟩⟩
  · have h0 : Hid (decL tLink.cod rs = none) := by show _ = _; unfold decL; rw [hdc]; rfl
    have HU := hidden hu
    have HST := hidden (Stay.of (hu.block pb hpl hpc) po 1)
    clear hu hdc hz
    go_wp2_with fail
    exact bodyPost_panic ⟨HU.out.mono (fun _ _ h => .inl h), HST.out, .inr ⟨h0.out, rfl⟩⟩ rfl
theorem llink_R : RFun 111 (some 112) (tList tLink) := by
  intro c pb po bb rs w hp hz
  exact llink_r c pb po bb rs w hp (range_one.1 hz)

end Go.Proofs.Ytekmjegeiminnaa
