/- The codec's list of operations, read: its drawn region walked by hand (a load of 19 cells is taken whole). -/
import Derived.Test.YtekmjegeiminnaaD9
import Derived.Deep.RegionLaw
import Derived.Deep.RegionHeld3
namespace Go.Proofs.Ytekmjegeiminnaa
open Go.RowKit
set_option linter.unusedVariables false
set_option linter.unusedSimpArgs false

theorem fold_cellsK : ∀ (us : List Value) (k : Nat) (A : Array Value), k + us.length = A.size → (us.zipIdx k).foldl (fun cs x => cs.setIfInBounds x.snd x.fst) A = (A.toList.take k ++ us).toArray
  | [], k, A, h => by
    have : A.toList.take k = A.toList := List.take_of_length_le (by simp at h; simp; omega)
    simp [this]
  | u :: us, k, A, h => by
    rw [List.zipIdx_cons, List.foldl_cons, fold_cellsK us (k + 1) _ (by simp at h ⊢; omega)]
    have hk : k < A.toList.length := by simp at h ⊢; omega
    simp only [Array.toList_setIfInBounds]
    rw [List.take_succ_eq_append_getElem (by rw [List.length_set]; exact hk), List.take_set_of_le (Nat.le_refl k), List.getElem_set_self, List.append_assoc]
    rfl
theorem fold_cells (us : List Value) (A : Array Value) (h : us.length = A.size) : us.zipIdx.foldl (fun cs x => cs.setIfInBounds x.snd x.fst) A = us.toArray := by
  rw [fold_cellsK us 0 A (by omega)]; simp
theorem str108 : ∃ F, Try.prog.underlying 108 = some (.struct F) := by
  have h : (Try.prog.underlying 108).map (fun d => match d with | .struct _ => true | _ => false) = some true := by kernel_rfl
  cases hu : Try.prog.underlying 108 with
  | none => rw [hu] at h; cases h
  | some d =>
    rw [hu] at h
    cases d <;> first | exact ⟨_, rfl⟩ | (simp at h)
theorem sz108 : (Try.prog.info? 108).map (·.size) = some 19 := by kernel_rfl
theorem und73 : Try.prog.underlying 73 = some (.slice 108) := by kernel_rfl
theorem Try.infoT108 : (Try.prog.info? 108).map (fun i => (i.zero, i.size, i.bytes)) = some (some (.agg #[.int .i64 0, .string ⟨#[]⟩, .string ⟨#[]⟩, .int .i64 0, .int .i64 0, .int .i64 0, .int .i64 0, .string ⟨#[]⟩, .string ⟨#[]⟩, .string ⟨#[]⟩, .string ⟨#[]⟩, .string ⟨#[]⟩, .string ⟨#[]⟩, .int .i64 0, .int .i64 0, .int .i64 0, .int .i64 0, .string ⟨#[]⟩, .slice none 0 0]), 19, 240) := by kernel_rfl
set_option maxRecDepth 100000 in
set_option maxHeartbeats 16000000 in
theorem lop_r (c pb po bb : Nat) (rs : List UInt8) (w : World) (hp : RPre c pb bb rs (fun _ => False) w) (hz : w.cell? ⟨pb, po, none⟩ = some (.slice none 0 0)) :
    Calls Try.prog 115 #[vP c 0, vP pb po, .func (.func 116) #[vP c 0] #[]] w (RPost (tList tOp) c pb po bb rs w) := by
  have hlt := hp.cod.lt
  have hb := hp.blt
  have hpl := hp.var.lt
  have hpc := hp.nc
  have hpb := hp.nb
  have hpf := hp.var.frozen po
  have HP := hidden hp
  clear hp
  go_enter Try.func115, Try.ntmps115
  go_wp2_with fail
  with_reducible refine (count_r c bb rs _ w HP.out.cod hb).mono ?_
  rintro e w1 (⟨n, r0, hdc, rfl, hu, hc1⟩ | ⟨hdc, rfl, hu⟩)
  · have hp1 := hu.cell hz hpc
    have hpf1 := hu.frozen hpl hpf hpc
    have HD := hidden hdc
    have HU := hidden hu
    have HC := hidden hc1
    have hnl : n ≤ 100000000000 := by have := decC_le hdc; have := HP.out.len; omega
    have HR0 : Hid (r0.length ≤ rs.length) := hidden (by have := decC_le hdc; omega)
    clear hdc hu hpf hz
    obtain ⟨a, cap, c0, c1, c2, cf, -⟩ := hc1.facts
    clear hc1
    go_wp2_with fail
    go_loopw [35] (fun s wr => ∃ (k : Nat) (xs : List OpD) (cur : List UInt8) (v : Value), s = .int .i64 k ∧ k ≤ n ∧ xs.length = k ∧ cur.length ≤ rs.length ∧ decL tOp.cod rs = (decM tOp.cod (n - k) cur).map (fun q => (xs ++ q.1, q.2)) ∧ ListT tOp 108 w c pb po bb xs cur v wr) (fun s _ => (n - intOf s).toNat)
    case atStart =>
      have hs : Upd (fun k => k = pb) w1 (w1.setCell ⟨pb, po, none⟩ (.slice none 0 0)) := Upd.set rfl
      exact ⟨0, [], r0, .slice none 0 0, rfl, by omega, rfl, HR0.out, by unfold decL; rw [HD.out]; simp, HC.out.upd hs (by omega) (by omega), World.cell?_setCell_same _ _ _ hp1,
        (Stay.of (HU.out.block pb hpl hpc) po 1).trans (stay_set _ _ _ _) ⟨Nat.le_refl _, Nat.le_refl _⟩ ⟨Nat.le_refl _, Nat.le_refl _⟩, OwnT.nil _ _ _ _, (HU.out.mono (N := fun k => k = c ∨ k = pb) (fun _ _ h => .inl h)).trans hs (fun _ _ h => .inr h)⟩
    case round =>
      clear c0 c1 c2 cf hp1 hpf1
      obtain ⟨k, xs, cur, v, rfl, hk, hxk, hcur, hd, hlr⟩ := hrel
      subst hxk
      have HLR := hidden hlr
      have HDK := hidden hd
      clear hlr hd
      by_cases hkn : xs.length < n
      · go_wp2_with fail
        have HIT : Hid (Calls Try.prog 116 #[vP c 0, vP wr.heap.size 0] (wr.alloc (.cells #[.int .i64 0, .string ⟨#[]⟩, .string ⟨#[]⟩, .int .i64 0, .int .i64 0, .int .i64 0, .int .i64 0, .string ⟨#[]⟩, .string ⟨#[]⟩, .string ⟨#[]⟩, .string ⟨#[]⟩, .string ⟨#[]⟩, .string ⟨#[]⟩, .int .i64 0, .int .i64 0, .int .i64 0, .int .i64 0, .string ⟨#[]⟩, .slice none 0 0] 108)) fun e w' =>
            Upd (fun k => k = c) wr w' ∧ ((∃ x r us, tOp.cod.dec cur = some (x, r) ∧ e = unitE ∧ CodR w' c bb r ∧ wr.heap.size < w'.heap.size ∧ w'.rangeAt wr.heap.size 0 us ∧ tOp.rep (fun k => wr.heap.size < k ∧ k < w'.heap.size) w' us x) ∨ (tOp.cod.dec cur = none ∧ e = .panicked wrongP))) :=
          hidden (item_r op_R HLR.out.cod (Nat.lt_of_lt_of_le hb HLR.out.upd.size) (by have := HP.out.len; omega) 108)
        with_reducible refine HIT.out.mono ?_
        rintro e w2 ⟨hU2, ⟨x, r, us, hm, rfl, hcw, hsz, hrg, hrep⟩ | ⟨hm, rfl⟩⟩
        · have hrg0 := hidden hrg
          have hrg1 := hidden hrep
          have hone := tOp.one hrep
          have HM := hidden hm
          have HRr : Hid (r.length ≤ rs.length) := hidden (by have := congrArg List.length (tOp.cod.ed _ _ _ hm).1; rw [List.length_append] at this; omega)
          have LT2 := ListT.on hpl hpc hlt HLR.out hU2 hcw
          have hpz := LT2.cell
          have hpfz := (HP.out.var.stay LT2.stay).frozen po
          have hlv : ∀ k, v.ownBlock = some k → k < wr.heap.size := fun k hk => (HLR.out.own.lt k hk).2
          have hsz2 := LT2.upd.size
          have hUA : Upd (fun _ => False) w2 (w2.alloc (.cells us.toArray 108)).drew := ptrs_new _ _ _
          have HLA : Hid (ListT tOp 108 w c pb po bb xs r v (w2.alloc (.cells us.toArray 108)).drew) := hidden (ListT.on hpl hpc hlt LT2 (hUA.mono (fun _ _ h => h.elim)) (LT2.cod.upd hUA (fun h => h) (fun h => h)))
          have HRN : Hid ((w2.alloc (.cells us.toArray 108)).drew.rangeAt w2.heap.size 0 us) := hidden (by have := ptrs_at (w := w2) (vs := us.toArray) (t := 108) (Upd.refl _ _) rfl; rw [List.toList_toArray] at this; exact this)
          have HRP : Hid (tOp.rep (fun k => w.heap.size ≤ k ∧ k < (w2.alloc (.cells us.toArray 108)).drew.heap.size ∧ some k ≠ v.ownBlock) (w2.alloc (.cells us.toArray 108)).drew us x) := hidden (tOp.mono (tOp.upd hrep hUA (fun _ _ h => h)) (fun k hk => ⟨by have := HLR.out.upd.size; omega, Nat.lt_of_lt_of_le hk.2 hUA.size, fun e => by have := hlv k e.symm; omega⟩))
          have HB : Hid (w.heap.size ≤ (w2.alloc (.cells us.toArray 108)).drew.heap.size) := hidden (Nat.le_trans hsz2 hUA.size)
          have HNP : Hid (¬ some pb = v.ownBlock) := hidden (fun h => by have := (HLR.out.own.lt _ h.symm).1; omega)
          have HN9 : Hid (¬ some wr.heap.size = v.ownBlock) := hidden (fun h => by have := hlv _ h.symm; omega)
          have HUA := hidden hUA
          have HXL : Hid (xs.length ≤ 1000000000000) := hidden (by omega)
          have HXB : Hid ((xs.length + 1) * 240 ≤ 140737488355328) := hidden (by omega)
          have HPF3 : Hid (∀ w3, Upd (fun k => some k = v.ownBlock) (w2.alloc (.cells us.toArray 108)).drew w3 → w3.frozen? ⟨pb, po, none⟩ = false) := hidden (fun w3 h => h.frozen (Nat.lt_of_lt_of_le hpl HB.out) (hUA.frozen (Nat.lt_of_lt_of_le hpl hsz2) hpfz (fun h => h)) HNP.out)
          have HPC3 : Hid (∀ w3, Upd (fun k => some k = v.ownBlock) (w2.alloc (.cells us.toArray 108)).drew w3 → w3.cell? ⟨pb, po, none⟩ = some v) := hidden (fun w3 h => h.cell (hUA.cell hpz (fun h => h)) HNP.out)
          have hpn : pb ≠ w2.heap.size := by omega
          have h9n : wr.heap.size ≠ w2.heap.size := by omega
          have hpl3 : pb < w2.heap.size := by omega
          obtain ⟨i0, hi, hz0, hz1, hz2⟩ := info_parts Try.infoT108
          have HINF := hidden (And.intro hi (And.intro hz0 (And.intro hz1 hz2)))
          obtain ⟨F, hF⟩ := str108
          have hsz19 : (Try.prog.info? 108).map (·.size) = some us.length := by rw [tOp.len hrg1.out]; exact sz108
          have hul19 : us.length = 19 := tOp.len hrg1.out
          have hfold := fold_cells us #[Value.int IntKind.i64 0, Value.string { data := #[] }, Value.string { data := #[] }, Value.int IntKind.i64 0, Value.int IntKind.i64 0, Value.int IntKind.i64 0, Value.int IntKind.i64 0, Value.string { data := #[] }, Value.string { data := #[] }, Value.string { data := #[] }, Value.string { data := #[] }, Value.string { data := #[] }, Value.string { data := #[] }, Value.int IntKind.i64 0, Value.int IntKind.i64 0, Value.int IntKind.i64 0, Value.int IntKind.i64 0, Value.string { data := #[] }, Value.slice none 0 0] (by rw [hul19]; rfl)
          have hwpb : ¬ wr.heap.size = pb := by have := HLR.out.upd.size; omega
          have HRGU : Hid (w2.drew.rangeAt wr.heap.size 0 us) := hidden hrg0.out
          have HRGV : Hid ((w2.alloc (.cells us.toArray 108)).drew.rangeAt wr.heap.size 0 us) := hidden (hUA.range hrg0.out (fun h => h))
          have HRG3 : Hid (∀ w3, Upd (fun k => some k = v.ownBlock) (w2.alloc (.cells us.toArray 108)).drew w3 → w3.rangeAt wr.heap.size 0 us) := hidden (fun w3 h => h.range HRGV.out HN9.out)
          obtain ⟨av, capv, hv⟩ := HLR.out.own.is
          subst hv
          clear hi hz0 hz1 hz2 hm hU2 hcw hrg hrep hUA LT2 hlv hone
          go_wp2_with fail
          refine wp_region_noPanic ?_
          refine wp_region_held_drew (S := fun w' => w'.rangeAt wr.heap.size 0 us) (by kernel_rfl) HRGU.out (fun hH => ?_)
          refine wpAnyH_take (i := 0) (v := vP pb po) rfl (by kernel_rfl) (by kernel_rfl) (by kernel_rfl) (fun _ _ _ h => h) (Or.inl ⟨by rfl, ?_⟩) (by assumption) ?_
          · intro w hSw; go_simp; try (with_reducible rfl)
          simp only [Act.put, List.setIfInBounds_toArray, List.set_cons_zero, List.set_cons_succ]
          refine wpAnyH_take (i := 1) (v := vP pb po) rfl (by kernel_rfl) (by kernel_rfl) (by kernel_rfl) (fun _ _ _ h => h) (Or.inl ⟨by rfl, ?_⟩) (by assumption) ?_
          · intro w hSw; go_simp; try (with_reducible rfl)
          simp only [Act.put, List.setIfInBounds_toArray, List.set_cons_zero, List.set_cons_succ]
          refine wpAnyH_take (i := 2) (v := vP pb po) rfl (by kernel_rfl) (by kernel_rfl) (by kernel_rfl) (fun _ _ _ h => h) (Or.inl ⟨by rfl, ?_⟩) (by assumption) ?_
          · intro w hSw; go_simp; try (with_reducible rfl)
          simp only [Act.put, List.setIfInBounds_toArray, List.set_cons_zero, List.set_cons_succ]
          refine wpAnyH_take (i := 4) (v := .agg us.toArray) rfl (by kernel_rfl) (by kernel_rfl) (by kernel_rfl) (fun _ _ _ h => h) (yieldsIf_load_mid (by rfl) 108 (.tmp 9) rfl wr.heap.size 0 rfl us (.struct F) (fun w h => h) hF rfl hsz19) (by assumption) ?_
          simp only [Act.put, List.setIfInBounds_toArray, List.set_cons_zero, List.set_cons_succ]
          refine wpAnyH_ready (rs := [3, 5]) (by kernel_rfl) (by simp) ?_
          refine AllReadyH.cons rfl (fun K hK => ?_) ?_
          · go_simp
            refine hK.out _ _ (by assumption) (fun hH2 => ?_)
            try simp only [Act.put, List.setIfInBounds_toArray, List.set_cons_zero, List.set_cons_succ]
            clear hK K
            refine wpAnyH_ready (rs := [5]) (by kernel_rfl) (by simp) ?_
            refine AllReadyH.cons rfl (fun K hK => ?_) AllReadyH.nil
            go_simp
            refine hK.out _ _ HRGV.out (fun hH3 => ?_)
            try simp only [Act.put, List.setIfInBounds_toArray, List.set_cons_zero, List.set_cons_succ]
            clear hK K
            refine wpAnyH_ready (rs := [6]) (by kernel_rfl) (by simp) ?_
            refine AllReadyH.cons rfl (fun K hK => ?_) AllReadyH.nil
            refine step_append_T (A := tOp) rfl (.tmp 42) (.tmp 44) 73 rfl und73 HINF.out.1 HINF.out.2.1 HINF.out.2.2.1 HINF.out.2.2.2 rfl (by decide) (B := w.heap.size) (v := .slice av xs.length capv) (xs := xs) (x := x) (by rfl) HLA.out.own (b := w2.heap.size) (c := 1) (by rfl) HRN.out HRP.out HXL.out HXB.out HB.out ?_
            intro v3 w3 g3
            have hpw := HPC3.out w3 g3.upd
            have hpfw := HPF3.out w3 g3.upd
            have hrg3 := HRG3.out w3 g3.upd
            have G3 := hidden g3
            obtain ⟨a3, cap3, rfl⟩ := g3.own.is
            clear g3
            have hrg4 : Hid (∀ u, (w3.setCell ⟨pb, po, none⟩ u).rangeAt wr.heap.size 0 us) := hidden (fun u => (Upd.set (M := fun k => k = pb) rfl).range hrg3 hwpb)
            refine hK.out _ _ hrg3 (fun hH4 => ?_)
            try simp only [Act.put, List.setIfInBounds_toArray, List.set_cons_zero, List.set_cons_succ]
            clear hK K
            refine wpAnyH_ready (rs := [7]) (by kernel_rfl) (by simp) ?_
            refine AllReadyH.cons rfl (fun K hK => ?_) AllReadyH.nil
            go_simp
            refine hK.out _ _ hrg3 (fun hH5 => ?_)
            try simp only [Act.put, List.setIfInBounds_toArray, List.set_cons_zero, List.set_cons_succ]
            clear hK K
            refine wpAnyH_ready (rs := [8]) (by kernel_rfl) (by simp) ?_
            refine AllReadyH.cons rfl (fun K hK => ?_) AllReadyH.nil
            go_simp
            refine hK.out _ _ (hrg4.out _) (fun hH6 => ?_)
            clear hK K
            refine wpAnyH_done (by kernel_rfl) ?_ _
            refine NoPanic.normal ?_
            go_wp2_with fail
            have HL3 := hidden (ListT.step (po := po) hlt hb hpl hpc hpb HLA.out G3.out)
            refine ⟨⟨xs.length + 1, xs ++ [x], r, .slice a3 (xs ++ [x]).length cap3, by go_num, by omega, by simp, HRr.out, ?_, ?_⟩, by simp [intOf]; omega⟩
            · rw [HDK.out, show n - xs.length = (n - (xs.length + 1)) + 1 by omega, decM, HM.out]
              simp only [Option.bind_some, Option.map_map]
              congr 1
              funext q
              simp
            · have hl3 := HL3.out
              rw [show (xs ++ [x]).length = xs.length + 1 by simp] at hl3 ⊢
              exact hl3
          · refine AllReadyH.cons rfl (fun K hK => ?_) AllReadyH.nil
            go_simp
            refine hK.out _ _ HRGV.out (fun hH2 => ?_)
            try simp only [Act.put, List.setIfInBounds_toArray, List.set_cons_zero, List.set_cons_succ]
            clear hK K
            refine wpAnyH_ready (rs := [3]) (by kernel_rfl) (by simp) ?_
            refine AllReadyH.cons rfl (fun K hK => ?_) AllReadyH.nil
            go_simp
            refine hK.out _ _ HRGV.out (fun hH3 => ?_)
            try simp only [Act.put, List.setIfInBounds_toArray, List.set_cons_zero, List.set_cons_succ]
            clear hK K
            refine wpAnyH_ready (rs := [6]) (by kernel_rfl) (by simp) ?_
            refine AllReadyH.cons rfl (fun K hK => ?_) AllReadyH.nil
            refine step_append_T (A := tOp) rfl (.tmp 42) (.tmp 44) 73 rfl und73 HINF.out.1 HINF.out.2.1 HINF.out.2.2.1 HINF.out.2.2.2 rfl (by decide) (B := w.heap.size) (v := .slice av xs.length capv) (xs := xs) (x := x) (by rfl) HLA.out.own (b := w2.heap.size) (c := 1) (by rfl) HRN.out HRP.out HXL.out HXB.out HB.out ?_
            intro v3 w3 g3
            have hpw := HPC3.out w3 g3.upd
            have hpfw := HPF3.out w3 g3.upd
            have hrg3 := HRG3.out w3 g3.upd
            have G3 := hidden g3
            obtain ⟨a3, cap3, rfl⟩ := g3.own.is
            clear g3
            have hrg4 : Hid (∀ u, (w3.setCell ⟨pb, po, none⟩ u).rangeAt wr.heap.size 0 us) := hidden (fun u => (Upd.set (M := fun k => k = pb) rfl).range hrg3 hwpb)
            refine hK.out _ _ hrg3 (fun hH4 => ?_)
            try simp only [Act.put, List.setIfInBounds_toArray, List.set_cons_zero, List.set_cons_succ]
            clear hK K
            refine wpAnyH_ready (rs := [7]) (by kernel_rfl) (by simp) ?_
            refine AllReadyH.cons rfl (fun K hK => ?_) AllReadyH.nil
            go_simp
            refine hK.out _ _ hrg3 (fun hH5 => ?_)
            try simp only [Act.put, List.setIfInBounds_toArray, List.set_cons_zero, List.set_cons_succ]
            clear hK K
            refine wpAnyH_ready (rs := [8]) (by kernel_rfl) (by simp) ?_
            refine AllReadyH.cons rfl (fun K hK => ?_) AllReadyH.nil
            go_simp
            refine hK.out _ _ (hrg4.out _) (fun hH6 => ?_)
            clear hK K
            refine wpAnyH_done (by kernel_rfl) ?_ _
            refine NoPanic.normal ?_
            go_wp2_with fail
            have HL3 := hidden (ListT.step (po := po) hlt hb hpl hpc hpb HLA.out G3.out)
            refine ⟨⟨xs.length + 1, xs ++ [x], r, .slice a3 (xs ++ [x]).length cap3, by go_num, by omega, by simp, HRr.out, ?_, ?_⟩, by simp [intOf]; omega⟩
            · rw [HDK.out, show n - xs.length = (n - (xs.length + 1)) + 1 by omega, decM, HM.out]
              simp only [Option.bind_some, Option.map_map]
              congr 1
              funext q
              simp
            · have hl3 := HL3.out
              rw [show (xs ++ [x]).length = xs.length + 1 by simp] at hl3 ⊢
              exact hl3
        · have h0 : Hid (decL tOp.cod rs = none) := by
            show _ = _; rw [HDK.out, show n - xs.length = (n - (xs.length + 1)) + 1 by omega, decM, hm]; rfl
          have HU4 : Hid (Upd (fun k => k = c ∨ k = pb) w w2) := hidden (HLR.out.upd.trans hU2 (fun _ _ h => .inl h))
          have HST : Hid (Stay w w2 pb po 1) := hidden (HLR.out.stay.trans (Stay.of (hU2.block pb (Nat.lt_of_lt_of_le hpl HLR.out.upd.size) hpc) po 1) ⟨Nat.le_refl _, Nat.le_refl _⟩ ⟨Nat.le_refl _, Nat.le_refl _⟩)
          clear hU2 hm
          go_wp2_with fail
          exact bodyPost_panic ⟨HU4.out, HST.out, .inr ⟨h0.out, rfl⟩⟩ rfl
      · have hkn' : xs.length = n := by omega
        subst hkn'
        have h0 : Hid (decL tOp.cod rs = some (xs, cur)) := by show _ = _; rw [HDK.out, Nat.sub_self, decM]; simp
        go_wp2_with fail
        refine ⟨rfl, .tuple #[], by simp [results, Try.results115, go_sem], ?_⟩
        exact ⟨HLR.out.upd, HLR.out.stay, .inl ⟨xs, cur, h0.out, rfl, HLR.out.cod, [v], range_one.2 HLR.out.cell, HLR.out.own.rep⟩⟩
  · have h0 : Hid (decL tOp.cod rs = none) := by show _ = _; unfold decL; rw [hdc]; rfl
    have HU := hidden hu
    have HST := hidden (Stay.of (hu.block pb hpl hpc) po 1)
    clear hu hdc hz
    go_wp2_with fail
    exact bodyPost_panic ⟨HU.out.mono (fun _ _ h => .inl h), HST.out, .inr ⟨h0.out, rfl⟩⟩ rfl
theorem lop_R : RFun 115 (some 116) (tList tOp) := by
  intro c pb po bb rs w hp hz
  exact lop_r c pb po bb rs w hp (range_one.1 hz)

end Go.Proofs.Ytekmjegeiminnaa
