/- The laws' function all, walked. -/
import Derived.Test.YtekmjegeiminnaaJ1
namespace Go.Proofs.Ytekmjegeiminnaa
open Go.RowKit
set_option linter.unusedVariables false
set_option linter.unusedSimpArgs false

abbrev SV := Option Addr × Nat × Nat
def svV (x : SV) : Value := .slice x.1 x.2.1 x.2.2
/-- Slices as they are, whatever they hold. -/
def tSV : Ty SV where
  cod := { enc := fun _ => [0], dec := fun _ => none, ok := fun _ => False, de := fun _ _ h => h.elim, ed := fun _ _ _ h => (by cases h), pos := fun _ => (by simp) }
  sz := 1
  zero := [.slice none 0 0]
  zlen := rfl
  rep := fun _ _ vs x => vs = [svV x]
  len := fun h => by rw [h]; rfl
  upd := fun h _ _ => h
  mono := fun h _ => h
  one := fun h u hu => by rw [h] at hu; simp at hu; subst hu; rfl

theorem Grew.lo {B C : Nat} {v v' : Value} {bs : List UInt8} {w w' : World} (h : Grew B v v' bs w w') (hv : ∀ k, v.ownBlock = some k → C ≤ k) (hC : C ≤ w.heap.size) : ∀ k, v'.ownBlock = some k → C ≤ k := fun k hk => by
  rcases h.at_ with e | ⟨g, e, hg⟩
  · exact hv k (e.symm.trans hk)
  · rw [e] at hk; cases hk; exact Nat.le_trans hC hg

/-! ### The groups that are let in -/
def inStep (ins : List (List OpD)) (g : List OpD) : List (List OpD) := if (groupJ (ins.length + 1) g).2 = 0 ∧ ins.length < 30 ∧ g.length < 30 then ins ++ [g] else ins
def allIn (gss : List (List OpD)) : List (List OpD) := gss.foldl inStep []
theorem allIn_snoc (gss : List (List OpD)) {k : Nat} (h : k < gss.length) : allIn (gss.take (k + 1)) = inStep (allIn (gss.take k)) gss[k] := by
  unfold allIn
  rw [List.take_succ_eq_append_getElem h, List.foldl_append]
  rfl
theorem inStep_len (ins : List (List OpD)) (g : List OpD) (h : ins.length ≤ 30) : (inStep ins g).length ≤ 30 := by
  unfold inStep
  split
  · rename_i hc; simp; omega
  · exact h
theorem inStep_fits {ins : List (List OpD)} {g : List OpD} (hf : FitsJ 0 ins) (hok : tOps.cod.ok g) : FitsJ 0 (inStep ins g) := by
  unfold inStep
  split
  · rename_i hc
    exact FitsJ_snoc hf (groupJ_ok hc.1 hok).1
  · exact hf
theorem allIn_fits (gss : List (List OpD)) (h : ∀ g ∈ gss, tOps.cod.ok g) : ∀ k, k ≤ gss.length → FitsJ 0 (allIn (gss.take k)) ∧ (allIn (gss.take k)).length ≤ 30
  | 0, _ => by simp [allIn, FitsJ]
  | k + 1, hk => by
    obtain ⟨h1, h2⟩ := allIn_fits gss h k (by omega)
    rw [allIn_snoc gss (show k < gss.length by omega)]
    exact ⟨inStep_fits h1 (h _ (List.getElem_mem _)), inStep_len _ _ h2⟩
theorem bodyJ_len : ∀ (gs : List (List OpD)) (k : Nat), FitsJ k gs → (bodyJ k gs).length ≤ 131080 * gs.length
  | [], _, _ => by simp [bodyJ]
  | g :: gs, k, h => by
    have ih := bodyJ_len gs (k + 1) h.2
    have := h.1.2.2
    rw [bodyJ, List.length_append, frameL_length, List.length_cons]
    omega
theorem jourJ_len {id : Int} (hid : I64 id) {gs : List (List OpD)} (h : FitsJ 0 gs) (hl : gs.length ≤ 31) : (jourJ id gs).length ≤ 5000000 := by
  have h1 := bodyJ_len gs 0 h
  have h2 := (head_small hid).2
  unfold jourJ
  rw [List.length_append]
  omega
/-- What all answers. -/
def AllP (id : Int) (gss : List (List OpD)) (w : World) (e : Ending) (w' : World) : Prop :=
  Below w.heap.size w w' ∧ ∃ vb vi, e = .returned (.tuple #[vb, vi]) ∧ OwnB w.heap.size w' vb (jourJ id (allIn gss)) ∧ (tList tOps).rep (· < w'.heap.size) w' [vi] (allIn gss)
theorem rows_rep {B : Nat} {w w' : World} {v : Value} {svs : List SV} {ins : List (List OpD)} (ho : OwnT tSV 73 B w' v svs) (hb : Below w.heap.size w w') (hl : svs.length = ins.length)
    (hr : ∀ i (hi : i < ins.length) (hj : i < svs.length), tOps.rep (· < w.heap.size) w [svV svs[i]] ins[i]) : (tList tOps).rep (· < w'.heap.size) w' [v] ins := by
  obtain ⟨a, cap, he, h1, h2, h3⟩ := ho.rep
  refine ⟨a, cap, by rw [he, hl], by omega, h2, fun i hi => ?_⟩
  obtain ⟨b, o, us, ha, hs, hrg, hus⟩ := h3 i (by omega)
  have hus : us = [svV (svs[i]'(by omega))] := hus
  rw [show tSV.sz = 1 from rfl] at hrg
  subst hus
  exact ⟨b, o, _, ha, hs.2, hrg, rep_on (hr i hi (by omega)) hb⟩

set_option maxRecDepth 100000 in
set_option maxHeartbeats 64000000 in
theorem all_any (id : Int) (a0 : Option Addr) (cap0 : Nat) (gss : List (List OpD)) (w : World) (hid : -9223372036854775808 ≤ id ∧ id ≤ 9223372036854775807) (he : Elems tOps (· < w.heap.size) w a0 gss) (hn : gss.length ≤ 1000) (hok : ∀ g ∈ gss, tOps.cod.ok g ∧ (tOps.cod.enc g).length ≤ 100000000000) :
    Calls Try.prog 66 #[.int .i64 id, .slice a0 gss.length cap0] w (AllP id gss w) := by
  have HE := hidden he
  have HOK := hidden hok
  have HFT := hidden (allIn_fits gss (fun g hg => (hok g hg).1))
  obtain ⟨i0, hi, hz0, hz1, hz2⟩ := info_parts Try.infoT73
  have HINF := hidden (And.intro hi (And.intro hz0 (And.intro hz1 hz2)))
  have HID := hidden hid
  clear hi hz0 hz1 hz2 he hok
  have HBG := hidden (begin_any id w hid)
  clear hid
  go_enter Try.func66, Try.ntmps66
  go_wp2_with fail
  with_reducible refine HBG.out.mono ?_
  rintro e w1 ⟨hb, v, rfl, ho⟩
  have HB1 := hidden hb
  have HO1 : Hid (OwnB w.heap.size w1 v (jourJ id [])) := hidden (by rw [jour_nil]; exact ho)
  clear hb ho HBG
  go_wp2_with fail
  go_loopw [6, 7, 16] (fun s6 s7 s16 wr => ∃ (k : Nat) (ins : List (List OpD)) (svs : List SV) (ab : Option Addr) (cb : Nat) (ai : Option Addr) (ci : Nat), s6 = .slice ab (jourJ id ins).length cb ∧ s7 = .slice ai ins.length ci ∧ s16 = .int .i64 k ∧ k ≤ gss.length ∧ ins = allIn (gss.take k) ∧ svs.length = ins.length ∧ Below w.heap.size w wr ∧ OwnB w.heap.size wr (.slice ab (jourJ id ins).length cb) (jourJ id ins) ∧ OwnT tSV 73 w.heap.size wr (.slice ai ins.length ci) svs ∧ (∀ i (hi : i < ins.length) (hj : i < svs.length), tOps.rep (· < w.heap.size) w [svV svs[i]] ins[i])) (fun _ _ s16 _ => (gss.length - intOf s16).toNat)
  case atStart =>
    obtain ⟨ab, cb, hv, -, -, -⟩ := HO1.out.reads
    have hv2 := hv
    exact ⟨0, [], [], ab, cb, none, 0, hv, rfl, rfl, by omega, by simp [allIn], rfl, HB1.out, by rw [← hv]; exact HO1.out, OwnT.nil _ _ _ _, fun i hi => by simp at hi⟩
  case round =>
    obtain ⟨k, ins, svs, ab, cb, ai, ci, rfl, rfl, rfl, hk, hins, hsl, hb, hob, hoi, hrs⟩ := hrel
    have HINS := hidden hins
    have HSL := hidden hsl
    have HB := hidden hb
    have HOB := hidden hob
    have HOI := hidden hoi
    have HRS := hidden hrs
    obtain ⟨hft, hfl⟩ := HFT.out k hk
    rw [← hins] at hft hfl
    have HF := hidden hft
    have hjl := jourJ_len HID.out hft (by omega)
    clear hins hsl hb hob hoi hrs hft
    by_cases hlt : k < gss.length
    · obtain ⟨b, o, us, rfl, hS, hrg, hrep⟩ := HE.out k hlt
      have HTK := hidden (allIn_snoc gss hlt)
      have HGO := hidden (HOK.out _ (List.getElem_mem hlt))
      generalize gss[k] = g at hrep HTK HGO
      have hrep' : (tList tOp).rep (· < w.heap.size) w us g := hrep
      obtain ⟨ag, cg, hv, -⟩ := hrep'
      subst hv
      have HRG := hidden hrep
      have hcg0 : w.cell? ⟨b, o + k, none⟩ = some (.slice ag g.length cg) := by
        have := range_one.1 hrg
        rw [show tOps.sz = 1 from rfl, Nat.mul_one] at this; exact this
      have hcg : wr.cell? ⟨b, o + k, none⟩ = some (.slice ag g.length cg) := (HB.out.cell (p := ⟨b, o + k, none⟩) (World.block_lt_of_cell? w _ hcg0)).trans hcg0
      obtain ⟨ab', cb', hvb, qb, hcb, -⟩ := HOB.out.reads
      cases hvb
      have hcm := own_cap HOB.out rfl
      have QB := hidden qb
      have HAD : Hid (Calls Try.prog 57 #[.slice ab (jourJ id ins).length cb, .slice ag g.length cg] wr (AddP (jourJ id ins) g wr)) := hidden (add_any ab cb (jourJ id ins) _ g wr QB.out hcb hcm (by omega) (rep_on HRG.out HB.out) HGO.out.1 HGO.out.2)
      have HAJ := hidden (addJ_jour HID.out (gs := ins) (by omega) HF.out g)
      have HSN := hidden (jourJ_snoc id ins g)
      have hok0 : (groupJ (ins.length + 1) g).2 = 0 → FitJ ins.length g ∧ (groupJ (ins.length + 1) g).1 = frameL (contJ (ins.length + 1) g) := fun h => groupJ_ok h HGO.out.1
      have HOK0 := hidden hok0
      have HST : Hid (allIn (gss.take (k + 1)) = inStep ins g) := hidden (by rw [HTK.out, ← HINS.out])
      clear hrg hrep hcg0 qb hok0 HTK
      go_wp2_with fail
      with_reducible refine HAD.out.mono ?_
      rintro e w2 ⟨hb, v2, rfl, ho⟩
      rw [HAJ.out] at ho ⊢
      have HB2 := hidden hb
      have HO2 := hidden ho
      clear hb ho HAD hcg
      have hst2 : inStep ins g = if (groupJ (ins.length + 1) g).2 = 0 ∧ ins.length < 30 ∧ g.length < 30 then ins ++ [g] else ins := rfl
      have HST2 := hidden hst2
      clear hst2
      obtain ⟨er, HER⟩ : ∃ er, Hid ((groupJ (ins.length + 1) g).2 = er) := ⟨_, rfl⟩
      obtain ⟨fr, HFR⟩ : ∃ fr, Hid ((groupJ (ins.length + 1) g).1 = fr) := ⟨_, rfl⟩
      rw [HER.out] at HST2 HOK0 ⊢
      rw [HFR.out] at HOK0 HO2
      have HBW : Hid (Below w.heap.size w w2) := hidden (HB.out.trans (HB2.out.mono HB.out.size))
      have nogo : ¬ (er = 0 ∧ ins.length < 30 ∧ g.length < 30) → ∃ (k' : Nat) (ins' : List (List OpD)) (svs' : List SV) (ab' : Option Addr) (cb' : Nat) (ai' : Option Addr) (ci' : Nat), Value.slice ab (jourJ id ins).length cb = .slice ab' (jourJ id ins').length cb' ∧ Value.slice ai ins.length ci = .slice ai' ins'.length ci' ∧ Value.int .i64 ((k : Int) + 1) = .int .i64 k' ∧ k' ≤ gss.length ∧ ins' = allIn (gss.take k') ∧ svs'.length = ins'.length ∧ Below w.heap.size w w2 ∧ OwnB w.heap.size w2 (.slice ab' (jourJ id ins').length cb') (jourJ id ins') ∧ OwnT tSV 73 w.heap.size w2 (.slice ai' ins'.length ci') svs' ∧ (∀ i (hi : i < ins'.length) (hj : i < svs'.length), tOps.rep (· < w.heap.size) w [svV svs'[i]] ins'[i]) := fun hno =>
        ⟨k + 1, ins, svs, ab, cb, ai, ci, rfl, rfl, by go_num, by omega, by rw [HST.out, HST2.out, if_neg hno], HSL.out, HBW.out, HOB.out.on (Upd.ofNew (M := fun _ => False) HB2.out) (fun _ _ h => h), HOI.out.on (Upd.ofNew (M := fun _ => False) HB2.out) (fun _ _ _ h => h), HRS.out⟩
      have NOGO := hidden nogo
      clear nogo
      by_cases he0 : er = 0
      · subst he0
        by_cases hi30 : ins.length < 30
        · by_cases hg30 : g.length < 30
          · obtain ⟨hfit, hfr⟩ := HOK0.out rfl
            obtain ⟨ax, cx, hv2, qx, -, -⟩ := HO2.out.reads
            subst hv2
            have QX := hidden qx
            have HFRE := hidden hfr
            have hz2 := HB2.out.size
            have hfrl : fr.length ≤ 131080 := by rw [hfr, frameL_length]; have := hfit.2.2; omega
            have hbe : Below w2.heap.size w2 (w2.alloc (.cells #[] 5)) := (Below.refl _ _).alloc (Nat.le_refl _) _
            have HE0 : Hid (OwnB w.heap.size (w2.alloc (.cells #[] 5)) (.slice (some ⟨w2.heap.size, 0, none⟩) 0 0) []) := hidden (empty_new w2 HBW.out.size rfl)
            have HEB : Hid (∀ k, (Value.slice (some ⟨w2.heap.size, 0, none⟩) 0 0).ownBlock = some k → w2.heap.size ≤ k) := hidden (fun k hk => ((empty_new (B := w2.heap.size) w2 (Nat.le_refl _) rfl).lt k hk).1)
            have QE := hidden ((QB.out.on' HB2.out).on' hbe)
            have ZE : Hid (w.heap.size ≤ (w2.alloc (.cells #[] 5)).heap.size) := hidden (Nat.le_trans HBW.out.size hbe.size)
            have ZE2 : Hid (w2.heap.size ≤ (w2.alloc (.cells #[] 5)).heap.size) := hidden hbe.size
            have HBE := hidden hbe
            have HL1 : Hid (([] : List UInt8).length + (jourJ id ins).length ≤ 140737488355328) := hidden (by simp; omega)
            have HL2 : Hid ((jourJ id ins).length + fr.length ≤ 140737488355328) := hidden (by omega)
            have HXL : Hid (svs.length ≤ 1000000000000) := hidden (by have := HSL.out; omega)
            have HXB : Hid ((svs.length + 1) * 24 ≤ 140737488355328) := hidden (by have := HSL.out; omega)
            have HNEW : Hid (∀ W : World, (W.alloc (.cells #[.slice ag g.length cg] 73)).rangeAt W.heap.size 0 [.slice ag g.length cg]) := hidden (fun W => new_range W [.slice ag g.length cg] 73)
            have HSVR : Hid (∀ (S : Nat → Prop) (W : World), tSV.rep S W [.slice ag g.length cg] (ag, g.length, cg)) := hidden (fun S W => rfl)
            clear qx hbe hfr
            go_wp2_with (first
              | (at_builtin; refine wpList_append_B rfl (.tmp 38) (.tmp 39) rfl rfl HE0.out rfl rfl QE.out HL1.out ZE.out ?_; intro v3 w3 g3; rw [List.nil_append] at g3; have G3 := hidden g3; have L3 := hidden (g3.lo HEB.out ZE2.out); have B3 := hidden (HBE.out.trans (g3.below (C := w2.heap.size) ZE2.out HEB.out)); have Z3 := hidden (Nat.le_trans ZE.out g3.upd.size); obtain ⟨a3, c3, rfl, -, -, -⟩ := g3.own.reads; clear g3)
              | (at_builtin; refine wpList_append_B rfl (.tmp 40) (.tmp 41) rfl rfl G3.out.own rfl rfl (QX.out.on' B3.out) HL2.out Z3.out ?_; intro v4 w4 g4; have G4 := hidden g4; have L4 := hidden (g4.lo L3.out B3.out.size); have B4 := hidden (B3.out.trans (g4.below (C := w2.heap.size) B3.out.size L3.out)); obtain ⟨a4, c4, rfl, -, -, -⟩ := g4.own.reads; have HOI4 := hidden ((HOI.out.on (Upd.ofNew (M := fun _ => False) (HB2.out.trans (B4.out.mono hz2))) (fun _ _ _ h => h)).on (Upd.new (M := fun _ => False) w4 (.cells #[.slice ag g.length cg] 73)) (fun _ _ _ h => h)); have Z4 : Hid (w.heap.size ≤ (w4.alloc (.cells #[.slice ag g.length cg] 73)).heap.size) := hidden (by rw [World.size_alloc]; exact Nat.le_succ_of_le (Nat.le_trans Z3.out g4.upd.size)); clear g4)
              | (at_builtin; refine wpList_append_T (A := tSV) rfl (.tmp 43) (.tmp 45) 87 rfl und87 HINF.out.1 HINF.out.2.1 HINF.out.2.2.1 HINF.out.2.2.2 rfl (by decide) (B := w.heap.size) (v := .slice ai ins.length ci) (xs := svs) (x := (ag, g.length, cg)) rfl HOI4.out (b := w4.heap.size) (c := 1) rfl (HNEW.out w4) (HSVR.out _ _) HXL.out HXB.out Z4.out ?_; intro v5 w5 g5; have G5 := hidden g5; obtain ⟨a5, c5, rfl⟩ := g5.own.is; clear g5)
              | fail)
            have hlen5 : (svs ++ [(ag, g.length, cg)]).length = (ins ++ [g]).length := by simp [HSL.out]
            have hjs : jourJ id (ins ++ [g]) = jourJ id ins ++ fr := by rw [HSN.out, HFRE.out]
            have hO5 := (G4.out.own.on (Upd.new (M := fun _ => False) w4 (.cells #[.slice ag g.length cg] 73)) (fun _ _ h => h)).on G5.out.upd (fun k hk e => by
              have h1 := L4.out k hk
              have h2 := (HOI.out.lt k e.symm).2
              omega)
            have hT5 := G5.out.own
            rw [hlen5] at hT5
            refine ⟨⟨k + 1, ins ++ [g], svs ++ [(ag, g.length, cg)], a4, c4, a5, c5, ?_, ?_, by go_num, by omega, ?_, hlen5, ?_, ?_, hT5, ?_⟩, by simp [intOf]; omega⟩
            · rw [hjs, List.length_append]
            · rw [← hlen5]; simp
            · rw [HST.out, HST2.out, if_pos ⟨by first | rfl | trivial, hi30, hg30⟩]
            · exact ((HBW.out.trans (B4.out.mono HBW.out.size)).alloc (Nat.le_trans HBW.out.size B4.out.size) _).trans (G5.out.upd.toBelow Z4.out (fun k hk e => by have := (HOI.out.lt k e.symm).1; omega))
            · rw [hjs]; exact hO5
            · intro i hi hj
              by_cases hin : i < ins.length
              · have h1 : i < svs.length := by rw [HSL.out]; exact hin
                rw [List.getElem_append_left hin, List.getElem_append_left h1]
                exact HRS.out i hin h1
              · have h2 : i = ins.length := by simp at hi; omega
                subst h2
                have h3 : svs.length ≤ ins.length := by rw [HSL.out]; exact Nat.le_refl _
                rw [List.getElem_append_right (Nat.le_refl _), List.getElem_append_right h3]
                simp only [Nat.sub_self, HSL.out, List.getElem_cons_zero]
                exact HRG.out
          · go_wp2_with fail
            exact ⟨NOGO.out (fun h => hg30 h.2.2), by simp [intOf]; omega⟩
        · go_wp2_with fail
          exact ⟨NOGO.out (fun h => hi30 h.2.1), by simp [intOf]; omega⟩
      · have he0' : ((er : Int) == 0) = false := by rw [beq_eq_false_iff_ne]; omega
        have NG := hidden (NOGO.out (fun h => he0 h.1))
        clear he0
        go_wp2_with fail
        exact ⟨NG.out, by simp [intOf]; omega⟩
    · have HK : Hid (k = gss.length) := hidden (by omega)
      have HEND : Hid (AllP id gss w (.returned (.tuple #[.slice ab (jourJ id ins).length cb, .slice ai ins.length ci])) wr) := hidden (by
        have hi : ins = allIn gss := by
          have := HINS.out
          rw [HK.out, List.take_length] at this; exact this
        refine ⟨HB.out, _, _, rfl, ?_, ?_⟩
        · rw [← hi]; exact HOB.out
        · rw [← hi]; exact rows_rep HOI.out HB.out HSL.out HRS.out)
      go_wp2_with fail
      go_ret2
      exact HEND.out
end Go.Proofs.Ytekmjegeiminnaa
