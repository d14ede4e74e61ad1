/- The law JournalCuts, walked. -/
import Derived.Test.YtekmjegeiminnaaJ6
import Derived.Deep.RegionHeld3
namespace Go.Proofs.Ytekmjegeiminnaa
open Go.RowKit
set_option linter.unusedVariables false
set_option linter.unusedSimpArgs false

theorem FitsJ_mem : ∀ {k : Nat} {gs : List (List OpD)}, FitsJ k gs → ∀ g ∈ gs, tOps.cod.ok g ∧ (tOps.cod.enc g).length ≤ 131072
  | _, [], _, g, hg => by cases hg
  | k, x :: gs, h, g, hg => by
    rcases List.mem_cons.1 hg with rfl | hg
    · refine ⟨h.1.2.1, ?_⟩
      have := h.1.2.2
      unfold contJ at this
      rw [List.length_append] at this
      omega
    · exact FitsJ_mem h.2 g hg
theorem row_at {S : Nat → Prop} {w : World} {a : Option Addr} {n c : Nat} {gs : List (List OpD)} (h : (tList tOps).rep S w [.slice a n c] gs) {k : Nat} (hk : k < gs.length) : ∃ b o ag cg, a = some ⟨b, o, none⟩ ∧ w.cell? ⟨b, o + k, none⟩ = some (.slice ag gs[k].length cg) ∧ tOps.rep S w [.slice ag gs[k].length cg] gs[k] := by
  obtain ⟨a', c', he, -, -, hel⟩ := h
  have he' : Value.slice a n c = .slice a' gs.length c' := (List.cons.inj he).1
  simp only [Value.slice.injEq] at he'
  obtain ⟨rfl, rfl, rfl⟩ := he'
  obtain ⟨b, o, us, ha, hs, hr, hx⟩ := hel k hk
  have hx' := hx
  obtain ⟨ag, cg, hu, -⟩ := hx'
  subst hu
  refine ⟨b, o, ag, cg, ha, ?_, hx⟩
  have := range_one.1 hr
  rw [show tOps.sz = 1 from rfl, Nat.mul_one] at this; exact this

set_option maxRecDepth 100000 in
set_option maxHeartbeats 64000000 in
theorem cuts_law (id : Int) (a0 : Option Addr) (cap0 : Nat) (gss : List (List OpD)) (cut : Nat) (w : World) (hx : -9223372036854775808 ≤ id ∧ id ≤ 9223372036854775807) (he : Elems tOps (· < w.heap.size) w a0 gss) (hok : ∀ g ∈ gss, tOps.cod.ok g ∧ (tOps.cod.enc g).length ≤ 100000000000) (hcut : (cut : Int) ≤ 18446744073709551615) :
    Calls Try.prog 15 #[.int .i64 id, .slice a0 gss.length cap0, .int .u64 cut] w fun e w' => e = .returned (.bool true) ∧ Below w.heap.size w w' := by
  by_cases hbig : 40 < gss.length
  · go_enter Try.func15, Try.ntmps15
    go_wp2_with fail
    with_reducible refine (lives_04 w).mono ?_
    rintro e w1 ⟨rfl, hb⟩
    have B := hidden hb
    clear hb
    go_wp2_with fail
    go_ret
    exact ⟨rfl, B.out⟩
  · have HALL := hidden (all_any id a0 cap0 gss w hx he (by omega) hok)
    have HOK := hidden (fun g hg => (hok g hg).1)
    have HX := hidden hx
    clear he hok hx
    go_enter Try.func15, Try.ntmps15
    go_wp2_with fail
    with_reducible refine HALL.out.mono ?_
    rintro e w1 hr
    obtain ⟨hb, ins, ab, cb, ai, ci, rfl, hl, hf, q, hc, hm, hjl, hri⟩ := hr.parts HX.out HOK.out
    have B1 := hidden hb
    have Q1 := hidden q
    have HF := hidden hf
    have RI := hidden hri
    clear hr hb q hf HALL hri
    have HLG := hidden (logJ_jour HX.out (gs := ins) (by omega) HF.out)
    obtain ⟨bs, HBS⟩ : ∃ bs, Hid (jourJ id ins = bs) := ⟨_, rfl⟩
    rw [HBS.out] at Q1 hc hjl HLG ⊢
    have t3 : 0 ≤ (cut : Int) % ((bs.length : Int) + 1) := Int.emod_nonneg _ (by omega)
    have t4 : (cut : Int) % ((bs.length : Int) + 1) < (bs.length : Int) + 1 := Int.emod_lt_of_pos _ (by omega)
    have t5 : (cut : Int) % ((bs.length : Int) + 1) ≤ (cb : Int) := by omega
    go_wp2_with fail
    with_reducible refine (scan_any ab cb bs id w1 Q1.out hc hm (by omega)).mono ?_
    rintro e w2 ⟨hb, a2, c2, rfl, -⟩
    rw [HLG.out]
    dsimp only
    have B2 := hidden (B1.out.trans (hb.mono B1.out.size))
    have hb3 := hb.trans (((Below.refl _ _).alloc (Nat.le_refl _) (.cells #[.slice a2 ins.length c2, .int .i64 (bs.length : Nat), .bool true] 89) : Below w2.heap.size w2 _).mono hb.size)
    have B3 := hidden (B1.out.trans (hb3.mono B1.out.size))
    have Q3 := hidden (Q1.out.on' hb3)
    have R3 := hidden (rep_on RI.out hb3)
    clear hb hb3
    go_wp2_with fail
    have hcast : ((cut : Int) % ((bs.length : Int) + 1)) = ((cut % (bs.length + 1) : Nat) : Int) := by rw [Int.natCast_emod]; rfl
    rw [hcast]
    have hjn : cut % (bs.length + 1) ≤ bs.length := by have := Nat.mod_lt cut (show 0 < bs.length + 1 by omega); omega
    clear hcast t3 t4 t5
    generalize cut % (bs.length + 1) = n at hjn ⊢
    have HCUT := hidden (logJ_cut HX.out (gs := ins) (by omega) HF.out n)
    rw [HBS.out] at HCUT
    generalize w2.alloc (.cells #[.slice a2 ins.length c2, .int .i64 (bs.length : Nat), .bool true] 89) = W3 at *
    have htl : (bs.take n).length = n := by rw [List.length_take]; omega
    have HSC : Hid (Calls Try.prog 60 #[.slice ab n cb, .int .i64 id] W3 (ScanP (bs.take n) id W3)) := hidden (by
      have := scan_any ab cb (bs.take n) id W3 (Q3.out.take n) (by omega) hm (by omega)
      rw [htl] at this; exact this)
    clear htl
    with_reducible refine HSC.out.mono ?_
    rintro e w4 ⟨hb, a4, c4, rfl, hy⟩
    have B4 := hidden (B3.out.trans (hb.mono B3.out.size))
    have Q4 := hidden (Q3.out.on' hb)
    have R4 := hidden (rep_on R3.out hb)
    have HY := hidden hy
    clear hb HSC hy
    have hcase := HCUT.out
    rcases hcase with ⟨hn, hlg⟩ | ⟨hn, m, hm1, hlg, hm2, hm3⟩
    · rw [hlg]
      clear HY
      simp only [List.length_nil]
      have B5 := hidden (B4.out.alloc B4.out.size (.cells #[.slice a4 0 c4, .int .i64 0, .bool false] 89))
      have HBG : Hid (∀ W, Calls Try.prog 62 #[.int .i64 id] W (MadeB (headJ id) W)) := hidden (fun W => begin_any id W HX.out)
      clear hlg HCUT
      generalize headJ id = hd at hn HBG
      go_wp2_with fail
      with_reducible refine (HBG.out _).mono ?_
      rintro e w5 ⟨hb, v5, rfl, ho⟩
      obtain ⟨a5, c5, rfl, -, -, -⟩ := ho.reads
      have hz0 : (w4.alloc (.cells #[.slice a4 0 c4, .int .i64 0, .bool false] 89)).cell? ⟨w4.heap.size, 0, none⟩ = some (.slice a4 0 c4) := new_range w4 [.slice a4 0 c4, .int .i64 0, .bool false] 89 0 _ rfl
      have hz1 : (w4.alloc (.cells #[.slice a4 0 c4, .int .i64 0, .bool false] 89)).cell? ⟨w4.heap.size, 1, none⟩ = some (.int .i64 0) := new_range w4 [.slice a4 0 c4, .int .i64 0, .bool false] 89 1 _ rfl
      have hl4 : w4.heap.size < (w4.alloc (.cells #[.slice a4 0 c4, .int .i64 0, .bool false] 89)).heap.size := by rw [World.size_alloc]; omega
      have y0 := (hb.cell (p := ⟨w4.heap.size, 0, none⟩) hl4).trans hz0
      have y1 := (hb.cell (p := ⟨w4.heap.size, 1, none⟩) hl4).trans hz1
      have B6 := hidden (B5.out.trans (hb.mono B5.out.size))
      clear hb ho hz0 hz1 hl4
      go_wp2_with fail
      with_reducible refine (lives_04 _).mono ?_
      rintro e w6 ⟨rfl, hb⟩
      have B7 := hidden (B6.out.trans (hb.mono B6.out.size))
      clear hb
      go_wp2_with fail
      go_ret
      exact ⟨rfl, B7.out⟩
    · rw [hlg] at HY ⊢
      dsimp only at HY ⊢
      have hml : (ins.take m).length = m := by rw [List.length_take]; omega
      rw [hml] at HY ⊢
      have HMB := hidden (FitsJ_mem HF.out)
      have HJT : Hid (bs.take (jourJ id (ins.take m)).length = jourJ id (ins.take m)) := hidden (by
        obtain ⟨r, hr⟩ := jourJ_take_take (id := id) (gs := ins) m
        rw [← HBS.out]
        conv => lhs; rw [hr]
        exact List.take_left)
      have HF1 := hidden (FitsJ_take (m := m) HF.out)
      have HAJ : Hid (addJ (jourJ id (ins.take m)) [op1] = (frameL (contJ ((m : Int) + 1) [op1]), 0)) := hidden (by
        have h1 := addJ_jour HX.out (gs := ins.take m) (by omega) HF1.out [op1]
        rw [hml] at h1
        rw [h1]; exact groupJ_fit (fit1 (by omega)))
      have HGJ : Hid (groupJ ((m : Int) + 1) [op1] = (frameL (contJ ((m : Int) + 1) [op1]), 0)) := hidden (groupJ_fit (fit1 (by omega)))
      have hJ5 : (jourJ id (ins.take m)).length ≤ bs.length := by omega
      have HTK : Hid (∀ k (h1 : k < (ins.take m).length) (h2 : k < ins.length), (ins.take m)[k] = ins[k]) := hidden (fun k h1 h2 => by rw [List.getElem_take])
      have HBU := hidden built1
      obtain ⟨us, hus⟩ : ∃ us, op1V = us := ⟨_, rfl⟩
      have HOP := hidden ops1_new
      rw [hus] at HBU HOP
      have hul19 : us.length = 19 := by rw [← hus]; rfl
      have hlen1 := ops1_len
      have HOK1 := hidden ops1_ok
      clear hus
      have hfold := fold_cells us #[Value.int IntKind.i64 0, Value.string { data := #[] }, Value.string { data := #[] }, Value.int IntKind.i64 0, Value.int IntKind.i64 0, Value.int IntKind.i64 0, Value.int IntKind.i64 0, Value.string { data := #[] }, Value.string { data := #[] }, Value.string { data := #[] }, Value.string { data := #[] }, Value.string { data := #[] }, Value.string { data := #[] }, Value.int IntKind.i64 0, Value.int IntKind.i64 0, Value.int IntKind.i64 0, Value.int IntKind.i64 0, Value.string { data := #[] }, Value.slice none 0 0] hul19
      obtain ⟨J, HJ⟩ : ∃ J, Hid (jourJ id (ins.take m) = J) := ⟨_, rfl⟩
      rw [HJ.out] at HJT HAJ hm2 hJ5 ⊢
      obtain ⟨fr, HFR⟩ : ∃ fr, Hid (frameL (contJ ((m : Int) + 1) [op1]) = fr) := ⟨_, rfl⟩
      rw [HFR.out] at HAJ HGJ
      obtain ⟨W5, HW5⟩ : ∃ W5, Hid (w4.alloc (.cells #[.slice a4 m c4, .int .i64 (J.length : Nat), .bool true] 89) = W5) := ⟨_, rfl⟩
      have hb5 : Below w4.heap.size w4 W5 := by rw [← HW5.out]; exact (Below.refl _ _).alloc (Nat.le_refl _) _
      have HYB : Hid (W5.heap[w4.heap.size]? = some (.cells #[.slice a4 m c4, .int .i64 (J.length : Nat), .bool true] 89 (0, 0))) := hidden (by rw [← HW5.out]; exact heap_alloc_new _ _)
      have hl5 : w4.heap.size < W5.heap.size := by rw [← HW5.out, World.size_alloc]; omega
      have B5 := hidden (B4.out.trans (hb5.mono B4.out.size))
      have Q5 := hidden (Q4.out.on' hb5)
      have R5 := hidden (rep_on R4.out hb5)
      have Y5 := hidden (rep_on ((tList tOps).mono HY.out (fun k hk => hk.2)) hb5)
      clear hlg HCUT hb5 B4 Q4 R4 HY
      go_upto_region 11 with fail
      rw [HW5.out]
      obtain ⟨yb, hyb⟩ : ∃ yb, w4.heap.size = yb := ⟨_, rfl⟩
      rw [hyb] at HYB hl5 ⊢
      clear hyb
      have HYC : Hid (∀ W, Below W5.heap.size W5 W → W.cell? ⟨yb, 0, none⟩ = some (.slice a4 m c4) ∧ W.cell? ⟨yb, 1, none⟩ = some (.int .i64 (J.length : Nat))) := hidden (fun W hW => by
        have e := (hW.block yb hl5).trans HYB.out
        exact ⟨by simp [World.cell?, e], by simp [World.cell?, e]⟩)
      obtain ⟨y0, y1⟩ := HYC.out W5 (Below.refl _ _)
      go_cut [108] from 83 to 107 (fun s108 wx => s108 = .bool false ∧ wx = W5)
      case first =>
        have t1 : ¬ n < J.length := by omega
        have t2 : ¬ ins.length < m := by omega
        by_cases hnb : n = bs.length
        · have hmi := hm3 (by omega)
          have t3 : ((m : Int) != (ins.length : Int)) = false := by rw [bne_eq_false_iff_eq]; omega
          have t4 : ((n : Int) == (bs.length : Int)) = true := by rw [beq_iff_eq]; omega
          clear hmi hnb hm3
          go_wp2_with fail
          go_meet
          exact ⟨rfl, rfl⟩
        · have t4 : ((n : Int) == (bs.length : Int)) = false := by rw [beq_eq_false_iff_ne]; omega
          clear hnb hm3
          go_wp2_with fail
          go_meet
          exact ⟨rfl, rfl⟩
      case rest =>
        obtain ⟨hs108, hwx⟩ := hcut
        subst hs108
        subst hwx
        clear hm3
        go_wp2_with fail
        go_loopw [112] (fun s wk => ∃ (k : Nat), s = .int .i64 k ∧ k ≤ m ∧ Below wc.heap.size wc wk) (fun s _ => (m - intOf s).toNat)
        case atStart => exact ⟨0, rfl, by omega, Below.refl _ _⟩
        case round =>
          obtain ⟨k, rfl, hk, hb⟩ := hrel
          have HK := hidden hb
          have hzk := hb.size
          clear hb
          by_cases hlt : k < m
          · have hk1 : k < (ins.take m).length := by omega
            have hk2 : k < ins.length := by omega
            obtain ⟨b1, o1, ag, cg, ha4, hcA, hrA⟩ := row_at (rep_on Y5.out HK.out) hk1
            obtain ⟨b2, o2, ah, ch, hai, hcB, hrB⟩ := row_at (rep_on R5.out HK.out) hk2
            rw [HTK.out k hk1 hk2] at hcA hrA
            have HXM := hidden (HMB.out _ (List.getElem_mem hk2))
            generalize ins[k] = x at hcA hrA hcB hrB HXM
            have RA := hidden hrA
            have RB := hidden hrB
            subst ha4
            subst hai
            have hcD : wr.drew.cell? ⟨b2, o2 + k, none⟩ = some (.slice ah x.length ch) := hcB
            have HCB := hidden hcD
            have HCX : Hid (∀ W, Below wr.heap.size wr W → Calls Try.prog 51 #[.slice ag x.length cg] W fun e w' => Below W.heap.size W w' ∧ ∃ v, e = .returned v ∧ OwnB W.heap.size w' v (tOps.cod.enc x)) := hidden (fun W hW => refops _ x W (rep_on RA.out hW) HXM.out.1 (by have := HXM.out.2; omega))
            have HCY : Hid (∀ W, Below wr.heap.size wr W → Calls Try.prog 51 #[.slice ah x.length ch] W fun e w' => Below W.heap.size W w' ∧ ∃ v, e = .returned v ∧ OwnB W.heap.size w' v (tOps.cod.enc x)) := hidden (fun W hW => refops _ x W (rep_on RB.out hW) HXM.out.1 (by have := HXM.out.2; omega))
            have HSS : Hid (∀ W, Below wr.heap.size wr W → W.cell? ⟨b2, o2 + k, none⟩ = some (.slice ah x.length ch)) := hidden (fun W hW => (hW.cell (p := ⟨b2, o2 + k, none⟩) (World.block_lt_of_cell? wr _ hcB)).trans hcB)
            have HB : Hid (Below wr.heap.size wr wr.drew) := hidden (below_drew wr)
            generalize tOps.cod.enc x = fs at HCX HCY
            clear hrA hrB
            go_wp2_with fail
            clear hcA
            go_region_held3 (fun w' => w'.cell? ⟨b2, o2 + k, none⟩ = some (.slice ah x.length ch)) (first | exact HSS.out _ HB.out | go_keep)
              (first
                | (go_at_call_of 51 (Value.slice ag x.length cg); (with_reducible refine (HCX.out _ HB.out).mono ?_); rintro e wx ⟨hb, vx, rfl, ho⟩; obtain ⟨ax, cx, rfl, qx, -, -⟩ := ho.reads; (try (replace qy := qy.on' hb)); replace HB := hidden (HB.out.trans (hb.mono HB.out.size)); clear hb ho)
                | (go_at_call_of 51 (Value.slice ah x.length ch); (with_reducible refine (HCY.out _ HB.out).mono ?_); rintro e wy ⟨hb, vy, rfl, ho⟩; obtain ⟨ay, cy, rfl, qy, -, -⟩ := ho.reads; (try (replace qx := qx.on' hb)); replace HB := hidden (HB.out.trans (hb.mono HB.out.size)); clear hb ho)
                | (go_at_call 22; (with_reducible refine (same_eq _ _ _ _ _ _ fs _ qx qy rfl rfl).mono ?_); rintro e w9 ⟨rfl, rfl⟩; clear qx qy)
                | fail)
            all_goals
              go_wp2_with fail
              exact ⟨⟨k + 1, by go_num, by omega, HK.out.trans (HB.out.mono HK.out.size)⟩, by simp [intOf]; omega⟩
          · have hkm : k = m := by omega
            have HKM := hidden hkm
            clear hkm
            have HAD : Hid (Calls Try.prog 57 #[.slice ab J.length cb, .slice (some ⟨wr.heap.size, 0, none⟩) 1 1] (wr.alloc (.cells us.toArray 108)) (AddP J [op1] (wr.alloc (.cells us.toArray 108)))) := hidden (by
              have hq := (Q5.out.on' HK.out).take J.length
              rw [HJT.out] at hq
              exact add_any ab cb J _ [op1] _ (hq.on' ((Below.refl _ _).alloc (Nat.le_refl _) _)) (by omega) hm (by omega) (HOP.out wr) HOK1.out (by omega))
            have B6 := hidden ((B5.out.trans (HK.out.mono B5.out.size)).alloc (by have := B5.out.size; have := HK.out.size; omega) (.cells us.toArray 108))
            have hbA : Below wr.heap.size wr (wr.alloc (.cells us.toArray 108)) := (Below.refl _ _).alloc (Nat.le_refl _) _
            have HBA := hidden hbA
            obtain ⟨z0, z1⟩ := HYC.out wr HK.out
            have hJc : (J.length : Int) ≤ (cb : Int) := by omega
            clear hbA y0 y1
            go_wp2_with (first | ((with_reducible refine wpList_built (o := ⟨some 132, .build 108 #[(0, .const (.int .i64 1))], _, _, _, _⟩) ?_ 108 #[(0, .const (.int .i64 1))] ?_ us.toArray ?_ ?_); rfl; rfl; (simp only [List.map_toArray, List.map_cons, List.map_nil, Act.eval]; exact HBU.out)) | fail)
            with_reducible refine HAD.out.mono ?_
            rintro e w6 ⟨hb, v6, rfl, ho⟩
            rw [HAJ.out] at ho ⊢
            dsimp only at ho ⊢
            have B7 := hidden (B6.out.trans (hb.mono B6.out.size))
            obtain ⟨a6, c6, rfl, q6, -, -⟩ := ho.reads
            have Q6 := hidden q6
            have HYW := hidden (HK.out.trans ((HBA.out.trans (hb.mono HBA.out.size)).mono HK.out.size))
            obtain ⟨z0, z1⟩ := HYC.out w6 HYW.out
            have HGR : Hid (Calls Try.prog 64 #[.int .i64 ((m : Int) + 1), .slice (some ⟨w6.heap.size, 0, none⟩) 1 1] (w6.alloc (.cells us.toArray 108)) (GroupP ((m : Int) + 1) [op1] (w6.alloc (.cells us.toArray 108)))) := hidden (group_any _ _ [op1] _ ⟨by omega, by omega⟩ (HOP.out w6) HOK1.out (by omega))
            have B8 := hidden (B7.out.alloc B7.out.size (.cells us.toArray 108))
            have Q8 := hidden (Q6.out.on' ((Below.refl w6.heap.size w6).alloc (Nat.le_refl _) (.cells us.toArray 108)))
            clear hb ho q6 HAD
            go_wp2_with (first | ((with_reducible refine wpList_built (o := ⟨some 142, .build 108 #[(0, .const (.int .i64 1))], _, _, _, _⟩) ?_ 108 #[(0, .const (.int .i64 1))] ?_ us.toArray ?_ ?_); rfl; rfl; (simp only [List.map_toArray, List.map_cons, List.map_nil, Act.eval]; exact HBU.out)) | fail)
            with_reducible refine HGR.out.mono ?_
            rintro e w7 ⟨hb, v7, rfl, ho⟩
            rw [HGJ.out] at ho ⊢
            dsimp only at ho ⊢
            have B9 := hidden (B8.out.trans (hb.mono B8.out.size))
            have Q9 := hidden (Q8.out.on' hb)
            obtain ⟨a7, c7, rfl, q7, -, -⟩ := ho.reads
            clear hb ho HGR
            go_wp2_with fail
            with_reducible refine (same_eq _ _ _ _ _ _ fr w7 Q9.out q7 rfl rfl).mono ?_
            rintro e w8 ⟨rfl, rfl⟩
            clear q7
            go_wp2_with fail
            with_reducible refine (lives_04 _).mono ?_
            rintro e w8 ⟨rfl, hb⟩
            have B10 := hidden (B9.out.trans (hb.mono B9.out.size))
            clear hb
            go_wp2_with fail
            go_ret
            exact ⟨rfl, B10.out⟩
end Go.Proofs.Ytekmjegeiminnaa
