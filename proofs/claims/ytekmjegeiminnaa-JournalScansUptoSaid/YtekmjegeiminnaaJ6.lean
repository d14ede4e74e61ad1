/- The laws JournalBound and JournalNext, walked. -/
import Derived.Test.YtekmjegeiminnaaJ5
namespace Go.Proofs.Ytekmjegeiminnaa
open Go.RowKit
set_option linter.unusedVariables false
set_option linter.unusedSimpArgs false

/-- What all answers, opened. -/
theorem AllP.parts {id : Int} {gss : List (List OpD)} {w w' : World} {e : Ending} (h : AllP id gss w e w') (hid : I64 id) (hok : ∀ g ∈ gss, tOps.cod.ok g) : Below w.heap.size w w' ∧ ∃ (ins : List (List OpD)) (ab : Option Addr) (cb : Nat) (ai : Option Addr) (ci : Nat), e = .returned (.tuple #[.slice ab (jourJ id ins).length cb, .slice ai ins.length ci]) ∧ ins.length ≤ 30 ∧ FitsJ 0 ins ∧ BytesAt w' ab (jourJ id ins) ∧ (jourJ id ins).length ≤ cb ∧ (cb : Int) ≤ 9223372036854775807 ∧ (jourJ id ins).length ≤ 5000000 ∧ (tList tOps).rep (· < w'.heap.size) w' [.slice ai ins.length ci] ins := by
  obtain ⟨hb, vb, vi, rfl, ho, hr⟩ := h
  obtain ⟨hf, hl⟩ := allIn_fits gss hok gss.length (Nat.le_refl _)
  rw [List.take_length] at hf hl
  obtain ⟨ab, cb, rfl, q, hc, -⟩ := ho.reads
  have hm := own_cap ho rfl
  have hr' := hr
  obtain ⟨ai, ci, he, -⟩ := hr'
  cases he
  exact ⟨hb, allIn gss, ab, cb, ai, ci, rfl, hl, hf, q, hc, hm, jourJ_len hid hf (by omega), hr⟩

set_option maxRecDepth 100000 in
set_option maxHeartbeats 64000000 in
theorem bound_law (x y : Int) (a0 : Option Addr) (cap0 : Nat) (gss : List (List OpD)) (w : World) (hx : -9223372036854775808 ≤ x ∧ x ≤ 9223372036854775807) (he : Elems tOps (· < w.heap.size) w a0 gss) (hok : ∀ g ∈ gss, tOps.cod.ok g ∧ (tOps.cod.enc g).length ≤ 100000000000) :
    Calls Try.prog 16 #[.int .i64 x, .int .i64 y, .slice a0 gss.length cap0] w fun e w' => e = .returned (.bool true) ∧ Below w.heap.size w w' := by
  by_cases hbig : 40 < gss.length
  · go_enter Try.func16, Try.ntmps16
    go_wp2_with fail
    with_reducible refine (lives_04 w).mono ?_
    rintro e w1 ⟨rfl, hb⟩
    have B := hidden hb
    clear hb
    go_wp2_with fail
    go_ret
    exact ⟨rfl, B.out⟩
  · have HALL := hidden (all_any x a0 cap0 gss w hx he (by omega) hok)
    have HOK := hidden (fun g hg => (hok g hg).1)
    have HX := hidden hx
    clear he hok hx
    go_enter Try.func16, Try.ntmps16
    go_wp2_with fail
    with_reducible refine HALL.out.mono ?_
    rintro e w1 hr
    obtain ⟨hb, ins, ab, cb, ai, ci, rfl, hl, hf, q, hc, hm, hjl, -⟩ := hr.parts HX.out HOK.out
    have B1 := hidden hb
    have Q1 := hidden q
    have HF := hidden hf
    clear hr hb q hf HALL
    by_cases hxy : x = y
    · subst hxy
      have HLG := hidden (logJ_jour HX.out (gs := ins) (by omega) HF.out)
      generalize jourJ x ins = bs at Q1 hc hjl HLG
      go_wp2_with fail
      with_reducible refine (scan_any ab cb bs x w1 Q1.out hc hm (by omega)).mono ?_
      rintro e w2 ⟨hb, a2, c2, rfl, -⟩
      rw [HLG.out]
      dsimp only
      have B2 := hidden (B1.out.trans (hb.mono B1.out.size))
      have B3 := hidden (B2.out.alloc B2.out.size (.cells #[.slice a2 ins.length c2, .int .i64 (bs.length : Nat), .bool true] 89))
      clear hb
      go_wp2_with fail
      with_reducible refine (lives_04 _).mono ?_
      rintro e w3 ⟨rfl, hb⟩
      have B4 := hidden (B3.out.trans (hb.mono B3.out.size))
      clear hb
      go_wp2_with fail
      go_ret
      exact ⟨rfl, B4.out⟩
    · have HLG := hidden (logJ_other HX.out hxy ins)
      have hxy1 : (x == y) = false := by rw [beq_eq_false_iff_ne]; exact hxy
      have hxy2 : (x != y) = true := by rw [bne_iff_ne]; exact hxy
      generalize jourJ x ins = bs at Q1 hc hjl HLG
      clear hxy
      go_wp2_with fail
      with_reducible refine (scan_any ab cb bs y w1 Q1.out hc hm (by omega)).mono ?_
      rintro e w2 ⟨hb, a2, c2, rfl, -⟩
      rw [HLG.out]
      simp only [List.length_nil]
      have B2 := hidden (B1.out.trans (hb.mono B1.out.size))
      have B3 := hidden (B2.out.alloc B2.out.size (.cells #[.slice a2 0 c2, .int .i64 0, .bool false] 89))
      clear hb
      go_wp2_with fail
      with_reducible refine (lives_04 _).mono ?_
      rintro e w3 ⟨rfl, hb⟩
      have B4 := hidden (B3.out.trans (hb.mono B3.out.size))
      clear hb
      go_wp2_with fail
      go_ret
      exact ⟨rfl, B4.out⟩

theorem encI_small {s : Int} (h : 0 ≤ s ∧ s ≤ 60) : (encI [s]).length = 2 := by
  have e1 : (encN 1).length = 1 := by unfold encN; rw [encU_small (by decide)]; rfl
  have hz : zig s < 128 := by unfold zig; split <;> omega
  have e2 : (encN s).length = 1 := by unfold encN; rw [encU_small hz]; rfl
  have e : encI [s] = encN 1 ++ encN s := by rw [encI_eq]; show encN 1 ++ encM cN [s] = _; rw [encM_one]; rfl
  rw [e, List.length_append, e1, e2]
theorem fit_next {k : Nat} {l : List OpD} (h : FitJ k l) (hk : k ≤ 31) : FitJ (k + 1) l := by
  refine ⟨h.1, h.2.1, ?_⟩
  have h1 := h.2.2
  unfold contJ at h1 ⊢
  rw [List.length_append] at h1 ⊢
  rw [encI_small ⟨by omega, by omega⟩] at h1
  rw [encI_small ⟨by omega, by omega⟩]
  exact h1
/-- Two slices of bytes laid into one that is new. -/
theorem joined {w w3 w4 : World} {v3 v4 : Value} {bs cs : List UInt8} (g3 : Grew w.heap.size (.slice (some ⟨w.heap.size, 0, none⟩) 0 0) v3 bs (w.alloc (.cells #[] 5)) w3) (g4 : Grew w.heap.size v3 v4 (bs ++ cs) w3 w4) : Below w.heap.size w w4 := by
  have hbe : Below w.heap.size w (w.alloc (.cells #[] 5)) := (Below.refl _ _).alloc (Nat.le_refl _) _
  have he : ∀ k, (Value.slice (some ⟨w.heap.size, 0, none⟩) 0 0).ownBlock = some k → w.heap.size ≤ k := fun k hk => ((empty_new (B := w.heap.size) w (Nat.le_refl _) rfl).lt k hk).1
  exact (hbe.trans (g3.below hbe.size he)).trans (g4.below (Nat.le_trans hbe.size g3.upd.size) (fun k hk => (g3.own.lt k hk).1))

set_option maxRecDepth 100000 in
set_option maxHeartbeats 64000000 in
theorem next_law (id : Int) (a0 : Option Addr) (cap0 : Nat) (gss : List (List OpD)) (v0 : Value) (l : List OpD) (w : World) (hx : -9223372036854775808 ≤ id ∧ id ≤ 9223372036854775807) (he : Elems tOps (· < w.heap.size) w a0 gss) (hok : ∀ g ∈ gss, tOps.cod.ok g ∧ (tOps.cod.enc g).length ≤ 100000000000)
    (hr : tOps.rep (· < w.heap.size) w [v0] l) (hol : tOps.cod.ok l) (hle : (tOps.cod.enc l).length ≤ 100000000000) :
    Calls Try.prog 17 #[.int .i64 id, .slice a0 gss.length cap0, v0] w fun e w' => e = .returned (.bool true) ∧ Below w.heap.size w w' := by
  have hr' := hr
  obtain ⟨al, cl, hv, -⟩ := hr'
  cases hv
  have HR := hidden hr
  have HOL := hidden hol
  clear hr hol
  by_cases hbig : 40 < gss.length ∨ l.length = 0 ∨ 30 < l.length
  · have HLV : Hid (∀ (W : World), Calls Try.prog 56 #[] W fun e w' => e = .returned (.bool true) ∧ Below W.heap.size W w') := hidden lives_04
    by_cases h1 : 40 < gss.length
    · go_enter Try.func17, Try.ntmps17
      go_wp2_with fail
      with_reducible refine (HLV.out w).mono ?_
      rintro e w1 ⟨rfl, hb⟩
      have B := hidden hb
      clear hb
      go_wp2_with fail
      go_ret
      exact ⟨rfl, B.out⟩
    · by_cases h2 : l.length = 0
      · have h2' : ((l.length : Int) == 0) = true := by rw [beq_iff_eq]; omega
        clear h2 hbig
        go_enter Try.func17, Try.ntmps17
        go_wp2_with fail
        with_reducible refine (HLV.out w).mono ?_
        rintro e w1 ⟨rfl, hb⟩
        have B := hidden hb
        clear hb
        go_wp2_with fail
        go_ret
        exact ⟨rfl, B.out⟩
      · have h2' : ((l.length : Int) == 0) = false := by rw [beq_eq_false_iff_ne]; omega
        have h3 : 30 < l.length := by omega
        clear h2 hbig
        go_enter Try.func17, Try.ntmps17
        go_wp2_with fail
        with_reducible refine (HLV.out w).mono ?_
        rintro e w1 ⟨rfl, hb⟩
        have B := hidden hb
        clear hb
        go_wp2_with fail
        go_ret
        exact ⟨rfl, B.out⟩
  · have g1 : ¬ 40 < gss.length := fun h => hbig (.inl h)
    have g2 : ((l.length : Int) == 0) = false := by rw [beq_eq_false_iff_ne]; intro h; exact hbig (.inr (.inl (by omega)))
    have g3 : ¬ 30 < l.length := fun h => hbig (.inr (.inr h))
    have HNE : Hid (l ≠ []) := hidden (fun h => hbig (.inr (.inl (by rw [h]; rfl))))
    have HALL := hidden (all_any id a0 cap0 gss w hx he (by omega) hok)
    have HOK := hidden (fun g hg => (hok g hg).1)
    have HX := hidden hx
    clear he hok hx hbig
    go_enter Try.func17, Try.ntmps17
    go_wp2_with fail
    with_reducible refine HALL.out.mono ?_
    rintro e w1 hrr
    obtain ⟨hb, ins, ab, cb, ai, ci, rfl, hl, hf, q, hc, hm, hjl, -⟩ := hrr.parts HX.out HOK.out
    have B1 := hidden hb
    have Q1 := hidden q
    have HF := hidden hf
    clear hrr hb q hf HALL
    have HAD : Hid (Calls Try.prog 57 #[.slice ab (jourJ id ins).length cb, .slice al l.length cl] w1 (AddP (jourJ id ins) l w1)) := hidden (add_any ab cb (jourJ id ins) _ l w1 Q1.out hc hm (by omega) (rep_on HR.out B1.out) HOL.out hle)
    have HAJ := hidden (addJ_jour HX.out (gs := ins) (by omega) HF.out l)
    go_wp2_with fail
    with_reducible refine HAD.out.mono ?_
    rintro e w2 ⟨hb, v2, rfl, ho⟩
    rw [HAJ.out] at ho ⊢
    have B2 := hidden (B1.out.trans (hb.mono B1.out.size))
    have Q2 := hidden (Q1.out.on' hb)
    obtain ⟨ax, cx, rfl, qx, hcx, -⟩ := ho.reads
    have QX := hidden qx
    clear hb ho qx HAD
    by_cases her : (groupJ (ins.length + 1) l).2 = 0
    · obtain ⟨hfit, hfr⟩ := groupJ_ok her HOL.out
      rw [her]
      rw [hfr] at QX ⊢
      have HFT := hidden hfit
      have HGN := hidden (groupJ_fit (fit_next hfit (by omega)))
      have HF1 := hidden (FitsJ_snoc HF.out hfit)
      have HLG := hidden (logJ_jour HX.out (gs := ins ++ [l]) (by simp; omega) HF1.out)
      have HLW := hidden (logJ_wrong HX.out (gs := ins) (by omega) HF.out (fit_next hfit (by omega)))
      rw [jourJ_snoc] at HLG
      have hfl : (frameL (contJ ((ins.length : Int) + 1) l)).length ≤ 131080 := by rw [frameL_length]; have := hfit.2.2; omega
      have hfl2 : (frameL (contJ ((ins.length : Int) + 1 + 1) l)).length ≤ 131080 := by
        rw [frameL_length]
        have := (fit_next hfit (by omega)).2.2
        rw [show (((ins.length + 1 : Nat) : Int) + 1) = (ins.length : Int) + 1 + 1 by omega] at this
        omega
      rw [show (((ins.length + 1 : Nat) : Int) + 1) = (ins.length : Int) + 2 by omega] at HGN
      rw [show ((ins.length : Int) + 1 + 1) = (ins.length : Int) + 2 by omega] at HLW hfl2
      have HGR : Hid (∀ W, Below w.heap.size w W → Calls Try.prog 64 #[.int .i64 ((ins.length : Int) + 2), .slice al l.length cl] W (GroupP ((ins.length : Int) + 2) l W)) := hidden (fun W hW => group_any _ _ l W ⟨by omega, by omega⟩ (rep_on HR.out hW) HOL.out hle)
      generalize hfr1 : frameL (contJ ((ins.length : Int) + 1) l) = fr at QX HLG hfl ⊢
      generalize hfr2 : frameL (contJ ((ins.length : Int) + 2) l) = fz at HLW hfl2 HGN
      have HGN2 := HGN
      clear her hfit hfr hfr1 hfr2 HFT HF1 HAJ HNE
      generalize hbs : jourJ id ins = bs at Q2 hc hjl HLG HLW ⊢
      clear hbs Q1
      have hbe : Below w2.heap.size w2 (w2.alloc (.cells #[] 5)) := (Below.refl _ _).alloc (Nat.le_refl _) _
      have HE0 : Hid (OwnB w2.heap.size (w2.alloc (.cells #[] 5)) (.slice (some ⟨w2.heap.size, 0, none⟩) 0 0) []) := hidden (empty_new w2 (Nat.le_refl _) rfl)
      have QE := hidden (Q2.out.on' hbe)
      have ZE : Hid (w2.heap.size ≤ (w2.alloc (.cells #[] 5)).heap.size) := hidden hbe.size
      have HL1 : Hid (([] : List UInt8).length + bs.length ≤ 140737488355328) := hidden (by simp; omega)
      have HL2 : Hid (bs.length + fr.length ≤ 140737488355328) := hidden (by omega)
      have HL3 : Hid (bs.length + fz.length ≤ 140737488355328) := hidden (by omega)
      have HEB : Hid (∀ k, (Value.slice (some ⟨w2.heap.size, 0, none⟩) 0 0).ownBlock = some k → w2.heap.size ≤ k) := hidden (fun k hk => (HE0.out.lt k hk).1)
      have HBE := hidden hbe
      clear hbe
      go_wp2_with (first
        | (at_builtin; refine wpList_append_B rfl (.tmp 48) (.tmp 49) rfl rfl HE0.out rfl rfl QE.out HL1.out ZE.out ?_; intro v3 w3 g3; rw [List.nil_append] at g3; have G3 := hidden g3; obtain ⟨a3, c3, rfl, -, -, -⟩ := g3.own.reads; clear g3)
        | (at_builtin; refine wpList_append_B rfl (.tmp 50) (.tmp 51) rfl rfl G3.out.own rfl rfl (QX.out.on' (HBE.out.trans (G3.out.below ZE.out HEB.out))) HL2.out (Nat.le_trans ZE.out G3.out.upd.size) ?_; intro v4 w4 g4; have G4 := hidden g4; obtain ⟨a4, c4, rfl, q4, hc4, -⟩ := g4.own.reads; have hm4 := own_cap g4.own rfl; have Q4 := hidden q4; clear g4 q4)
        | fail)
      have B24 := hidden (joined G3.out G4.out)
      have B4 := hidden (B2.out.trans (B24.out.mono B2.out.size))
      have Q24 := hidden (Q2.out.on' B24.out)
      have HSC := hidden (scan_any a4 c4 (bs ++ fr) id w4 Q4.out hc4 hm4 (by rw [List.length_append]; omega))
      rw [List.length_append] at HSC
      clear G3 G4 HE0 QE ZE HL1 HEB HBE B24
      with_reducible refine HSC.out.mono ?_
      rintro e w5 ⟨hb, a5, c5, rfl, -⟩
      rw [HLG.out]
      have B5 := hidden (B4.out.trans (hb.mono B4.out.size))
      have B6 := hidden (B5.out.alloc B5.out.size (.cells #[.slice a5 (ins ++ [l]).length c5, .int .i64 ((bs ++ fr).length : Nat), .bool true] 89))
      have Q6 := hidden ((Q24.out.on' hb).on' ((Below.refl w5.heap.size w5).alloc (Nat.le_refl _) (.cells #[.slice a5 (ins ++ [l]).length c5, .int .i64 ((bs ++ fr).length : Nat), .bool true] 89)))
      clear hb HSC HLG Q24
      dsimp only
      rw [show (ins ++ [l]).length = ins.length + 1 by simp, List.length_append, show ((bs.length + fr.length : Nat) : Int) = (bs.length : Int) + (fr.length : Int) by omega] at B6 Q6 ⊢
      go_wp2_with fail
      generalize w5.alloc (.cells #[.slice a5 (ins.length + 1) c5, .int .i64 ((bs.length : Int) + (fr.length : Int)), .bool true] 89) = w6 at *
      with_reducible refine (HGR.out w6 B6.out).mono ?_
      rintro e w7 ⟨hb, v7, rfl, ho⟩
      rw [HGN.out] at ho ⊢
      dsimp only at ho ⊢
      have B7 := hidden (B6.out.trans (hb.mono B6.out.size))
      have Q7 := hidden (Q6.out.on' hb)
      obtain ⟨az, cz, rfl, qz, -, -⟩ := ho.reads
      have QZ := hidden qz
      have hbe : Below w7.heap.size w7 (w7.alloc (.cells #[] 5)) := (Below.refl _ _).alloc (Nat.le_refl _) _
      have HE0 : Hid (OwnB w7.heap.size (w7.alloc (.cells #[] 5)) (.slice (some ⟨w7.heap.size, 0, none⟩) 0 0) []) := hidden (empty_new w7 (Nat.le_refl _) rfl)
      have QE := hidden (Q7.out.on' hbe)
      have ZE : Hid (w7.heap.size ≤ (w7.alloc (.cells #[] 5)).heap.size) := hidden hbe.size
      have HL1 : Hid (([] : List UInt8).length + bs.length ≤ 140737488355328) := hidden (by simp; omega)
      have HEB : Hid (∀ k, (Value.slice (some ⟨w7.heap.size, 0, none⟩) 0 0).ownBlock = some k → w7.heap.size ≤ k) := hidden (fun k hk => (HE0.out.lt k hk).1)
      have HBE := hidden hbe
      clear hbe hb ho qz HGR
      go_wp2_with (first
        | (at_builtin; refine wpList_append_B rfl (.tmp 80) (.tmp 81) rfl rfl HE0.out rfl rfl QE.out HL1.out ZE.out ?_; intro v3 w3 g3; rw [List.nil_append] at g3; have G3 := hidden g3; obtain ⟨a3, c3, rfl, -, -, -⟩ := g3.own.reads; clear g3)
        | (at_builtin; refine wpList_append_B rfl (.tmp 82) (.tmp 83) rfl rfl G3.out.own rfl rfl (QZ.out.on' (HBE.out.trans (G3.out.below ZE.out HEB.out))) HL3.out (Nat.le_trans ZE.out G3.out.upd.size) ?_; intro v8 w8 g4; have G4 := hidden g4; obtain ⟨a8, c8, rfl, q8, hc8, -⟩ := g4.own.reads; have hm8 := own_cap g4.own rfl; have Q8 := hidden q8; clear g4 q8)
        | fail)
      have B8 := hidden (B7.out.trans ((joined G3.out G4.out).mono B7.out.size))
      have HSC := hidden (scan_any a8 c8 (bs ++ fz) id w8 Q8.out hc8 hm8 (by rw [List.length_append]; omega))
      rw [List.length_append] at HSC
      clear G3 G4 HE0 QE ZE HL1 HEB HBE
      with_reducible refine HSC.out.mono ?_
      rintro e w9 ⟨hb, a9, c9, rfl, -⟩
      rw [HLW.out]
      dsimp only
      have B9 := hidden (B8.out.trans (hb.mono B8.out.size))
      have B10 := hidden (B9.out.alloc B9.out.size (.cells #[.slice a9 ins.length c9, .int .i64 (bs.length : Nat), .bool true] 89))
      clear hb HSC HLW
      go_wp2_with fail
      with_reducible refine (lives_04 _).mono ?_
      rintro e w11 ⟨rfl, hb⟩
      have B11 := hidden (B10.out.trans (hb.mono B10.out.size))
      clear hb
      go_wp2_with fail
      go_ret
      exact ⟨rfl, B11.out⟩
    · have HE9 : Hid ((groupJ (ins.length + 1) l).2 = 9) := hidden (by
        rcases groupJ_err (ins.length + 1) l with h | h | h
        · exact absurd h her
        · exfalso
          unfold groupJ at h
          rw [if_neg (by rintro (h1 | h1); omega; exact HNE.out h1)] at h
          split at h <;> cases h
        · exact h)
      rw [HE9.out]
      clear her
      go_wp2_with fail
      with_reducible refine (lives_04 _).mono ?_
      rintro e w3 ⟨rfl, hb⟩
      have B3 := hidden (B2.out.trans (hb.mono B2.out.size))
      clear hb
      go_wp2_with fail
      go_ret
      exact ⟨rfl, B3.out⟩
end Go.Proofs.Ytekmjegeiminnaa
