/- The reference's Read, walked. -/
import Derived.Test.YtekmjegeiminnaaC8
import Derived.Test.YtekmjegeiminnaaC9
namespace Go.Proofs.Ytekmjegeiminnaa
open Go.RowKit
set_option linter.unusedVariables false
set_option linter.unusedSimpArgs false

/-- What the reference's Read answers. -/
def ReadR (b : List UInt8) (w : World) (e : Ending) (w' : World) : Prop :=
  Below w.heap.size w w' ∧ ((refReadL b = none ∧ e = .returned (.tuple #[.slice none 0 0, .int .i64 12])) ∨ ∃ l a cap, refReadL b = some l ∧ e = .returned (.tuple #[.slice a l.length cap, .int .i64 0]) ∧ ChunksAt (· < w'.heap.size) w' a l)
theorem ReadR.bad {b : List UInt8} {w w' : World} (hb : Below w.heap.size w w') (h : refReadL b = none) : ReadR b w (.returned (.tuple #[.slice none 0 0, .int .i64 12])) w' := ⟨hb, .inl ⟨h, rfl⟩⟩

/-- Behind the copy of a chunk's data into a slice that was just made. -/
theorem data_copied2 {w1 wr wq w3 : World} {v x5 : Value} {ds : List UInt8} {sz : Nat} (hs : sz = ds.length) (hb : Below w1.heap.size w1 wq) (hu : Upd (fun _ => False) wr wq) (hv : ∀ k, v.ownBlock = some k → wr.heap.size ≤ k) (g : Grew w1.heap.size v x5 ([] ++ ds) wq w3) (hw : w1.heap.size ≤ wr.heap.size) :
    ∃ a c, x5 = .slice a sz c ∧ Below w1.heap.size w1 w3 ∧ Upd (fun _ => False) wr w3 ∧ (BytesAt w3 a ds ∧ ds.length ≤ c ∧ (c : Int) ≤ 9223372036854775807 ∧ (∀ A, a = some A → wr.heap.size ≤ A.block ∧ A.block < w3.heap.size)) ∧ wr.heap.size ≤ w3.heap.size := by
  have ho := g.own
  rw [List.nil_append] at ho
  obtain ⟨a, c, e, r, hc, hA⟩ := ho.reads
  refine ⟨a, c, by rw [e, hs], hb.trans (g.upd.toBelow hb.size (fun k hk h => by have := hv k h.symm; omega)), hu.trans g.upd (fun k hk h => by have := hv k h.symm; omega), ⟨r, hc, own_cap ho e, fun A hA' => ?_⟩, Nat.le_trans hu.size g.upd.size⟩
  have h1 := (hA A hA').1
  refine ⟨?_, (ho.lt _ h1).2⟩
  rcases g.at_ with h2 | ⟨q, h2, h3⟩
  · exact hv _ (h2.symm.trans h1)
  · rw [h1] at h2; cases h2; exact Nat.le_trans hu.size h3

set_option maxRecDepth 100000 in
set_option maxHeartbeats 8000000 in
theorem readc_ref (a : Option Addr) (len cap : Nat) (b : List UInt8) (w : World) (h : BytesAt w a b) (hlen : len = b.length) (hcap : len ≤ cap) (hl : (cap : Int) ≤ 9223372036854775807) (hl2 : len ≤ 1000000000) :
    Calls Try.prog 38 #[.slice a len cap] w (ReadR b w) := by
  subst hlen
  have H := hidden h
  clear h
  by_cases h20 : b.length < 20
  · have HN : Hid (refReadL b = none) := hidden (by unfold refReadL; rw [if_pos (.inr h20)])
    have h20' : (b.length : Int) < 20 := by omega
    go_enter Try.func38, Try.ntmps38
    go_wp2_with fail
    go_ret2
    exact ReadR.bad (Below.refl _ _) HN.out
  · obtain ⟨bb, oo, rfl, -⟩ := H.out 0 (by omega)
    have h20' : ¬ (b.length : Int) < 20 := by omega
    have hcv := run_str (H.out.take 8) 8 cap (by rw [List.length_take]; omega)
    have i1 : (8 : Int) ≤ (b.length : Int) := by omega
    have i7 : (b.length : Int) ≤ (cap : Int) := by omega
    have i8 : (8 : Int) ≤ (cap : Int) := by omega
    by_cases hm : b.take 8 = magicL
    · have HM := hidden hm
      rw [hm] at hcv
      have htm : ((strOf magicL).toList == [79, 67, 84, 65, 86, 79, 49, 10]) = true := by rw [ByteArray.toList_eq]; rfl
      clear hm
      go_enter Try.func38, Try.ntmps38
      go_wp2_with fail
      with_reducible refine (fourth_ref (some ⟨bb, oo + (b.length - 4), none⟩) (b.length - (b.length - 4)) (cap - (b.length - 4)) (b.drop (b.length - 4)) w (H.out.drop (b.length - 4)) (by rw [List.length_drop]; omega) (by rw [List.length_drop]) (by omega)).mono ?_
      rintro e w0 ⟨rfl, nd, hw0⟩
      have B0 : Hid (Below w.heap.size w w0) := hidden (by rw [hw0]; exact below_dn (Below.refl _ _) _)
      clear hw0 hcv htm i1 i7 i8
      have hN : ofLe ((b.drop (b.length - 4)).take 4) < 4294967296 := by
        have := ofLe_lt ((b.drop (b.length - 4)).take 4)
        rw [List.length_take, List.length_drop, show min 4 (b.length - (b.length - 4)) = 4 by omega] at this; simpa using this
      have hbl : (bodyL b).length = b.length - 12 := by unfold bodyL; rw [List.length_take, List.length_drop]; omega
      have HRD : Hid (refReadL b = if (bodyL b).length < tailN b then none
        else if unfE (frameOf b) ≠ 0 ∨ unfN (frameOf b) ≠ tailN b ∨ (unfC (frameOf b)).length % 12 ≠ 0 then none
        else (parseR b (b.length - 4 - tailN b) 8 (unfC (frameOf b))).bind fun l => if mayE l = 0 ∧ writeL l = b then some l else none) := hidden (by
          unfold refReadL; rw [if_neg]
          rintro (h1 | h1)
          · exact h1 HM.out
          · exact h20 h1)
      have hfo : frameOf b = ((b.drop 8).take (b.length - 12)).drop (b.length - 12 - tailN b) := by unfold frameOf; rw [hbl]; rfl
      have hfl : tailN b ≤ b.length - 12 → frameOf b = (b.drop (b.length - 4 - tailN b)).take (tailN b) := fun hle => by
        rw [hfo, List.drop_take, List.drop_drop]
        congr 1
        · omega
        · congr 1; omega
      have HTN : Hid (tailN b = ofLe ((b.drop (b.length - 4)).take 4)) := hidden rfl
      generalize ofLe ((b.drop (b.length - 4)).take 4) = n at hN HTN
      rw [HTN.out] at HRD hfl
      rw [hbl] at HRD
      have HFL := hidden hfl
      clear hfl hfo hbl
      generalize frameOf b = frame at HRD HFL
      clear HTN
      by_cases hnm : b.length - 12 < n
      · have HN : Hid (refReadL b = none) := hidden (by rw [HRD.out, if_pos hnm])
        have hnm' : (b.length : Int) - 4 - 8 < (n : Int) := by omega
        clear hnm
        go_wp2_with fail
        go_ret2
        exact ReadR.bad B0.out HN.out
      · have hnm' : ¬ (b.length : Int) - 4 - 8 < (n : Int) := by omega
        obtain ⟨E, eE⟩ : ∃ E, b.length - 4 - n = E := ⟨_, rfl⟩
        have hE8 : 8 ≤ E := by omega
        have hEl : E + n + 4 = b.length := by omega
        rw [eE] at HRD HFL
        have HRD2 : Hid (refReadL b = if unfE frame ≠ 0 ∨ unfN frame ≠ n ∨ (unfC frame).length % 12 ≠ 0 then none else (parseR b E 8 (unfC frame)).bind fun l => if mayE l = 0 ∧ writeL l = b then some l else none) := hidden (by
          rw [HRD.out, if_neg hnm])
        have HFR : Hid (BytesAt w0 (some ⟨bb, oo + E, none⟩) frame) := hidden (by
          rw [HFL.out (by omega)]
          exact ((H.out.on' B0.out).drop E).take n)
        have hfl : frame.length = n := by rw [HFL.out (by omega), List.length_take, List.length_drop]; omega
        have HFN := hidden hfl
        have HEE := hidden eE
        clear hfl HRD HFL hnm eE
        have j1 : (b.length : Int) - 4 - (n : Int) = (E : Int) := by omega
        have j2 : (0 : Int) ≤ (E : Int) := by omega
        have j3 : (E : Int) ≤ (b.length : Int) - 4 := by omega
        have j4 : (b.length : Int) - 4 ≤ (cap : Int) := by omega
        have j5 : ((b.length : Int) - 4).toNat = b.length - 4 := by omega
        have j6 : ¬ cap = E := by omega
        have j7 : (0 : Int) ≤ (b.length : Int) - 4 := by omega
        go_wp2_with fail
        with_reducible refine (unframe_ref _ (b.length - 4 - E) _ frame _ HFR.out (by rw [HFN.out]; omega) (by omega) (by omega) (by omega)).mono ?_
        rintro e w1 ⟨hb, v1, rfl, ho⟩
        have B1 := hidden (B0.out.trans (hb.mono B0.out.size))
        have O1 := hidden ho
        clear hb ho j1 j2 j3 j4 j5 j6 j7 hnm'
        have hd2 : (unfC frame).length ≤ 1000000000 := by have := unfC_le frame; rw [HFN.out] at this; omega
        generalize unfE frame = ue at HRD2
        generalize unfN frame = un at HRD2
        generalize unfC frame = dir0 at O1 HRD2 hd2
        obtain ⟨a2, c2, e2, q2, hc2, -⟩ := O1.out.reads
        subst e2
        have hm2 := own_cap O1.out rfl
        have Q2 := hidden q2
        clear q2 O1
        by_cases hu1 : ue = 0
        · by_cases hu2 : un = n
          · by_cases hu3 : dir0.length % 12 = 0
            · have HR3 : Hid (refReadL b = (parseR b E 8 dir0).bind fun l => if mayE l = 0 ∧ writeL l = b then some l else none) := hidden (by
                rw [HRD2.out, if_neg (by rintro (h1 | h1 | h1); exact h1 hu1; exact h1 hu2; exact h1 hu3)])
              subst hu1
              subst hu2
              obtain ⟨i0, hi, hz0, hz1, hz2⟩ := info_parts Try.info124
              have HM12 := hidden hu3
              have hcn0 : ((un : Int) != (un : Int)) = false := by simp
              have hcn1 : ((dir0.length : Int) % 12 != 0) = false := by rw [bne_eq_false_iff_eq]; omega
              have HB1 : Hid (BytesAt w1 (some ⟨bb, oo, none⟩) b) := hidden (H.out.on' B1.out)
              clear HRD2 hu3
              go_wp2_with fail
              go_loopw [6, 9, 10] (fun s6 s9 s10 wr => ∃ (dir : List UInt8) (acc : List Chk) (ps : List (Value × Value)) (A8 : Option Addr) (c8 at' : Nat), s6 = .slice A8 dir.length c8 ∧ s10 = .int .i64 at' ∧ OwnP 124 w1.heap.size wr s9 ps ∧ AllV (fun k => k < wr.heap.size ∧ some k ≠ s9.ownBlock) wr ps acc ∧
                BytesAt w1 A8 dir ∧ dir.length ≤ c8 ∧ (c8 : Int) ≤ 9223372036854775807 ∧ Below w1.heap.size w1 wr ∧ parseR b E 8 dir0 = (parseR b E at' dir).map (fun p => acc ++ p) ∧ dir.length + 12 * acc.length ≤ 1000000000 ∧ dir.length % 12 = 0 ∧ at' ≤ E ∧ (∀ c ∈ acc, c.1.length ≤ 4 ∧ c.2.length ≤ 1000000000)) (fun s6 _ _ _ => match s6 with | .slice _ n _ => n | _ => 0)
              case atStart => exact ⟨dir0, [], [], a2, c2, 8, rfl, rfl, OwnP.nil _ _ _, AllV.nil _ _, Q2.out, hc2, hm2, Below.refl _ _, by simp, by simpa using hd2, HM12.out, hE8, fun c hc => by simp at hc⟩
              case round =>
                obtain ⟨dir, acc, ps, A8, c8, at', rfl, rfl, ho, hv, hb8, h8c, h8m, hb, hp, hdl, hd12, hae, hac⟩ := hrel
                have HAC := hidden hac
                have HO := hidden ho
                have HV := hidden hv
                have H8 := hidden hb8
                have HB := hidden hb
                have HP := hidden hp
                have HD12 := hidden hd12
                have HBB : Hid (Below w.heap.size w wr) := hidden (B1.out.trans (hb.mono B1.out.size))
                clear hac ho hv hb8 hb hp
                by_cases hd0 : dir.length = 0
                · have HPE : Hid (parseR b E 8 dir0 = some acc) := hidden (by rw [HP.out, parseR_nil b E at' hd0]; simp)
                  have t0 : ¬ 0 < dir.length := by omega
                  clear hd0 hd12
                  obtain ⟨a9, c9, e9, q9, -⟩ := HO.out.chunks (HV.out.mono (T := (· < wr.heap.size)) (fun k hk => hk.1)) (fun k hk => (HO.out.lt k hk).2)
                  subst e9
                  have Q9 := hidden q9
                  clear q9
                  go_wp2_with fail
                  with_reducible refine (writec_ref a9 _ c9 acc wr Q9.out (sized_small (by omega) HAC.out) rfl (by omega)).mono ?_
                  rintro e w9 ⟨hb9, v9, rfl, ho9⟩
                  have B9 := hidden (HBB.out.trans (hb9.mono HBB.out.size))
                  have Q9' : Hid (ChunksAt (· < w9.heap.size) w9 a9 acc) := hidden (by
                    have := (Q9.out.below hb9)
                    intro i hi
                    obtain ⟨b', o', d', cap', ha, x0, x1, x2, x3, x4, x5, x6⟩ := this i hi
                    exact ⟨b', o', d', cap', ha, x0, x1, x2, x3, x4, Nat.lt_of_lt_of_le x5 hb9.size, fun A hA h0 => Nat.lt_of_lt_of_le (x6 A hA h0) hb9.size⟩)
                  have O9 := hidden ho9
                  clear hb9 ho9
                  by_cases hm0 : mayE acc = 0
                  · have t2 : (((mayE acc : Nat) : Int) != 0) = false := by rw [hm0]; rfl
                    have O9' : Hid (OwnB wr.heap.size w9 v9 (writeL acc)) := hidden (by have := O9.out; rw [if_pos hm0] at this; exact this)
                    obtain ⟨ax, cx, ex, qx, -, -⟩ := O9'.out.reads
                    subst ex
                    have cv1 := run_str qx _ cx rfl
                    have cv2 := run_str (H.out.on' B9.out) b.length cap rfl
                    clear qx
                    by_cases hwb : writeL acc = b
                    · have HN : Hid (refReadL b = some acc) := hidden (by rw [HR3.out, HPE.out]; simp [hm0, hwb])
                      rw [hwb] at cv1 ⊢
                      clear hm0 hwb
                      have tt : ((strOf b).toList == (strOf b).toList) = true := by simp
                      generalize strOf b = sb at cv1 cv2 tt
                      go_wp2_with fail
                      go_ret2
                      exact ⟨B9.out, .inr ⟨acc, a9, c9, HN.out, rfl, Q9'.out⟩⟩
                    · have HN : Hid (refReadL b = none) := hidden (by rw [HR3.out, HPE.out]; simp [hwb])
                      have tt : ((strOf (writeL acc)).toList == (strOf b).toList) = false := by rw [ByteArray.toList_eq, ByteArray.toList_eq, beq_eq_false_iff_ne]; exact hwb
                      clear hm0 hwb
                      generalize strOf b = sb at cv2 tt
                      generalize strOf (writeL acc) = sw at cv1 tt
                      go_wp2_with fail
                      go_ret2
                      exact ReadR.bad B9.out HN.out
                  · have t2 : (((mayE acc : Nat) : Int) != 0) = true := by rw [bne_iff_ne]; omega
                    have HN : Hid (refReadL b = none) := hidden (by rw [HR3.out, HPE.out]; simp [hm0])
                    have O9' := O9.out
                    rw [if_neg hm0] at O9'
                    obtain ⟨ax, cx, ex, -, -, -⟩ := O9'.reads
                    subst ex
                    clear hm0 O9'
                    go_wp2_with fail
                    go_ret2
                    exact ReadR.bad B9.out HN.out
                · have t0 : 0 < dir.length := by omega
                  have h12 : 12 ≤ dir.length := by omega
                  obtain ⟨g, o8, e8, -⟩ := H8.out 0 (by omega)
                  subst e8
                  have q2 : (dir.length : Int) ≤ (c8 : Int) := by omega
                  have q4 : (8 : Int) ≤ (c8 : Int) := by omega
                  have q3 : ¬ c8 = 4 := by omega
                  have HFB := hidden (((H8.out.on' HB.out).drop 4).take 4)
                  clear hd12
                  go_wp2_with fail
                  with_reducible refine (fourth_ref (some ⟨g, o8 + 4, none⟩) 4 (c8 - 4) ((dir.drop 4).take 4) wr HFB.out (by rw [List.length_take, List.length_drop]; omega) (by rw [List.length_take, List.length_drop]; omega) (by omega)).mono ?_
                  rintro e w9 ⟨rfl, nd, hw9⟩
                  rw [List.take_take, Nat.min_self]
                  have UD : Hid (Upd (fun _ => False) wr w9) := hidden (by rw [hw9]; exact Upd.drewN _ _)
                  clear hw9 q4 q3
                  have BQ : Hid (Below w1.heap.size w1 w9) := hidden (HB.out.trans (UD.out.toBelow HB.out.size (fun _ _ h => h)))
                  have HSZ : Hid (∀ x, ofLe ((dir.drop 4).take 4) = x → (E - at' < x → parseR b E at' dir = none) ∧ (¬ E - at' < x → parseR b E at' dir = (parseR b E (at' + x) (dir.drop 12)).map fun p => (dir.take 4, (b.drop at').take x) :: p)) := hidden (by
                    intro x hx; subst hx
                    exact ⟨fun h => parseR_bad (by omega) h, fun h => parseR_step (by omega) h⟩)
                  have hszl : ofLe ((dir.drop 4).take 4) < 4294967296 := by
                    have := ofLe_lt ((dir.drop 4).take 4)
                    rw [List.length_take, List.length_drop, show min 4 (dir.length - 4) = 4 by omega] at this; simpa using this
                  obtain ⟨sz, esz⟩ : ∃ x, ofLe ((dir.drop 4).take 4) = x := ⟨_, rfl⟩
                  have HSZ2 := hidden (HSZ.out sz esz)
                  rw [esz] at hszl ⊢
                  clear esz HSZ
                  have j1 : (b.length : Int) - 4 - (un : Int) = (E : Int) := by omega
                  have BE := hidden (B1.out.trans (BQ.out.mono B1.out.size))
                  by_cases hsz : E - at' < sz
                  · have HN : Hid (refReadL b = none) := hidden (by rw [HR3.out, HP.out, HSZ2.out.1 hsz]; rfl)
                    have t3 : (E : Int) - (at' : Int) < (sz : Int) := by omega
                    clear hsz
                    go_wp2_with fail
                    go_ret2
                    exact ReadR.bad BE.out HN.out
                  · have t3 : ¬ (E : Int) - (at' : Int) < (sz : Int) := by omega
                    have HPS : Hid (parseR b E at' dir = (parseR b E (at' + sz) (dir.drop 12)).map fun p => (dir.take 4, (b.drop at').take sz) :: p) := hidden (HSZ2.out.2 hsz)
                    have hse : at' + sz ≤ E := by omega
                    clear HSZ2 hsz
                    have q8 : (4 : Int) ≤ (dir.length : Int) := by omega
                    have q9 : (dir.length : Int) ≤ (c8 : Int) := by omega
                    have q10 : (4 : Int) ≤ (c8 : Int) := by omega
                    have q11 : (at' : Int) ≤ (at' : Int) + (sz : Int) := by omega
                    have q12 : (at' : Int) + (sz : Int) ≤ (cap : Int) := by omega
                    have q13 : ((at' : Int) + (sz : Int)).toNat = at' + sz := by omega
                    have q14 : ¬ cap = at' := by omega
                    have q15 : at' + sz - at' = sz := by omega
                    have q16 : IntKind.i64.wrap ((at' : Int) + (sz : Int)) = (at' : Int) + (sz : Int) := IntWalk.i64_in _ (by omega)
                    have q17 : (0 : Int) ≤ (at' : Int) + (sz : Int) := by omega
                    have HCV : Hid (∀ W, Below w1.heap.size w1 W → (convert 22 9 (.slice (some ⟨g, o8, none⟩) 4 c8)).run Try.prog W = .ok (.string (strOf (dir.take 4))) W) := hidden (fun W hW => run_str ((H8.out.on' hW).take 4) 4 c8 (by rw [List.length_take]; omega))
                    have BD : Hid (Below w1.heap.size w1 w9.drew) := hidden (BQ.out.trans ((below_drew w9).mono BQ.out.size))
                    have bda := BD.out.alloc BD.out.size (.cells #[] 5)
                    have HOE : Hid (OwnB w1.heap.size (w9.drew.alloc (.cells #[] 5)) (.slice (some ⟨w9.heap.size, 0, none⟩) 0 0) []) := hidden (OwnB.weaken (World.ownsRow_lit w9.drew #[] 0 (Nat.le_refl _) (by decide) rfl) BD.out.size)
                    have HSL : Hid (sz = ((b.drop at').take sz).length) := hidden (by rw [List.length_take, List.length_drop]; omega)
                    have H6D : Hid (BytesAt (w9.drew.alloc (.cells #[] 5)) (some ⟨bb, oo + at', none⟩) ((b.drop at').take sz)) := hidden (((HB1.out.on' bda).drop at').take sz)
                    have HLD : Hid (([] : List UInt8).length + ((b.drop at').take sz).length ≤ 140737488355328) := hidden (by rw [← HSL.out]; simp; omega)
                    have HPL : Hid (ps.length ≤ 1000000000000) := hidden (by rw [HV.out.1]; omega)
                    have UQD : Hid (Upd (fun _ => False) wr (w9.drew.alloc (.cells #[] 5))) := hidden ((UD.out.trans (Upd.drew _) (fun _ _ h => h)).trans (Upd.new _ _) (fun _ _ h => h))
                    have HZ9 : Hid (∀ k, (Value.slice (some ⟨w9.heap.size, 0, none⟩) 0 0).ownBlock = some k → wr.heap.size ≤ k) := hidden (fun k hk => by cases hk; exact UD.out.size)
                    go_wp2_with fail
                    go_region_held3 (fun w' => (convert 22 9 (.slice (some ⟨g, o8, none⟩) 4 c8)).run Try.prog w' = .ok (.string (strOf (dir.take 4))) w') (first | (refine HCV.out _ ?_; assumption) | (refine HCV.out _ BD.out))
                      (first
                        | (refine step_append_B (B := w1.heap.size) (v := .slice (some ⟨w9.heap.size, 0, none⟩) 0 0) (bs := []) (cs := (b.drop at').take sz) (c := cap - at') ?_ (.tmp 78) (.tmp 84) ?_ ?_ HOE.out ?_ HSL.out H6D.out HLD.out bda.size ?_; rfl; rfl; rfl; rfl; intro x5 w3 g3; obtain ⟨a5, c5, rfl, hb3, U3, R3, Z3⟩ := data_copied2 HSL.out bda UQD.out HZ9.out g3 HB.out.size; have hb3a := hb3.alloc hb3.size (.cells #[.string (strOf (dir.take 4)), .slice a5 sz c5] 124))
                        | (refine step_append_P (c := 1) ?_ (.tmp 74) (.tmp 87) 51 ?_ Try.underlying51 hi hz0 hz1 hz2 (.string (strOf (dir.take 4)), .slice a5 sz c5) ?_ (HO.out.on (U3.trans (Upd.new _ _) (fun _ _ h => h)) (fun _ _ h => h)) ?_ (cell_pair0 w3 _ _ _) (cell_pair1 w3 _ _ _) rfl rfl HPL.out hb3a.size ?_; rfl; rfl; rfl; rfl; intro x11 w4 g4; have hb4 := row_grown HO.out (U3.trans (Upd.new _ _) (fun _ _ h => h)) hb3a g4)
                        | fail)
                    have HV4 := hidden (chunk_added (l := acc) (c := (dir.take 4, (b.drop at').take sz)) HO.out HV.out U3 R3 (congrArg (fun n => Value.slice a5 n c5) HSL.out) g4)
                    have HO4 := hidden g4.own
                    have HB4 := hidden hb4
                    clear hb4 g4 R3 U3 hb3 hb3a Z3 bda q8 q10 q11 q12 q13 q14 q15 q17
                    have HPE : Hid (parseR b E 8 dir0 = (parseR b E (at' + sz) (dir.drop 12)).map (fun p => (acc ++ [(dir.take 4, (b.drop at').take sz)]) ++ p)) := hidden (by
                      rw [HP.out, HPS.out, Option.map_map]
                      congr 1
                      funext p
                      simp)
                    have HAE : Hid (∀ c ∈ acc ++ [(dir.take 4, (b.drop at').take sz)], c.1.length ≤ 4 ∧ c.2.length ≤ 1000000000) := hidden (by
                      intro c hc
                      rw [List.mem_append] at hc
                      rcases hc with hc | hc
                      · exact HAC.out c hc
                      · simp only [List.mem_singleton] at hc
                        subst hc
                        simp only [List.length_take, List.length_drop]; omega)
                    have H8E := hidden (H8.out.tail h8c 12)
                    have HLE : Hid ((dir.drop 12).length = dir.length - 12) := hidden List.length_drop
                    have q6 : (12 : Int) ≤ (dir.length : Int) := by omega
                    by_cases e8 : c8 = 12
                    · have E8 := hidden e8
                      have h8 := H8E.out
                      rw [if_pos E8.out] at h8
                      have K8 := hidden h8
                      clear h8
                      go_wp2_with fail
                      refine ⟨⟨dir.drop 12, _, _, some ⟨g, o8, none⟩, 0, at' + sz, ?_, ?_, HO4.out, HV4.out, K8.out, ?_, by omega, HB4.out, HPE.out, ?_, ?_, hse, HAE.out⟩, ?_⟩
                      · rw [HLE.out]
                      · go_num
                      · rw [HLE.out]; have := E8.out; omega
                      · rw [HLE.out, List.length_append]; simp only [List.length_cons, List.length_nil]; omega
                      · rw [HLE.out]; have := HD12.out; omega
                      · show dir.length - 12 < dir.length; omega
                    · have E8 := hidden e8
                      have h8 := H8E.out
                      rw [if_neg E8.out] at h8
                      have K8 := hidden h8
                      clear h8
                      go_wp2_with fail
                      refine ⟨⟨dir.drop 12, _, _, some ⟨g, o8 + 12, none⟩, c8 - 12, at' + sz, ?_, ?_, HO4.out, HV4.out, K8.out, ?_, by omega, HB4.out, HPE.out, ?_, ?_, hse, HAE.out⟩, ?_⟩
                      · rw [HLE.out]
                      · go_num
                      · rw [HLE.out]; omega
                      · rw [HLE.out, List.length_append]; simp only [List.length_cons, List.length_nil]; omega
                      · rw [HLE.out]; have := HD12.out; omega
                      · show dir.length - 12 < dir.length; omega
            · have HN : Hid (refReadL b = none) := hidden (by rw [HRD2.out, if_pos (.inr (.inr hu3))])
              have t1 : ((un : Int) != (n : Int)) = false := by rw [bne_eq_false_iff_eq]; omega
              have t2 : ((dir0.length : Int) % 12 != 0) = true := by rw [bne_iff_ne]; omega
              subst hu1
              clear hu2 hu3 HRD2
              go_wp2_with fail
              go_ret2
              exact ReadR.bad B1.out HN.out
          · have HN : Hid (refReadL b = none) := hidden (by rw [HRD2.out, if_pos (.inr (.inl hu2))])
            have t1 : ((un : Int) != (n : Int)) = true := by rw [bne_iff_ne]; omega
            subst hu1
            clear hu2 HRD2
            go_wp2_with fail
            go_ret2
            exact ReadR.bad B1.out HN.out
        · have HN : Hid (refReadL b = none) := hidden (by rw [HRD2.out, if_pos (.inl hu1)])
          have t1 : ((ue : Int) != 0) = true := by rw [bne_iff_ne]; omega
          clear hu1 HRD2
          go_wp2_with fail
          go_ret2
          exact ReadR.bad B1.out HN.out
    · have HN : Hid (refReadL b = none) := hidden (by unfold refReadL; rw [if_pos (.inl hm)])
      have htm : ((strOf (b.take 8)).toList == [79, 67, 84, 65, 86, 79, 49, 10]) = false := by rw [ByteArray.toList_eq, beq_eq_false_iff_ne]; exact hm
      clear hm
      generalize strOf (b.take 8) = ss at hcv htm
      go_enter Try.func38, Try.ntmps38
      go_wp2_with fail
      go_ret2
      exact ReadR.bad (Below.refl _ _) HN.out
end Go.Proofs.Ytekmjegeiminnaa
