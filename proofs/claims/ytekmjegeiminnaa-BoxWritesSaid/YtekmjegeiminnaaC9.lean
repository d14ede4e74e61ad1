/- The reference's Write, walked. -/
import Derived.Test.YtekmjegeiminnaaC7
import Derived.Deep.CutBlock
import Derived.Deep.DeepCutAuto
namespace Go.Proofs.Ytekmjegeiminnaa
open Go.RowKit
set_option linter.unusedVariables false
set_option linter.unusedSimpArgs false

theorem dup_snoc' (ts : List (List UInt8)) (t : List UInt8) : dupB (ts ++ [t]) = (dupB ts || decide (t ∈ ts)) := by
  rw [dup_snoc]
  congr 1
  rw [Bool.eq_iff_iff]
  simp only [decide_eq_true_iff]
  rw [← cnt_pos]; omega
theorem dup_take {ts : List (List UInt8)} (k : Nat) (h : dupB (ts.take k) = true) : dupB ts = true := by
  unfold dupB at *
  simp only [Bool.not_eq_true', decide_eq_false_iff_not] at *
  intro hn
  exact h (hn.sublist (List.take_sublist _ _))
theorem may_dup {l : List Chk} (hg : goodAll l = true) {i j : Nat} (hij : i < j) (hj : j < l.length) (h : l[i].1 = l[j].1) : mayE l = 7 := by
  have hd : dupB (tags l) = true := by
    have e : tags (l.take (j + 1)) = tags (l.take j) ++ [l[j].1] := by unfold tags; rw [take_snoc' l hj, List.map_append]; rfl
    have h1 : dupB (tags (l.take (j + 1))) = true := by
      rw [e, dup_snoc', Bool.or_eq_true]
      right
      rw [decide_eq_true_iff]
      unfold tags
      rw [List.mem_map]
      exact ⟨l[i], by rw [List.mem_take_iff_getElem]; exact ⟨i, by omega, rfl⟩, h⟩
    have e2 : tags (l.take (j + 1)) = (tags l).take (j + 1) := by simp [tags, List.map_take]
    rw [e2] at h1
    exact dup_take _ h1
  unfold mayE
  rw [if_neg (by rw [hg]; decide), if_pos hd]

set_option maxRecDepth 100000 in
set_option maxHeartbeats 16000000 in
theorem writec_ref (a : Option Addr) (len cap : Nat) (l : List Chk) (w : World) (h : ChunksAt (· < w.heap.size) w a l) (hs : Sized l) (hlen : len = l.length) (hl9 : l.length ≤ 1000000000) :
    Calls Try.prog 41 #[.slice a len cap] w (WriteA l w) := by
  subst hlen
  have H := hidden h
  have HS := hidden hs
  clear h hs
  go_enter Try.func41, Try.ntmps41
  go_wp2_with fail
  go_loopw [20] (fun s20 wr => ∃ k : Nat, s20 = .int .i64 k ∧ k ≤ l.length ∧ goodAll (l.take k) = true ∧ Below w.heap.size w wr) (fun s20 _ => l.length - (intOf s20).toNat)
  case atStart => exact ⟨0, rfl, by omega, rfl, Below.refl _ _⟩
  case round =>
    obtain ⟨k, rfl, hk, hga, hb⟩ := hrel
    have HGK := hidden hga
    have HB := hidden hb
    clear hga hb
    by_cases hlt : k < l.length
    · obtain ⟨b, o, d, cap', rfl, c0, c1, h1, h2, h3, h4, h5⟩ := H.out.below HB.out k hlt
      have HT := hidden (take_snoc' l hlt)
      have HSC := hidden (HS.out.2 _ (List.getElem_mem hlt))
      obtain ⟨c, ec⟩ : ∃ c, l[k] = c := ⟨_, rfl⟩
      rw [ec] at c0 c1 h1 h3 HT HSC
      have HCK := hidden ec
      clear ec
      obtain ⟨hc1, hc2⟩ := HSC.out
      have H3 := hidden h3
      clear h3 h5
      go_wp2_with fail
      with_reducible refine (good_ref (strOf c.1) _ (strOf_size hc1)).mono ?_
      rintro e w1 ⟨rfl, rfl⟩
      generalize hgd : goodB (strOf c.1).data.toList = gd
      have HGD : Hid (goodB c.1 = gd) := hidden hgd
      clear hgd
      have BE := hidden (HB.out.alloc HB.out.size (.cells #[.string (strOf c.1), .slice d c.2.length cap'] 124))
      cases gd
      · have HE : Hid (mayE l = 8) := hidden (by
          unfold mayE
          rw [if_pos]
          unfold goodAll
          rw [List.all_eq_false]
          have hm : c ∈ l.take (k + 1) := by rw [HT.out]; simp
          exact ⟨c, List.mem_of_mem_take hm, by rw [HGD.out]; decide⟩)
        go_wp2_with fail
        go_ret2
        exact ⟨BE.out, _, by rw [HE.out]; rfl, by rw [HE.out]; exact OwnB.nil _ _⟩
      · have HGA2 : Hid (goodAll (l.take (k + 1)) = true) := hidden (by rw [HT.out]; unfold goodAll; have := HGK.out; unfold goodAll at this; rw [List.all_append, this]; simp [HGD.out])
        go_wp2_with fail
        exact ⟨⟨k + 1, by go_num, by omega, HGA2.out, BE.out⟩, by simp [intOf]; omega⟩
    · have hk' : k = l.length := by omega
      have HGA : Hid (goodAll l = true) := hidden (by have := HGK.out; rw [hk', List.take_length] at this; exact this)
      obtain ⟨wA, hwA⟩ : ∃ wA : World, wA = wr := ⟨_, rfl⟩
      subst hwA
      have HBA := hidden HB.out
      clear hk' HB HGK
      go_upto_block 2 with fail
      clear hlt hk
      go_cut [4] from 31 to 60 (fun s4 wx => ∃ tt : Nat, s4 = .int .i64 tt ∧ (131072 < tt ↔ 131072 < total l) ∧ tt ≤ 131073 ∧ Below w.heap.size w wx)
      case first =>
        go_wp2_with fail
        go_loopw [4, 31] (fun s4 s31 wr => ∃ (k : Nat), s31 = .int .i64 k ∧ k ≤ l.length ∧ s4 = .int .i64 (total (l.take k) : Nat) ∧ total (l.take k) ≤ 131072 ∧ Below w.heap.size w wr) (fun _ s31 _ => l.length - (intOf s31).toNat)
        case atStart => exact ⟨0, rfl, by omega, rfl, by simp [total], HBA.out⟩
        case round =>
          obtain ⟨k, rfl, hk, rfl, htk, hb⟩ := hrel
          have HB := hidden hb
          clear hb
          by_cases hlt : k < l.length
          · obtain ⟨b, o, d, cap', rfl, c0, c1, h1, h2, h3, h4, h5⟩ := H.out.below HB.out k hlt
            have HT := hidden (take_snoc' l hlt)
            have HSC := hidden (HS.out.2 _ (List.getElem_mem hlt))
            obtain ⟨c, ec⟩ : ∃ c, l[k] = c := ⟨_, rfl⟩
            rw [ec] at c0 c1 h1 h3 HT HSC
            have HCK := hidden ec
            clear ec
            obtain ⟨hc1, hc2⟩ := HSC.out
            have H3 := hidden h3
            clear h3 h5
            obtain ⟨wo, hwo⟩ : ∃ wo : World, wo = wr := ⟨_, rfl⟩
            subst hwo
            obtain ⟨wv, hwv⟩ : ∃ wv, wo.alloc (.cells #[.string (strOf c.1), .slice d c.2.length cap'] 124) = wv := ⟨_, rfl⟩
            have v0 : wv.cell? ⟨wo.heap.size, 0, none⟩ = some (.string (strOf c.1)) := by rw [← hwv, World.cell?_alloc_at _ _ _ _ rfl]; rfl
            have v1 : wv.cell? ⟨wo.heap.size, 1, none⟩ = some (.slice d c.2.length cap') := by rw [← hwv, World.cell?_alloc_at _ _ _ _ rfl]; rfl
            have BV : Hid (Below w.heap.size w wv) := hidden (by rw [← hwv]; exact HB.out.alloc HB.out.size _)
            have ZV : Hid (wo.heap.size < wv.heap.size) := hidden (by rw [← hwv]; simp)
            have HWV := hidden hwv
            clear hwv
            have HTT : Hid (total (l.take (k + 1)) = total (l.take k) + c.2.length ∧ total (l.take (k + 1)) ≤ total l) := hidden ⟨by rw [HT.out, total_snoc], total_take_le l (k + 1)⟩
            obtain ⟨tk, etk⟩ : ∃ x, total (l.take k) = x := ⟨_, rfl⟩
            rw [etk] at htk HTT ⊢
            clear etk
            go_wp2_with fail
            rw [HWV.out]
            go_loopw [9] (fun s wi => ∃ (j : Nat), s = .int .i64 j ∧ j ≤ k ∧ Below wv.heap.size wv wi) (fun s _ => (k - intOf s).toNat)
            case atStart => exact ⟨0, rfl, by omega, Below.refl _ _⟩
            case round =>
              obtain ⟨j, rfl, hj, hbi⟩ := hrel
              have HBI := hidden hbi
              clear hbi
              have HBJ : Hid (Below w.heap.size w wr) := hidden (BV.out.trans (HBI.out.mono BV.out.size))
              have y0 := HBI.out.cell (p := ⟨wo.heap.size, 0, none⟩) (by exact ZV.out)|>.trans v0
              have y1 := HBI.out.cell (p := ⟨wo.heap.size, 1, none⟩) (by exact ZV.out)|>.trans v1
              by_cases hjk : j < k
              · obtain ⟨b2, o2, d2, cap2, e2, p0, -, -, -, -, -, -⟩ := H.out.below HBJ.out j (by omega)
                cases e2
                have i1 : (0 : Int) ≤ (j : Int) := by omega
                have i2 : (j : Int) < (l.length : Int) := by omega
                by_cases htg : l[j].1 = c.1
                · have HE : Hid (mayE l = 7) := hidden (may_dup HGA.out (i := j) (j := k) hjk hlt (by rw [HCK.out]; exact htg))
                  rw [htg] at p0
                  clear htg
                  have tb : ((strOf c.1).toList == (strOf c.1).toList) = true := by simp
                  go_wp2_with fail
                  go_quiet (fail)
                  go_wp2_with fail
                  go_ret2
                  exact ⟨below_dn HBJ.out _, _, by rw [HE.out]; rfl, by rw [HE.out]; exact OwnB.nil _ _⟩
                · have HTG := hidden htg
                  obtain ⟨tg, etg⟩ : ∃ tg, l[j].1 = tg := ⟨_, rfl⟩
                  rw [etg] at p0 htg
                  have ETG := hidden etg
                  clear etg
                  have tb : (tg == c.1) = false := by rw [beq_eq_false_iff_ne]; exact htg
                  clear htg
                  go_wp2_with fail
                  go_quiet (fail)
                  go_wp2_with fail
                  exact ⟨⟨j + 1, by go_num, by omega, below_dn HBI.out _⟩, by simp [intOf]; omega⟩
              · have hjk' : j = k := by omega
                clear hjk
                by_cases hov : (131072 : Int) - (tk : Int) < (c.2.length : Int)
                · go_wp2_with fail
                  go_meet
                  exact ⟨131073, rfl, by have := HTT.out; omega, by omega, HBJ.out⟩
                · go_wp2_with fail
                  exact ⟨⟨k + 1, by go_num, by omega, by rw [HTT.out.1]; go_num, by rw [HTT.out.1]; omega, HBJ.out⟩, by simp [intOf]; omega⟩
          · have hk' : k = l.length := by omega
            subst hk'
            have HTT : Hid (total (l.take l.length) = total l) := hidden (by rw [List.take_length])
            go_wp2_with fail
            go_meet
            exact ⟨total l, by rw [HTT.out], Iff.rfl, by rw [HTT.out] at htk; omega, HB.out⟩
      case rest =>
        obtain ⟨tt, rfl, htt, htt2, hb⟩ := hcut
        have HC := hidden hb
        have HTT := hidden htt
        clear hb htt HBA
        go_wp2_with fail
        go_loopw [63] (fun s63 wr => ∃ (k : Nat), s63 = .int .i64 k ∧ k ≤ l.length ∧ dupB (tags (l.take k)) = false ∧ Below w.heap.size w wr) (fun s63 _ => l.length - (intOf s63).toNat)
        case atStart => exact ⟨0, rfl, by omega, rfl, HC.out⟩
        case round =>
          obtain ⟨k, rfl, hk, hdup, hb⟩ := hrel
          have HB := hidden hb
          have HDUP := hidden hdup
          clear hb hdup
          by_cases hlt : k < l.length
          · obtain ⟨b, o, d, cap', rfl, c0, c1, h1, h2, h3, h4, h5⟩ := H.out.below HB.out k hlt
            have HT := hidden (take_snoc' l hlt)
            have HSC := hidden (HS.out.2 _ (List.getElem_mem hlt))
            obtain ⟨c, ec⟩ : ∃ c, l[k] = c := ⟨_, rfl⟩
            rw [ec] at c0 c1 h1 h3 HT HSC
            have HCK := hidden ec
            clear ec
            obtain ⟨hc1, hc2⟩ := HSC.out
            have H3 := hidden h3
            clear h3 h5
            obtain ⟨wo, hwo⟩ : ∃ wo : World, wo = wr := ⟨_, rfl⟩
            subst hwo
            obtain ⟨wv, hwv⟩ : ∃ wv, wo.alloc (.cells #[.string (strOf c.1), .slice d c.2.length cap'] 124) = wv := ⟨_, rfl⟩
            have v0 : wv.cell? ⟨wo.heap.size, 0, none⟩ = some (.string (strOf c.1)) := by rw [← hwv, World.cell?_alloc_at _ _ _ _ rfl]; rfl
            have v1 : wv.cell? ⟨wo.heap.size, 1, none⟩ = some (.slice d c.2.length cap') := by rw [← hwv, World.cell?_alloc_at _ _ _ _ rfl]; rfl
            have BV : Hid (Below w.heap.size w wv) := hidden (by rw [← hwv]; exact HB.out.alloc HB.out.size _)
            have ZV : Hid (wo.heap.size < wv.heap.size) := hidden (by rw [← hwv]; simp)
            have HWV := hidden hwv
            clear hwv
            go_wp2_with fail
            rw [HWV.out]
            go_loopw [12] (fun s wi => ∃ (j : Nat), s = .int .i64 j ∧ j ≤ k ∧ Below wv.heap.size wv wi ∧ (∀ j' (h' : j' < l.length), j' < j → l[j'].1 ≠ c.1)) (fun s _ => (k - intOf s).toNat)
            case atStart => exact ⟨0, rfl, by omega, Below.refl _ _, fun j' _ hj => by omega⟩
            case round =>
              obtain ⟨j, rfl, hj, hbi, hacc⟩ := hrel
              have HBI := hidden hbi
              have HACC := hidden hacc
              clear hbi hacc
              have HBJ : Hid (Below w.heap.size w wr) := hidden (BV.out.trans (HBI.out.mono BV.out.size))
              have y0 := HBI.out.cell (p := ⟨wo.heap.size, 0, none⟩) (by exact ZV.out)|>.trans v0
              have y1 := HBI.out.cell (p := ⟨wo.heap.size, 1, none⟩) (by exact ZV.out)|>.trans v1
              by_cases hjk : j < k
              · obtain ⟨b2, o2, d2, cap2, e2, p0, -, -, -, -, -, -⟩ := H.out.below HBJ.out j (by omega)
                cases e2
                have i1 : (0 : Int) ≤ (j : Int) := by omega
                have i2 : (j : Int) < (l.length : Int) := by omega
                by_cases htg : l[j].1 = c.1
                · have HE : Hid (mayE l = 7) := hidden (may_dup HGA.out (i := j) (j := k) hjk hlt (by rw [HCK.out]; exact htg))
                  rw [htg] at p0
                  clear htg
                  have tb : ((strOf c.1).toList == (strOf c.1).toList) = true := by simp
                  go_wp2_with fail
                  go_quiet (fail)
                  go_wp2_with fail
                  go_ret2
                  exact ⟨below_dn HBJ.out _, _, by rw [HE.out]; rfl, by rw [HE.out]; exact OwnB.nil _ _⟩
                · have HTG := hidden htg
                  obtain ⟨tg, etg⟩ : ∃ tg, l[j].1 = tg := ⟨_, rfl⟩
                  rw [etg] at p0 htg
                  have ETG := hidden etg
                  clear etg
                  have tb : (tg == c.1) = false := by rw [beq_eq_false_iff_ne]; exact htg
                  clear htg
                  go_wp2_with fail
                  go_quiet (fail)
                  go_wp2_with fail
                  refine ⟨⟨j + 1, by go_num, by omega, below_dn HBI.out _, fun j' h' hj' => ?_⟩, by simp [intOf]; omega⟩
                  by_cases he : j' = j
                  · subst he; exact HTG.out
                  · exact HACC.out j' h' (by omega)
              · have hjk' : j = k := by omega
                clear hjk
                have HDN : Hid (dupB (tags (l.take (k + 1))) = false) := hidden (by
                  have e : tags (l.take (k + 1)) = tags (l.take k) ++ [c.1] := by unfold tags; rw [HT.out, List.map_append]; rfl
                  rw [e, dup_snoc', HDUP.out, Bool.false_or, decide_eq_false_iff_not]
                  intro hm
                  unfold tags at hm
                  rw [List.mem_map] at hm
                  obtain ⟨x, hx, ex⟩ := hm
                  rw [List.mem_take_iff_getElem] at hx
                  obtain ⟨j', hj', ej⟩ := hx
                  exact HACC.out j' (by omega) (by omega) (by rw [ej]; exact ex))
                subst hjk'
                go_wp2_with fail
                exact ⟨⟨j + 1, by go_num, by omega, HDN.out, HBJ.out⟩, by simp [intOf]; omega⟩
          · have hk' : k = l.length := by omega
            have HD : Hid (dupB (tags l) = false) := hidden (by have := HDUP.out; rw [hk', List.take_length] at this; exact this)
            clear hk' HDUP
            by_cases h32 : 32 < l.length
            · have HE : Hid (mayE l = 9) := hidden (by unfold mayE; rw [if_neg (by rw [HGA.out]; decide), if_neg (by rw [HD.out]; decide), if_pos (.inl h32)])
              have h32' : (32 : Int) < (l.length : Int) := by omega
              go_wp2_with fail
              go_ret2
              exact ⟨HB.out, _, by rw [HE.out]; rfl, by rw [HE.out]; exact OwnB.nil _ _⟩
            · have h32' : ¬ (32 : Int) < (l.length : Int) := by omega
              by_cases ht9 : 131072 < tt
              · have HE : Hid (mayE l = 9) := hidden (by unfold mayE; rw [if_neg (by rw [HGA.out]; decide), if_neg (by rw [HD.out]; decide), if_pos (.inr (HTT.out.1 ht9))])
                have ht9' : (131072 : Int) < (tt : Int) := by omega
                go_wp2_with fail
                go_ret2
                exact ⟨HB.out, _, by rw [HE.out]; rfl, by rw [HE.out]; exact OwnB.nil _ _⟩
              · have ht9' : ¬ (131072 : Int) < (tt : Int) := by omega
                have ht : total l ≤ 131072 := by have := HTT.out; omega
                have HE : Hid (mayE l = 0) := hidden (by
                  unfold mayE; rw [if_neg (by rw [HGA.out]; decide), if_neg (by rw [HD.out]; decide), if_neg]
                  rintro (h | h)
                  · exact h32 h
                  · omega)
                have hcv := Lib.run_convert_bytes_const (P := Try.prog) wr 22 5 #[.int .u8 79, .int .u8 67, .int .u8 84, .int .u8 65, .int .u8 86, .int .u8 79, .int .u8 49, .int .u8 10] 8 8 Try.underlying22 Try.underlying5
                have hsz : (#[.int .u8 79, .int .u8 67, .int .u8 84, .int .u8 65, .int .u8 86, .int .u8 79, .int .u8 49, .int .u8 10] : Array Value).size = 8 := rfl
                rw [hsz] at hcv
                clear hsz
                go_wp2_with fail
                have HO13 : Hid (MOwn w.heap.size (wr.alloc (.cells #[.int .u8 79, .int .u8 67, .int .u8 84, .int .u8 65, .int .u8 86, .int .u8 79, .int .u8 49, .int .u8 10] 5 (8, 9))) (.slice (some ⟨wr.heap.size, 0, none⟩) 8 8) magicL) := hidden (.inr ⟨rfl, _, rfl, HB.out.size, heap_alloc_new _ _⟩)
                have HBB : Hid (Below w.heap.size w (wr.alloc (.cells #[.int .u8 79, .int .u8 67, .int .u8 84, .int .u8 65, .int .u8 86, .int .u8 79, .int .u8 49, .int .u8 10] 5 (8, 9)))) := hidden (HB.out.alloc HB.out.size _)
                clear hcv
                have HG4 : Hid (∀ c ∈ l, c.1.length = 4) := hidden (fun c hc => good_len HGA.out hc)
                have h384 : (dirL l).length ≤ 384 := by rw [dirL_length HG4.out]; omega
                clear HB ht9 ht9' h32' hlt hk HTT HD HGA
                go_loopw [13, 14, 93] (fun s13 s14 s93 wr => ∃ k : Nat, s93 = .int .i64 k ∧ k ≤ l.length ∧ MOwn w.heap.size wr s13 (magicL ++ dataL (l.take k)) ∧ OwnB w.heap.size wr s14 (dirL (l.take k)) ∧ (∀ i j, s13.ownBlock = some i → s14.ownBlock = some j → i ≠ j) ∧ Below w.heap.size w wr) (fun _ _ s93 _ => l.length - (intOf s93).toNat)
                case atStart => exact ⟨0, rfl, by omega, by simpa [dataL] using HO13.out, OwnB.nil _ _, (fun i j _ hj => by cases hj), HBB.out⟩
                case round =>
                  obtain ⟨k, rfl, hk, ho5, ho6, hne, hb⟩ := hrel
                  have O5 := hidden ho5
                  have O6 := hidden ho6
                  have NE := hidden hne
                  have HB := hidden hb
                  clear ho5 ho6 hne hb HO13 HBB
                  by_cases hlt : k < l.length
                  · obtain ⟨b, o, d, cap', rfl, c0, c1, h1, h2, h3, h4, h5⟩ := H.out.below HB.out k hlt
                    have HT := hidden (take_snoc' l hlt)
                    have hc12 := HS.out.2 _ (List.getElem_mem hlt)
                    have hg4 := HG4.out _ (List.getElem_mem hlt)
                    have h384 : (dirL (l.take k)).length ≤ 384 := by
                      rw [dirL_length (fun c hc => HG4.out c (List.mem_of_mem_take hc)), List.length_take]; omega
                    have htot : total (l.take (k + 1)) ≤ 131072 := Nat.le_trans (total_take_le l (k + 1)) ht
                    rw [HT.out, total_snoc] at htot
                    have hdat := dataL_length (l.take k)
                    have hML : (magicL ++ dataL (l.take k)).length + l[k].2.length ≤ 131080 := by
                      rw [List.length_append, hdat]; simp [magicL]; omega
                    clear hdat
                    generalize l[k] = c at c0 c1 h1 h3 h5 HT hc12 hg4 htot hML
                    have HCG := hidden hg4
                    obtain ⟨hc1, hc2⟩ := hc12
                    have h12 : c.2.length < 4294967296 := by omega
                    have HL3 : Hid ((dirL (l.take k) ++ c.1).length ≤ 1000000000) := hidden (by rw [List.length_append, hg4]; omega)
                    have HL4 : Hid ((dirL (l.take k) ++ c.1 ++ le4 c.2.length).length ≤ 1000000000) := hidden (by rw [List.length_append, List.length_append, hg4, le4_length]; omega)
                    have BA : Hid (Below wr.heap.size wr (wr.alloc (.cells #[.string (strOf c.1), .slice d c.2.length cap'] 124))) := hidden ((Below.refl _ _).alloc (Nat.le_refl _) _)
                    have Q0 := hidden (h3.on' BA.out)
                    have OA := hidden (O5.out.on (Upd.ofNew (M := fun _ => False) BA.out) (fun _ _ h => h))
                    have PA := hidden (O6.out.on (Upd.ofNew (M := fun _ => False) BA.out) (fun _ _ h => h))
                    have BW := hidden (HB.out.trans (BA.out.mono HB.out.size))
                    have v0 : (wr.alloc (.cells #[.string (strOf c.1), .slice d c.2.length cap'] 124)).cell? ⟨wr.heap.size, 0, none⟩ = some (.string (strOf c.1)) := by rw [World.cell?_alloc_at _ _ _ _ rfl]; rfl
                    have v1 : (wr.alloc (.cells #[.string (strOf c.1), .slice d c.2.length cap'] 124)).cell? ⟨wr.heap.size, 1, none⟩ = some (.slice d c.2.length cap') := by rw [World.cell?_alloc_at _ _ _ _ rfl]; rfl
                    have HAN : Hid (∀ A, d = some A → 0 < c.2.length → A.block < w.heap.size) := hidden h5
                    have QW : Hid (BytesAt w d c.2) := hidden (by
                      intro i hi
                      obtain ⟨b', o', e, hc⟩ := Q0.out i hi
                      refine ⟨b', o', e, ?_⟩
                      rw [← hc]
                      exact (BW.out.cell (p := ⟨b', o' + i, none⟩) (by exact HAN.out ⟨b', o', none⟩ e (by omega))).symm)
                    clear h3 h5 hg4 htot
                    go_wp2_with (first
                      | (at_builtin; refine wpList_append_M rfl (.tmp 97) (.tmp 99) rfl rfl OA.out rfl rfl Q0.out (by omega) (BW.out.size) ?_; intro x5 w2 g2; have G2 := hidden g2; have y0 := g2.upd.cell v0 (fun e => by have := (O5.out.lt _ e.symm).2; simp only at this; omega); have y1 := g2.upd.cell v1 (fun e => by have := (O5.out.lt _ e.symm).2; simp only at this; omega); have B2 := hidden (BW.out.trans (g2.upd.toBelow BW.out.size (fun i hi e => by have := (OA.out.lt i e.symm).1; omega))); have P2 := hidden (PA.out.on g2.upd (fun i hi e => NE.out i i e.symm hi rfl)); have Z2 : wr.heap.size < w2.heap.size := (by have := g2.upd.size; simp at this; omega); clear v0 v1 g2)
                      | (at_builtin; refine wpList_append_S rfl (.tmp 101) (.tmp 103) rfl rfl P2.out rfl (by omega) B2.out.size ?_; intro x6 w3 g3; have G3 := hidden g3; obtain ⟨⟨p0, p1⟩, b3, n3, Z3⟩ := var_kept P2.out g3 B2.out Z2 y0 y1 (fun e => by have := (O6.out.lt _ e.symm).2; omega); have B3 := hidden b3; have N3 := hidden n3; clear g3 b3 n3 y0 y1))
                    with_reducible refine (four_ref c.2.length w3 h12).mono ?_
                    rintro e w4 ⟨v4, rfl, g4⟩
                    have b34 : Below w3.heap.size w3 w4 := g4.below (Nat.le_refl _) (fun k hk => by cases hk)
                    have B34 := hidden b34
                    have B4 := hidden (B3.out.trans (b34.mono B3.out.size))
                    have P4 := hidden (G3.out.own.on (Upd.ofNew (M := fun _ => False) b34) (fun _ _ h => h))
                    have z0 := (b34.cell (p := ⟨wr.heap.size, 0, none⟩) Z3).trans p0
                    have z1 := (b34.cell (p := ⟨wr.heap.size, 1, none⟩) Z3).trans p1
                    have Z4 := Nat.lt_of_lt_of_le Z3 b34.size
                    obtain ⟨a4, c4, e4, q4, -, -⟩ := g4.own.reads
                    rw [le4_length] at e4
                    subst e4
                    have Q4 := hidden q4
                    clear g4 b34 q4 p0 p1
                    go_wp2_with (at_builtin; refine wpList_append_B rfl (.tmp 105) (.tmp 110) rfl rfl P4.out rfl (le4_length _).symm Q4.out (by rw [le4_length]; have := HL3.out; omega) B4.out.size ?_; intro x7 w5 g5; have G5 := hidden g5; obtain ⟨⟨r0, r1⟩, b5, n5, Z5⟩ := var_kept P4.out g5 B4.out Z4 z0 z1 N3.out; have B5 := hidden b5; have N5 := hidden n5; clear g5 b5 n5 z0 z1)
                    with_reducible refine (sum_ref d c.2.length cap' c.2 w5 (QW.out.on0 B5.out HAN.out) rfl hc2).mono ?_
                    rintro e w' ⟨rfl, rfl⟩
                    have hcr := crc32_lt c.2
                    have HDO : Hid (dirOne c = c.1 ++ le4 c.2.length ++ le4 (crc32 c.2)) := hidden rfl
                    generalize crc32 c.2 = cr at hcr HDO
                    go_wp2_with fail
                    with_reducible refine (four_ref cr w5 hcr).mono ?_
                    rintro e w6 ⟨v6, rfl, g6⟩
                    have b56 : Below w5.heap.size w5 w6 := g6.below (Nat.le_refl _) (fun k hk => by cases hk)
                    have B56 := hidden b56
                    have B6 := hidden (B5.out.trans (b56.mono B5.out.size))
                    have P6 := hidden (G5.out.own.on (Upd.ofNew (M := fun _ => False) b56) (fun _ _ h => h))
                    obtain ⟨a6, c6, e6, q6, -, -⟩ := g6.own.reads
                    rw [le4_length] at e6
                    subst e6
                    have Q6 := hidden q6
                    clear g6 b56 q6 r0 r1
                    go_wp2_with (at_builtin; refine wpList_append_B rfl (.tmp 112) (.tmp 116) rfl rfl P6.out rfl (le4_length _).symm Q6.out (by rw [le4_length]; have := HL4.out; omega) B6.out.size ?_; intro x8 w7 g7; have G7 := hidden g7; have B7 := hidden (B6.out.trans (g7.below B6.out.size (fun k hk => (P6.out.lt k hk).1))); clear g7)
                    have X2 : ∀ i, x5.ownBlock = some i → i < w2.heap.size := fun i hi => (G2.out.own.lt i hi).2
                    have S2 : ∀ i j, x5.ownBlock = some i → u14.ownBlock = some j → i ≠ j := fun i j hi hj => by
                      rcases G2.out.at_ with e | ⟨g, e, hg⟩
                      · exact NE.out i j (e ▸ hi) hj
                      · have h1 := (PA.out.lt j hj).2
                        rw [e] at hi; cases hi; omega
                    have S3 := sep_step X2 S2 G3.out
                    have X4 : ∀ i, x5.ownBlock = some i → i < w4.heap.size := fun i hi => Nat.lt_of_lt_of_le (X2 i hi) (Nat.le_trans G3.out.upd.size B34.out.size)
                    have S5 := sep_step X4 S3 G5.out
                    have X6 : ∀ i, x5.ownBlock = some i → i < w6.heap.size := fun i hi => Nat.lt_of_lt_of_le (X4 i hi) (Nat.le_trans G5.out.upd.size B56.out.size)
                    have S7 := hidden (sep_step X6 S5 G7.out)
                    have O5E : Hid (MOwn w.heap.size w7 x5 (magicL ++ dataL (l.take (k + 1)))) := hidden (by
                      rw [HT.out, dataL_snoc, ← List.append_assoc]
                      exact ((((G2.out.own.on G3.out.upd (fun k hk e => S2 k k hk e.symm rfl)).on (Upd.ofNew (M := fun _ => False) B34.out) (fun _ _ h => h)).on G5.out.upd (fun k hk e => S3 k k hk e.symm rfl)).on (Upd.ofNew (M := fun _ => False) B56.out) (fun _ _ h => h)).on G7.out.upd (fun k hk e => S5 k k hk e.symm rfl))
                    have O6E : Hid (OwnB w.heap.size w7 x8 (dirL (l.take (k + 1)))) := hidden (by
                      rw [HT.out, dirL_snoc, HDO.out, ← List.append_assoc, ← List.append_assoc]
                      exact G7.out.own)
                    clear X2 S2 S3 X4 S5 X6
                    go_wp2_with fail
                    exact ⟨⟨k + 1, by go_num, by omega, O5E.out, O6E.out, S7.out, B7.out⟩, by simp [intOf]; omega⟩
                  · have hk' : k = l.length := by omega
                    subst hk'
                    have O5E : Hid (MOwn w.heap.size wr u13 (magicL ++ dataL l)) := hidden (by have := O5.out; rw [List.take_length] at this; exact this)
                    have o6 : OwnB w.heap.size wr u14 (dirL l) := by have := O6.out; rw [List.take_length] at this; exact this
                    obtain ⟨a6, c6, e6, q6, hc6, -⟩ := o6.reads
                    subst e6
                    have hdl : (dataL l).length ≤ 131072 := by rw [dataL_length]; exact ht
                    clear o6 O5 O6
                    have hw0 := HB.out.size
                    go_wp2_with fail
                    with_reducible refine (frame_ref a6 _ c6 (dirL l) wr q6 rfl (by omega)).mono ?_
                    rintro e w2 ⟨hb, v2, rfl, ho⟩
                    rw [if_pos (by omega)] at ho
                    have B2 := hidden (HB.out.trans (hb.mono HB.out.size))
                    have O52 := hidden (O5E.out.on (Upd.ofNew (M := fun _ => False) hb) (fun _ _ h => h))
                    have hfl := frameL_length (dirL l)
                    obtain ⟨a2, c2, rfl, q2, -, -⟩ := ho.reads
                    have Q2 := hidden q2
                    have hfz : (frameL (dirL l)).length ≤ 392 := by omega
                    have hfn : frameL (dirL l) ≠ [] := fun e => by rw [e] at hfl; simp at hfl
                    clear hb ho q2 q6 hfl
                    have HW : Hid (writeL l = magicL ++ dataL l ++ frameL (dirL l) ++ le4 (frameL (dirL l)).length) := hidden rfl
                    generalize frameL (dirL l) = fr at Q2 hfz hfn HW
                    have HFN := hidden hfn
                    clear hfn
                    go_wp2_with (at_builtin; refine wpList_append_M rfl (.tmp 121) (.tmp 122) rfl rfl O52.out rfl rfl Q2.out (by simp [magicL]; omega) (B2.out.size) ?_; intro v3 w3 g3; have G3 := hidden g3; have B3 : Hid (Below w.heap.size w w3) := hidden (B2.out.trans (g3.upd.toBelow B2.out.size (fun k hk e => by have := (O52.out.lt k e.symm).1; omega))); clear g3)
                    have P3 := hidden (G3.out.own' HFN.out)
                    with_reducible refine (four_ref fr.length w3 (by omega)).mono ?_
                    rintro e w4 ⟨v4, rfl, g4⟩
                    have b34 : Below w3.heap.size w3 w4 := g4.below (Nat.le_refl _) (fun k hk => by cases hk)
                    have B4 := hidden (B3.out.trans (b34.mono B3.out.size))
                    have P4 := hidden (P3.out.on (Upd.ofNew (M := fun _ => False) b34) (fun _ _ h => h))
                    obtain ⟨a4, c4, e4, q4, -, -⟩ := g4.own.reads
                    rw [le4_length] at e4
                    subst e4
                    have Q4 := hidden q4
                    clear g4 b34 q4
                    go_wp2_with (at_builtin; refine wpList_append_B rfl (.tmp 124) (.tmp 128) rfl rfl P4.out rfl (le4_length _).symm Q4.out (by rw [le4_length]; simp [magicL]; omega) B4.out.size ?_; intro x7 w5 g5; have G5 := hidden g5.own; have B5 := hidden (B4.out.trans (g5.below B4.out.size (fun k hk => (P4.out.lt k hk).1))); clear g5)
                    go_ret2
                    exact ⟨B5.out, x7, by rw [HE.out]; rfl, by rw [if_pos HE.out, HW.out]; exact G5.out⟩
end Go.Proofs.Ytekmjegeiminnaa
