/- Both Finds, and the law's lives, walked. -/
import Derived.Test.YtekmjegeiminnaaC8
namespace Go.Proofs.Ytekmjegeiminnaa
open Go.RowKit
set_option linter.unusedVariables false
set_option linter.unusedSimpArgs false

theorem own_empty {B g : Nat} (w : World) (hB : B ≤ w.heap.size) (hg : g = w.heap.size) : OwnB B (w.alloc (.cells #[] 5)) (.slice (some ⟨g, 0, none⟩) 0 0) [] := by
  subst hg
  have h : OwnB w.heap.size (w.alloc (.cells #[] 5)) (.slice (some ⟨w.heap.size, 0, none⟩) 0 0) [] := World.ownsRow_lit w #[] 0 (Nat.le_refl _) (by decide) rfl
  exact h.weaken hB
def findL (l : List Chk) (t : List UInt8) : Option (List UInt8) := (l.find? fun c => c.1 == t).map (·.2)
theorem findL_at {l : List Chk} {t : List UInt8} {k : Nat} (hk : k < l.length) (h : ∀ j (hj : j < l.length), j < k → l[j].1 ≠ t) (he : l[k].1 = t) : findL l t = some l[k].2 := by
  have e : l = l.take k ++ l[k] :: l.drop (k + 1) := by simp
  have h1 : (l.take k).find? (fun c => c.1 == t) = none := by
    rw [List.find?_eq_none]
    intro x hx
    rw [List.mem_take_iff_getElem] at hx
    obtain ⟨j, hj, rfl⟩ := hx
    simpa using h j (by omega) (by omega)
  have h2 : l.find? (fun c => c.1 == t) = some l[k] := by
    conv => lhs; rw [e]
    rw [List.find?_append, h1, List.find?_cons_of_pos (by simpa using he)]; rfl
  unfold findL; rw [h2]; rfl
theorem findL_none {l : List Chk} {t : List UInt8} (h : ∀ j (hj : j < l.length), l[j].1 ≠ t) : findL l t = none := by
  unfold findL
  rw [List.find?_eq_none.2 (fun x hx => by
    obtain ⟨j, hj, rfl⟩ := List.getElem_of_mem hx
    simpa using h j hj)]
  rfl
/-- What Find answers. -/
def FindA (l : List Chk) (t : List UInt8) (w : World) (e : Ending) (w' : World) : Prop :=
  Below w.heap.size w w' ∧ ∃ v, e = .returned (.tuple #[v, .bool (findL l t).isSome]) ∧ OwnB w.heap.size w' v ((findL l t).getD [])

set_option maxRecDepth 100000 in
set_option maxHeartbeats 8000000 in
theorem find_any (a : Option Addr) (len cap : Nat) (l : List Chk) (t : List UInt8) (w : World) (h : ChunksAt (· < w.heap.size) w a l) (hs : Sized l) (hlen : len = l.length) (hl : l.length ≤ 1000000000) :
    Calls Try.prog 42 #[.slice a len cap, .string (strOf t)] w (FindA l t w) := by
  subst hlen
  have H := hidden h
  have HS := hidden hs
  clear h hs
  go_enter Try.func42, Try.ntmps42
  go_wp2_with fail
  go_loopw [10] (fun s wr => ∃ (k : Nat), s = .int .i64 k ∧ k ≤ l.length ∧ (∀ j (hj : j < l.length), j < k → l[j].1 ≠ t) ∧ Below w.heap.size w wr) (fun s _ => (l.length - intOf s).toNat)
  case atStart => exact ⟨0, rfl, by omega, fun j _ hj => by omega, Below.refl _ _⟩
  case round =>
    obtain ⟨k, rfl, hk, hn, hb⟩ := hrel
    have HB := hidden hb
    have HN := hidden hn
    clear hb hn
    by_cases hlt : k < l.length
    · obtain ⟨b, o, d, cap', rfl, c0, c1, h1, h2, h3, h4, h5⟩ := H.out.below HB.out k hlt
      have hc2 := (HS.out.2 _ (List.getElem_mem hlt)).2
      have HF : Hid (l[k].1 = t → findL l t = some l[k].2) := hidden (fun e => findL_at hlt HN.out e)
      have HNE : Hid (l[k].1 ≠ t → ∀ j (hj : j < l.length), j < k + 1 → l[j].1 ≠ t) := hidden (fun e j hj hjk => by
        by_cases he : j = k
        · subst he; exact e
        · exact HN.out j hj (by omega))
      generalize l[k] = c at c0 c1 h1 h3 h5 hc2 HF HNE
      have Q0 := hidden (h3.on' (w' := wr.alloc (.cells #[.string (strOf c.1), .slice d c.2.length cap'] 121)) ((Below.refl _ _).alloc (Nat.le_refl _) _))
      have BW := hidden (HB.out.alloc HB.out.size (.cells #[.string (strOf c.1), .slice d c.2.length cap'] 121))
      clear h3 h5
      by_cases ht : c.1 = t
      · have tb : ((strOf c.1).toList == (strOf t).toList) = true := by rw [ht]; simp
        have HFE := hidden (HF.out ht)
        subst ht
        have HLD : Hid (([] : List UInt8).length + c.2.length ≤ 140737488355328) := hidden (by simp; omega)
        go_wp2_with (at_builtin; refine wpList_append_B rfl (.const (.slice none 0 0)) (.tmp 19) rfl rfl (OwnB.nil w.heap.size _) rfl rfl Q0.out HLD.out BW.out.size ?_; intro v2 w2 g2; have G2 := hidden g2.own; have B2 := hidden (BW.out.trans (g2.below BW.out.size (fun k hk => by cases hk))); clear g2)
        go_ret2
        exact ⟨B2.out, v2, by rw [HFE.out]; rfl, by rw [HFE.out]; exact G2.out⟩
      · have tb : ((strOf c.1).toList == (strOf t).toList) = false := by rw [ByteArray.toList_eq, ByteArray.toList_eq, beq_eq_false_iff_ne]; exact ht
        have tc : (c.1 == t) = false := by rw [beq_eq_false_iff_ne]; exact ht
        have HNX := hidden (HNE.out ht)
        clear ht
        go_wp2_with fail
        exact ⟨⟨k + 1, by go_num, by omega, HNX.out, BW.out⟩, by simp [intOf]; omega⟩
    · have HF : Hid (findL l t = none) := hidden (findL_none (fun j hj => HN.out j hj (by omega)))
      go_wp2_with fail
      go_ret2
      exact ⟨HB.out, _, by rw [HF.out]; rfl, by rw [HF.out]; exact OwnB.nil _ _⟩

set_option maxRecDepth 100000 in
set_option maxHeartbeats 8000000 in
theorem find_ref (a : Option Addr) (len cap : Nat) (l : List Chk) (t : List UInt8) (w : World) (h : ChunksAt (· < w.heap.size) w a l) (hs : Sized l) (hlen : len = l.length) (hl : l.length ≤ 1000000000) :
    Calls Try.prog 43 #[.slice a len cap, .string (strOf t)] w (FindA l t w) := by
  subst hlen
  have H := hidden h
  have HS := hidden hs
  clear h hs
  go_enter Try.func43, Try.ntmps43
  go_wp2_with fail
  go_loopw [10] (fun s wr => ∃ (k : Nat), s = .int .i64 k ∧ k ≤ l.length ∧ (∀ j (hj : j < l.length), j < k → l[j].1 ≠ t) ∧ Below w.heap.size w wr) (fun s _ => (l.length - intOf s).toNat)
  case atStart => exact ⟨0, rfl, by omega, fun j _ hj => by omega, Below.refl _ _⟩
  case round =>
    obtain ⟨k, rfl, hk, hn, hb⟩ := hrel
    have HB := hidden hb
    have HN := hidden hn
    clear hb hn
    by_cases hlt : k < l.length
    · obtain ⟨b, o, d, cap', rfl, c0, c1, h1, h2, h3, h4, h5⟩ := H.out.below HB.out k hlt
      have hc2 := (HS.out.2 _ (List.getElem_mem hlt)).2
      have HF : Hid (l[k].1 = t → findL l t = some l[k].2) := hidden (fun e => findL_at hlt HN.out e)
      have HNE : Hid (l[k].1 ≠ t → ∀ j (hj : j < l.length), j < k + 1 → l[j].1 ≠ t) := hidden (fun e j hj hjk => by
        by_cases he : j = k
        · subst he; exact e
        · exact HN.out j hj (by omega))
      generalize l[k] = c at c0 c1 h1 h3 h5 hc2 HF HNE
      have BW := hidden (HB.out.alloc HB.out.size (.cells #[.string (strOf c.1), .slice d c.2.length cap'] 124))
      have Q0 := hidden (h3.on' (w' := (wr.alloc (.cells #[.string (strOf c.1), .slice d c.2.length cap'] 124)).alloc (.cells #[] 5)) (((Below.refl _ _).alloc (Nat.le_refl _) _).alloc (by simp) _))
      have BX := hidden (BW.out.alloc BW.out.size (.cells #[] 5))
      have HOE := hidden (own_empty (g := wr.heap.size + 1) (wr.alloc (.cells #[.string (strOf c.1), .slice d c.2.length cap'] 124)) BW.out.size (by simp))
      have HS2 : Hid (w.heap.size ≤ wr.heap.size) := hidden HB.out.size
      clear h3 h5
      by_cases ht : c.1 = t
      · have tb : ((strOf c.1).toList == (strOf t).toList) = true := by rw [ht]; simp
        have HFE := hidden (HF.out ht)
        subst ht
        have HLD : Hid (([] : List UInt8).length + c.2.length ≤ 140737488355328) := hidden (by simp; omega)
        go_wp2_with (at_builtin; go_loud (refine wpList_append_B rfl (.tmp 18) (.tmp 20) rfl rfl HOE.out rfl rfl Q0.out HLD.out BX.out.size ?_); intro v2 w2 g2; have G2 := hidden g2.own; have B2 := hidden (BX.out.trans (g2.below BX.out.size (fun k hk => (HOE.out.lt k hk).1))); clear g2)
        go_ret2
        exact ⟨B2.out, v2, by rw [HFE.out]; rfl, by rw [HFE.out]; exact G2.out⟩
      · have tb : ((strOf c.1).toList == (strOf t).toList) = false := by rw [ByteArray.toList_eq, ByteArray.toList_eq, beq_eq_false_iff_ne]; exact ht
        have tc : (c.1 == t) = false := by rw [beq_eq_false_iff_ne]; exact ht
        have HNX := hidden (HNE.out ht)
        clear ht
        go_wp2_with fail
        exact ⟨⟨k + 1, by go_num, by omega, HNX.out, BW.out⟩, by simp [intOf]; omega⟩
    · have HF : Hid (findL l t = none) := hidden (findL_none (fun j hj => HN.out j hj (by omega)))
      go_wp2_with fail
      go_ret2
      exact ⟨HB.out, _, by rw [HF.out]; rfl, by rw [HF.out]; exact OwnB.nil _ _⟩

theorem chunks_nil (S : Nat → Prop) (w : World) (a : Option Addr) : ChunksAt S w a [] := fun i hi => by simp at hi
theorem sized_nil : Sized [] := sized_small (by simp) (fun c hc => by simp at hc)
theorem readL_short {b : List UInt8} (h : b.length < 20) : readL b = none := by unfold readL; rw [if_pos (.inr h)]
theorem writeL_nil : writeL [] = magicL ++ [0, 0, 0, 0, 28, 223, 68, 33] ++ [8, 0, 0, 0] := by decide +kernel
theorem readL_nil : readL (magicL ++ [0, 0, 0, 0, 28, 223, 68, 33] ++ [8, 0, 0, 0]) = some [] := by
  unfold readL
  rw [if_neg (by decide +kernel), if_neg (by decide +kernel), if_neg (by decide +kernel)]
  rw [parseL_nil _ (by decide +kernel)]
  decide +kernel

set_option maxRecDepth 100000 in
set_option maxHeartbeats 8000000 in
theorem lives_03 (w : World) : Calls Try.prog 33 #[] w fun e w' => e = .returned (.bool true) ∧ Below w.heap.size w w' := by
  have hw1 := readL_nil
  rw [← writeL_nil] at hw1
  have HRN := hidden hw1
  have HLN : Hid ((writeL []).length = 20) := hidden (by rw [writeL_nil]; rfl)
  clear hw1
  go_enter Try.func33, Try.ntmps33
  go_wp2_with fail
  with_reducible refine (write_any none 0 0 [] w (chunks_nil _ _ _) sized_nil rfl).mono ?_
  rintro e w1 ⟨hb, v1, rfl, ho⟩
  rw [show mayE [] = 0 from rfl] at ho ⊢
  rw [if_pos rfl] at ho
  have B1 := hidden hb
  obtain ⟨a1, c1, e1, q1, hc1, hA1⟩ := ho.reads
  rw [HLN.out] at e1 hc1
  have hm1 := own_cap ho e1
  subst e1
  have Q1 := hidden q1
  clear hb ho hA1 q1
  have i1 : (19 : Int) ≤ (c1 : Int) := by omega
  go_wp2_with fail
  have h19 : readL ((writeL []).take 19) = none := readL_short (by rw [List.length_take, HLN.out]; decide)
  have H19 := hidden h19
  clear h19
  with_reducible refine (readc_any a1 19 c1 ((writeL []).take 19) w1 (Q1.out.take 19) (by rw [List.length_take, HLN.out]; decide) (by omega) hm1 (by decide)).mono ?_
  rintro e w2 ⟨hb, ⟨-, rfl⟩ | ⟨l, a, cap, hr, -, -⟩⟩
  · have B2 := hidden (B1.out.trans (hb.mono B1.out.size))
    have Q2 := hidden (Q1.out.on' hb)
    clear hb
    go_wp2_with fail
    have hch : ChunksAt (· < (w2.alloc (.cells #[.string (strOf [65, 66]), .slice none 0 0] 121)).heap.size) (w2.alloc (.cells #[.string (strOf [65, 66]), .slice none 0 0] 121)) (some ⟨w2.heap.size, 0, none⟩) [([65, 66], [])] := fun i hi => by
      have : i = 0 := by simp at hi; exact hi
      subst this
      exact ⟨w2.heap.size, 0, none, 0, rfl, by rw [World.cell?_alloc_at _ _ _ _ rfl]; rfl, by rw [World.cell?_alloc_at _ _ _ _ rfl]; rfl, Nat.le_refl _, by decide, bytes_nil _ _, by simp, fun A hA _ => by cases hA⟩
    have BA := hidden (B2.out.alloc B2.out.size (.cells #[.string (strOf [65, 66]), .slice none 0 0] 121))
    have QA := hidden (Q2.out.on' (w' := w2.alloc (.cells #[.string (strOf [65, 66]), .slice none 0 0] 121)) ((Below.refl _ _).alloc (Nat.le_refl _) _))
    have hst : (⟨#[65, 66]⟩ : ByteArray) = strOf [65, 66] := rfl
    rw [hst]
    clear hst
    generalize w2.alloc (.cells #[.string (strOf [65, 66]), .slice none 0 0] 121) = w3 at hch BA QA
    with_reducible refine (write_any (some ⟨w2.heap.size, 0, none⟩) 1 1 [([65, 66], [])] w3 hch (sized_small (by simp) (fun c hc => by simp at hc; subst hc; simp)) rfl).mono ?_
    rintro e w4 ⟨hb, v4, rfl, ho⟩
    rw [show mayE [([65, 66], [])] = 8 from rfl]
    rw [show mayE [([65, 66], [])] = 8 from rfl, if_neg (by decide)] at ho
    obtain ⟨a4, c4, rfl, -, -, -⟩ := ho.reads
    have B4 := hidden (BA.out.trans (hb.mono BA.out.size))
    have Q4 := hidden (QA.out.on' hb)
    clear hb ho hch
    go_wp2_with fail
    with_reducible refine (readc_any a1 20 c1 (writeL []) w4 Q4.out HLN.out.symm hc1 hm1 (by decide)).mono ?_
    rintro e w5 ⟨hb, ⟨hr, -⟩ | ⟨l, a, cap, hr, rfl, -⟩⟩
    · rw [HRN.out] at hr; cases hr
    · rw [HRN.out] at hr; cases hr
      have B5 := hidden (B4.out.trans (hb.mono B4.out.size))
      clear hb
      go_wp2_with fail
      have hst : (⟨#[66, 79, 79, 75]⟩ : ByteArray) = strOf [66, 79, 79, 75] := rfl
      rw [hst]
      clear hst
      with_reducible refine (good_any (strOf [66, 79, 79, 75]) w5 (by decide)).mono ?_
      rintro e w6 ⟨rfl, hb⟩
      have B6 := hidden (B5.out.trans (hb.mono B5.out.size))
      clear hb
      rw [show goodB (strOf [66, 79, 79, 75]).data.toList = true from by decide]
      go_wp2_with fail
      go_ret
      exact ⟨rfl, B6.out⟩
  · rw [H19.out] at hr; cases hr
end Go.Proofs.Ytekmjegeiminnaa
