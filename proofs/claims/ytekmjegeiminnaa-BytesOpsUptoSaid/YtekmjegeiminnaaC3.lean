/- The errors of chunks: may, walked. -/
import Derived.Test.YtekmjegeiminnaaC2
import Derived.Maps.OwnOps
import Derived.Maps.Views
import Derived.StringKeys
import Derived.WalkArith
namespace Go.Proofs.Ytekmjegeiminnaa
open Go.RowKit
open Go.Maps (Keyed IsMap string_keyed)
set_option linter.unusedVariables false
set_option linter.unusedSimpArgs false

def tags (l : List Chk) : List (List UInt8) := l.map (·.1)
def cnt (t : List UInt8) (ts : List (List UInt8)) : Nat := (ts.filter (· == t)).length
def dupB (ts : List (List UInt8)) : Bool := !decide ts.Nodup
def goodAll (l : List Chk) : Bool := l.all fun c => goodB c.1
/-- The error's number of chunks. -/
def mayE (l : List Chk) : Nat := if goodAll l = false then 8 else if dupB (tags l) = true then 7 else if 32 < l.length ∨ 131072 < total l then 9 else 0
def roomOf (t : Nat) : Int := if t ≤ 131072 then 131072 - t else -1

theorem cnt_snoc (t u : List UInt8) (ts : List (List UInt8)) : cnt t (ts ++ [u]) = cnt t ts + if u = t then 1 else 0 := by
  unfold cnt
  rw [List.filter_append, List.length_append]
  by_cases h : u = t <;> simp [h]
theorem cnt_pos (t : List UInt8) (ts : List (List UInt8)) : 0 < cnt t ts ↔ t ∈ ts := by
  unfold cnt
  rw [List.length_pos_iff]
  constructor
  · intro h
    obtain ⟨x, hx⟩ := List.exists_mem_of_ne_nil _ h
    rw [List.mem_filter] at hx
    simp at hx; rw [← hx.2]; exact hx.1
  · intro h e
    have : t ∈ ts.filter (· == t) := by rw [List.mem_filter]; exact ⟨h, by simp⟩
    rw [e] at this; cases this
theorem cnt_le (t : List UInt8) (ts : List (List UInt8)) : cnt t ts ≤ ts.length := List.length_filter_le _ _
theorem dup_snoc (ts : List (List UInt8)) (t : List UInt8) : dupB (ts ++ [t]) = (dupB ts || decide (1 < (cnt t ts : Int) + 1)) := by
  unfold dupB
  rw [Bool.eq_iff_iff]
  simp only [Bool.not_eq_true', decide_eq_false_iff_not, Bool.or_eq_true, decide_eq_true_iff]
  rw [List.nodup_append]
  have h1 : (1 < (cnt t ts : Int) + 1) ↔ t ∈ ts := by rw [← cnt_pos]; omega
  rw [h1]
  constructor
  · intro h
    by_cases h2 : t ∈ ts
    · exact .inr h2
    · left; intro h3; exact h ⟨h3, by simp, fun a ha b hb => by simp at hb; subst hb; intro e; subst e; exact h2 ha⟩
  · rintro (h | h) ⟨h3, _, h4⟩
    · exact h h3
    · exact h4 t h t (by simp) rfl
theorem roomOf_add (t n : Nat) : roomOf (t + n) = if roomOf t < (n : Int) then -1 else roomOf t - n := by
  unfold roomOf
  split <;> split <;> split <;> omega

/-- The map of the tags' counts. -/
def TagMap (B : Nat) (w : World) (k : Nat) (ts : List (List UInt8)) : Prop :=
  ∃ D : DataW Unit, w.ownsMap Try.prog 9 (plainElem Try.prog 3) B k D ∧ IsMap D ∧ ∀ t : List UInt8, D.atKey (.string t) (.lit (.int .i64 0)) = .lit (.int .i64 (cnt t ts : Nat))
theorem law9 : Keyed Try.prog 9 := string_keyed Try.underlying9
theorem zero3 (w : World) : (zeroValue 3).run Try.prog w = .ok (.int .i64 0) w := by kernel_rfl
theorem key9 (t : List UInt8) (h : t.length ≤ maxLen) : keyOf Try.prog 9 (.string (strOf t)) = some (.string t) := WideMaps.keyOf_string_mk Try.underlying9 (s := strOf t) h
theorem strOf_size {t : List UInt8} (h : t.length ≤ 140737488351232) : ((strOf t).size : Int) ≤ 9223372036854775807 := by
  have : (strOf t).size = t.length := by simp [ByteArray.size]
  omega
set_option maxRecDepth 100000 in
theorem TagMap.look {B k : Nat} {w : World} {ts : List (List UInt8)} (h : TagMap B w k ts) (t : List UInt8) (ht : t.length ≤ maxLen) : (Instr.lookup 173 (.map (some B)) (.string (strOf t)) false).run Try.prog w = .ok (.int .i64 (cnt t ts : Nat)) w := by
  obtain ⟨D, hown, _, hat⟩ := h
  obtain ⟨c, hrun, hc, _⟩ := hown.lookup_int law9 Try.underlying173 Try.underlying3 (zero3 _) (key9 t ht)
  rw [hat t] at hc
  injection hc with hc
  injection hc with _ hc
  rw [hrun, hc]
theorem TagMap.kept {B k : Nat} {w w' : World} {ts : List (List UInt8)} (h : TagMap B w k ts) (hb : Below w.heap.size w w') : TagMap B w' k ts := by
  obtain ⟨D, hown, h1, h2⟩ := h
  exact ⟨D, hown.kept (below_grown hb none) (by simp), h1, h2⟩
theorem TagMap.step {B k : Nat} {w : World} {ts : List (List UInt8)} (h : TagMap B w k ts) (hk : k < maxLen) (hl : ts.length ≤ 140737488351232) (t : List UInt8) (ht : t.length ≤ maxLen) :
    ∃ w', (Instr.mapUpdate 173 (.map (some B)) (.string (strOf t)) (.int .i64 ((cnt t ts : Nat) + 1))).run Try.prog w = .ok () w' ∧ TagMap B w' (k + 1) (ts ++ [t]) ∧ w.grownBy w' (some B) := by
  obtain ⟨D, hown, h1, h2⟩ := h
  have hc := cnt_le t ts
  obtain ⟨w', hrun, ho, hg⟩ := hown.update law9 Try.underlying173 hk (key9 t ht) (plainElem_int Try.underlying3 (WalkArith.wf_i64 ⟨by omega, by omega⟩ : (Lit.int .i64 ((cnt t ts : Nat) + 1 : Int)).wf = true))
  refine ⟨w', hrun, ⟨_, ho, h1.put _ _, fun u => ?_⟩, hg⟩
  by_cases he : u = t
  · subst he
    rw [Maps.atKey_put_same h1 (k := .string u) trivial, cnt_snoc, if_pos rfl]; rfl
  · rw [Maps.atKey_put_other (fun e => he (by injection e)), h2, cnt_snoc, if_neg (fun e => he e.symm)]; rfl

set_option maxRecDepth 100000 in
set_option maxHeartbeats 8000000 in
theorem may_any (a : Option Addr) (len cap : Nat) (l : List Chk) (w : World) (h : ChunksAt (· < w.heap.size) w a l) (hs : Sized l) (hlen : len = l.length) :
    Calls Try.prog 75 #[.slice a len cap] w fun e w' => e = .returned (.int .i64 (mayE l : Nat)) ∧ Below w.heap.size w w' := by
  subst hlen
  have H := hidden h
  have HS := hidden hs
  have hl := hs.1
  have hmm := @run_makeMap Try.prog
  have HM0 : Hid (TagMap w.heap.size (w.alloc (.map #[] 0)) 0 []) := hidden ⟨.map [], World.ownsMap_made _ _ _ _, ⟨_, rfl⟩, fun t => rfl⟩
  clear h hs
  go_enter Try.func75, Try.ntmps75
  go_wp2_with fail
  clear hmm
  go_loopw [4, 5, 11] (fun s4 s5 s11 wr => ∃ (k : Nat) (tw : Bool), s11 = .int .i64 k ∧ k ≤ l.length ∧ s4 = .int .i64 (roomOf (total (l.take k))) ∧ s5 = .bool tw ∧ tw = dupB (tags (l.take k)) ∧ goodAll (l.take k) = true ∧ TagMap w.heap.size wr k (tags (l.take k)) ∧ Below w.heap.size w wr ∧ w.heap.size < wr.heap.size) (fun _ _ s11 _ => l.length - (intOf s11).toNat)
  case atStart => exact ⟨0, false, rfl, by omega, rfl, rfl, rfl, rfl, HM0.out, (Below.refl _ _).alloc (Nat.le_refl _) _, by simp⟩
  case round =>
    obtain ⟨k, tw, rfl, hk, rfl, rfl, htw, hga, htm, hb, hsz⟩ := hrel
    have HTW := hidden htw
    have HGA := hidden hga
    have HTM := hidden htm
    have HB := hidden hb
    clear htw hga htm hb
    by_cases hlt : k < l.length
    · obtain ⟨b, o, d, cap', rfl, c0, c1, h1, h2, h3, h4, h5⟩ := H.out.below HB.out k hlt
      have HT := hidden (take_snoc' l hlt)
      have HC := hidden (HS.out.2 _ (List.getElem_mem hlt))
      generalize l[k] = c at c0 c1 h1 h3 HT HC
      obtain ⟨hc1, hc2⟩ := HC.out
      clear h3 h5
      have BA : Hid (Below wr.heap.size wr (wr.alloc (.cells #[.string (strOf c.1), .slice d c.2.length cap'] 121))) := hidden ((Below.refl _ _).alloc (Nat.le_refl _) _)
      go_wp2_with fail
      with_reducible refine (good_any (strOf c.1) _ (strOf_size hc1)).mono ?_
      rintro e w1 ⟨rfl, hg1⟩
      have B1 := hidden (BA.out.trans (hg1.mono (by simp)))
      have v0 : w1.cell? ⟨wr.heap.size, 0, none⟩ = some (.string (strOf c.1)) := (hg1.cell (by simp)).trans (by rw [World.cell?_alloc_at _ _ _ _ rfl]; rfl)
      have v1 : w1.cell? ⟨wr.heap.size, 1, none⟩ = some (.slice d c.2.length cap') := (hg1.cell (by simp)).trans (by rw [World.cell?_alloc_at _ _ _ _ rfl]; rfl)
      have T1 := hidden (HTM.out.kept B1.out)
      have Z1 : wr.heap.size + 1 ≤ w1.heap.size := by have := hg1.size; simpa using this
      clear hg1 BA c0 c1
      generalize hgd : goodB (strOf c.1).data.toList = gd
      have HGD : Hid (goodB c.1 = gd) := hidden hgd
      clear hgd
      cases gd
      · have HE : Hid (mayE l = 8) := hidden (by
          unfold mayE
          rw [if_pos]
          unfold goodAll
          rw [List.all_eq_false]
          have hm : c ∈ l.take (k + 1) := by rw [HT.out]; simp
          exact ⟨c, List.mem_of_mem_take hm, by rw [HGD.out]; decide⟩)
        have BE := hidden (HB.out.trans (B1.out.mono HB.out.size))
        go_wp2_with fail
        go_ret
        exact ⟨by rw [HE.out]; rfl, BE.out⟩
      · have hcl := cnt_le c.1 (tags (l.take k))
        have hcl2 : (tags (l.take k)).length = k := by simp [tags]; omega
        have hct : cnt c.1 (tags (l.take k)) ≤ 140737488351232 := by omega
        have hlook := T1.out.look c.1 (by unfold maxLen; omega)
        obtain ⟨w2, hupd, T2, hg2⟩ := T1.out.step (by unfold maxLen; omega) (by omega) c.1 (by unfold maxLen; omega)
        have hlook2 := T2.look c.1 (by unfold maxLen; omega)
        rw [cnt_snoc, if_pos rfl] at hlook2
        have HT2 := hidden T2
        have U2 := Upd.ofGrown hg2
        have w0 := U2.cell v0 (by simp; omega)
        have w1' := U2.cell v1 (by simp; omega)
        have B2 : Hid (Below w.heap.size w w2) := hidden ((HB.out.trans (B1.out.mono HB.out.size)).grown hg2 (by have := HB.out.size; omega) (fun j hj => by cases hj; exact Nat.le_refl _))
        have Z2 := Nat.le_trans Z1 U2.size
        clear hcl hcl2 T2 hg2 U2 T1
        have HDUP := hidden (dup_snoc (tags (l.take k)) c.1)
        have HROOM := hidden (roomOf_add (total (l.take k)) c.2.length)
        have hrm : -1 ≤ roomOf (total (l.take k)) ∧ roomOf (total (l.take k)) ≤ 131072 := by unfold roomOf; split <;> omega
        generalize cnt c.1 (tags (l.take k)) = n at hct hlook hupd hlook2 HDUP
        have hpush : (((n + 1 : Nat)) : Int) = (n : Int) + 1 := by omega
        rw [hpush] at hlook2
        clear hpush
        generalize hr : roomOf (total (l.take k)) = r at hrm HROOM
        have HR := hidden hr
        clear hr
        have HTAGS : Hid (tags (l.take (k + 1)) = tags (l.take k) ++ [c.1]) := hidden (by rw [HT.out]; simp [tags])
        have HGA2 : Hid (goodAll (l.take (k + 1)) = true) := hidden (by rw [HT.out]; unfold goodAll at *; rw [List.all_append, HGA.out]; simp [HGD.out])
        have HTOT : Hid (total (l.take (k + 1)) = total (l.take k) + c.2.length) := hidden (by rw [HT.out, total_snoc])
        have HM2 : Hid (TagMap w.heap.size w2 (k + 1) (tags (l.take (k + 1)))) := hidden (by rw [HTAGS.out]; exact HT2.out)
        by_cases hrl : r < (c.2.length : Int)
        · have HRN : Hid (roomOf (total (l.take (k + 1))) = -1) := hidden (by rw [HTOT.out, HROOM.out, if_pos hrl])
          cases tw
          · have HTN : Hid (decide (1 < (n : Int) + 1) = dupB (tags (l.take (k + 1)))) := hidden (by rw [HTAGS.out, HDUP.out, ← HTW.out, Bool.false_or])
            go_wp2_with fail
            exact ⟨⟨k + 1, _, by go_num, by omega, by rw [HRN.out], rfl, HTN.out, HGA2.out, HM2.out, B2.out, by omega⟩, by simp [intOf]; omega⟩
          · have HTN : Hid (true = dupB (tags (l.take (k + 1)))) := hidden (by rw [HTAGS.out, HDUP.out, ← HTW.out, Bool.true_or])
            go_wp2_with fail
            exact ⟨⟨k + 1, _, by go_num, by omega, by rw [HRN.out], rfl, HTN.out, HGA2.out, HM2.out, B2.out, by omega⟩, by simp [intOf]; omega⟩
        · have HRN : Hid (roomOf (total (l.take (k + 1))) = r - c.2.length) := hidden (by rw [HTOT.out, HROOM.out, if_neg hrl])
          have hr0 : 0 ≤ r := by omega
          cases tw
          · have HTN : Hid (decide (1 < (n : Int) + 1) = dupB (tags (l.take (k + 1)))) := hidden (by rw [HTAGS.out, HDUP.out, ← HTW.out, Bool.false_or])
            go_wp2_with fail
            exact ⟨⟨k + 1, _, by go_num, by omega, by rw [HRN.out], rfl, HTN.out, HGA2.out, HM2.out, B2.out, by omega⟩, by simp [intOf]; omega⟩
          · have HTN : Hid (true = dupB (tags (l.take (k + 1)))) := hidden (by rw [HTAGS.out, HDUP.out, ← HTW.out, Bool.true_or])
            go_wp2_with fail
            exact ⟨⟨k + 1, _, by go_num, by omega, by rw [HRN.out], rfl, HTN.out, HGA2.out, HM2.out, B2.out, by omega⟩, by simp [intOf]; omega⟩
    · have hk' : k = l.length := by omega
      subst hk'
      have HD : Hid (tw = dupB (tags l)) := hidden (by have := HTW.out; rw [List.take_length] at this; exact this)
      have HG : Hid (goodAll l = true) := hidden (by have := HGA.out; rw [List.take_length] at this; exact this)
      have hrm : -1 ≤ roomOf (total (l.take l.length)) ∧ (roomOf (total (l.take l.length)) < 0 ↔ 131072 < total l) := by rw [List.take_length]; unfold roomOf; split <;> omega
      generalize roomOf (total (l.take l.length)) = r at hrm
      obtain ⟨hr1, hr2⟩ := hrm
      have HR := hidden hr2
      clear hr2
      cases tw
      · by_cases h32 : 32 < l.length
        · have HE : Hid (mayE l = 9) := hidden (by unfold mayE; rw [if_neg (by rw [HG.out]; decide), if_neg (by rw [← HD.out]; decide), if_pos (.inl h32)])
          have h32' : (32 : Int) < (l.length : Int) := by omega
          go_wp2_with fail
          go_ret
          exact ⟨by rw [HE.out]; rfl, HB.out⟩
        · have h32' : ¬ (32 : Int) < (l.length : Int) := by omega
          by_cases hr0 : r < 0
          · have HE : Hid (mayE l = 9) := hidden (by unfold mayE; rw [if_neg (by rw [HG.out]; decide), if_neg (by rw [← HD.out]; decide), if_pos (.inr (HR.out.1 hr0))])
            go_wp2_with fail
            go_ret
            exact ⟨by rw [HE.out]; rfl, HB.out⟩
          · have HE : Hid (mayE l = 0) := hidden (by
              unfold mayE; rw [if_neg (by rw [HG.out]; decide), if_neg (by rw [← HD.out]; decide), if_neg]
              rintro (h | h)
              · exact h32 h
              · exact hr0 (HR.out.2 h))
            go_wp2_with fail
            go_ret
            exact ⟨by rw [HE.out]; rfl, HB.out⟩
      · have HE : Hid (mayE l = 7) := hidden (by unfold mayE; rw [if_neg (by rw [HG.out]; decide), if_pos (by rw [← HD.out])])
        go_wp2_with fail
        go_ret
        exact ⟨by rw [HE.out]; rfl, HB.out⟩
end Go.Proofs.Ytekmjegeiminnaa
