/- The codec's number and text, as contracts over 'Ty'; text, walked. -/
import Derived.Test.YtekmjegeiminnaaD1
import Derived.Test.YtekmjegeiminnaaC8
import Derived.Deep.RegionLaw
namespace Go.Proofs.Ytekmjegeiminnaa
open Go.RowKit
set_option linter.unusedVariables false
set_option linter.unusedSimpArgs false

theorem WPre.free {c pb : Nat} {v : Value} {bs : List UInt8} {P : Nat → Prop} {w : World} (h : WPre c pb v bs P w) : pb < c ∨ (c < pb ∧ ∀ k, v.ownBlock = some k → pb ≠ k) := by
  have := h.ne.1
  rcases Nat.lt_or_ge pb c with h1 | h1
  · exact .inl h1
  · exact .inr ⟨by omega, h.ne.2⟩
theorem num_W : WFun 103 none tInt := by
  intro c pb po v bs x w hp ha ho hl
  obtain ⟨vs, h1, rfl⟩ := ha
  have := T_len hl
  exact num_w c pb po v bs x w ho hp.cod hp.own (range_one.1 h1) (by omega)
where T_len {bs : List UInt8} {x : Int} (h : bs.length + (tInt.cod.enc x).length ≤ 140737488354000) : bs.length ≤ 140737488354000 := by omega
theorem setCell_heap {w : World} {b o : Nat} {v : Value} {vs : Array Value} {t : TypeId} (h : w.heap[b]? = some (.cells vs t (0, 0))) : (w.setCell ⟨b, o, none⟩ v).heap[b]? = some (.cells (vs.setIfInBounds o v) t (0, 0)) := by
  simp only [World.setCell, Array.getElem?_modify, if_true, h]
  rfl
theorem stay_set (w : World) (b o : Nat) (v : Value) : Stay w (w.setCell ⟨b, o, none⟩ v) b o 1 := fun vs t hv => by
  refine ⟨_, setCell_heap hv, by simp, fun j hj => ?_⟩
  rw [Array.getElem?_setIfInBounds_ne (by omega)]
theorem num_R : RFun 103 none tInt := by
  intro c pb po bb rs w hp hz
  have hz := range_one.1 hz
  refine (num_r c pb po bb rs 0 w hp.cod hz (hp.var.frozen _) hp.nc).mono ?_
  rintro e w' (⟨n, r, hd, rfl, w0, hu, hc, rfl⟩ | ⟨hd, rfl, hu⟩)
  · have hs : Upd (fun k => k = pb) w0 (w0.setCell ⟨pb, po, none⟩ (.int .i64 n)) := Upd.set rfl
    have hpc := hp.nc
    have hpb := hp.nb
    refine ⟨(hu.mono (N := fun k => k = c ∨ k = pb) (fun _ _ h => .inl h)).trans hs (fun _ _ h => .inr h), ?_, .inl ⟨n, r, hd, rfl, hc.upd hs (by omega) (by omega), [.int .i64 n], range_one.2 (World.cell?_setCell_same _ _ _ (hu.cell hz hpc)), rfl⟩⟩
    exact (Stay.of (hu.block pb hp.var.lt hpc) po 1).trans (stay_set _ _ _ _) ⟨Nat.le_refl _, Nat.le_refl _⟩ ⟨Nat.le_refl _, Nat.le_refl _⟩
  · exact ⟨hu.mono (fun _ _ h => .inl h), Stay.of (hu.block pb hp.var.lt hp.nc) po 1, .inr ⟨hd, rfl⟩⟩

set_option maxRecDepth 100000 in
set_option maxHeartbeats 8000000 in
theorem text_w (c pb po : Nat) (v : Value) (bs x : List UInt8) (w : World) (hp : WPre c pb v bs (fun _ => False) w) (hc : w.cell? ⟨pb, po, none⟩ = some (.string (strOf x))) (hl : bs.length + (encT x).length ≤ 140737488354000) :
    Calls Try.prog 122 #[vP c 0, vP pb po] w fun e w' => e = unitE ∧ ∃ v', Wrote c v v' (bs ++ encT x) w w' := by
  have hsz := size_strOf x
  have HP := hidden hp
  have hle : (encN (x.length : Int)).length + x.length = (encT x).length := by unfold encT; rw [List.length_append]
  have HL := hidden hl
  clear hp hl
  go_enter Try.func122, Try.ntmps122
  go_wp2_with fail
  with_reducible refine (count_w c v bs _ w (by have := HL.out; omega) HP.out.cod HP.out.own (by have := HL.out; omega)).mono ?_
  rintro e w1 ⟨rfl, v1, hw⟩
  have hc1 := hw.upd.cell hc HP.out.inner.2
  have HW := hidden hw
  have HP1 := hidden (HP.out.wrote hw)
  obtain ⟨c0, c1, c2, cf⟩ := hw.cod.facts
  obtain ⟨a1, cap1, rfl, _, _, _⟩ := hw.own.reads
  clear hw hc
  have HLN : Hid ((bs ++ encN (x.length : Int)).length + x.length ≤ 140737488355328) := hidden (by have := HL.out; rw [List.length_append]; omega)
  obtain ⟨E, HE⟩ : ∃ E, Hid (bs ++ encN (x.length : Int) = E) := ⟨_, rfl⟩
  rw [HE.out] at HW HP1 HLN c0
  have HO1 : Hid (OwnB (c + 1) w1.drew (.slice a1 E.length cap1) E) := hidden (HP1.out.own.on (Upd.drew (M := fun _ => False) _) (fun _ _ h => h))
  have HB1 : Hid (c + 1 ≤ w1.drew.heap.size) := hidden HP1.out.cod.lt
  go_wp2_with fail
  have hc1d : w1.drew.cell? ⟨pb, po, none⟩ = some (.string (strOf x)) := hc1
  go_region_law ((refine step_append_S ?_ (.tmp 20) (.tmp 23) ?_ (B := c + 1) (v := .slice a1 E.length cap1) (bs := E) (t := x) ?_ HO1.out ?_ HLN.out HB1.out ?_; rfl; rfl; rfl; rfl; intro x6 w3 g3; have HS3 := hidden (Wrote.store HP1.out.cod (fun k hk => (HP1.out.own.lt k hk).1) (below_drew w1) g3); obtain ⟨d0, d1, d2, df⟩ := (HP1.out.cod.grew (fun k hk => (HP1.out.own.lt k hk).1) (below_drew w1) g3).facts; obtain ⟨a6, cap6, rfl, _, _, _⟩ := g3.own.reads; clear g3))
  all_goals
    go_wp2_with fail
    refine ⟨rfl, .tuple #[], by simp [results, Try.results122, go_sem], rfl, .slice a6 (E ++ x).length cap6, ?_⟩
    have h1 := HW.out.trans HS3.out
    have e1 : bs ++ encT x = E ++ x := by rw [← HE.out]; unfold encT; rw [List.append_assoc]
    rw [e1, List.length_append]
    rw [List.length_append] at h1
    exact h1

theorem text_W : WFun 122 none tStr := by
  intro c pb po v bs x w hp ha ho hl
  obtain ⟨vs, h1, rfl⟩ := ha
  exact text_w c pb po v bs x w hp (range_one.1 h1) hl

theorem BytesAt.drop_add {w : World} {A : Addr} {bs : List UInt8} (h : BytesAt w (some A) bs) (k : Nat) : BytesAt w (some (A.add k)) (bs.drop k) := fun i hi => by
  have hi' : i < bs.length - k := by simpa using hi
  obtain ⟨b, o, e, -⟩ := h 0 (by omega)
  cases e
  rw [Addr.add_mid]
  exact h.drop k i hi
theorem text_done {c pb po bb : Nat} {rs r : List UInt8} {n : Nat} {w w1 : World} (HP : RPre c pb bb rs (fun _ => False) w) (hz1 : w1.cell? ⟨pb, po, none⟩ = some (.string (strOf []))) (hn : n ≤ r.length) (HU : Upd (fun k => k = c) w w1) (HC : CodR w1 c bb r) (HD : decC rs = some (n, r))
    {A' : Option Addr} {cap' : Nat} (hb : BytesAt w1 A' (r.drop n)) (h1 : r.length - n ≤ cap') (h2 : (cap' : Int) ≤ 9223372036854775807) (h3 : ∀ A, A' = some A → A.block = bb) :
    RPost tStr c pb po bb rs w unitE ((w1.setCell ⟨pb, po, none⟩ (.string (strOf (r.take n)))).setCell ⟨c, 1, none⟩ (.slice A' (r.length - n) cap')) := by
  have hnc := HP.nc
  have hnb := HP.nb
  have u1 : Upd (fun k => k = pb) w1 (w1.setCell ⟨pb, po, none⟩ (.string (strOf (r.take n)))) := Upd.set rfl
  have hc2 := HC.upd u1 (by omega) (by omega)
  have hz2 := World.cell?_setCell_same _ _ (.string (strOf (r.take n))) hz1
  have st := stay_set w1 pb po (.string (strOf (r.take n)))
  have st0 := Stay.of (HU.block pb HP.var.lt hnc) po 1
  have hpl : pb < w1.heap.size := Nat.lt_of_lt_of_le HP.var.lt HU.size
  generalize w1.setCell ⟨pb, po, none⟩ (.string (strOf (r.take n))) = w2 at u1 hc2 hz2 st
  have e : r.length - n = (r.drop n).length := by rw [List.length_drop]
  have hb2 : BytesAt w2 A' (r.drop n) := hb.upd u1 (fun A hA e => hnb (by rw [← h3 A hA]; exact e.symm))
  have hc3 := hc2.step hb2 (by rw [← e]; exact h1) h2 h3
  rw [e]
  have u2 : Upd (fun k => k = c) w2 (w2.setCell ⟨c, 1, none⟩ (.slice A' (r.drop n).length cap')) := Upd.set rfl
  have hd : tStr.cod.dec rs = some (r.take n, r.drop n) := by
    show decT rs = _
    unfold decT; rw [HD]; rfl
  refine ⟨((HU.mono (N := fun k => k = c ∨ k = pb) (fun _ _ h => .inl h)).trans u1 (fun _ _ h => .inr h)).trans u2 (fun _ _ h => .inl h), ?_, .inl ⟨_, _, hd, rfl, hc3, _, range_one.2 (u2.cell hz2 hnc), rfl⟩⟩
  exact (st0.trans st ⟨Nat.le_refl _, Nat.le_refl _⟩ ⟨Nat.le_refl _, Nat.le_refl _⟩).trans (Stay.of (u2.block pb (Nat.lt_of_lt_of_le hpl u1.size) hnc) po 1) ⟨Nat.le_refl _, Nat.le_refl _⟩ ⟨Nat.le_refl _, Nat.le_refl _⟩

set_option maxRecDepth 100000 in
set_option maxHeartbeats 8000000 in
theorem text_r (c pb po bb : Nat) (rs : List UInt8) (w : World) (hp : RPre c pb bb rs (fun _ => False) w) (hz : w.cell? ⟨pb, po, none⟩ = some (.string (strOf []))) :
    Calls Try.prog 122 #[vP c 0, vP pb po] w (RPost tStr c pb po bb rs w) := by
  have HP := hidden hp
  have hnc := hp.nc
  have hnb := hp.nb
  have hfz := hp.var.frozen po
  clear hp
  go_enter Try.func122, Try.ntmps122
  go_wp2_with fail
  with_reducible refine (count_r c bb rs _ w HP.out.cod HP.out.blt).mono ?_
  rintro e w1 (⟨n, r, hd, rfl, hu, hc⟩ | ⟨hd, rfl, hu⟩)
  · obtain ⟨hn, hrl⟩ := decC_le hd
    have hz1 := hu.cell hz hnc
    have hfz1 := hu.frozen HP.out.var.lt hfz hnc
    have HU := hidden hu
    have HC := hidden hc
    have HD := hidden hd
    obtain ⟨a, cap, c0, c1, c2, cf, hcap, hby, haa, hbc, hcap2⟩ := hc.facts
    have HB := hidden hby
    clear hd hu hz hfz hc hby
    have hrl2 : r.length ≤ 100000000000 := by have := HP.out.len; omega
    have HT : Hid (BytesAt w1 a (r.take n)) := hidden (HB.out.take n)
    have hlt : (r.take n).length = n := by rw [List.length_take]; omega
    have hcv := run_str HT.out n cap hlt.symm
    clear hlt
    have HZ1 := hidden hz1
    cases a with
    | none =>
      have hr0 : r = [] := by
        cases r with
        | nil => rfl
        | cons x r => obtain ⟨b, o, e, _⟩ := HB.out 0 (by simp); cases e
      subst hr0
      have hn0 : n = 0 := by simpa using hn
      subst hn0
      go_wp2_with fail
      all_goals
        refine ⟨rfl, .tuple #[], by simp [results, Try.results122, go_sem], ?_⟩
        refine text_done HP.out HZ1.out hn HU.out HC.out HD.out (fun i hi => by simp at hi) (by simp) (by omega) (by intro A hA; cases hA)
    | some A =>
      obtain ⟨ab, ao, sp⟩ := A
      have hab := haa _ rfl
      simp only at hab
      subst hab
      have HBD := hidden (HB.out.drop_add n)
      clear haa
      go_wp2_with fail
      · refine ⟨rfl, .tuple #[], by simp [results, Try.results122, go_sem], ?_⟩
        exact text_done HP.out HZ1.out hn HU.out HC.out HD.out (fun i hi => by rw [List.length_drop] at hi; omega) (by omega) (by omega) (by intro A hA; cases hA; rfl)
      · refine ⟨rfl, .tuple #[], by simp [results, Try.results122, go_sem], ?_⟩
        exact text_done HP.out HZ1.out hn HU.out HC.out HD.out HBD.out (by omega) (by omega) (by intro A hA; cases hA; unfold Addr.add; split <;> rfl)
  · have h0 : Hid (decT rs = none) := by show _ = _; unfold decT; rw [hd]; rfl
    have hst := Stay.of (hu.block pb HP.out.var.lt hnc) po 1
    have H := hidden (And.intro hu hst)
    clear hu hst hd hz hfz
    go_wp2_with fail
    exact bodyPost_panic ⟨H.out.1.mono (fun _ _ h => .inl h), H.out.2, .inr ⟨h0.out, rfl⟩⟩ rfl
theorem text_R : RFun 122 none tStr := by
  intro c pb po bb rs w hp hz
  exact text_r c pb po bb rs w hp (range_one.1 hz)
end Go.Proofs.Ytekmjegeiminnaa
