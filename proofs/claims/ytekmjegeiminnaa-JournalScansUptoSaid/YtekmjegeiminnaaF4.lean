/- The reference's ReadInts and First, walked. -/
import Derived.Test.YtekmjegeiminnaaF3
namespace Go.Proofs.Ytekmjegeiminnaa
open Go.RowKit
set_option linter.unusedVariables false
set_option linter.unusedSimpArgs false

theorem decM_decS : ∀ (n : Nat) (rs : List UInt8), decM cN n rs = decS n rs
  | 0, _ => rfl
  | n + 1, rs => by
    show (decN rs).bind _ = (decN rs).bind _
    congr 1
    funext p
    rw [decM_decS n p.2]
theorem decL_decI (rs : List UInt8) : decL cN rs = decI rs := by
  unfold decL decI
  congr 1
  funext p
  exact decM_decS _ _
theorem Elems.ints {S : Nat → Prop} {w : World} {a : Option Addr} {xs : List Int} (h : Elems tInt S w a xs) : IntsAt w a xs := fun i hi => by
  obtain ⟨b, o, us, ha, -, hr, hx⟩ := h i hi
  have e : us = [.int .i64 xs[i]] := hx
  subst e
  have := range_one.1 hr
  exact ⟨b, o, ha, by rw [show tInt.sz = 1 from rfl, Nat.mul_one] at this; exact this⟩
/-- A Reader that was just made. -/
theorem RdR.new {w : World} {a : Option Addr} {cap : Nat} {bs : List UInt8} (h : BytesAt w a bs) (hcap : bs.length ≤ cap) (hc2 : (cap : Int) ≤ 9223372036854775807) (ha : ∀ A, a = some A → A.block < w.heap.size) (h0 : 0 < w.heap.size) :
    ∃ bb, bb < w.heap.size ∧ RdR (w.alloc (.cells #[.slice a bs.length cap, .bool false] 143)) w.heap.size bb bs false := by
  have hu : Upd (fun _ => False) w (w.alloc (.cells #[.slice a bs.length cap, .bool false] 143)) := Upd.new _ _
  cases a with
  | none => exact ⟨0, h0, none, cap, heap_alloc_new _ _, h.upd hu (fun _ _ h => h), hcap, hc2, (fun A hA => by cases hA), by omega⟩
  | some A => exact ⟨A.block, ha A rfl, some A, cap, heap_alloc_new _ _, h.upd hu (fun _ _ h => h), hcap, hc2, (fun A' hA => by cases hA; rfl), by have := ha A rfl; omega⟩
/-- Ints in a slice that the call has made. -/
def IntsNew (B : Nat) (w' : World) (v : Value) (xs : List Int) : Prop :=
  ∃ a c, v = .slice a xs.length c ∧ IntsAt w' a xs ∧ xs.length ≤ c ∧ (c : Int) ≤ 9223372036854775807 ∧ ∀ A, a = some A → B ≤ A.block ∧ A.block < w'.heap.size
theorem OwnT.ints {B C : Nat} {w : World} {v : Value} {xs : List Int} (h : OwnT tInt 3 B w v xs) (hC : C ≤ B) : IntsNew C w v xs := by
  obtain ⟨a, c, hv⟩ := h.is
  have hlt := h.lt
  obtain ⟨a', c', hv', h1, h2, h3⟩ := h.rep
  rw [hv] at hv'
  cases hv'
  refine ⟨a, c, hv, h3.ints, h1, h2, fun A hA => ?_⟩
  subst hA
  obtain ⟨cells, hrow, -⟩ := h
  rcases hrow.2 with ⟨e, hn⟩ | ⟨g, cap, cur, e, hg, rest⟩
  · rw [hv] at e; cases e
  · rw [hv] at e; cases e
    have := hlt g (by rw [hv]; rfl)
    exact ⟨by show C ≤ g; omega, this.2⟩
/-- What the reference's ReadInts answers. -/
def ReadIR (bs : List UInt8) (w : World) (e : Ending) (w' : World) : Prop :=
  Below w.heap.size w w' ∧ ((∃ xs v, readI bs = some xs ∧ e = .returned (.tuple #[v, .int .i64 0]) ∧ IntsNew w.heap.size w' v xs) ∨ (readI bs = none ∧ e = .returned (.tuple #[.slice none 0 0, .int .i64 12])))
/-- What First answers. -/
def FirstR (bs : List UInt8) (w : World) (e : Ending) (w' : World) : Prop :=
  Below w.heap.size w w' ∧ ((∃ xs r v a cap, decI bs = some (xs, r) ∧ e = .returned (.tuple #[v, .slice a r.length cap, .bool true]) ∧ IntsNew w.heap.size w' v xs ∧ BytesAt w' a r ∧ r.length ≤ cap ∧ (cap : Int) ≤ 9223372036854775807 ∧ ∀ A, a = some A → A.block < w'.heap.size) ∨
    (decI bs = none ∧ ∃ v1 v2, e = .returned (.tuple #[v1, v2, .bool false])))

set_option maxRecDepth 100000 in
set_option maxHeartbeats 8000000 in
theorem readints_rd (a : Option Addr) (cap : Nat) (bs : List UInt8) (w : World) (h : BytesAt w a bs) (hcap : bs.length ≤ cap) (hc2 : (cap : Int) ≤ 9223372036854775807) (hl : bs.length ≤ 100000000000) (ha : ∀ A, a = some A → A.block < w.heap.size) (h0 : 0 < w.heap.size) :
    Calls Try.prog 55 #[.slice a bs.length cap] w (ReadIR bs w) := by
  obtain ⟨bb, hb, hR⟩ := RdR.new h hcap hc2 ha h0
  have HR := hidden hR
  have HB0 : Hid (Below w.heap.size w (w.alloc (.cells #[.slice a bs.length cap, .bool false] 143))) := hidden ((Below.refl _ _).alloc (Nat.le_refl _) _)
  have hz : (w.alloc (.cells #[.slice a bs.length cap, .bool false] 143)).heap.size = w.heap.size + 1 := World.size_alloc _ _
  obtain ⟨i0, hi, hz0, hz1, hz2⟩ := info_parts Try.info3
  have HINF := hidden (And.intro hi (And.intro hz0 (And.intro hz1 hz2)))
  clear hi hz0 hz1 hz2 h ha hR
  go_enter Try.func55, Try.ntmps55
  go_wp2_with fail
  generalize w.alloc (.cells #[.slice a bs.length cap, .bool false] 143) = w0 at *
  have hr : w.heap.size < w0.heap.size := by omega
  have hbb : bb < w0.heap.size := by omega
  have HZ := hidden hz
  clear hz
  with_reducible refine (count_rd w.heap.size bb bs false w0 HR.out hl).mono ?_
  rintro e w1 ⟨n, r1, wr1, rfl, h1, hu, hd, hn⟩
  have hnl : n ≤ 100000000000 := by have := hd.1; omega
  have HS : Hid (ListD tInt 3 (fun k => k = w.heap.size) w0 w.heap.size bb false bs n [] r1 (.slice none 0 0) wr1 w1) := hidden ⟨h1, OwnT.nil _ _ _ _, hu, LoopD.start hd, by simp⟩
  clear h1 hu hd hn
  go_wp2_with fail
  go_loopw [5, 7] (fun s5 s7 wk => ∃ (k : Nat) (xs : List Int) (cur : List UInt8) (wrk : Bool) (v : Value), s5 = v ∧ s7 = .int .i64 k ∧ k = xs.length ∧ ListD tInt 3 (fun k => k = w.heap.size) w0 w.heap.size bb false bs n xs cur v wrk wk) (fun _ s7 _ => (n - intOf s7).toNat)
  case atStart => exact ⟨0, [], r1, wr1, _, rfl, rfl, rfl, HS.out⟩
  case round =>
    obtain ⟨k, xs, cur, wrk, v, hs3, rfl, hk, hL⟩ := hrel
    obtain ⟨av, capv, hv⟩ := hL.own.is
    subst hv
    subst hs3
    have HL := hidden hL
    have hle := hL.le
    have hcl := hL.dec.1
    obtain ⟨ar, capr, c0, c1, cf, -⟩ := hL.rd.facts
    have HK := hidden hk
    have HBE : Hid (Below w.heap.size w wr) := hidden (HB0.out.trans (hL.upd.toBelow (by omega) (fun k hk e => by omega)))
    clear hL hk
    have fin : (wrk = true ∨ n ≤ xs.length) → Dec (cList cN).dec false bs wrk cur xs := fun h => HL.out.dec.done h HL.out.le
    have HFIN := hidden fin
    clear fin
    by_cases hlt : k < n ∧ wrk = false
    · obtain ⟨hlt, hw⟩ := hlt
      subst hw
      go_wp2_with fail
      with_reducible refine (num_rd w.heap.size bb cur false wr HL.out.rd).mono ?_
      rintro e w4 ⟨x0, rs4, wr4, rfl, h1, hu, hd, -, -⟩
      have H4 := hidden h1
      have U4 := hidden hu
      have D4 : Hid (Dec tInt.cod.dec false cur wr4 rs4 x0) := hidden hd
      have HO := hidden (HL.out.carry hr U4.out (.cells #[.int .i64 x0] 3))
      have HRN : Hid ((w4.alloc (.cells #[.int .i64 x0] 3)).rangeAt w4.heap.size 0 [.int .i64 x0]) := hidden (new_range _ _ _)
      have HRP : ∀ (S : Nat → Prop) (W : World), tInt.rep S W [.int .i64 x0] x0 := fun S W => rfl
      have HRP := hidden HRP
      have HXL : Hid (xs.length ≤ 1000000000000) := hidden (by omega)
      have HXB : Hid ((xs.length + 1) * 8 ≤ 140737488355328) := hidden (by omega)
      have HB : Hid (w0.heap.size ≤ (w4.alloc (.cells #[.int .i64 x0] 3)).heap.size) := hidden (by have := HL.out.upd.size; have := U4.out.size; rw [World.size_alloc]; omega)
      clear h1 hu hd c0 c1 cf
      go_wp2_with (at_builtin; go_loud (refine wpList_append_T (A := tInt) rfl (.tmp 25) (.tmp 28) 36 rfl Try.underlying36 HINF.out.1 HINF.out.2.1 HINF.out.2.2.1 HINF.out.2.2.2 rfl (by decide) (B := w0.heap.size) (v := .slice av xs.length capv) (xs := xs) (x := x0) rfl HO.out (b := w4.heap.size) (c := 1) rfl HRN.out (HRP.out _ _) HXL.out HXB.out HB.out ?_); intro v2 w5 g; have G := hidden g; clear g)
      exact ⟨⟨k + 1, xs ++ [x0], rs4, wr4, v2, rfl, by go_num, by rw [HK.out]; simp, HL.out.next rfl hr hbb U4.out H4.out D4.out (by have := HK.out; omega) G.out⟩, by simp [intOf]; omega⟩
    · have HE : Hid (wrk = true ∨ n ≤ xs.length) := hidden (by
        have := HK.out
        cases wrk
        · exact .inr (by have : ¬ k < n := fun h => hlt ⟨h, rfl⟩; omega)
        · exact .inl rfl)
      cases wrk with
      | true =>
        have HN : Hid (readI bs = none) := hidden (by
          have := (HFIN.out HE.out).bad rfl rfl
          unfold readI; rw [← decL_decI, show decL cN bs = none from this]; rfl)
        clear hlt
        by_cases hkn : k < n
        all_goals
          go_wp2_with fail
          go_ret2
          exact ⟨HBE.out, .inr ⟨HN.out, rfl⟩⟩
      | false =>
        have hkn : ¬ k < n := fun h => hlt ⟨h, rfl⟩
        have HD : Hid (decI bs = some (xs, cur)) := hidden (by rw [← decL_decI]; exact ((HFIN.out HE.out).good rfl).2)
        clear hlt
        by_cases hc0 : cur.length = 0
        · have hc0' : ¬ (0 : Int) < (cur.length : Int) := by omega
          have HN : Hid (readI bs = some xs) := hidden (by unfold readI; rw [HD.out]; exact if_pos hc0)
          clear hc0
          go_wp2_with fail
          go_ret2
          exact ⟨HBE.out, .inl ⟨xs, _, HN.out, rfl, HL.out.own.ints (by omega)⟩⟩
        · have hc0' : (0 : Int) < (cur.length : Int) := by omega
          have HN : Hid (readI bs = none) := hidden (by unfold readI; rw [HD.out]; exact if_neg hc0)
          clear hc0
          go_wp2_with fail
          go_ret2
          exact ⟨HBE.out, .inr ⟨HN.out, rfl⟩⟩
set_option maxRecDepth 100000 in
set_option maxHeartbeats 8000000 in
theorem first_rd (a : Option Addr) (cap : Nat) (bs : List UInt8) (w : World) (h : BytesAt w a bs) (hcap : bs.length ≤ cap) (hc2 : (cap : Int) ≤ 9223372036854775807) (hl : bs.length ≤ 100000000000) (ha : ∀ A, a = some A → A.block < w.heap.size) (h0 : 0 < w.heap.size) :
    Calls Try.prog 99 #[.slice a bs.length cap] w (FirstR bs w) := by
  obtain ⟨bb, hb, hR⟩ := RdR.new h hcap hc2 ha h0
  have HR := hidden hR
  have HB0 : Hid (Below w.heap.size w (w.alloc (.cells #[.slice a bs.length cap, .bool false] 143))) := hidden ((Below.refl _ _).alloc (Nat.le_refl _) _)
  have hz : (w.alloc (.cells #[.slice a bs.length cap, .bool false] 143)).heap.size = w.heap.size + 1 := World.size_alloc _ _
  obtain ⟨i0, hi, hz0, hz1, hz2⟩ := info_parts Try.info3
  have HINF := hidden (And.intro hi (And.intro hz0 (And.intro hz1 hz2)))
  clear hi hz0 hz1 hz2 h ha hR
  go_enter Try.func99, Try.ntmps99
  go_wp2_with fail
  generalize w.alloc (.cells #[.slice a bs.length cap, .bool false] 143) = w0 at *
  have hr : w.heap.size < w0.heap.size := by omega
  have hbb : bb < w0.heap.size := by omega
  have HZ := hidden hz
  clear hz
  with_reducible refine (count_rd w.heap.size bb bs false w0 HR.out hl).mono ?_
  rintro e w1 ⟨n, r1, wr1, rfl, h1, hu, hd, hn⟩
  have hnl : n ≤ 100000000000 := by have := hd.1; omega
  have HS : Hid (ListD tInt 3 (fun k => k = w.heap.size) w0 w.heap.size bb false bs n [] r1 (.slice none 0 0) wr1 w1) := hidden ⟨h1, OwnT.nil _ _ _ _, hu, LoopD.start hd, by simp⟩
  clear h1 hu hd hn
  go_wp2_with fail
  go_loopw [6, 8] (fun s5 s7 wk => ∃ (k : Nat) (xs : List Int) (cur : List UInt8) (wrk : Bool) (v : Value), s5 = v ∧ s7 = .int .i64 k ∧ k = xs.length ∧ ListD tInt 3 (fun k => k = w.heap.size) w0 w.heap.size bb false bs n xs cur v wrk wk) (fun _ s7 _ => (n - intOf s7).toNat)
  case atStart => exact ⟨0, [], r1, wr1, _, rfl, rfl, rfl, HS.out⟩
  case round =>
    obtain ⟨k, xs, cur, wrk, v, hs3, rfl, hk, hL⟩ := hrel
    obtain ⟨av, capv, hv⟩ := hL.own.is
    subst hv
    subst hs3
    have HL := hidden hL
    have hle := hL.le
    have hcl := hL.dec.1
    obtain ⟨ar, capr, c0, c1, cf, hfx⟩ := hL.rd.facts
    have HK := hidden hk
    have HBE : Hid (Below w.heap.size w wr) := hidden (HB0.out.trans (hL.upd.toBelow (by omega) (fun k hk e => by omega)))
    clear hL hk
    have fin : (wrk = true ∨ n ≤ xs.length) → Dec (cList cN).dec false bs wrk cur xs := fun h => HL.out.dec.done h HL.out.le
    have HFIN := hidden fin
    clear fin
    by_cases hlt : k < n ∧ wrk = false
    · obtain ⟨hlt, hw⟩ := hlt
      subst hw
      go_wp2_with fail
      with_reducible refine (num_rd w.heap.size bb cur false wr HL.out.rd).mono ?_
      rintro e w4 ⟨x0, rs4, wr4, rfl, h1, hu, hd, -, -⟩
      have H4 := hidden h1
      have U4 := hidden hu
      have D4 : Hid (Dec tInt.cod.dec false cur wr4 rs4 x0) := hidden hd
      have HO := hidden (HL.out.carry hr U4.out (.cells #[.int .i64 x0] 3))
      have HRN : Hid ((w4.alloc (.cells #[.int .i64 x0] 3)).rangeAt w4.heap.size 0 [.int .i64 x0]) := hidden (new_range _ _ _)
      have HRP : ∀ (S : Nat → Prop) (W : World), tInt.rep S W [.int .i64 x0] x0 := fun S W => rfl
      have HRP := hidden HRP
      have HXL : Hid (xs.length ≤ 1000000000000) := hidden (by omega)
      have HXB : Hid ((xs.length + 1) * 8 ≤ 140737488355328) := hidden (by omega)
      have HB : Hid (w0.heap.size ≤ (w4.alloc (.cells #[.int .i64 x0] 3)).heap.size) := hidden (by have := HL.out.upd.size; have := U4.out.size; rw [World.size_alloc]; omega)
      clear h1 hu hd c0 c1 cf hfx
      go_wp2_with (at_builtin; go_loud (refine wpList_append_T (A := tInt) rfl (.tmp 26) (.tmp 29) 36 rfl Try.underlying36 HINF.out.1 HINF.out.2.1 HINF.out.2.2.1 HINF.out.2.2.2 rfl (by decide) (B := w0.heap.size) (v := .slice av xs.length capv) (xs := xs) (x := x0) rfl HO.out (b := w4.heap.size) (c := 1) rfl HRN.out (HRP.out _ _) HXL.out HXB.out HB.out ?_); intro v2 w5 g; have G := hidden g; clear g)
      exact ⟨⟨k + 1, xs ++ [x0], rs4, wr4, v2, rfl, by go_num, by rw [HK.out]; simp, HL.out.next rfl hr hbb U4.out H4.out D4.out (by have := HK.out; omega) G.out⟩, by simp [intOf]; omega⟩
    · have HE : Hid (wrk = true ∨ n ≤ xs.length) := hidden (by
        have := HK.out
        cases wrk
        · exact .inr (by have : ¬ k < n := fun h => hlt ⟨h, rfl⟩; omega)
        · exact .inl rfl)
      obtain ⟨hcapr, hbyr, haar, -, hcap2r⟩ := hfx
      cases wrk with
      | true =>
        have HN : Hid (decI bs = none) := hidden (by
          have := (HFIN.out HE.out).bad rfl rfl
          rw [← decL_decI]; exact this)
        clear hlt
        by_cases hkn : k < n
        all_goals
          go_wp2_with fail
          go_quiet (fail)
          go_wp2_with fail
          go_ret3
          exact ⟨below_dn HBE.out _, .inr ⟨HN.out, _, _, rfl⟩⟩
      | false =>
        have hkn : ¬ k < n := fun h => hlt ⟨h, rfl⟩
        have HD : Hid (decI bs = some (xs, cur)) := hidden (by rw [← decL_decI]; exact ((HFIN.out HE.out).good rfl).2)
        have HBY := hidden hbyr
        have HAA := hidden haar
        clear hlt hbyr haar
        go_wp2_with fail
        go_quiet (fail)
        go_wp2_with fail
        go_ret3
        obtain ⟨a9, c9, e9, i9, p9, q9, r9⟩ := HL.out.own.ints (C := w.heap.size) (by omega)
        refine ⟨below_dn HBE.out _, .inl ⟨xs, cur, _, _, _, HD.out, rfl, ⟨a9, c9, e9, i9.upd (Upd.drewN (M := fun _ => False) _ _) (fun _ _ h => h), p9, q9, r9⟩, HBY.out.upd (Upd.drewN (M := fun _ => False) _ _) (fun _ _ h => h), hcapr, hcap2r, fun A hA => ?_⟩⟩
        rw [HAA.out A hA]
        exact Nat.lt_of_lt_of_le hbb (Nat.le_trans HL.out.upd.size (Nat.le_refl _))
end Go.Proofs.Ytekmjegeiminnaa
