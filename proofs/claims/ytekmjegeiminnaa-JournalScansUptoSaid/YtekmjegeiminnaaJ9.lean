/- The law JournalScans, walked. -/
import Derived.Test.YtekmjegeiminnaaJ8
import Derived.Deep.RegionHeld3
namespace Go.Proofs.Ytekmjegeiminnaa
open Go.RowKit
set_option linter.unusedVariables false
set_option linter.unusedSimpArgs false

theorem nextJ_head64 {bs : List UInt8} {id : Int} {n : Nat} (h : nextJ bs = (.header id, n)) : I64 id := by
  unfold nextJ at h
  split at h
  · simp only [Prod.mk.injEq] at h
    exact (enc_readI (parseJ_is_header h.1)).2 id (by simp)
  · cases h
theorem scanJ_ok (b : List UInt8) (k : Nat) : ∀ g ∈ (scanJ b k).1, tOps.cod.ok g ∧ (tOps.cod.enc g).length ≤ 131072 := by
  by_cases h : ∃ l n, nextJ b = (.group (k + 1) l, n)
  · obtain ⟨l, n, h⟩ := h
    obtain ⟨h1, h2, h3, h4, h5⟩ := nextJ_group_le h
    have ih := scanJ_ok (b.drop n) (k + 1)
    rw [scanJ_step h]
    intro g hg
    rcases List.mem_cons.1 hg with rfl | hg
    · have h6 := parseJ_group.1 h2
      rcases parseG_cases (unfC b) with h7 | ⟨seq, o, l', rest, h7, h8, h9⟩
      · rw [h7] at h6; cases h6
      · rw [h7] at h6
        cases h6
        obtain ⟨e1, e2⟩ := enc_whole tOps.cod h9
        refine ⟨e2, ?_⟩
        have e3 := congrArg List.length (enc_decI h8).1
        have e4 := (unf_frame h1).2.1
        rw [List.length_append, e1] at e3
        omega
    · exact ih g hg
  · rw [scanJ_stop (fun l n e => h ⟨l, n, e⟩)]
    intro g hg
    cases hg
termination_by b.length
decreasing_by rw [List.length_drop]; omega
theorem logJ_ok (b : List UInt8) (id : Int) : ∀ g ∈ (logJ b id).groups, tOps.cod.ok g ∧ (tOps.cod.enc g).length ≤ 131072 := by
  unfold logJ
  split
  · split
    · exact scanJ_ok _ _
    · intro g hg; cases hg
  · intro g hg; cases hg

set_option maxRecDepth 100000 in
set_option maxHeartbeats 64000000 in
theorem add_ref (a : Option Addr) (cap : Nat) (bs : List UInt8) (v0 : Value) (l : List OpD) (w : World) (h : BytesAt w a bs) (hcap : bs.length ≤ cap) (hc2 : (cap : Int) ≤ 9223372036854775807) (hl : bs.length ≤ 100000000)
    (hr : tOps.rep (· < w.heap.size) w [v0] l) (hok : tOps.cod.ok l) (hle : (tOps.cod.enc l).length ≤ 100000000000) :
    Calls Try.prog 58 #[.slice a bs.length cap, v0] w (AddP bs l w) := by
  have hr' := hr
  obtain ⟨a0, cap0, hv, -⟩ := hr'
  cases hv
  have HQ := hidden h
  have HR := hidden hr
  have HOK := hidden hok
  clear h hr hok
  go_enter Try.func58, Try.ntmps58
  go_wp2_with fail
  with_reducible refine (own_ref a cap bs w HQ.out hcap hc2 hl).mono ?_
  rintro e w1 ⟨hb, ⟨id, n, hn, rfl⟩ | ⟨hno, rfl⟩⟩
  · have HB1 := hidden hb
    have HAD := hidden (addJ_head (l := l) hn)
    have h64 : -9223372036854775808 ≤ id ∧ id ≤ 9223372036854775807 := nextJ_head64 hn
    obtain ⟨hfew, hgoodle⟩ := logJ_few bs id
    clear hb hn
    go_wp2_with fail
    with_reducible refine (scan_ref a cap bs id w1 (HQ.out.on' HB1.out) hcap hc2 hl h64).mono ?_
    rintro e w2 ⟨hb, a2, c2, rfl, -⟩
    have HB2 := hidden (HB1.out.trans (hb.mono HB1.out.size))
    have HB3 := hidden (HB2.out.alloc HB2.out.size (.cells #[.slice a2 (logJ bs id).groups.length c2, .int .i64 ((logJ bs id).good : Nat), .bool (logJ bs id).bound] 91))
    clear hb
    generalize hL : logJ bs id = L at HAD HB3 hfew hgoodle ⊢
    obtain ⟨gs, good, bound⟩ := L
    dsimp only at HAD HB3 hfew hgoodle ⊢
    clear hL
    by_cases hg : good < bs.length
    · have HNO : Hid (addJ bs l = ([], 12)) := hidden (by rw [HAD.out, if_pos hg])
      go_wp2_with fail
      go_ret2
      exact AddP.err HB3.out HNO.out
    · have HNO : Hid (addJ bs l = groupJ (gs.length + 1) l) := hidden (by rw [HAD.out, if_neg hg])
      have HGR : Hid (∀ W, Below w.heap.size w W → Calls Try.prog 65 #[.int .i64 ((gs.length : Int) + 1), .slice a0 l.length cap0] W (GroupP ((gs.length : Int) + 1) l W)) := hidden (fun W hW => group_ref _ _ l W ⟨by omega, by omega⟩ (rep_on HR.out hW) HOK.out hle)
      go_wp2_with fail
      with_reducible refine (HGR.out _ HB3.out).mono ?_
      rintro e w3 ⟨hb, v3, rfl, ho⟩
      have HE : Hid (AddP bs l w (.returned (.tuple #[v3, .int .i64 ((groupJ ((gs.length : Int) + 1) l).2 : Nat)])) w3) := hidden ⟨HB3.out.trans (hb.mono HB3.out.size), v3, by rw [HNO.out], by rw [HNO.out]; exact ho.weaken HB3.out.size⟩
      clear hb ho HGR
      go_wp2_with fail
      go_ret2
      exact HE.out
  · have HB1 := hidden hb
    have HNO := hidden (addJ_none (l := l) hno)
    clear hb hno
    go_wp2_with fail
    go_ret2
    exact AddP.err HB1.out HNO.out

theorem row_at' {S : Nat → Prop} {w : World} {a : Option Addr} {n c : Nat} {gs : List (List OpD)} (h : (tList tOps).rep S w [.slice a n c] gs) {k : Nat} (hk : k < gs.length) : ∃ b o ag cg, a = some ⟨b, o, none⟩ ∧ w.cell? ⟨b, o + k, none⟩ = some (.slice ag gs[k].length cg) ∧ tOps.rep S w [.slice ag gs[k].length cg] gs[k] := by
  obtain ⟨a', c', he, -, -, hel⟩ := h
  have he' : Value.slice a n c = .slice a' gs.length c' := (List.cons.inj he).1
  simp only [Value.slice.injEq] at he'
  obtain ⟨rfl, rfl, rfl⟩ := he'
  obtain ⟨b, o, us, ha, hs, hr, hx⟩ := hel k hk
  have hx' := hx
  obtain ⟨ag, cg, hu, -⟩ := hx'
  subst hu
  refine ⟨b, o, ag, cg, ha, ?_, hx⟩
  have := range_one.1 hr
  rw [show tOps.sz = 1 from rfl, Nat.mul_one] at this; exact this

set_option maxRecDepth 100000 in
set_option maxHeartbeats 64000000 in
theorem same_logs (a1 a2 : Option Addr) (c1 c2 : Nat) (gs : List (List OpD)) (good : Nat) (bd : Bool) (w : World)
    (h1 : (tList tOps).rep (· < w.heap.size) w [.slice a1 gs.length c1] gs) (h2 : (tList tOps).rep (· < w.heap.size) w [.slice a2 gs.length c2] gs)
    (hm : ∀ g ∈ gs, tOps.cod.ok g ∧ (tOps.cod.enc g).length ≤ 131072) (hn : gs.length ≤ 100000000) :
    Calls Try.prog 59 #[.agg #[.slice a1 gs.length c1, .int .i64 good, .bool bd], .agg #[.slice a2 gs.length c2, .int .i64 good, .bool bd]] w fun e w' => e = .returned (.bool true) ∧ Below w.heap.size w w' := by
  have R1 := hidden h1
  have R2 := hidden h2
  have HM := hidden hm
  have hb1 : Below w.heap.size w (w.alloc (.cells #[.slice a1 gs.length c1, .int .i64 good, .bool bd] 89)) := (Below.refl _ _).alloc (Nat.le_refl _) _
  have hb2 : Below w.heap.size w ((w.alloc (.cells #[.slice a1 gs.length c1, .int .i64 good, .bool bd] 89)).alloc (.cells #[.slice a2 gs.length c2, .int .i64 good, .bool bd] 91)) := hb1.alloc hb1.size _
  have HB2 := hidden hb2
  have HY : Hid (((w.alloc (.cells #[.slice a1 gs.length c1, .int .i64 good, .bool bd] 89)).alloc (.cells #[.slice a2 gs.length c2, .int .i64 good, .bool bd] 91)).heap[w.heap.size]? = some (.cells #[.slice a1 gs.length c1, .int .i64 good, .bool bd] 89 (0, 0))) := hidden ((((Below.refl (w.heap.size + 1) (w.alloc (.cells #[.slice a1 gs.length c1, .int .i64 good, .bool bd] 89))).alloc (by rw [World.size_alloc]; exact Nat.le_refl _) (.cells #[.slice a2 gs.length c2, .int .i64 good, .bool bd] 91)).block _ (Nat.lt_succ_self _)).trans (heap_alloc_new _ _))
  have HZ : Hid (((w.alloc (.cells #[.slice a1 gs.length c1, .int .i64 good, .bool bd] 89)).alloc (.cells #[.slice a2 gs.length c2, .int .i64 good, .bool bd] 91)).heap[w.heap.size + 1]? = some (.cells #[.slice a2 gs.length c2, .int .i64 good, .bool bd] 91 (0, 0))) := hidden (by
    have := heap_alloc_new (w.alloc (.cells #[.slice a1 gs.length c1, .int .i64 good, .bool bd] 89)) (.cells #[.slice a2 gs.length c2, .int .i64 good, .bool bd] 91)
    rw [World.size_alloc] at this; exact this)
  have hsz : ((w.alloc (.cells #[.slice a1 gs.length c1, .int .i64 good, .bool bd] 89)).alloc (.cells #[.slice a2 gs.length c2, .int .i64 good, .bool bd] 91)).heap.size = w.heap.size + 2 := by rw [World.size_alloc, World.size_alloc]
  clear h1 h2 hm hb1 hb2
  go_enter Try.func59, Try.ntmps59
  go_wp2_with fail
  obtain ⟨WB, hWB⟩ : ∃ W, ((w.alloc (.cells #[.slice a1 gs.length c1, .int .i64 good, .bool bd] 89)).alloc (.cells #[.slice a2 gs.length c2, .int .i64 good, .bool bd] 91)) = W := ⟨_, rfl⟩
  try simp only [World.size_alloc]
  rw [hWB] at HB2 HY HZ hsz
  rw [hWB]
  clear hWB
  have R1' := hidden (rep_on R1.out HB2.out)
  have R2' := hidden (rep_on R2.out HB2.out)
  have hyb : w.heap.size < WB.heap.size := by omega
  have hzb : w.heap.size + 1 < WB.heap.size := by omega
  obtain ⟨yb, hy⟩ : ∃ k, w.heap.size = k := ⟨_, rfl⟩
  obtain ⟨zb, hz⟩ : ∃ k, w.heap.size + 1 = k := ⟨_, rfl⟩
  have HYC : Hid (∀ W, Below WB.heap.size WB W → W.cell? ⟨w.heap.size, 0, none⟩ = some (.slice a1 gs.length c1) ∧ W.cell? ⟨w.heap.size + 1, 0, none⟩ = some (.slice a2 gs.length c2)) := hidden (fun W hW => by
    have e1 := (hW.block _ hyb).trans HY.out
    have e2 := (hW.block _ hzb).trans HZ.out
    exact ⟨by simp [World.cell?, e1], by simp [World.cell?, e2]⟩)
  rw [hz] at HYC ⊢
  rw [hy] at HYC ⊢
  clear hz hy
  generalize hlen : gs.length = m at *
  go_loopw [30] (fun s wk => ∃ (k : Nat), s = .int .i64 k ∧ k ≤ m ∧ Below WB.heap.size WB wk) (fun s _ => (m - intOf s).toNat)
  case atStart => exact ⟨0, rfl, by omega, Below.refl _ _⟩
  case round =>
    obtain ⟨k, rfl, hk, hb⟩ := hrel
    have HK := hidden hb
    have hzk := hb.size
    clear hb
    by_cases hlt : k < m
    · have hk2 : k < gs.length := by omega
      obtain ⟨b1, o1, ag, cg, rfl, hcA, hrA⟩ := row_at' (rep_on R1'.out HK.out) hk2
      obtain ⟨b2, o2, ah, ch, rfl, hcB, hrB⟩ := row_at' (rep_on R2'.out HK.out) hk2
      have HXM := hidden (HM.out _ (List.getElem_mem hk2))
      generalize gs[k] = x at hcA hrA hcB hrB HXM
      have RA := hidden hrA
      have RB := hidden hrB
      have hcD : wr.drew.cell? ⟨b2, o2 + k, none⟩ = some (.slice ah x.length ch) := hcB
      have hcC : wr.drew.cell? ⟨b1, o1 + k, none⟩ = some (.slice ag x.length cg) := hcA
      have HCX : Hid (∀ W, Below wr.heap.size wr W → Calls Try.prog 51 #[.slice ag x.length cg] W fun e w' => Below W.heap.size W w' ∧ ∃ v, e = .returned v ∧ OwnB W.heap.size w' v (tOps.cod.enc x)) := hidden (fun W hW => refops _ x W (rep_on RA.out hW) HXM.out.1 (by have := HXM.out.2; omega))
      have HCY : Hid (∀ W, Below wr.heap.size wr W → Calls Try.prog 51 #[.slice ah x.length ch] W fun e w' => Below W.heap.size W w' ∧ ∃ v, e = .returned v ∧ OwnB W.heap.size w' v (tOps.cod.enc x)) := hidden (fun W hW => refops _ x W (rep_on RB.out hW) HXM.out.1 (by have := HXM.out.2; omega))
      have HSS : Hid (∀ W, Below wr.heap.size wr W → W.cell? ⟨yb, 0, none⟩ = some (.slice (some ⟨b1, o1, none⟩) m c1) ∧ W.cell? ⟨b1, o1 + k, none⟩ = some (.slice ag x.length cg) ∧ W.cell? ⟨zb, 0, none⟩ = some (.slice (some ⟨b2, o2, none⟩) m c2) ∧ W.cell? ⟨b2, o2 + k, none⟩ = some (.slice ah x.length ch)) := hidden (fun W hW => ⟨(HYC.out W (HK.out.trans (hW.mono HK.out.size))).1, (hW.cell (p := ⟨b1, o1 + k, none⟩) (World.block_lt_of_cell? wr _ hcA)).trans hcA, (HYC.out W (HK.out.trans (hW.mono HK.out.size))).2, (hW.cell (p := ⟨b2, o2 + k, none⟩) (World.block_lt_of_cell? wr _ hcB)).trans hcB⟩)
      have HB : Hid (Below wr.heap.size wr wr.drew) := hidden (below_drew wr)
      have y0 : wr.drew.cell? ⟨yb, 0, none⟩ = some (.slice (some ⟨b1, o1, none⟩) m c1) := (HYC.out wr HK.out).1
      have y1 : wr.drew.cell? ⟨zb, 0, none⟩ = some (.slice (some ⟨b2, o2, none⟩) m c2) := (HYC.out wr HK.out).2
      generalize tOps.cod.enc x = fs at HCX HCY
      clear hrA hrB hcA hcB
      go_wp2_with fail
      go_region_held3 (fun w' => w'.cell? ⟨yb, 0, none⟩ = some (.slice (some ⟨b1, o1, none⟩) m c1) ∧ w'.cell? ⟨b1, o1 + k, none⟩ = some (.slice ag x.length cg) ∧ w'.cell? ⟨zb, 0, none⟩ = some (.slice (some ⟨b2, o2, none⟩) m c2) ∧ w'.cell? ⟨b2, o2 + k, none⟩ = some (.slice ah x.length ch)) (first | exact HSS.out _ HB.out | go_keep)
        (first
          | (go_at_call_of 51 (Value.slice ag x.length cg); (with_reducible refine (HCX.out _ HB.out).mono ?_); rintro e wx ⟨hb, vx, rfl, ho⟩; obtain ⟨ax, cx, rfl, qx, -, -⟩ := ho.reads; (try (replace qy := qy.on' hb)); replace HB := hidden (HB.out.trans (hb.mono HB.out.size)); clear hb ho)
          | (go_at_call_of 51 (Value.slice ah x.length ch); (with_reducible refine (HCY.out _ HB.out).mono ?_); rintro e wy ⟨hb, vy, rfl, ho⟩; obtain ⟨ay, cy, rfl, qy, -, -⟩ := ho.reads; (try (replace qx := qx.on' hb)); replace HB := hidden (HB.out.trans (hb.mono HB.out.size)); clear hb ho)
          | (go_at_call 22; (with_reducible refine (same_eq _ _ _ _ _ _ fs _ qx qy rfl rfl).mono ?_); rintro e w9 ⟨rfl, rfl⟩; clear qx qy)
          | fail)
      all_goals
        go_wp2_with fail
        exact ⟨⟨k + 1, by go_num, by omega, HK.out.trans (HB.out.mono HK.out.size)⟩, by simp [intOf]; omega⟩
    · have HK2 := hidden (HB2.out.trans (HK.out.mono HB2.out.size))
      go_wp2_with fail
      go_ret
      exact ⟨rfl, HK2.out⟩

set_option maxRecDepth 100000 in
set_option maxHeartbeats 64000000 in
theorem scans_law (a : Option Addr) (cap : Nat) (bs : List UInt8) (id : Int) (v0 : Value) (l : List OpD) (w : World) (h : BytesAt w a bs) (hcap : bs.length ≤ cap) (hc2 : (cap : Int) ≤ 9223372036854775807) (ha : ∀ A, a = some A → A.block < w.heap.size)
    (hid : -9223372036854775808 ≤ id ∧ id ≤ 9223372036854775807) (hr : tOps.rep (· < w.heap.size) w [v0] l) (hok : tOps.cod.ok l) (hle : (tOps.cod.enc l).length ≤ 100000000000) :
    Calls Try.prog 13 #[.slice a bs.length cap, .int .i64 id, v0] w fun e w' => e = .returned (.bool true) ∧ Below w.heap.size w w' := by
  have hr' := hr
  obtain ⟨a0, cap0, hv, -⟩ := hr'
  cases hv
  have HQ := hidden h
  have HR := hidden hr
  have HOK := hidden hok
  clear h hr hok
  by_cases hbig : 20000 < bs.length
  · go_enter Try.func13, Try.ntmps13
    go_wp2_with fail
    with_reducible refine (lives_04 w).mono ?_
    rintro e w1 ⟨rfl, hb⟩
    have B := hidden hb
    clear hb
    go_wp2_with fail
    go_ret
    exact ⟨rfl, B.out⟩
  by_cases hbig2 : 50 < l.length
  · go_enter Try.func13, Try.ntmps13
    go_wp2_with fail
    with_reducible refine (lives_04 w).mono ?_
    rintro e w1 ⟨rfl, hb⟩
    have B := hidden hb
    clear hb
    go_wp2_with fail
    go_ret
    exact ⟨rfl, B.out⟩
  have HAR : Hid (∀ W, Below w.heap.size w W → Calls Try.prog 58 #[.slice a bs.length cap, .slice a0 l.length cap0] W (AddP bs l W)) := hidden (fun W hW => add_ref a cap bs _ l W (HQ.out.on' hW) hcap hc2 (by omega) (rep_on HR.out hW) HOK.out hle)
  have HSA : Hid (∀ W, Below w.heap.size w W → Calls Try.prog 60 #[.slice a bs.length cap, .int .i64 id] W (ScanP bs id W)) := hidden (fun W hW => scan_any a cap bs id W (HQ.out.on' hW) hcap hc2 (by omega))
  have HSR : Hid (∀ W, Below w.heap.size w W → Calls Try.prog 61 #[.slice a bs.length cap, .int .i64 id] W (ScanP bs id W)) := hidden (fun W hW => scan_ref a cap bs id W (HQ.out.on' hW) hcap hc2 (by omega) hid)
  have HOKL := hidden (logJ_ok bs id)
  have hfew := (logJ_few bs id).1
  go_enter Try.func13, Try.ntmps13
  go_wp2_with fail
  with_reducible refine (add_any a cap bs _ l w HQ.out hcap hc2 (by omega) HR.out HOK.out hle).mono ?_
  rintro e w1 ⟨hb, v1, rfl, ho⟩
  have B1 := hidden hb
  obtain ⟨a1, c1, rfl, q1, -, -⟩ := ho.reads
  have Q1 := hidden q1
  clear hb ho q1
  go_wp2_with fail
  with_reducible refine (HAR.out _ B1.out).mono ?_
  rintro e w2 ⟨hb, v2, rfl, ho⟩
  have B2 := hidden (B1.out.trans (hb.mono B1.out.size))
  have Q1b := hidden (Q1.out.on' hb)
  obtain ⟨a2, c2, rfl, q2, -, -⟩ := ho.reads
  have Q2 := hidden q2
  clear hb ho q2 HAR
  generalize (addJ bs l).1 = fs at Q1b Q2 ⊢
  generalize (addJ bs l).2 = er
  go_wp2_with fail
  with_reducible refine (HSA.out _ B2.out).mono ?_
  rintro e w3 ⟨hb, a3, c3, rfl, hr3⟩
  have B3 := hidden (B2.out.trans (hb.mono B2.out.size))
  have Q1c := hidden (Q1b.out.on' hb)
  have Q2c := hidden (Q2.out.on' hb)
  have R3 := hidden ((tList tOps).mono (S' := (· < w3.heap.size)) hr3 (fun k hk => hk.2))
  clear hb hr3 HSA
  go_wp2_with fail
  with_reducible refine (HSR.out _ B3.out).mono ?_
  rintro e w4 ⟨hb, a4, c4, rfl, hr4⟩
  have B4 := hidden (B3.out.trans (hb.mono B3.out.size))
  have Q1d := hidden (Q1c.out.on' hb)
  have Q2d := hidden (Q2c.out.on' hb)
  have R3b := hidden (rep_on R3.out hb)
  have R4 := hidden ((tList tOps).mono (S' := (· < w4.heap.size)) hr4 (fun k hk => hk.2))
  clear hb hr4 HSR
  generalize logJ bs id = L at R3b R4 HOKL hfew ⊢
  obtain ⟨gs, good, bound⟩ := L
  dsimp only at R3b R4 HOKL hfew ⊢
  go_wp2_with fail
  with_reducible refine (same_logs a3 a4 c3 c4 gs good bound w4 R3b.out R4.out HOKL.out (by omega)).mono ?_
  rintro e w5 ⟨rfl, hb⟩
  have B5 := hidden (B4.out.trans (hb.mono B4.out.size))
  have Q1e := hidden (Q1d.out.on' hb)
  have Q2e := hidden (Q2d.out.on' hb)
  clear hb
  go_wp2_with fail
  with_reducible refine (begin_any id w5 hid).mono ?_
  rintro e w6 ⟨hb, v6, rfl, ho⟩
  have B6 := hidden (B5.out.trans (hb.mono B5.out.size))
  have Q1f := hidden (Q1e.out.on' hb)
  have Q2f := hidden (Q2e.out.on' hb)
  obtain ⟨a6, c6, rfl, q6, -, -⟩ := ho.reads
  have Q6 := hidden q6
  clear hb ho q6
  go_wp2_with fail
  with_reducible refine (begin_ref id w6 hid).mono ?_
  rintro e w7 ⟨hb, v7, rfl, ho⟩
  have B7 := hidden (B6.out.trans (hb.mono B6.out.size))
  have Q1g := hidden (Q1f.out.on' hb)
  have Q2g := hidden (Q2f.out.on' hb)
  have Q6g := hidden (Q6.out.on' hb)
  obtain ⟨a7, c7, rfl, q7, -, -⟩ := ho.reads
  have Q7 := hidden q7
  clear hb ho q7
  go_wp2_with fail
  with_reducible refine (same_eq _ _ _ _ _ _ _ w7 Q6g.out Q7.out rfl rfl).mono ?_
  rintro e w8 ⟨rfl, rfl⟩
  go_wp2_with fail
  with_reducible refine (same_eq _ _ _ _ _ _ _ w7 Q1g.out Q2g.out rfl rfl).mono ?_
  rintro e w8 ⟨rfl, rfl⟩
  go_wp2_with fail
  with_reducible refine (lives_04 w7).mono ?_
  rintro e w8 ⟨rfl, hb⟩
  have B8 := hidden (B7.out.trans (hb.mono B7.out.size))
  clear hb
  go_wp2_with fail
  go_ret
  exact ⟨rfl, B8.out⟩
end Go.Proofs.Ytekmjegeiminnaa
