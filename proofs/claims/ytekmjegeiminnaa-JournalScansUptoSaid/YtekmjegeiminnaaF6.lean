/- The reference's ReadBook, walked. Printed by gen_f6.py. -/
import Derived.Test.YtekmjegeiminnaaF5
import Derived.Deep.CutBlock
import Derived.Deep.CutRange
import Derived.Deep.RegionLaw
namespace Go.Proofs.Ytekmjegeiminnaa
open Go.RowKit
set_option linter.unusedVariables false
set_option linter.unusedSimpArgs false

/-- An item that was read is laid into a fresh block; the list is as it was. -/
theorem ListD.item {α : Type} {A : Ty α} {ety : TypeId} {M : Nat → Prop} {w wk w3 : World} {r bb : Nat} {wr : Bool} {rs cur : List UInt8} {n : Nat} {xs : List α} {v : Value}
    (h : ListD A ety M w r bb wr rs n xs cur v false wk) (hr : r < w.heap.size) (hu : Upd (fun k => k = r) wk w3) {us : List Value} {x : α} (hx : A.rep (fun k => wk.heap.size ≤ k ∧ k < w3.heap.size) w3 us x) (t : TypeId) :
    OwnT A ety w.heap.size (w3.alloc (.cells us.toArray t)) v xs ∧ (w3.alloc (.cells us.toArray t)).rangeAt w3.heap.size 0 us ∧ A.rep (fun k => w.heap.size ≤ k ∧ k < (w3.alloc (.cells us.toArray t)).heap.size ∧ some k ≠ v.ownBlock) (w3.alloc (.cells us.toArray t)) us x ∧ w.heap.size ≤ (w3.alloc (.cells us.toArray t)).heap.size := by
  have hlv : ∀ k, v.ownBlock = some k → k < wk.heap.size := fun k hk => (h.own.lt k hk).2
  have h1 := h.upd.size
  have h2 := hu.size
  have hn : Upd (fun _ => False) w3 (w3.alloc (.cells us.toArray t)) := Upd.new _ _
  refine ⟨h.carry hr hu _, new_range _ _ _, A.mono (A.upd hx hn (fun _ _ h => h)) (fun k hk => ⟨Nat.le_trans h1 hk.1, Nat.lt_of_lt_of_le hk.2 hn.size, fun e => ?_⟩), by rw [World.size_alloc]; omega⟩
  have := hlv k e.symm
  have := hk.1
  omega
theorem set3_0 {v1 v2 v3 u : Value} : (#[v1, v2, v3] : Array Value).setIfInBounds 0 u = #[u, v2, v3] := rfl
theorem set3_1 {v1 v2 v3 u : Value} : (#[v1, v2, v3] : Array Value).setIfInBounds 1 u = #[v1, u, v3] := rfl
theorem set3_2 {v1 v2 v3 u : Value} : (#[v1, v2, v3] : Array Value).setIfInBounds 2 u = #[v1, v2, u] := rfl
/-- What a book that is being read looks like between its lists: wS: the world at the list's start. -/
def BookSt {α : Type} (A : Ty α) (r bb xb : Nat) (wS : World) (vs : List Value → Prop) (q0 : Bool) (rs0 : List UInt8) (wx : World) : Prop :=
  ∃ (xs : List α) (a : Option Addr) (cap : Nat) (q1 : Bool) (rs1 : List UInt8) (us : List Value), RdR wx r bb rs1 q1 ∧ Dec (cList A.cod).dec q0 rs0 q1 rs1 xs ∧ (tList A).rep (fun k => wS.heap.size ≤ k ∧ k < wx.heap.size) wx [.slice a xs.length cap] xs ∧ Upd (fun k => k = r ∨ k = xb) wS wx ∧ wx.heap[xb]? = some (.cells us.toArray 68 (0, 0)) ∧ vs us
theorem ListD.book {α : Type} {A : Ty α} {ety : TypeId} {wS wx : World} {r bb xb : Nat} {q0 wrk : Bool} {rs0 cur : List UInt8} {n : Nat} {xs : List α} {a : Option Addr} {cap : Nat} (h : ListD A ety (fun k => k = r ∨ k = xb) wS r bb q0 rs0 n xs cur (.slice a xs.length cap) wrk wx)
    (hn : wrk = true ∨ n ≤ xs.length) : RdR wx r bb cur wrk ∧ Dec (cList A.cod).dec q0 rs0 wrk cur xs ∧ (tList A).rep (fun k => wS.heap.size ≤ k ∧ k < wx.heap.size) wx [.slice a xs.length cap] xs ∧ Upd (fun k => k = r ∨ k = xb) wS wx :=
  ⟨h.rd, h.dec.done hn h.le, h.own.rep, h.upd⟩
theorem infoZ68 : Try.prog.built 68 [] = some #[.slice none 0 0, .slice none 0 0, .slice none 0 0] := by kernel_rfl

set_option maxRecDepth 100000 in
set_option maxHeartbeats 64000000 in
theorem readbook_rd (a : Option Addr) (cap : Nat) (bs : List UInt8) (w : World) (h : BytesAt w a bs) (hcap : bs.length ≤ cap) (hc2 : (cap : Int) ≤ 9223372036854775807) (hl : bs.length ≤ 100000000000) (ha : ∀ A, a = some A → A.block < w.heap.size) (h0 : 0 < w.heap.size) :
    Calls Try.prog 53 #[.slice a bs.length cap] w (ReadB bs w) := by
  have hu0 : Upd (fun _ => False) w (w.alloc (.cells #[.slice none 0 0, .slice none 0 0, .slice none 0 0] 68)) := Upd.new _ _
  have hz0 : (w.alloc (.cells #[.slice none 0 0, .slice none 0 0, .slice none 0 0] 68)).heap.size = w.heap.size + 1 := World.size_alloc _ _
  have hk0 : (w.alloc (.cells #[.slice none 0 0, .slice none 0 0, .slice none 0 0] 68)).heap[w.heap.size]? = some (.cells #[.slice none 0 0, .slice none 0 0, .slice none 0 0] 68 (0, 0)) := heap_alloc_new _ _
  obtain ⟨bb, hb, hR⟩ := RdR.new (h.upd hu0 (fun _ _ h => h)) hcap hc2 (fun A hA => by have := ha A hA; omega) (by omega)
  obtain ⟨W, hW⟩ : ∃ W, ((w.alloc (.cells #[.slice none 0 0, .slice none 0 0, .slice none 0 0] 68)).alloc (.cells #[.slice a bs.length cap, .bool false] 143)).alloc (.cells #[.slice none 0 0, .slice none 0 0, .slice none 0 0] 68) = W := ⟨_, rfl⟩
  have hw : W.heap.size = w.heap.size + 3 := by rw [← hW]; simp [World.size_alloc]
  have huA : Upd (fun _ => False) (w.alloc (.cells #[.slice none 0 0, .slice none 0 0, .slice none 0 0] 68)) W := by rw [← hW]; exact (Upd.new _ _).trans (Upd.new _ _) (fun _ _ h => h)
  have huB : Upd (fun _ => False) ((w.alloc (.cells #[.slice none 0 0, .slice none 0 0, .slice none 0 0] 68)).alloc (.cells #[.slice a bs.length cap, .bool false] 143)) W := by rw [← hW]; exact Upd.new _ _
  have HK0 : Hid (W.heap[w.heap.size]? = some (.cells #[.slice none 0 0, .slice none 0 0, .slice none 0 0] 68 (0, 0))) := hidden ((huA.block _ (by omega) (fun h => h)).trans hk0)
  have HXP : Hid (W.heap[w.heap.size + 2]? = some (.cells #[.slice none 0 0, .slice none 0 0, .slice none 0 0] 68 (0, 0))) := hidden (by
    have := heap_alloc_new ((w.alloc (.cells #[.slice none 0 0, .slice none 0 0, .slice none 0 0] 68)).alloc (.cells #[.slice a bs.length cap, .bool false] 143)) (.cells #[.slice none 0 0, .slice none 0 0, .slice none 0 0] 68)
    rw [hW] at this
    simpa [World.size_alloc] using this)
  have HR : Hid (RdR W (w.heap.size + 1) bb bs false) := hidden (by
    have := hR.upd huB (fun h => h) (fun h => h)
    rw [hz0] at this; exact this)
  have HBE : Hid (Below w.heap.size w W) := hidden ((hu0.trans huA (fun _ _ h => h)).toBelow (Nat.le_refl _) (fun _ _ h => h))
  have hbl : bb < w.heap.size + 1 := by omega
  have HWW := hidden hW
  obtain ⟨i0, hi, hz0', hz1, hz2⟩ := info_parts Try.infoT128
  have HINF0 := hidden (And.intro hi (And.intro hz0' (And.intro hz1 hz2)))
  clear hi hz0' hz1 hz2
  obtain ⟨i1, hi, hz0', hz1, hz2⟩ := info_parts Try.infoT101
  have HINF1 := hidden (And.intro hi (And.intro hz0' (And.intro hz1 hz2)))
  clear hi hz0' hz1 hz2
  obtain ⟨i2, hi, hz0', hz1, hz2⟩ := info_parts Try.infoT105
  have HINF2 := hidden (And.intro hi (And.intro hz0' (And.intro hz1 hz2)))
  clear hi hz0' hz1 hz2 hu0 hz0 hk0 hb hR huA huB h ha hW
  have HW3 := hidden hw
  clear hw
  go_enter Try.func53, Try.ntmps53
  go_wp2_with fail
  rw [HWW.out]
  obtain ⟨r, hr⟩ : ∃ r, w.heap.size + 1 = r := ⟨_, rfl⟩
  obtain ⟨xb, hxb⟩ : ∃ xb, w.heap.size + 1 + 1 = xb := ⟨_, rfl⟩
  rw [show w.heap.size + 2 = w.heap.size + 1 + 1 from rfl] at HXP
  rw [hxb] at HXP ⊢
  rw [hr] at HR ⊢
  have hWs : W.heap.size = xb + 1 := by have := HW3.out; omega
  have hrx : r + 1 = xb := by omega
  have hbr : bb < r := by omega
  have hwr : w.heap.size < r := by omega
  have HWS := hidden hWs
  have HRX := hidden hrx
  have hlt0 : xb < W.heap.size := by omega
  have hrlt : r < xb := by omega
  clear hr hxb hWs hrx
  with_reducible refine (count_rd r bb bs false W HR.out hl).mono ?_
  rintro e w1 ⟨n0, r0, p0, rfl, h1, hu, hd, hn⟩
  have hnl0 : n0 ≤ 100000000000 := by have := hd.1; omega
  have HS0 : Hid (ListD tSheet 128 (fun k => k = r ∨ k = xb) W r bb false bs n0 [] r0 (.slice none 0 0) p0 w1) := hidden ⟨h1, OwnT.nil _ _ _ _, hu.mono (fun _ _ h => .inl h), LoopD.start hd, by simp⟩
  have HX0 : Hid (w1.heap[xb]? = some (.cells #[.slice none 0 0, .slice none 0 0, .slice none 0 0] 68 (0, 0))) := hidden ((hu.block xb (by omega) (by omega)).trans HXP.out)
  clear h1 hu hd hn HXP
  go_upto_block 0 with fail
  go_cut [7, 8] from 16 to 38 (fun s7 s8 wx => ∃ (xs : List SheetD) (a : Option Addr) (cap : Nat) (qz : Bool) (rsz : List UInt8), RdR wx r bb rsz qz ∧ Dec (cList tSheet.cod).dec false bs qz rsz xs ∧ (tList tSheet).rep (fun k => W.heap.size ≤ k ∧ k < wx.heap.size) wx [.slice a xs.length cap] xs ∧ Upd (fun k => k = r ∨ k = xb) W wx ∧ wx.heap[xb]? = some (.cells #[.slice a xs.length cap, .slice none 0 0, .slice none 0 0] 68 (0, 0)))
  case first =>
    go_wp2_with fail
    go_loopw [7] (fun sk wk => ∃ (k : Nat) (xs : List SheetD) (cur : List UInt8) (wrk : Bool) (a : Option Addr) (cap : Nat), sk = .int .i64 k ∧ k = xs.length ∧ ListD tSheet 128 (fun k => k = r ∨ k = xb) W r bb false bs n0 xs cur (.slice a xs.length cap) wrk wk ∧ wk.heap[xb]? = some (.cells #[.slice a xs.length cap, .slice none 0 0, .slice none 0 0] 68 (0, 0))) (fun sk _ => (n0 - intOf sk).toNat)
    case atStart => exact ⟨0, [], r0, p0, none, 0, rfl, rfl, HS0.out, HX0.out⟩
    case round =>
      obtain ⟨k, xs, cur, wrk, av, capv, rfl, hk, hL, hX⟩ := hrel
      have HL := hidden hL
      have HX := hidden hX
      have hle := hL.le
      have hcl := hL.dec.1
      have hbase := hL.upd.size
      obtain ⟨ar, capr, c0, c1, cf, -⟩ := hL.rd.facts
      have HK := hidden hk
      clear hL hk hX
      by_cases hlt : k < n0 ∧ wrk = false
      · obtain ⟨hlt, hw⟩ := hlt
        subst hw
        go_wp2_with fail
        with_reducible refine (text_rd r bb cur false wr HL.out.rd (by omega)).mono ?_
        rintro e w2 ⟨x0, rs2, wr2, rfl, h1, hu, hd⟩
        have D2 := hidden hd
        have hl2 : rs2.length ≤ 100000000000 := by have := hd.1; omega
        have hs2 := hu.size
        have U2 : Hid (Upd (fun k => k = r) wr w2.drew) := hidden (hu.trans (Upd.drew (M := fun k => k = r) _) (fun _ _ h => h))
        have H2 : Hid (RdR w2.drew r bb rs2 wr2) := hidden (h1.upd (Upd.drew (M := fun _ => False) _) (fun h => h) (fun h => h))
        have HX2 : Hid (w2.drew.heap[xb]? = some (.cells #[.slice av xs.length capv, .slice none 0 0, .slice none 0 0] 68 (0, 0))) := hidden ((U2.out.block xb (by omega) (by omega)).trans HX.out)
        have hbd : bb < w2.drew.heap.size := (by have := U2.out.size; omega)
        clear h1 hu hd c0 c1 cf
        have x0c : w2.drew.cell? ⟨xb, 0, none⟩ = some (.slice av xs.length capv) := by simp [World.cell?, HX2.out]
        have HXL : Hid (xs.length ≤ 1000000000000) := hidden (by omega)
        have HXB : Hid ((xs.length + 1) * 40 ≤ 140737488355328) := hidden (by omega)
        have hrl : r < W.heap.size := by omega
        go_wp2_with fail
        go_region_law (first | (refine step_append_T (A := tSheet) rfl (.tmp 31) (.tmp 36) 64 rfl und64 HINF0.out.1 HINF0.out.2.1 HINF0.out.2.2.1 HINF0.out.2.2.2 rfl (by decide) (B := W.heap.size) (v := .slice av xs.length capv) (xs := xs) (x := (x0, ys)) (by rfl) I1.out (b := w3.heap.size) (c := 1) (by rfl) I2.out I3.out HXL.out HXB.out I4.out ?_; intro v4 w4 g; have hnx : ¬ some xb = (Value.slice av xs.length capv).ownBlock := fun h => (by have := (HL.out.own.lt _ h.symm).1; omega); have HX4 : Hid (w4.heap[xb]? = some (.cells #[.slice av xs.length capv, .slice none 0 0, .slice none 0 0] 68 (0, 0))) := hidden ((g.upd.block xb (by rw [World.size_alloc]; omega) hnx).trans (((Upd.new (M := fun _ => False) w3 _).block xb (by omega) (fun h => h)).trans HX3.out)); have x4c : w4.cell? ⟨xb, 0, none⟩ = some (.slice av xs.length capv) := (by simp [World.cell?, HX4.out]); have x4f : w4.frozen? ⟨xb, 0, none⟩ = false := (by simp [World.frozen?, HX4.out]); have G := hidden g; obtain ⟨a4, cc4, rfl⟩ := g.own.is; clear g hnx) | (go_simp; go_at_call 93; (with_reducible refine (cells_rd r bb rs2 wr2 w2.drew H2.out hl2 hbd).mono ?_); rintro e w3 ⟨ys, cv, rs3, wr3, rfl, ho, h1, hu, hd⟩; obtain ⟨ca, cc, rfl⟩ := ho.is; have D3 : Hid (Dec tSheet.cod.dec false cur wr3 rs3 (x0, ys)) := hidden (D2.out.pair hd); have U3 : Hid (Upd (fun k => k = r) wr w3) := hidden (U2.out.trans hu (fun _ _ h => h)); have H3 := hidden h1; obtain ⟨i1, i2, i3, i4⟩ := ListD.item HL.out hrl U3.out (⟨[.string (strOf x0)], [.slice ca ys.length cc], rfl, rfl, (tList tCell).mono ho.rep (fun k hk => ⟨Nat.le_trans U2.out.size hk.1, hk.2⟩)⟩ : tSheet.rep (fun k => wr.heap.size ≤ k ∧ k < w3.heap.size) w3 [.string (strOf x0), .slice ca ys.length cc] (x0, ys)) 128; have I1 := hidden i1; have I2 := hidden i2; have I3 := hidden i3; have I4 := hidden i4; have hs3 := U3.out.size; have HX3 : Hid (w3.heap[xb]? = some (.cells #[.slice av xs.length capv, .slice none 0 0, .slice none 0 0] 68 (0, 0))) := hidden ((U3.out.block xb (by omega) (by omega)).trans HX.out); have x3c : w3.cell? ⟨xb, 0, none⟩ = some (.slice av xs.length capv) := (by simp [World.cell?, HX3.out]); have hx3 : xb < w3.heap.size := (by omega); clear h1 hu hd i1 i2 i3 i4 ho))
        all_goals
          go_wp2_with fail
          have HN := hidden ((HL.out.next (.inl rfl) hrl (by omega) U3.out H3.out D3.out (by have := HK.out; omega) G.out).on (Upd.set (M := fun k => k = xb) (a := ⟨xb, 0, none⟩) (v := .slice a4 (xs ++ [(x0, ys)]).length cc4) rfl) (fun k _ e => .inr e) (fun k hk _ e => by omega) (by omega) (by omega))
          have HXN : Hid ((w4.setCell ⟨xb, 0, none⟩ (.slice a4 (xs ++ [(x0, ys)]).length cc4)).heap[xb]? = some (.cells #[.slice a4 (xs ++ [(x0, ys)]).length cc4, .slice none 0 0, .slice none 0 0] 68 (0, 0))) := hidden ((setCell_heap HX4.out).trans (by rw [set3_0]))
          rw [show (xs ++ [(x0, ys)]).length = xs.length + 1 by simp] at HN HXN
          exact ⟨⟨k + 1, xs ++ [(x0, ys)], rs3, wr3, a4, cc4, by go_num, by rw [HK.out]; simp, by rw [List.length_append]; exact HN.out, by rw [List.length_append]; exact HXN.out⟩, by simp [intOf]; omega⟩
      · have HE : Hid (wrk = true ∨ n0 ≤ xs.length) := hidden (by
          have := HK.out
          cases wrk
          · exact .inr (by have : ¬ k < n0 := fun h => hlt ⟨h, rfl⟩; omega)
          · exact .inl rfl)
        obtain ⟨b1, b2, b3, b4⟩ := HL.out.book HE.out
        have HBK := hidden (And.intro b1 (And.intro b2 (And.intro b3 (And.intro b4 HX.out))))
        clear b1 b2 b3 b4
        cases wrk with
        | true =>
          clear hlt
          by_cases hkn : k < n0
          all_goals
            go_wp2_with fail
            go_meet
            exact ⟨xs, av, capv, true, cur, HBK.out⟩
        | false =>
          have hkn : ¬ k < n0 := fun h => hlt ⟨h, rfl⟩
          clear hlt
          go_wp2_with fail
          go_meet
          exact ⟨xs, av, capv, false, cur, HBK.out⟩
  case rest =>
    obtain ⟨xs1, a1, cap1, q1, rs1, hrd, hdec, hrep, hup, hxb⟩ := hcut
    obtain ⟨W1, hW1⟩ : ∃ W1 : World, W1 = wc := ⟨_, rfl⟩
    subst hW1
    have HRD1 := hidden hrd
    have HD1 := hidden hdec
    have HREP1 := hidden hrep
    have HUP1 := hidden hup
    have HXP := hidden hxb
    have hszw1 := hup.size
    have hln1 : rs1.length ≤ 100000000000 := by have := hdec.1; omega
    clear hrd hdec hrep hup hxb HS0 HX0
    go_wp2_with fail
    with_reducible refine (count_rd r bb rs1 q1 W1 HRD1.out hln1).mono ?_
    rintro e w1 ⟨n1, r1, p1, rfl, h1, hu, hd, hn⟩
    have hnl1 : n1 ≤ 100000000000 := by have := hd.1; omega
    have HS1 : Hid (ListD tName 101 (fun k => k = r ∨ k = xb) W1 r bb q1 rs1 n1 [] r1 (.slice none 0 0) p1 w1) := hidden ⟨h1, OwnT.nil _ _ _ _, hu.mono (fun _ _ h => .inl h), LoopD.start hd, by simp⟩
    have HX1 : Hid (w1.heap[xb]? = some (.cells #[.slice a1 xs1.length cap1, .slice none 0 0, .slice none 0 0] 68 (0, 0))) := hidden ((hu.block xb (by omega) (by omega)).trans HXP.out)
    clear h1 hu hd hn HXP
    go_upto_block 2 with fail
    go_cut [9] from 41 to 59 (fun s9 wx => ∃ (xs : List NameD) (a : Option Addr) (cap : Nat) (qz : Bool) (rsz : List UInt8), RdR wx r bb rsz qz ∧ Dec (cList tName.cod).dec q1 rs1 qz rsz xs ∧ (tList tName).rep (fun k => W1.heap.size ≤ k ∧ k < wx.heap.size) wx [.slice a xs.length cap] xs ∧ Upd (fun k => k = r ∨ k = xb) W1 wx ∧ wx.heap[xb]? = some (.cells #[.slice a1 xs1.length cap1, .slice a xs.length cap, .slice none 0 0] 68 (0, 0)))
    case first =>
      go_wp2_with fail
      go_loopw [9] (fun sk wk => ∃ (k : Nat) (xs : List NameD) (cur : List UInt8) (wrk : Bool) (a : Option Addr) (cap : Nat), sk = .int .i64 k ∧ k = xs.length ∧ ListD tName 101 (fun k => k = r ∨ k = xb) W1 r bb q1 rs1 n1 xs cur (.slice a xs.length cap) wrk wk ∧ wk.heap[xb]? = some (.cells #[.slice a1 xs1.length cap1, .slice a xs.length cap, .slice none 0 0] 68 (0, 0))) (fun sk _ => (n1 - intOf sk).toNat)
      case atStart => exact ⟨0, [], r1, p1, none, 0, rfl, rfl, HS1.out, HX1.out⟩
      case round =>
        obtain ⟨k, xs, cur, wrk, av, capv, rfl, hk, hL, hX⟩ := hrel
        have HL := hidden hL
        have HX := hidden hX
        have hle := hL.le
        have hcl := hL.dec.1
        have hbase := hL.upd.size
        obtain ⟨ar, capr, c0, c1, cf, -⟩ := hL.rd.facts
        have HK := hidden hk
        clear hL hk hX
        by_cases hlt : k < n1 ∧ wrk = false
        · obtain ⟨hlt, hw⟩ := hlt
          subst hw
          have H2 : Hid (RdR wr.drew r bb cur false) := hidden (HL.out.rd.upd (Upd.drew (M := fun _ => False) _) (fun h => h) (fun h => h))
          have U2 : Hid (Upd (fun k => k = r) wr wr.drew) := hidden (Upd.drew _)
          have hbd : bb < wr.drew.heap.size := (by have := U2.out.size; omega)
          have HX2 : Hid (wr.drew.heap[xb]? = some (.cells #[.slice a1 xs1.length cap1, .slice av xs.length capv, .slice none 0 0] 68 (0, 0))) := HX
          have x0c : wr.drew.cell? ⟨xb, 1, none⟩ = some (.slice av xs.length capv) := by simp [World.cell?, HX2.out]
          go_wp2_with fail
          clear c0 c1 cf
          have HXL : Hid (xs.length ≤ 1000000000000) := hidden (by omega)
          have HXB : Hid ((xs.length + 1) * 48 ≤ 140737488355328) := hidden (by omega)
          have hrl : r < W1.heap.size := by omega
          go_region_law (first | (refine step_append_T (A := tName) rfl (.tmp 54) (.tmp 57) 65 rfl und65 HINF1.out.1 HINF1.out.2.1 HINF1.out.2.2.1 HINF1.out.2.2.2 rfl (by decide) (B := W1.heap.size) (v := .slice av xs.length capv) (xs := xs) (x := (y0, y1, y2)) (by rfl) I1.out (b := w3.heap.size) (c := 1) (by rfl) I2.out I3.out HXL.out HXB.out I4.out ?_; intro v4 w4 g; have hnx : ¬ some xb = (Value.slice av xs.length capv).ownBlock := fun h => (by have := (HL.out.own.lt _ h.symm).1; omega); have HX4 : Hid (w4.heap[xb]? = some (.cells #[.slice a1 xs1.length cap1, .slice av xs.length capv, .slice none 0 0] 68 (0, 0))) := hidden ((g.upd.block xb (by rw [World.size_alloc]; omega) hnx).trans (((Upd.new (M := fun _ => False) w3 _).block xb (by omega) (fun h => h)).trans HX3.out)); have x4c : w4.cell? ⟨xb, 1, none⟩ = some (.slice av xs.length capv) := (by simp [World.cell?, HX4.out]); have x4f : w4.frozen? ⟨xb, 1, none⟩ = false := (by simp [World.frozen?, HX4.out]); have G := hidden g; obtain ⟨a4, cc4, rfl⟩ := g.own.is; clear g hnx) | (go_simp; go_at_call 94; (with_reducible refine (name_rd r bb cur false wr.drew H2.out (by omega) hbd).mono ?_); rintro e w3 ⟨y0, y1, y2, rs3, wr3, rfl, h1, hu, hd⟩; have D3 : Hid (Dec tName.cod.dec false cur wr3 rs3 (y0, y1, y2)) := hidden hd; have U3 : Hid (Upd (fun k => k = r) wr w3) := hidden (U2.out.trans hu (fun _ _ h => h)); have H3 := hidden h1; obtain ⟨i1, i2, i3, i4⟩ := ListD.item HL.out hrl U3.out (⟨[.string (strOf y0)], _, rfl, rfl, [.string (strOf y1)], _, rfl, rfl, rfl⟩ : tName.rep (fun k => wr.heap.size ≤ k ∧ k < w3.heap.size) w3 [.string (strOf y0), .string (strOf y1), .string (strOf y2)] (y0, y1, y2)) 101; have I1 := hidden i1; have I2 := hidden i2; have I3 := hidden i3; have I4 := hidden i4; have hs3 := U3.out.size; have HX3 : Hid (w3.heap[xb]? = some (.cells #[.slice a1 xs1.length cap1, .slice av xs.length capv, .slice none 0 0] 68 (0, 0))) := hidden ((U3.out.block xb (by omega) (by omega)).trans HX.out); have x3c : w3.cell? ⟨xb, 1, none⟩ = some (.slice av xs.length capv) := (by simp [World.cell?, HX3.out]); have hx3 : xb < w3.heap.size := (by omega); clear h1 hu hd i1 i2 i3 i4))
          all_goals
            go_wp2_with fail
            have HN := hidden ((HL.out.next (.inl rfl) hrl (by omega) U3.out H3.out D3.out (by have := HK.out; omega) G.out).on (Upd.set (M := fun k => k = xb) (a := ⟨xb, 1, none⟩) (v := .slice a4 (xs ++ [(y0, y1, y2)]).length cc4) rfl) (fun k _ e => .inr e) (fun k hk _ e => by omega) (by omega) (by omega))
            have HXN : Hid ((w4.setCell ⟨xb, 1, none⟩ (.slice a4 (xs ++ [(y0, y1, y2)]).length cc4)).heap[xb]? = some (.cells #[.slice a1 xs1.length cap1, .slice a4 (xs ++ [(y0, y1, y2)]).length cc4, .slice none 0 0] 68 (0, 0))) := hidden ((setCell_heap HX4.out).trans (by rw [set3_1]))
            rw [show (xs ++ [(y0, y1, y2)]).length = xs.length + 1 by simp] at HN HXN
            exact ⟨⟨k + 1, xs ++ [(y0, y1, y2)], rs3, wr3, a4, cc4, by go_num, by rw [HK.out]; simp, by rw [List.length_append]; exact HN.out, by rw [List.length_append]; exact HXN.out⟩, by simp [intOf]; omega⟩
        · have HE : Hid (wrk = true ∨ n1 ≤ xs.length) := hidden (by
            have := HK.out
            cases wrk
            · exact .inr (by have : ¬ k < n1 := fun h => hlt ⟨h, rfl⟩; omega)
            · exact .inl rfl)
          obtain ⟨b1, b2, b3, b4⟩ := HL.out.book HE.out
          have HBK := hidden (And.intro b1 (And.intro b2 (And.intro b3 (And.intro b4 HX.out))))
          clear b1 b2 b3 b4
          cases wrk with
          | true =>
            clear hlt
            by_cases hkn : k < n1
            all_goals
              go_wp2_with fail
              go_meet
              exact ⟨xs, av, capv, true, cur, HBK.out⟩
          | false =>
            have hkn : ¬ k < n1 := fun h => hlt ⟨h, rfl⟩
            clear hlt
            go_wp2_with fail
            go_meet
            exact ⟨xs, av, capv, false, cur, HBK.out⟩
    case rest =>
      obtain ⟨xs2, a2, cap2, q2, rs2, hrd, hdec, hrep, hup, hxb⟩ := hcut
      obtain ⟨W2, hW2⟩ : ∃ W2 : World, W2 = wc := ⟨_, rfl⟩
      subst hW2
      have HRD2 := hidden hrd
      have HD2 := hidden hdec
      have HREP2 := hidden hrep
      have HUP2 := hidden hup
      have HXP := hidden hxb
      have hszw2 := hup.size
      have hln2 : rs2.length ≤ 100000000000 := by have := hdec.1; omega
      clear hrd hdec hrep hup hxb HS1 HX1
      go_wp2_with fail
      with_reducible refine (count_rd r bb rs2 q2 W2 HRD2.out hln2).mono ?_
      rintro e w1 ⟨n2, r2, p2, rfl, h1, hu, hd, hn⟩
      have hnl2 : n2 ≤ 100000000000 := by have := hd.1; omega
      have HS2 : Hid (ListD tLink 105 (fun k => k = r ∨ k = xb) W2 r bb q2 rs2 n2 [] r2 (.slice none 0 0) p2 w1) := hidden ⟨h1, OwnT.nil _ _ _ _, hu.mono (fun _ _ h => .inl h), LoopD.start hd, by simp⟩
      have HX2 : Hid (w1.heap[xb]? = some (.cells #[.slice a1 xs1.length cap1, .slice a2 xs2.length cap2, .slice none 0 0] 68 (0, 0))) := hidden ((hu.block xb (by omega) (by omega)).trans HXP.out)
      clear h1 hu hd hn HXP
      go_upto_block 4 with fail
      go_cut [10] from 62 to 80 (fun s10 wx => ∃ (xs : List LinkD) (a : Option Addr) (cap : Nat) (qz : Bool) (rsz : List UInt8), RdR wx r bb rsz qz ∧ Dec (cList tLink.cod).dec q2 rs2 qz rsz xs ∧ (tList tLink).rep (fun k => W2.heap.size ≤ k ∧ k < wx.heap.size) wx [.slice a xs.length cap] xs ∧ Upd (fun k => k = r ∨ k = xb) W2 wx ∧ wx.heap[xb]? = some (.cells #[.slice a1 xs1.length cap1, .slice a2 xs2.length cap2, .slice a xs.length cap] 68 (0, 0)))
      case first =>
        go_wp2_with fail
        go_loopw [10] (fun sk wk => ∃ (k : Nat) (xs : List LinkD) (cur : List UInt8) (wrk : Bool) (a : Option Addr) (cap : Nat), sk = .int .i64 k ∧ k = xs.length ∧ ListD tLink 105 (fun k => k = r ∨ k = xb) W2 r bb q2 rs2 n2 xs cur (.slice a xs.length cap) wrk wk ∧ wk.heap[xb]? = some (.cells #[.slice a1 xs1.length cap1, .slice a2 xs2.length cap2, .slice a xs.length cap] 68 (0, 0))) (fun sk _ => (n2 - intOf sk).toNat)
        case atStart => exact ⟨0, [], r2, p2, none, 0, rfl, rfl, HS2.out, HX2.out⟩
        case round =>
          obtain ⟨k, xs, cur, wrk, av, capv, rfl, hk, hL, hX⟩ := hrel
          have HL := hidden hL
          have HX := hidden hX
          have hle := hL.le
          have hcl := hL.dec.1
          have hbase := hL.upd.size
          obtain ⟨ar, capr, c0, c1, cf, -⟩ := hL.rd.facts
          have HK := hidden hk
          clear hL hk hX
          by_cases hlt : k < n2 ∧ wrk = false
          · obtain ⟨hlt, hw⟩ := hlt
            subst hw
            have H2 : Hid (RdR wr.drew r bb cur false) := hidden (HL.out.rd.upd (Upd.drew (M := fun _ => False) _) (fun h => h) (fun h => h))
            have U2 : Hid (Upd (fun k => k = r) wr wr.drew) := hidden (Upd.drew _)
            have hbd : bb < wr.drew.heap.size := (by have := U2.out.size; omega)
            have HX2 : Hid (wr.drew.heap[xb]? = some (.cells #[.slice a1 xs1.length cap1, .slice a2 xs2.length cap2, .slice av xs.length capv] 68 (0, 0))) := HX
            have x0c : wr.drew.cell? ⟨xb, 2, none⟩ = some (.slice av xs.length capv) := by simp [World.cell?, HX2.out]
            go_wp2_with fail
            clear c0 c1 cf
            have HXL : Hid (xs.length ≤ 1000000000000) := hidden (by omega)
            have HXB : Hid ((xs.length + 1) * 80 ≤ 140737488355328) := hidden (by omega)
            have hrl : r < W2.heap.size := by omega
            go_region_law (first | (refine step_append_T (A := tLink) rfl (.tmp 75) (.tmp 78) 66 rfl und66 HINF2.out.1 HINF2.out.2.1 HINF2.out.2.2.1 HINF2.out.2.2.2 rfl (by decide) (B := W2.heap.size) (v := .slice av xs.length capv) (xs := xs) (x := (y0, y1, y2, y3, (y4, y5, y6))) (by rfl) I1.out (b := w3.heap.size) (c := 1) (by rfl) I2.out I3.out HXL.out HXB.out I4.out ?_; intro v4 w4 g; have hnx : ¬ some xb = (Value.slice av xs.length capv).ownBlock := fun h => (by have := (HL.out.own.lt _ h.symm).1; omega); have HX4 : Hid (w4.heap[xb]? = some (.cells #[.slice a1 xs1.length cap1, .slice a2 xs2.length cap2, .slice av xs.length capv] 68 (0, 0))) := hidden ((g.upd.block xb (by rw [World.size_alloc]; omega) hnx).trans (((Upd.new (M := fun _ => False) w3 _).block xb (by omega) (fun h => h)).trans HX3.out)); have x4c : w4.cell? ⟨xb, 2, none⟩ = some (.slice av xs.length capv) := (by simp [World.cell?, HX4.out]); have x4f : w4.frozen? ⟨xb, 2, none⟩ = false := (by simp [World.frozen?, HX4.out]); have G := hidden g; obtain ⟨a4, cc4, rfl⟩ := g.own.is; clear g hnx) | (go_simp; go_at_call 95; (with_reducible refine (link_rd r bb cur false wr.drew H2.out (by omega) hbd).mono ?_); rintro e w3 ⟨y0, y1, y2, y3, y4, y5, y6, rs3, wr3, rfl, h1, hu, hd⟩; have D3 : Hid (Dec tLink.cod.dec false cur wr3 rs3 (y0, y1, y2, y3, (y4, y5, y6))) := hidden hd; have U3 : Hid (Upd (fun k => k = r) wr w3) := hidden (U2.out.trans hu (fun _ _ h => h)); have H3 := hidden h1; obtain ⟨i1, i2, i3, i4⟩ := ListD.item HL.out hrl U3.out (⟨[.string (strOf y0)], _, rfl, rfl, [.string (strOf y1)], _, rfl, rfl, [.int .i64 y2], _, rfl, rfl, [.int .i64 y3], _, rfl, rfl, [.int .i64 y4], _, rfl, rfl, [.int .i64 y5], _, rfl, rfl, rfl⟩ : tLink.rep (fun k => wr.heap.size ≤ k ∧ k < w3.heap.size) w3 [.string (strOf y0), .string (strOf y1), .int .i64 y2, .int .i64 y3, .int .i64 y4, .int .i64 y5, .string (strOf y6)] (y0, y1, y2, y3, (y4, y5, y6))) 105; have I1 := hidden i1; have I2 := hidden i2; have I3 := hidden i3; have I4 := hidden i4; have hs3 := U3.out.size; have HX3 : Hid (w3.heap[xb]? = some (.cells #[.slice a1 xs1.length cap1, .slice a2 xs2.length cap2, .slice av xs.length capv] 68 (0, 0))) := hidden ((U3.out.block xb (by omega) (by omega)).trans HX.out); have x3c : w3.cell? ⟨xb, 2, none⟩ = some (.slice av xs.length capv) := (by simp [World.cell?, HX3.out]); have hx3 : xb < w3.heap.size := (by omega); clear h1 hu hd i1 i2 i3 i4))
            all_goals
              go_wp2_with fail
              have HN := hidden ((HL.out.next (.inl rfl) hrl (by omega) U3.out H3.out D3.out (by have := HK.out; omega) G.out).on (Upd.set (M := fun k => k = xb) (a := ⟨xb, 2, none⟩) (v := .slice a4 (xs ++ [(y0, y1, y2, y3, (y4, y5, y6))]).length cc4) rfl) (fun k _ e => .inr e) (fun k hk _ e => by omega) (by omega) (by omega))
              have HXN : Hid ((w4.setCell ⟨xb, 2, none⟩ (.slice a4 (xs ++ [(y0, y1, y2, y3, (y4, y5, y6))]).length cc4)).heap[xb]? = some (.cells #[.slice a1 xs1.length cap1, .slice a2 xs2.length cap2, .slice a4 (xs ++ [(y0, y1, y2, y3, (y4, y5, y6))]).length cc4] 68 (0, 0))) := hidden ((setCell_heap HX4.out).trans (by rw [set3_2]))
              rw [show (xs ++ [(y0, y1, y2, y3, (y4, y5, y6))]).length = xs.length + 1 by simp] at HN HXN
              exact ⟨⟨k + 1, xs ++ [(y0, y1, y2, y3, (y4, y5, y6))], rs3, wr3, a4, cc4, by go_num, by rw [HK.out]; simp, by rw [List.length_append]; exact HN.out, by rw [List.length_append]; exact HXN.out⟩, by simp [intOf]; omega⟩
          · have HE : Hid (wrk = true ∨ n2 ≤ xs.length) := hidden (by
              have := HK.out
              cases wrk
              · exact .inr (by have : ¬ k < n2 := fun h => hlt ⟨h, rfl⟩; omega)
              · exact .inl rfl)
            obtain ⟨b1, b2, b3, b4⟩ := HL.out.book HE.out
            have HBK := hidden (And.intro b1 (And.intro b2 (And.intro b3 (And.intro b4 HX.out))))
            clear b1 b2 b3 b4
            cases wrk with
            | true =>
              clear hlt
              by_cases hkn : k < n2
              all_goals
                go_wp2_with fail
                go_meet
                exact ⟨xs, av, capv, true, cur, HBK.out⟩
            | false =>
              have hkn : ¬ k < n2 := fun h => hlt ⟨h, rfl⟩
              clear hlt
              go_wp2_with fail
              go_meet
              exact ⟨xs, av, capv, false, cur, HBK.out⟩
      case rest =>
        obtain ⟨xs3, a3, cap3, q3, rs3, hrd, hdec, hrep, hup, hxb⟩ := hcut
        obtain ⟨W3, hW3⟩ : ∃ W3 : World, W3 = wc := ⟨_, rfl⟩
        subst hW3
        have HRD3 := hidden hrd
        have HD3 := hidden hdec
        have HREP3 := hidden hrep
        have HUP3 := hidden hup
        have HXP := hidden hxb
        have hszw3 := hup.size
        have hln3 : rs3.length ≤ 100000000000 := by have := hdec.1; omega
        clear hrd hdec hrep hup hxb HS2 HX2
        have HDD : Hid (Dec tBook.cod.dec false bs q3 rs3 (xs1, xs2, xs3)) := hidden (HD1.out.pair (HD2.out.pair HD3.out))
        have R1 := hidden ((tList tSheet).upd ((tList tSheet).upd HREP1.out HUP2.out (fun k hk e => by have := hk.1; omega)) HUP3.out (fun k hk e => by have := hk.1; omega))
        have R2 := hidden ((tList tName).upd HREP2.out HUP3.out (fun k hk e => by have := hk.1; omega))
        have hK3 : W3.heap[w.heap.size]? = some (.cells #[.slice none 0 0, .slice none 0 0, .slice none 0 0] 68 (0, 0)) := (HUP3.out.block _ (by omega) (by omega)).trans ((HUP2.out.block _ (by omega) (by omega)).trans ((HUP1.out.block _ (by omega) (by omega)).trans HK0.out))
        have t0 : W3.cell? ⟨w.heap.size, 0, none⟩ = some (.slice none 0 0) := by simp [World.cell?, hK3]
        have t1 : W3.cell? ⟨w.heap.size, 1, none⟩ = some (.slice none 0 0) := by simp [World.cell?, hK3]
        have t2 : W3.cell? ⟨w.heap.size, 2, none⟩ = some (.slice none 0 0) := by simp [World.cell?, hK3]
        have tf : ∀ i, W3.frozen? ⟨w.heap.size, i, none⟩ = false := fun i => by simp [World.frozen?, hK3]
        have b0 : W3.cell? ⟨xb, 0, none⟩ = some (.slice a1 xs1.length cap1) := by simp [World.cell?, HXP.out]
        have b1 : W3.cell? ⟨xb, 1, none⟩ = some (.slice a2 xs2.length cap2) := by simp [World.cell?, HXP.out]
        have b2 : W3.cell? ⟨xb, 2, none⟩ = some (.slice a3 xs3.length cap3) := by simp [World.cell?, HXP.out]
        obtain ⟨ar, capr, c0, c1, cf, -⟩ := HRD3.out.facts
        have hwx : w.heap.size ≠ xb := by omega
        have HTH : Hid (W3.there w.heap.size 0 3) := hidden (fun j hj => ⟨by simp only [World.cell?, hK3]; have : j < 3 := hj; simp; omega, tf _⟩)
        have HBE3 : Hid (Below w.heap.size w W3) := hidden (HBE.out.trans (((HUP1.out.trans HUP2.out (fun _ _ h => h)).trans HUP3.out (fun _ _ h => h)).toBelow (by omega) (fun k hk e => by omega)))
        have HST := fun us hus => hidden (stored_cells (w := W3) (b := w.heap.size) (us := us) (by rw [show us.length = 3 from hus]; exact HTH.out))
        have HB4 : Hid (∀ us : List Value, us.length = 3 → Below w.heap.size w (W3.setCells w.heap.size 0 us)) := hidden (fun us hus => HBE3.out.trans ((HST us hus).out.2.toBelow (by omega) (fun k hk e => by omega)))
        clear hK3
        cases q3 with
        | true =>
          have HN : Hid (whole tBook.cod bs = none) := hidden (by unfold whole; rw [HDD.out.bad rfl rfl]; rfl)
          have HG := HST [.slice none 0 0, .slice none 0 0, .slice none 0 0] rfl
          go_wp2_with fail
          exact bodyPost_ret (v := .tuple #[.agg #[.slice none 0 0, .slice none 0 0, .slice none 0 0], .int .i64 12]) (by simp [results, Try.results53, go_sem, show ((((W3.setCell ⟨w.heap.size, 0, none⟩ (.slice none 0 0)).setCell ⟨w.heap.size, 1, none⟩ (.slice none 0 0)).setCell ⟨w.heap.size, 2, none⟩ (.slice none 0 0)).cell? ⟨w.heap.size, 0, none⟩) = some (.slice none 0 0) from HG.out.1 0 _ rfl, show ((((W3.setCell ⟨w.heap.size, 0, none⟩ (.slice none 0 0)).setCell ⟨w.heap.size, 1, none⟩ (.slice none 0 0)).setCell ⟨w.heap.size, 2, none⟩ (.slice none 0 0)).cell? ⟨w.heap.size, 1, none⟩) = some (.slice none 0 0) from HG.out.1 1 _ rfl, show ((((W3.setCell ⟨w.heap.size, 0, none⟩ (.slice none 0 0)).setCell ⟨w.heap.size, 1, none⟩ (.slice none 0 0)).setCell ⟨w.heap.size, 2, none⟩ (.slice none 0 0)).cell? ⟨w.heap.size, 2, none⟩) = some (.slice none 0 0) from HG.out.1 2 _ rfl]) rfl ⟨HB4.out [.slice none 0 0, .slice none 0 0, .slice none 0 0] rfl, .inr ⟨HN.out, rfl⟩⟩
        | false =>
          have HDG : Hid (tBook.cod.dec bs = some ((xs1, xs2, xs3), rs3)) := hidden (HDD.out.good rfl).2
          by_cases hc0 : rs3.length = 0
          · have hc0' : ¬ (0 : Int) < (rs3.length : Int) := by omega
            have HN : Hid (whole tBook.cod bs = some (xs1, xs2, xs3)) := hidden (by unfold whole; rw [HDG.out]; exact if_pos hc0)
            clear hc0
            have HG := HST [.slice a1 xs1.length cap1, .slice a2 xs2.length cap2, .slice a3 xs3.length cap3] rfl
            have HU5 := HG.out.2
            have HRB : Hid (tBook.rep (fun k => w.heap.size ≤ k ∧ k < (W3.setCells w.heap.size 0 [.slice a1 xs1.length cap1, .slice a2 xs2.length cap2, .slice a3 xs3.length cap3]).heap.size) (W3.setCells w.heap.size 0 [.slice a1 xs1.length cap1, .slice a2 xs2.length cap2, .slice a3 xs3.length cap3]) [.slice a1 xs1.length cap1, .slice a2 xs2.length cap2, .slice a3 xs3.length cap3] (xs1, xs2, xs3)) := hidden (by
              have hs5 := HU5.size
              refine ⟨[.slice a1 xs1.length cap1], _, rfl, (tList tSheet).mono ((tList tSheet).upd R1.out HU5 (fun k hk e => by have := hk.1; omega)) (fun k hk => ⟨by have := hk.1; omega, by have := hk.2; omega⟩), [.slice a2 xs2.length cap2], _, rfl, (tList tName).mono ((tList tName).upd R2.out HU5 (fun k hk e => by have := hk.1; omega)) (fun k hk => ⟨by have := hk.1; omega, by have := hk.2; omega⟩), (tList tLink).mono ((tList tLink).upd HREP3.out HU5 (fun k hk e => by have := hk.1; omega)) (fun k hk => ⟨by have := hk.1; omega, by have := hk.2; omega⟩)⟩)
            clear HU5
            go_wp2_with fail
            exact bodyPost_ret (v := .tuple #[.agg #[.slice a1 xs1.length cap1, .slice a2 xs2.length cap2, .slice a3 xs3.length cap3], .int .i64 0]) (by simp [results, Try.results53, go_sem, show ((((W3.setCell ⟨w.heap.size, 0, none⟩ (.slice a1 xs1.length cap1)).setCell ⟨w.heap.size, 1, none⟩ (.slice a2 xs2.length cap2)).setCell ⟨w.heap.size, 2, none⟩ (.slice a3 xs3.length cap3)).cell? ⟨w.heap.size, 0, none⟩) = some (.slice a1 xs1.length cap1) from HG.out.1 0 _ rfl, show ((((W3.setCell ⟨w.heap.size, 0, none⟩ (.slice a1 xs1.length cap1)).setCell ⟨w.heap.size, 1, none⟩ (.slice a2 xs2.length cap2)).setCell ⟨w.heap.size, 2, none⟩ (.slice a3 xs3.length cap3)).cell? ⟨w.heap.size, 1, none⟩) = some (.slice a2 xs2.length cap2) from HG.out.1 1 _ rfl, show ((((W3.setCell ⟨w.heap.size, 0, none⟩ (.slice a1 xs1.length cap1)).setCell ⟨w.heap.size, 1, none⟩ (.slice a2 xs2.length cap2)).setCell ⟨w.heap.size, 2, none⟩ (.slice a3 xs3.length cap3)).cell? ⟨w.heap.size, 2, none⟩) = some (.slice a3 xs3.length cap3) from HG.out.1 2 _ rfl]) rfl ⟨HB4.out [.slice a1 xs1.length cap1, .slice a2 xs2.length cap2, .slice a3 xs3.length cap3] rfl, .inl ⟨(xs1, xs2, xs3), [.slice a1 xs1.length cap1, .slice a2 xs2.length cap2, .slice a3 xs3.length cap3], HN.out, rfl, HRB.out⟩⟩
          · have hc0' : (0 : Int) < (rs3.length : Int) := by omega
            have HN : Hid (whole tBook.cod bs = none) := hidden (by unfold whole; rw [HDG.out]; exact if_neg hc0)
            clear hc0
            have HG := HST [.slice none 0 0, .slice none 0 0, .slice none 0 0] rfl
            go_wp2_with fail
            exact bodyPost_ret (v := .tuple #[.agg #[.slice none 0 0, .slice none 0 0, .slice none 0 0], .int .i64 12]) (by simp [results, Try.results53, go_sem, show ((((W3.setCell ⟨w.heap.size, 0, none⟩ (.slice none 0 0)).setCell ⟨w.heap.size, 1, none⟩ (.slice none 0 0)).setCell ⟨w.heap.size, 2, none⟩ (.slice none 0 0)).cell? ⟨w.heap.size, 0, none⟩) = some (.slice none 0 0) from HG.out.1 0 _ rfl, show ((((W3.setCell ⟨w.heap.size, 0, none⟩ (.slice none 0 0)).setCell ⟨w.heap.size, 1, none⟩ (.slice none 0 0)).setCell ⟨w.heap.size, 2, none⟩ (.slice none 0 0)).cell? ⟨w.heap.size, 1, none⟩) = some (.slice none 0 0) from HG.out.1 1 _ rfl, show ((((W3.setCell ⟨w.heap.size, 0, none⟩ (.slice none 0 0)).setCell ⟨w.heap.size, 1, none⟩ (.slice none 0 0)).setCell ⟨w.heap.size, 2, none⟩ (.slice none 0 0)).cell? ⟨w.heap.size, 2, none⟩) = some (.slice none 0 0) from HG.out.1 2 _ rfl]) rfl ⟨HB4.out [.slice none 0 0, .slice none 0 0, .slice none 0 0] rfl, .inr ⟨HN.out, rfl⟩⟩
end Go.Proofs.Ytekmjegeiminnaa
