/- The reference's own, Scan and Add, walked. -/
import Derived.Test.YtekmjegeiminnaaJ6
import Derived.BigQuiet
namespace Go.Proofs.Ytekmjegeiminnaa
open Go.RowKit
set_option linter.unusedVariables false
set_option linter.unusedSimpArgs false

/-- What own answers. -/
def OwnJ (bs : List UInt8) (w : World) (e : Ending) (w' : World) : Prop :=
  Below w.heap.size w w' ∧ ((∃ id n, nextJ bs = (.header id, n) ∧ e = .returned (.tuple #[.int .i64 id, .bool true])) ∨ ((∀ id n, nextJ bs ≠ (.header id, n)) ∧ e = .returned (.tuple #[.int .i64 0, .bool false])))
theorem nextJ_no {bs : List UInt8} (h : unfE bs ≠ 0 ∨ ∀ id, readI (unfC bs) ≠ some [7, id]) : ∀ id n, nextJ bs ≠ (.header id, n) := by
  intro id n e
  unfold nextJ at e
  split at e
  · rename_i hE
    rcases h with h | h
    · exact h hE
    · simp only [Prod.mk.injEq] at e
      exact h id (parseJ_is_header e.1)
  · cases e
theorem nextJ_yes {bs : List UInt8} {id : Int} (h : unfE bs = 0) (hr : readI (unfC bs) = some [7, id]) : nextJ bs = (.header id, unfN bs) := by
  unfold nextJ; rw [if_pos h, parseJ_header hr]
theorem heap_pos {w : World} {a : Option Addr} {bs : List UInt8} (h : BytesAt w a bs) (hl : 0 < bs.length) : 0 < w.heap.size := by
  obtain ⟨b, o, -, hc⟩ := h 0 hl
  have := World.block_lt_of_cell? w _ hc
  simp only at this
  omega

set_option maxRecDepth 100000 in
set_option maxHeartbeats 32000000 in
theorem own_ref (a : Option Addr) (cap : Nat) (bs : List UInt8) (w : World) (h : BytesAt w a bs) (hcap : bs.length ≤ cap) (hc2 : (cap : Int) ≤ 9223372036854775807) (hl : bs.length ≤ 100000000) :
    Calls Try.prog 98 #[.slice a bs.length cap] w (OwnJ bs w) := by
  have HQ := hidden h
  have HP0 : Hid (unfE bs = 0 → 0 < w.heap.size) := hidden (fun hE => heap_pos h (by have := unf_le hE; omega))
  clear h
  go_enter Try.func98, Try.ntmps98
  go_wp2_with fail
  with_reducible refine (unframe_ref a _ cap bs w HQ.out rfl hcap hc2 (by omega)).mono ?_
  rintro e w1 ⟨hb, v, rfl, ho⟩
  have HB1 := hidden hb
  obtain ⟨a1, c1, rfl, q, hc, hA⟩ := ho.reads
  have Q := hidden q
  have hm := own_cap ho rfl
  have HA1 : Hid (∀ A, a1 = some A → A.block < w1.heap.size) := hidden (fun A hA' => (ho.lt _ (hA A hA').1).2)
  have hcl : (unfC bs).length ≤ 100000000 := by have := unfC_le bs; omega
  clear hb ho q hA
  by_cases hE : unfE bs = 0
  · have hp1 : 0 < w1.heap.size := Nat.lt_of_lt_of_le (HP0.out hE) HB1.out.size
    have HYES : Hid (∀ id, readI (unfC bs) = some [7, id] → ∃ n, nextJ bs = (.header id, n)) := hidden (fun id h => ⟨_, nextJ_yes hE h⟩)
    have HNO : Hid ((∀ id, readI (unfC bs) ≠ some [7, id]) → ∀ id n, nextJ bs ≠ (.header id, n)) := hidden (fun h => nextJ_no (.inr h))
    rw [hE]
    clear hE
    generalize unfC bs = cs at Q hc hcl HYES HNO
    generalize unfN bs = un
    go_wp2_with fail
    with_reducible refine (readints_rd a1 c1 cs w1 Q.out hc hm (by omega) HA1.out hp1).mono ?_
    rintro e w2 hr
    obtain ⟨hb, c, X, v, rfl, ⟨ax, cx, rfl, ix, hlx⟩, hans⟩ := ReadIR.ans hr
    have HB2 := hidden (HB1.out.trans (hb.mono HB1.out.size))
    have HX := hidden ix
    have HANS := hidden hans
    clear hr hb ix hans
    rcases HANS.out with ⟨rfl, hrd⟩ | ⟨rfl, hrd, rfl⟩
    · by_cases h2 : X.length = 2
      · match X, h2 with
        | [m, id], _ =>
          obtain ⟨b, o, rfl, hc0⟩ := HX.out 0 (by simp)
          simp only [Nat.add_zero, List.getElem_cons_zero] at hc0
          obtain ⟨b', o', hbo, hc1⟩ := HX.out 1 (by simp)
          cases hbo
          simp only [List.getElem_cons_succ, List.getElem_cons_zero] at hc1
          by_cases hm : m = 7
          · subst hm
            have HY := hidden (HYES.out id hrd)
            clear hrd
            go_wp2_with fail
            go_ret2
            obtain ⟨n, hn⟩ := HY.out
            exact ⟨HB2.out, .inl ⟨id, n, hn, rfl⟩⟩
          · have HN := hidden (HNO.out (fun i e => by rw [hrd] at e; cases e; exact hm rfl))
            have hm' : (m != 7) = true := by rw [bne_iff_ne]; exact hm
            clear hm hrd
            go_wp2_with fail
            go_ret2
            exact ⟨HB2.out, .inr ⟨HN.out, rfl⟩⟩
      · have HN := hidden (HNO.out (fun i e => by rw [hrd] at e; cases e; exact h2 rfl))
        have h2' : ((X.length : Int) != 2) = true := by rw [bne_iff_ne]; omega
        clear h2 hrd
        go_wp2_with fail
        go_ret2
        exact ⟨HB2.out, .inr ⟨HN.out, rfl⟩⟩
    · have HN := hidden (HNO.out (fun i e => by rw [hrd] at e; cases e))
      clear hrd
      go_wp2_with fail
      go_ret2
      exact ⟨HB2.out, .inr ⟨HN.out, rfl⟩⟩
  · have HN := hidden (nextJ_no (.inl hE))
    have hE' : (((unfE bs : Nat) : Int) != 0) = true := by rw [bne_iff_ne]; omega
    clear hE
    go_wp2_with fail
    go_ret2
    exact ⟨HB1.out, .inr ⟨HN.out, rfl⟩⟩

theorem ref_stop {b : List UInt8} {k : Int} (h : unfE b ≠ 0 ∨ ∀ l, parseG (unfC b) ≠ .group k l) : ∀ l n, nextJ b ≠ (.group k l, n) := by
  intro l n e
  obtain ⟨h1, h2, -⟩ := nextJ_group_le e
  rcases h with h | h
  · exact h h1
  · exact h l (parseJ_group.1 h2)
theorem ref_go {b : List UInt8} {k : Int} {l : List OpD} (hE : unfE b = 0) (h : parseG (unfC b) = .group k l) : nextJ b = (.group k l, unfN b) := by
  unfold nextJ; rw [if_pos hE, parseJ_group.2 h]
theorem parseG_no1 {c : List UInt8} (h : decI c = none) : parseG c = .none := by unfold parseG; rw [h]
theorem parseG_no2 {c r : List UInt8} {xs : List Int} (h : decI c = some (xs, r)) (hn : xs.length ≠ 1) : parseG c = .none := by
  unfold parseG
  rw [h]
  match xs, hn with
  | [], _ => rfl
  | [_], h => exact absurd rfl h
  | _ :: _ :: _, _ => rfl
theorem parseG_one {c r : List UInt8} {s : Int} (h : decI c = some ([s], r)) : parseG c = match whole tOps.cod r with
    | some (o :: l) => .group s (o :: l)
    | _ => .none := by
  unfold parseG
  simp only [h]
  rfl
theorem head_take {bs : List UInt8} {id : Int} (hid : I64 id) (h : bs.take (headJ id).length = headJ id) : nextJ bs = (.header id, (headJ id).length) := by
  have e : bs = headJ id ++ bs.drop (headJ id).length := by
    conv => lhs; rw [← List.take_append_drop (headJ id).length bs, h]
  rw [e]
  exact nextJ_head hid _

set_option maxRecDepth 100000 in
set_option maxHeartbeats 64000000 in
theorem scan_ref (a : Option Addr) (cap : Nat) (bs : List UInt8) (id : Int) (w : World) (h : BytesAt w a bs) (hcap : bs.length ≤ cap) (hc2 : (cap : Int) ≤ 9223372036854775807) (hl : bs.length ≤ 100000000) (hid : -9223372036854775808 ≤ id ∧ id ≤ 9223372036854775807) :
    Calls Try.prog 61 #[.slice a bs.length cap, .int .i64 id] w (ScanP bs id w) := by
  have hb0 : Below w.heap.size w (w.alloc (.cells #[.slice none 0 0, .int .i64 0, .bool false] 91)) := (Below.refl _ _).alloc (Nat.le_refl _) _
  have HB0 := hidden hb0
  have HQ := hidden (h.on' hb0)
  have HK0 : Hid ((w.alloc (.cells #[.slice none 0 0, .int .i64 0, .bool false] 91)).heap[w.heap.size]? = some (.cells #[.slice none 0 0, .int .i64 0, .bool false] 91 (0, 0))) := hidden (heap_alloc_new _ _)
  have hz0 : (w.alloc (.cells #[.slice none 0 0, .int .i64 0, .bool false] 91)).heap.size = w.heap.size + 1 := World.size_alloc _ _
  have HID := hidden hid
  clear h hb0 hid
  go_enter Try.func61, Try.ntmps61
  go_wp2_with fail
  generalize w.alloc (.cells #[.slice none 0 0, .int .i64 0, .bool false] 91) = W0 at *
  have HZ0 := hidden hz0
  have hrb : w.heap.size < W0.heap.size := by omega
  clear hz0
  with_reducible refine (begin_ref id W0 HID.out).mono ?_
  rintro e w1 ⟨hb, v, rfl, ho⟩
  have HB1 := hidden hb
  obtain ⟨ah, ch, rfl, qh, hch, -⟩ := ho.reads
  have QH := hidden qh
  have hmh := own_cap ho rfl
  have hhl := (head_small HID.out).2
  have HK1 := hidden ((hb.block _ hrb).trans HK0.out)
  have hrb1 : w.heap.size < w1.heap.size := Nat.lt_of_lt_of_le hrb hb.size
  have HQ1 := hidden (HQ.out.on' hb)
  have HHI := hidden (head_iff (b := bs) HID.out)
  have HHT := hidden (head_take (bs := bs) HID.out)
  clear hb ho qh
  generalize hhd : headJ id = hd at QH hch hhl HHI HHT ⊢
  have fin : (∀ n, nextJ bs ≠ (.header id, n)) → ∀ W, Below W0.heap.size W0 W → ScanP bs id w (.returned (.agg #[.slice none 0 0, .int .i64 0, .bool false])) (((W.setCell ⟨w.heap.size, 0, none⟩ (.slice none 0 0)).setCell ⟨w.heap.size, 1, none⟩ (.int .i64 0)).setCell ⟨w.heap.size, 2, none⟩ (.bool false)) ∧ (((W.setCell ⟨w.heap.size, 0, none⟩ (.slice none 0 0)).setCell ⟨w.heap.size, 1, none⟩ (.int .i64 0)).setCell ⟨w.heap.size, 2, none⟩ (.bool false)).cell? ⟨w.heap.size, 0, none⟩ = some (.slice none 0 0) ∧ (((W.setCell ⟨w.heap.size, 0, none⟩ (.slice none 0 0)).setCell ⟨w.heap.size, 1, none⟩ (.int .i64 0)).setCell ⟨w.heap.size, 2, none⟩ (.bool false)).cell? ⟨w.heap.size, 1, none⟩ = some (.int .i64 0) ∧ (((W.setCell ⟨w.heap.size, 0, none⟩ (.slice none 0 0)).setCell ⟨w.heap.size, 1, none⟩ (.int .i64 0)).setCell ⟨w.heap.size, 2, none⟩ (.bool false)).cell? ⟨w.heap.size, 2, none⟩ = some (.bool false) := by
    intro hno W hW
    obtain ⟨g0, g1, g2, gu⟩ := put3 (u := .slice none 0 0) (v := .int .i64 0) (t := .bool false) ((hW.block _ hrb).trans HK0.out)
    have hlog := logJ_none hno
    refine ⟨⟨?_, none, 0, by rw [hlog]; rfl, by rw [hlog]; exact list_nil_rep _ _ _⟩, g0, g1, g2⟩
    exact (HB0.out.trans (hW.mono HB0.out.size)).trans (gu.toBelow (by have := hW.size; omega) (fun k hk e => by omega))
  have FIN := hidden fin
  clear fin
  have r0 : w1.cell? ⟨w.heap.size, 0, none⟩ = some (.slice none 0 0) := by simp [World.cell?, HK1.out]
  have r1 : w1.cell? ⟨w.heap.size, 1, none⟩ = some (.int .i64 0) := by simp [World.cell?, HK1.out]
  have r2 : w1.cell? ⟨w.heap.size, 2, none⟩ = some (.bool false) := by simp [World.cell?, HK1.out]
  have rf : ∀ i, w1.frozen? ⟨w.heap.size, i, none⟩ = false := fun i => by simp [World.frozen?, HK1.out]
  by_cases hsh : bs.length < hd.length
  · have hno : ∀ n, nextJ bs ≠ (.header id, n) := fun n e => by
      have h1 := HHI.out.1 ⟨n, e⟩
      have h2 := congrArg List.length h1
      rw [List.length_take] at h2
      omega
    have hsh' : ((bs.length : Int) < (hd.length : Int)) := by omega
    clear hhd
    have HNO := hidden (FIN.out hno)
    have HRD : Hid (∀ n, Below W0.heap.size W0 (w1.drewN n)) := hidden (fun n => below_dn HB1.out n)
    clear hno
    go_wp2_with fail
    go_quiet (fail)
    go_wp2_with fail
    obtain ⟨f1, f2, f3, f4⟩ := HNO.out _ (HRD.out nq)
    exact bodyPost_ret (v := .agg #[.slice none 0 0, .int .i64 0, .bool false]) (by simp [results, Try.results61, go_sem, f2, f3, f4]) rfl f1
  · have hcv1 : ∀ n, (convert 22 9 (.slice a hd.length cap)).run Try.prog (w1.drewN n) = .ok (.string (strOf (bs.take hd.length))) (w1.drewN n) := fun n => run_str ((HQ1.out.take hd.length).upd (Upd.drewN (M := fun _ => False) _ _) (fun _ _ h => h)) hd.length cap (by rw [List.length_take]; omega)
    have hcv2 : ∀ n, (convert 22 9 (.slice ah hd.length ch)).run Try.prog (w1.drewN n) = .ok (.string (strOf hd)) (w1.drewN n) := fun n => run_str (QH.out.upd (Upd.drewN (M := fun _ => False) _ _) (fun _ _ h => h)) hd.length ch rfl
    have i1 : (0 : Int) ≤ (hd.length : Int) := by omega
    have i2 : (hd.length : Int) ≤ (bs.length : Int) := by omega
    have i3 : (hd.length : Int) ≤ (cap : Int) := by omega
    clear hhd
    by_cases heq : bs.take hd.length = hd
    · have HNX := hidden (HHT.out heq)
      rw [heq] at hcv1
      clear heq
      have h8 := nextJ_head_len HNX.out
      obtain ⟨b, o, rfl, -⟩ := HQ.out 0 (by omega)
      go_wp2_with fail
      go_quiet (fail)
      obtain ⟨w2, hw2⟩ : ∃ w2, w1.drewN nq = w2 := ⟨_, rfl⟩
      have hb2 : Below w1.heap.size w1 w2 := by rw [← hw2]; exact below_dn (Below.refl _ _) nq
      rw [hw2]
      clear hw2 hcv1 hcv2 r0 r1 r2 rf
      have hz2 := hb2.size
      have hw1s := HB1.out.size
      have HI0 : Hid (ScanI bs id [] hd.length) := hidden ⟨by rw [logJ_head HNX.out]; rfl, by omega, by simp⟩
      obtain ⟨WB, hWB⟩ : ∃ WB, w2.alloc (.cells #[.slice none 0 0, .int .i64 hd.length, .bool true] 91) = WB := ⟨_, rfl⟩
      have hz1 : WB.heap.size = w2.heap.size + 1 := by rw [← hWB]; simp [World.size_alloc]
      have hbB : Below w1.heap.size w1 WB := by
        rw [← hWB]; exact hb2.alloc hb2.size _
      have HBB := hidden (HB1.out.trans (hbB.mono HB1.out.size))
      have HXB : Hid (WB.heap[w2.heap.size]? = some (.cells #[.slice none 0 0, .int .i64 hd.length, .bool true] 91 (0, 0))) := hidden (by rw [← hWB]; exact heap_alloc_new _ _)
      have HKB : Hid (WB.heap[w.heap.size]? = some (.cells #[.slice none 0 0, .int .i64 0, .bool false] 91 (0, 0))) := hidden ((hbB.block _ hrb1).trans HK1.out)
      have HWB := hidden hWB
      clear hWB hbB hb2 FIN
      go_wp2_with fail
      rw [HWB.out]
      obtain ⟨xb, hxb⟩ : ∃ xb, w2.heap.size = xb := ⟨_, rfl⟩
      rw [hxb] at HXB ⊢
      have hxW : xb < WB.heap.size := by omega
      have hwx : w.heap.size < xb := by omega
      have hWx : W0.heap.size ≤ xb := by omega
      clear hxb hz1 hz2
      obtain ⟨i0, hi, hzz0, hzz1, hzz2⟩ := info_parts Try.infoT73
      have HINF := hidden (And.intro hi (And.intro hzz0 (And.intro hzz1 hzz2)))
      clear hi hzz0 hzz1 hzz2
      have hwB0 : W0.heap.size ≤ WB.heap.size := HBB.out.size
      go_loopg [7] (bs.length - hd.length) (fun k s7 wr => ∃ (gs : List (List OpD)) (a' : Option Addr) (cap' good : Nat), k = bs.length - good ∧ ScanI bs id gs good ∧ wr.heap[xb]? = some (.cells #[.slice a' gs.length cap', .int .i64 good, .bool true] 91 (0, 0)) ∧ OwnT tOps 73 WB.heap.size wr (.slice a' gs.length cap') gs ∧ Upd (fun k => k = xb) WB wr)
      case atStart => exact ⟨[], none, 0, hd.length, rfl, HI0.out, HXB.out, OwnT.nil _ _ _ _, Upd.refl _ _⟩
      case round =>
        obtain ⟨gs, a', cap', good, hgk, hI, hX, hO, hU⟩ := hrel
        have HI := hidden hI
        have HX := hidden hX
        have HO := hidden hO
        have HU := hidden hU
        have HGK := hidden hgk
        have hgl := hI.le
        have hgf := hI.few
        have HKr := hidden ((hU.block _ (by omega) (by omega)).trans HKB.out)
        have hBr : Below W0.heap.size W0 wr := HBB.out.trans (hU.toBelow (by omega) (fun k hk e => by omega))
        have HBr := hidden hBr
        have hwb := hU.size
        have fin : logJ bs id = ⟨gs, good, true⟩ → ∀ W, Below wr.heap.size wr W → ScanP bs id w (.returned (.agg #[.slice a' gs.length cap', .int .i64 good, .bool true])) (((W.setCell ⟨w.heap.size, 0, none⟩ (.slice a' gs.length cap')).setCell ⟨w.heap.size, 1, none⟩ (.int .i64 good)).setCell ⟨w.heap.size, 2, none⟩ (.bool true)) ∧ (((W.setCell ⟨w.heap.size, 0, none⟩ (.slice a' gs.length cap')).setCell ⟨w.heap.size, 1, none⟩ (.int .i64 good)).setCell ⟨w.heap.size, 2, none⟩ (.bool true)).cell? ⟨w.heap.size, 0, none⟩ = some (.slice a' gs.length cap') ∧ (((W.setCell ⟨w.heap.size, 0, none⟩ (.slice a' gs.length cap')).setCell ⟨w.heap.size, 1, none⟩ (.int .i64 good)).setCell ⟨w.heap.size, 2, none⟩ (.bool true)).cell? ⟨w.heap.size, 1, none⟩ = some (.int .i64 good) ∧ (((W.setCell ⟨w.heap.size, 0, none⟩ (.slice a' gs.length cap')).setCell ⟨w.heap.size, 1, none⟩ (.int .i64 good)).setCell ⟨w.heap.size, 2, none⟩ (.bool true)).cell? ⟨w.heap.size, 2, none⟩ = some (.bool true) := by
          intro hlog W hW
          obtain ⟨g0, g1, g2, gu⟩ := put3 (u := .slice a' gs.length cap') (v := .int .i64 good) (t := .bool true) ((hW.block _ (by omega)).trans HKr.out)
          have hzW := hW.size
          have r1 := (tList tOps).upd ((tList tOps).upd HO.out.rep (Upd.ofNew (M := fun _ => False) hW) (fun _ _ h => h)) gu (fun k hk e => by have := hk.1; omega)
          have r2 := (tList tOps).mono r1 (S' := fun k => w.heap.size ≤ k ∧ k < (((W.setCell ⟨w.heap.size, 0, none⟩ (.slice a' gs.length cap')).setCell ⟨w.heap.size, 1, none⟩ (.int .i64 good)).setCell ⟨w.heap.size, 2, none⟩ (.bool true)).heap.size) (fun k hk => ⟨by have := hk.1; omega, by have := hk.2; have := gu.size; omega⟩)
          refine ⟨⟨?_, a', cap', by rw [hlog], by rw [hlog]; exact r2⟩, g0, g1, g2⟩
          exact (HB0.out.trans (HBr.out.mono (by omega))).trans ((hW.mono (by omega)).trans (gu.toBelow (by omega) (fun k hk e => by omega)))
        have FIN2 := hidden fin
        clear fin hI hX hO hU hgk hBr
        have HCX : Hid (∀ W, Below wr.heap.size wr W → W.cell? ⟨xb, 0, none⟩ = some (.slice a' gs.length cap') ∧ W.cell? ⟨xb, 1, none⟩ = some (.int .i64 good) ∧ W.cell? ⟨xb, 2, none⟩ = some (.bool true) ∧ (∀ i, W.frozen? ⟨xb, i, none⟩ = false) ∧ W.cell? ⟨w.heap.size, 0, none⟩ = some (.slice none 0 0) ∧ W.cell? ⟨w.heap.size, 1, none⟩ = some (.int .i64 0) ∧ W.cell? ⟨w.heap.size, 2, none⟩ = some (.bool false) ∧ (∀ i, W.frozen? ⟨w.heap.size, i, none⟩ = false)) := hidden (fun W hW => by
          have e1 := (hW.block xb (by omega)).trans HX.out
          have e2 := (hW.block w.heap.size (by omega)).trans HKr.out
          exact ⟨by simp [World.cell?, e1], by simp [World.cell?, e1], by simp [World.cell?, e1], fun i => by simp [World.frozen?, e1], by simp [World.cell?, e2], by simp [World.cell?, e2], by simp [World.cell?, e2], fun i => by simp [World.frozen?, e2]⟩)
        obtain ⟨c0, c1, c2, cf, r0, r1, r2, rf⟩ := HCX.out wr (Below.refl _ _)
        have HQr := hidden (HQ.out.on' HBr.out)
        have STOP := hidden (fun h => FIN2.out (HI.out.stop (ref_stop (b := bs.drop good) (k := (gs.length : Int) + 1) h)))
        by_cases hcg : cap = good
        · have HD : Hid (bs.drop good = []) := hidden (List.drop_of_length_le (by omega))
          have HUN : Hid (Calls Try.prog 27 #[.slice (some ⟨b, o, none⟩) (bs.length - good) 0] wr (Unframed [] wr)) := hidden (by
            rw [show bs.length - good = 0 by omega]
            exact unframe_ref _ 0 0 [] wr (bytes_nil _ _) rfl (by simp) (by decide) (by simp))
          have HST := hidden (STOP.out (.inl (by rw [HD.out]; decide)))
          clear c2 cf r0 r1 r2 rf
          go_wp2_with fail
          with_reducible refine HUN.out.mono ?_
          rintro e w3 ⟨hb, v, rfl, ho⟩
          have HB3 := hidden hb
          obtain ⟨a3, c3, rfl, -, -, -⟩ := ho.reads
          have hun : unfE [] = 16 := rfl
          have hun2 : unfN [] = 0 := rfl
          rw [hun, hun2]
          clear hb ho c0 c1 HUN hun hun2
          obtain ⟨c0, c1, c2, cf, r0, r1, r2, rf⟩ := HCX.out w3 HB3.out
          have HNO := hidden (HST.out w3 HB3.out)
          go_wp2_with fail
          obtain ⟨f1, f2, f3, f4⟩ := HNO.out
          exact bodyPost_ret (v := .agg #[.slice a' gs.length cap', .int .i64 good, .bool true]) (by simp [results, Try.results61, go_sem, f2, f3, f4]) rfl f1
        · have HUN : Hid (Calls Try.prog 27 #[.slice (some ⟨b, o + good, none⟩) (bs.length - good) (cap - good)] wr (Unframed (bs.drop good) wr)) := hidden (by
            have := unframe_ref (some ⟨b, o + good, none⟩) (bs.drop good).length (cap - good) (bs.drop good) wr (HQr.out.drop good) rfl (by rw [List.length_drop]; omega) (by omega) (by rw [List.length_drop]; omega)
            rw [List.length_drop] at this; exact this)
          have hucl := unfC_le (bs.drop good)
          rw [List.length_drop] at hucl
          clear c2 cf r0 r1 r2 rf
          go_wp2_with fail
          with_reducible refine HUN.out.mono ?_
          rintro e w3 ⟨hb, v, rfl, ho⟩
          have HB3 := hidden hb
          have hs3 := hb.size
          obtain ⟨a3, c3, rfl, q3, hc3, hA3⟩ := ho.reads
          have hm3 := own_cap ho rfl
          have Q3 := hidden q3
          have HA3 : Hid (∀ A, a3 = some A → A.block < w3.heap.size) := hidden (fun A hA' => (ho.lt _ (hA3 A hA').1).2)
          clear hb ho q3 hA3 c0 c1 HUN
          obtain ⟨c0, c1, c2, cf, r0, r1, r2, rf⟩ := HCX.out w3 HB3.out
          by_cases hE : unfE (bs.drop good) = 0
          · have hGO : ∀ l, parseG (unfC (bs.drop good)) = .group ((gs.length : Int) + 1) l → nextJ (bs.drop good) = (.group ((gs.length : Int) + 1) l, unfN (bs.drop good)) := fun l h => ref_go hE h
            have GO := hidden hGO
            rw [hE]
            clear hE hGO
            generalize unfC (bs.drop good) = cs at Q3 hc3 hucl STOP GO ⊢
            generalize unfN (bs.drop good) = un at GO ⊢
            go_wp2_with fail
            with_reducible refine (first_rd a3 c3 cs w3 Q3.out hc3 hm3 (by omega) HA3.out (by omega)).mono ?_
            rintro e w4 ⟨hb, ⟨xs, r, v, ar, cr, hdc, rfl, hin, hbr, hcr, hmr, har⟩ | ⟨hdc, v1, v2, rfl⟩⟩
            · have HB4 := hidden (HB3.out.trans (hb.mono HB3.out.size))
              have hs4 := hb.size
              obtain ⟨av, cv, rfl, hiv, -, -, -⟩ := hin
              have HIV := hidden hiv
              have HBR := hidden hbr
              have HAR := hidden har
              have HDC := hidden hdc
              have hrl : r.length ≤ cs.length := by
                have := congrArg List.length (enc_decI hdc).1
                rw [List.length_append] at this; omega
              clear hb hiv hbr har hdc c0 c1 c2 cf r0 r1 r2 rf
              obtain ⟨c0, c1, c2, cf, r0, r1, r2, rf⟩ := HCX.out w4 HB4.out
              by_cases h1 : xs.length = 1
              · match xs, h1, HDC, HIV with
                | [s], _, HDC, HIV =>
                  have HP1 := hidden (parseG_one HDC.out)
                  obtain ⟨b0, o0, rfl, hc0⟩ := HIV.out 0 (by simp)
                  simp only [Nat.add_zero, List.getElem_cons_zero] at hc0
                  have HBN : Hid (∀ n, Below wr.heap.size wr (w4.drewN n)) := hidden (fun n => below_dn HB4.out n)
                  have hwrap : IntKind.i64.wrap ((gs.length : Int) + 1) = (gs.length : Int) + 1 := IntWalk.i64_in _ (by omega)
                  by_cases hseq : s = gs.length + 1
                  · subst hseq
                    have HRD : Hid (∀ W, Below w4.heap.size w4 W → Calls Try.prog 54 #[.slice ar r.length cr] W (ReadO r W)) := hidden (fun W hW => readops_rd ar cr r W (HBR.out.on' hW) hcr hmr (by omega) (fun A hA => Nat.lt_of_lt_of_le (HAR.out A hA) hW.size) (by have := hW.size; omega))
                    have HD4 : Hid (∀ n, Below w4.heap.size w4 (w4.drewN n)) := hidden (fun n => below_dn (Below.refl _ _) n)
                    go_wp2_with fail
                    go_quiet (fail)
                    have HW5 := hidden (HD4.out nq)
                    obtain ⟨w5, hw5⟩ : ∃ w5, w4.drewN nq = w5 := ⟨_, rfl⟩
                    rw [hw5] at HW5 ⊢
                    clear hw5 hwrap hc0 c0 c1 c2 cf r0 r1 r2 rf
                    have HB5 := hidden (HB4.out.trans (HW5.out.mono HB4.out.size))
                    have hs5 := HW5.out.size
                    go_wp2_with fail
                    with_reducible refine (HRD.out w5 HW5.out).mono ?_
                    rintro e w6 hr
                    obtain ⟨hb, c6, L, al, ll, cl, rfl, hans⟩ := ReadO.ans' hr
                    have HB6 := hidden (HB5.out.trans (hb.mono HB5.out.size))
                    have hs6 := hb.size
                    have HANS := hidden hans
                    clear hr hb hans HRD HD4
                    obtain ⟨c0, c1, c2, cf, r0, r1, r2, rf⟩ := HCX.out w6 HB6.out
                    rcases HANS.out with ⟨hrep, hok, ⟨rfl, hw⟩ | ⟨rfl, hw⟩⟩
                    · obtain ⟨a9, c9, he9, -⟩ := hrep
                      cases he9
                      match L, HANS, hw with
                      | [], HANS, hw =>
                        have HNO := hidden (STOP.out (.inr (fun l => by rw [HP1.out, hw]; intro e; cases e)) w6 HB6.out)
                        clear hw
                        go_wp2_with fail
                        obtain ⟨f1, f2, f3, f4⟩ := HNO.out
                        exact bodyPost_ret (v := .agg #[.slice a' gs.length cap', .int .i64 good, .bool true]) (by simp [results, Try.results61, go_sem, f2, f3, f4]) rfl f1
                      | g :: L, HANS, hw =>
                        have HN2 := hidden (GO.out (g :: L) (by rw [HP1.out, hw]))
                        have hst := HI.out.step HN2.out
                        have HST := hidden hst.1
                        have hn2 : 0 < un := hst.2
                        have hn3 : good + un ≤ bs.length := hst.1.le
                        have hlen1 : gs.length ≤ 100000000 := by omega
                        have hpos : ((g :: L).length == 0) = false := rfl
                        have hrepL := HANS.out.1
                        generalize hgl : (g :: L) = l at HST hpos hrepL ⊢
                        have hpos' : ((l.length : Int) == 0) = false := by rw [beq_eq_false_iff_ne]; rw [beq_eq_false_iff_ne] at hpos; omega
                        have hUn : ∀ (X : World) (ob : Obj), Upd (fun _ => False) X (X.alloc ob) := fun X ob => Upd.new _ _
                        have hUw : Upd (fun _ => False) wr w6 := Upd.ofNew HB6.out
                        have hUA : Upd (fun _ => False) wr (w6.alloc (.cells #[.slice al l.length cl] 73)) := hUw.trans (hUn _ _) (fun _ _ h => h)
                        have hUB : Upd (fun _ => False) w6 (w6.alloc (.cells #[.slice al l.length cl] 73)) := hUn _ _
                        have HO2 := hidden (HO.out.on hUA (fun _ _ _ h => h))
                        have HRN : Hid ((w6.alloc (.cells #[.slice al l.length cl] 73)).rangeAt w6.heap.size 0 [.slice al l.length cl]) := hidden (new_range w6 [.slice al l.length cl] 73)
                        have HLV : ∀ k, (Value.slice a' gs.length cap').ownBlock = some k → k < wr.heap.size := fun k hk => (HO.out.lt k hk).2
                        have HRP : Hid (tOps.rep (fun k => WB.heap.size ≤ k ∧ k < (w6.alloc (.cells #[.slice al l.length cl] 73)).heap.size ∧ some k ≠ (Value.slice a' gs.length cap').ownBlock) (w6.alloc (.cells #[.slice al l.length cl] 73)) [.slice al l.length cl] l) := hidden (tOps.mono (tOps.upd hrepL hUB (fun _ _ h => h)) (fun k hk => ⟨by have := hk.1; omega, Nat.lt_of_lt_of_le hk.2 hUB.size, fun e => by have := HLV k e.symm; have := hk.1; omega⟩))
                        have HXL : Hid (gs.length ≤ 1000000000000) := hidden (by omega)
                        have HXB2 : Hid ((gs.length + 1) * 24 ≤ 140737488355328) := hidden (by omega)
                        have HBS : Hid (WB.heap.size ≤ (w6.alloc (.cells #[.slice al l.length cl] 73)).heap.size) := hidden (by have := hUB.size; omega)
                        have HXA : Hid ((w6.alloc (.cells #[.slice al l.length cl] 73)).heap[xb]? = some (.cells #[.slice a' gs.length cap', .int .i64 good, .bool true] 91 (0, 0))) := hidden ((hUA.block xb (by omega) (fun h => h)).trans HX.out)
                        have HXZ : Hid (xb < (w6.alloc (.cells #[.slice al l.length cl] 73)).heap.size) := hidden (by have := hUB.size; omega)
                        have HNX2 : Hid (¬ some xb = (Value.slice a' gs.length cap').ownBlock) := hidden (fun h => by have := (HO.out.lt _ h.symm).1; omega)
                        have HUA := hidden hUA
                        have hx6 : xb < w6.heap.size := by omega
                        clear hst hUn hUw hUA hUB HLV hrepL hpos hw hgl HANS
                        go_wp2_with (at_builtin; go_loud (refine wpList_append_T (A := tOps) rfl (.tmp 86) (.tmp 88) 87 rfl und87 HINF.out.1 HINF.out.2.1 HINF.out.2.2.1 HINF.out.2.2.2 rfl (by decide) (B := WB.heap.size) (v := .slice a' gs.length cap') (xs := gs) (x := l) rfl HO2.out (b := w6.heap.size) (c := 1) rfl HRN.out HRP.out HXL.out HXB2.out HBS.out ?_); intro v7 w7 g7; have G := hidden g7; have HX4 := hidden ((g7.upd.block xb HXZ.out HNX2.out).trans HXA.out); have q0 : w7.cell? ⟨xb, 0, none⟩ = some (.slice a' gs.length cap') := (by simp [World.cell?, HX4.out]); have q1 : w7.cell? ⟨xb, 1, none⟩ = some (.int .i64 good) := (by simp [World.cell?, HX4.out]); have qf : ∀ i, w7.frozen? ⟨xb, i, none⟩ = false := (fun i => by simp [World.frozen?, HX4.out]); obtain ⟨a7, c7, rfl⟩ := g7.own.is; clear g7)
                        go_roundg (bs.length - (good + un))
                        case measure => have := HGK.out; omega
                        case rel =>
                          have hset : Upd (fun k => k = xb) w7 ((w7.setCell ⟨xb, 0, none⟩ (.slice a7 (gs ++ [l]).length c7)).setCell ⟨xb, 1, none⟩ (.int .i64 ((good + un : Nat) : Int))) := Upd.setCells (M := fun k => k = xb) rfl [.slice a7 (gs ++ [l]).length c7, .int .i64 ((good + un : Nat) : Int)] 0 w7
                          have hX5 := setCell_heap (o := 1) (v := .int .i64 ((good + un : Nat) : Int)) (setCell_heap (o := 0) (v := .slice a7 (gs ++ [l]).length c7) HX4.out)
                          rw [set3_0, set3_1] at hX5
                          have hO5 := G.out.own.on hset (fun k hk _ e => by omega)
                          have hU5 : Upd (fun k => k = xb) WB _ := ((HU.out.trans HUA.out (fun _ _ h => h.elim)).trans G.out.upd (fun k hk e => by have := (HO.out.lt k e.symm).1; omega)).trans hset (fun _ _ h => h)
                          rw [show ((good + un : Nat) : Int) = (good : Int) + (un : Int) by omega] at hX5 hO5 hU5
                          refine ⟨gs ++ [l], a7, c7, good + un, rfl, HST.out, ?_, ?_, ?_⟩
                          · rw [show (gs ++ [l]).length = gs.length + 1 by simp] at hX5 ⊢
                            rw [show ((good + un : Nat) : Int) = (good : Int) + (un : Int) by omega]
                            exact hX5
                          · rw [show (gs ++ [l]).length = gs.length + 1 by simp] at hO5 ⊢
                            exact hO5
                          · rw [show (gs ++ [l]).length = gs.length + 1 by simp] at hU5
                            exact hU5
                    · have HNO := hidden (STOP.out (.inr (fun l => by rw [HP1.out, hw]; intro e; cases e)) w6 HB6.out)
                      clear hw
                      go_wp2_with fail
                      obtain ⟨f1, f2, f3, f4⟩ := HNO.out
                      exact bodyPost_ret (v := .agg #[.slice a' gs.length cap', .int .i64 good, .bool true]) (by simp [results, Try.results61, go_sem, f2, f3, f4]) rfl f1
                  · have HST := hidden (STOP.out (.inr (fun l => by
                      rw [HP1.out]
                      intro e
                      split at e
                      · cases e; exact hseq rfl
                      · cases e)))
                    have hseq' : (s != (gs.length : Int) + 1) = true := by rw [bne_iff_ne]; exact hseq
                    clear hseq
                    go_wp2_with fail
                    go_quiet (fail)
                    have HNO := hidden (HST.out _ (HBN.out nq))
                    go_wp2_with fail
                    obtain ⟨f1, f2, f3, f4⟩ := HNO.out
                    exact bodyPost_ret (v := .agg #[.slice a' gs.length cap', .int .i64 good, .bool true]) (by simp [results, Try.results61, go_sem, f2, f3, f4]) rfl f1
              · have HST := hidden (STOP.out (.inr (fun l => by rw [parseG_no2 HDC.out h1]; intro e; cases e)))
                have h1' : ((xs.length : Int) != 1) = true := by rw [bne_iff_ne]; omega
                have HBN : Hid (∀ n, Below wr.heap.size wr (w4.drewN n)) := hidden (fun n => below_dn HB4.out n)
                clear h1
                go_wp2_with fail
                go_quiet (fail)
                have HNO := hidden (HST.out _ (HBN.out nq))
                go_wp2_with fail
                obtain ⟨f1, f2, f3, f4⟩ := HNO.out
                exact bodyPost_ret (v := .agg #[.slice a' gs.length cap', .int .i64 good, .bool true]) (by simp [results, Try.results61, go_sem, f2, f3, f4]) rfl f1
            · have HB4 := hidden (HB3.out.trans (hb.mono HB3.out.size))
              have HST := hidden (STOP.out (.inr (fun l => by rw [parseG_no1 hdc]; intro e; cases e)))
              have HBN : Hid (∀ n, Below wr.heap.size wr (w4.drewN n)) := hidden (fun n => below_dn HB4.out n)
              clear hb hdc c0 c1 c2 cf r0 r1 r2 rf
              obtain ⟨c0, c1, c2, cf, r0, r1, r2, rf⟩ := HCX.out w4 HB4.out
              go_wp2_with fail
              go_quiet (fail)
              have HNO := hidden (HST.out _ (HBN.out nq))
              go_wp2_with fail
              obtain ⟨f1, f2, f3, f4⟩ := HNO.out
              exact bodyPost_ret (v := .agg #[.slice a' gs.length cap', .int .i64 good, .bool true]) (by simp [results, Try.results61, go_sem, f2, f3, f4]) rfl f1
          · have HNO := hidden (STOP.out (.inl hE) w3 HB3.out)
            have hE' : (((unfE (bs.drop good) : Nat) : Int) != 0) = true := by rw [bne_iff_ne]; omega
            clear hE
            go_wp2_with fail
            obtain ⟨f1, f2, f3, f4⟩ := HNO.out
            exact bodyPost_ret (v := .agg #[.slice a' gs.length cap', .int .i64 good, .bool true]) (by simp [results, Try.results61, go_sem, f2, f3, f4]) rfl f1
    · have hno : ∀ n, nextJ bs ≠ (.header id, n) := fun n e => heq (HHI.out.1 ⟨n, e⟩)
      have HNO := hidden (FIN.out hno)
      have HRD : Hid (∀ n, Below W0.heap.size W0 (w1.drewN n)) := hidden (fun n => below_dn HB1.out n)
      have hne : (!(strOf (bs.take hd.length)).toList == (strOf hd).toList) = true := by
        rw [Bool.not_eq_true', beq_eq_false_iff_ne, ByteArray.toList_eq, ByteArray.toList_eq]
        simpa [strOf] using heq
      obtain ⟨s1, hs1⟩ : ∃ s, strOf (bs.take hd.length) = s := ⟨_, rfl⟩
      obtain ⟨s2, hs2⟩ : ∃ s, strOf hd = s := ⟨_, rfl⟩
      rw [hs1] at hcv1 hne
      rw [hs2] at hcv2 hne
      clear hno heq hs1 hs2
      go_wp2_with fail
      go_quiet (fail)
      go_wp2_with fail
      obtain ⟨f1, f2, f3, f4⟩ := HNO.out _ (HRD.out nq)
      exact bodyPost_ret (v := .agg #[.slice none 0 0, .int .i64 0, .bool false]) (by simp [results, Try.results61, go_sem, f2, f3, f4]) rfl f1
end Go.Proofs.Ytekmjegeiminnaa
