/- The program's Scan, walked. -/
import Derived.Test.YtekmjegeiminnaaJ2
import Derived.Deep.LoopGhost
namespace Go.Proofs.Ytekmjegeiminnaa
open Go.RowKit
set_option linter.unusedVariables false
set_option linter.unusedSimpArgs false

theorem Try.infoT73 : (Try.prog.info? 73).map (fun i => (i.zero, i.size, i.bytes)) = some (some (.slice none 0 0), 1, 24) := by kernel_rfl
theorem und87 : Try.prog.underlying 87 = some (.slice 73) := by kernel_rfl
theorem Try.infoZ154 : (Try.prog.info? 154).map (·.zero) = some (some (.agg #[.int .i64 0])) := by kernel_rfl
theorem Try.infoZ159 : (Try.prog.info? 159).map (·.zero) = some (some (.agg #[.int .i64 0, .slice none 0 0])) := by kernel_rfl
theorem asH_head (w : World) (id : Int) : (Instr.typeAssert (.iface 154 (.agg #[.int .i64 id])) 150 154 true).run Try.prog w = .ok (.tuple #[.agg #[.int .i64 id], .bool true]) w := by
  simp [Instr.typeAssert, run_underlying Try.underlying154, go_sem, Result.andThen]
theorem asH_nil (w : World) : (Instr.typeAssert .nilIface 150 154 true).run Try.prog w = .ok (.tuple #[.agg #[.int .i64 0], .bool false]) w := by
  simp [Instr.typeAssert, run_underlying Try.underlying154, go_sem, Result.andThen]
theorem asH_group (w : World) (s : Int) (u : Value) : (Instr.typeAssert (.iface 159 (.agg #[.int .i64 s, u])) 150 154 true).run Try.prog w = .ok (.tuple #[.agg #[.int .i64 0], .bool false]) w := by
  simp [Instr.typeAssert, run_underlying Try.underlying154, go_sem, Result.andThen]
theorem asG_group (w : World) (s : Int) (u : Value) : (Instr.typeAssert (.iface 159 (.agg #[.int .i64 s, u])) 150 159 true).run Try.prog w = .ok (.tuple #[.agg #[.int .i64 s, u], .bool true]) w := by
  simp [Instr.typeAssert, run_underlying Try.underlying159, go_sem, Result.andThen]
theorem asG_nil (w : World) : (Instr.typeAssert .nilIface 150 159 true).run Try.prog w = .ok (.tuple #[.agg #[.int .i64 0, .slice none 0 0], .bool false]) w := by
  simp [Instr.typeAssert, run_underlying Try.underlying159, go_sem, Result.andThen]
theorem asG_head (w : World) (id : Int) : (Instr.typeAssert (.iface 154 (.agg #[.int .i64 id])) 150 159 true).run Try.prog w = .ok (.tuple #[.agg #[.int .i64 0, .slice none 0 0], .bool false]) w := by
  simp [Instr.typeAssert, run_underlying Try.underlying159, go_sem, Result.andThen]

/-- What a scan answers. -/
def ScanP (bs : List UInt8) (id : Int) (w : World) (e : Ending) (w' : World) : Prop :=
  Below w.heap.size w w' ∧ ∃ a cap, e = .returned (.agg #[.slice a (logJ bs id).groups.length cap, .int .i64 ((logJ bs id).good : Nat), .bool (logJ bs id).bound]) ∧ (tList tOps).rep (fun k => w.heap.size ≤ k ∧ k < w'.heap.size) w' [.slice a (logJ bs id).groups.length cap] (logJ bs id).groups
theorem logJ_none {bs : List UInt8} {id : Int} (h : ∀ n, nextJ bs ≠ (.header id, n)) : logJ bs id = ⟨[], 0, false⟩ := by
  unfold logJ
  split
  · rename_i h' n e
    split
    · rename_i he; subst he; exact absurd e (h n)
    · rfl
  · rfl
theorem logJ_head {bs : List UInt8} {id : Int} {n : Nat} (h : nextJ bs = (.header id, n)) : logJ bs id = ⟨(scanJ (bs.drop n) 0).1, n + (scanJ (bs.drop n) 0).2, true⟩ := by
  unfold logJ; rw [h]; simp
theorem nextJ_le {bs : List UInt8} {r : Rec} {n : Nat} (h : nextJ bs = (r, n)) : n ≤ bs.length := by
  unfold nextJ at h
  split at h
  · rename_i hE
    cases h
    exact (unf_le hE).1
  · cases h; omega
/-- Between two rounds: these groups have been told, so many bytes are behind. -/
structure ScanI (bs : List UInt8) (id : Int) (gs : List (List OpD)) (good : Nat) : Prop where
  log : logJ bs id = ⟨gs ++ (scanJ (bs.drop good) gs.length).1, good + (scanJ (bs.drop good) gs.length).2, true⟩
  le : good ≤ bs.length
  few : gs.length ≤ good
theorem ScanI.start {bs : List UInt8} {id : Int} {n : Nat} (h : nextJ bs = (.header id, n)) : ScanI bs id [] n := ⟨by rw [logJ_head h]; rfl, nextJ_le h, by simp⟩
theorem ScanI.step {bs : List UInt8} {id : Int} {gs : List (List OpD)} {good n : Nat} {l : List OpD} (h : ScanI bs id gs good) (hn : nextJ (bs.drop good) = (.group (gs.length + 1) l, n)) : ScanI bs id (gs ++ [l]) (good + n) ∧ 0 < n := by
  obtain ⟨-, -, -, h4, h5⟩ := nextJ_group_le hn
  rw [List.length_drop] at h5
  have h1 := h.le
  have h2 := h.few
  refine ⟨⟨?_, by omega, by simp; omega⟩, h4⟩
  rw [h.log, scanJ_step hn, List.drop_drop, show (gs ++ [l]).length = gs.length + 1 by simp]
  simp only [List.append_assoc, List.cons_append, List.nil_append]
  congr 1
  omega
theorem ScanI.stop {bs : List UInt8} {id : Int} {gs : List (List OpD)} {good : Nat} (h : ScanI bs id gs good) (hn : ∀ l n, nextJ (bs.drop good) ≠ (.group (gs.length + 1) l, n)) : logJ bs id = ⟨gs, good, true⟩ := by
  rw [h.log, scanJ_stop hn]; simp
theorem nextJ_head_len {bs : List UInt8} {id : Int} {n : Nat} (h : nextJ bs = (.header id, n)) : 8 ≤ bs.length := by
  unfold nextJ at h
  split at h
  · rename_i hE
    have := unf_le hE
    omega
  · cases h
theorem nextJ_nil : nextJ [] = (.none, 0) := rfl
/-- A variable's block of three cells, behind stores into all of them. -/
theorem put3 {w : World} {b : Nat} {x y z u v t : Value} {ty : TypeId} (h : w.heap[b]? = some (.cells #[x, y, z] ty (0, 0))) :
    let W := ((w.setCell ⟨b, 0, none⟩ u).setCell ⟨b, 1, none⟩ v).setCell ⟨b, 2, none⟩ t
    W.cell? ⟨b, 0, none⟩ = some u ∧ W.cell? ⟨b, 1, none⟩ = some v ∧ W.cell? ⟨b, 2, none⟩ = some t ∧ Upd (fun k => k = b) w W := by
  have h1 := setCell_heap (o := 0) (v := u) h
  have h2 := setCell_heap (o := 1) (v := v) h1
  have h3 := setCell_heap (o := 2) (v := t) h2
  rw [set3_0, set3_1, set3_2] at h3
  refine ⟨by simp [World.cell?, h3], by simp [World.cell?, h3], by simp [World.cell?, h3], Upd.setCells (M := fun k => k = b) rfl [u, v, t] 0 w⟩

set_option maxRecDepth 100000 in
set_option maxHeartbeats 64000000 in
theorem scan_any (a : Option Addr) (cap : Nat) (bs : List UInt8) (id : Int) (w : World) (h : BytesAt w a bs) (hcap : bs.length ≤ cap) (hc2 : (cap : Int) ≤ 9223372036854775807) (hl : bs.length ≤ 100000000) :
    Calls Try.prog 60 #[.slice a bs.length cap, .int .i64 id] w (ScanP bs id w) := by
  have hb0 : Below w.heap.size w (w.alloc (.cells #[.slice none 0 0, .int .i64 0, .bool false] 89)) := (Below.refl _ _).alloc (Nat.le_refl _) _
  have HB0 := hidden hb0
  have HQ := hidden (h.on' hb0)
  have HK0 : Hid ((w.alloc (.cells #[.slice none 0 0, .int .i64 0, .bool false] 89)).heap[w.heap.size]? = some (.cells #[.slice none 0 0, .int .i64 0, .bool false] 89 (0, 0))) := hidden (heap_alloc_new _ _)
  have hz0 : (w.alloc (.cells #[.slice none 0 0, .int .i64 0, .bool false] 89)).heap.size = w.heap.size + 1 := World.size_alloc _ _
  clear h hb0
  go_enter Try.func60, Try.ntmps60
  go_wp2_with fail
  generalize w.alloc (.cells #[.slice none 0 0, .int .i64 0, .bool false] 89) = W0 at *
  have HZ0 := hidden hz0
  have hrb : w.heap.size < W0.heap.size := by omega
  clear hz0
  with_reducible refine (next_any a cap bs W0 HQ.out hcap hc2 hl).mono ?_
  rintro e w1 ⟨hb, v, rfl, hr⟩
  have HB1 := hidden hb
  have HREC := hidden hr
  have hK1 : w1.heap[w.heap.size]? = some (.cells #[.slice none 0 0, .int .i64 0, .bool false] 89 (0, 0)) := (hb.block _ hrb).trans HK0.out
  have HK1 := hidden hK1
  have hrb1 : w.heap.size < w1.heap.size := Nat.lt_of_lt_of_le hrb hb.size
  have hah := asH_head
  have hag := asH_group
  have han := asH_nil
  clear hb hr hK1
  have fin : (∀ n, nextJ bs ≠ (.header id, n)) → ∀ W o, Below W0.heap.size W0 W → ScanP bs id w (.returned (.agg #[.slice none 0 0, .int .i64 0, .bool false])) ((((W.setCell ⟨w.heap.size, 0, none⟩ (.slice none 0 0)).setCell ⟨w.heap.size, 1, none⟩ (.int .i64 0)).setCell ⟨w.heap.size, 2, none⟩ (.bool false)).alloc o) ∧ ((((W.setCell ⟨w.heap.size, 0, none⟩ (.slice none 0 0)).setCell ⟨w.heap.size, 1, none⟩ (.int .i64 0)).setCell ⟨w.heap.size, 2, none⟩ (.bool false)).alloc o).cell? ⟨w.heap.size, 0, none⟩ = some (.slice none 0 0) ∧ ((((W.setCell ⟨w.heap.size, 0, none⟩ (.slice none 0 0)).setCell ⟨w.heap.size, 1, none⟩ (.int .i64 0)).setCell ⟨w.heap.size, 2, none⟩ (.bool false)).alloc o).cell? ⟨w.heap.size, 1, none⟩ = some (.int .i64 0) ∧ ((((W.setCell ⟨w.heap.size, 0, none⟩ (.slice none 0 0)).setCell ⟨w.heap.size, 1, none⟩ (.int .i64 0)).setCell ⟨w.heap.size, 2, none⟩ (.bool false)).alloc o).cell? ⟨w.heap.size, 2, none⟩ = some (.bool false) := by
    intro hno W o hW
    obtain ⟨g0, g1, g2, gu⟩ := put3 (u := .slice none 0 0) (v := .int .i64 0) (t := .bool false) ((hW.block _ hrb).trans HK0.out)
    have hlog := logJ_none hno
    have hn : ∀ X : World, Upd (fun _ => False) X (X.alloc o) := fun X => Upd.new _ _
    refine ⟨⟨?_, none, 0, by rw [hlog]; rfl, by rw [hlog]; exact list_nil_rep _ _ _⟩, (hn _).cell g0 (fun h => h), (hn _).cell g1 (fun h => h), (hn _).cell g2 (fun h => h)⟩
    exact (HB0.out.trans (hW.mono HB0.out.size)).trans ((gu.trans (hn _) (fun _ _ h => h.elim)).toBelow (by have := hW.size; omega) (fun k hk e => by omega))
  have FIN := hidden fin
  clear fin
  have r0 : w1.cell? ⟨w.heap.size, 0, none⟩ = some (.slice none 0 0) := by simp [World.cell?, HK1.out]
  have r1 : w1.cell? ⟨w.heap.size, 1, none⟩ = some (.int .i64 0) := by simp [World.cell?, HK1.out]
  have r2 : w1.cell? ⟨w.heap.size, 2, none⟩ = some (.bool false) := by simp [World.cell?, HK1.out]
  have rf : ∀ i, w1.frozen? ⟨w.heap.size, i, none⟩ = false := fun i => by simp [World.frozen?, HK1.out]
  obtain ⟨rec, nn, HN⟩ : ∃ r n, Hid (nextJ bs = (r, n)) := ⟨_, _, rfl⟩
  rw [HN.out] at HREC ⊢
  have hnb : nn ≤ bs.length := nextJ_le HN.out
  cases rec with
  | none =>
    have hv : v = .nilIface := HREC.out
    subst hv
    have HNO := hidden (FIN.out (fun n e => by rw [HN.out] at e; cases e) w1 (.cells #[.int .i64 0] 154) HB1.out)
    go_wp2_with fail
    obtain ⟨f1, f2, f3, f4⟩ := HNO.out
    exact bodyPost_ret (v := .agg #[.slice none 0 0, .int .i64 0, .bool false]) (by simp [results, Try.results60, go_sem, f2, f3, f4]) rfl f1
  | group s l =>
    obtain ⟨u, hv, -⟩ := HREC.out
    subst hv
    have HNO := hidden (FIN.out (fun n e => by rw [HN.out] at e; cases e) w1 (.cells #[.int .i64 0] 154) HB1.out)
    go_wp2_with fail
    obtain ⟨f1, f2, f3, f4⟩ := HNO.out
    exact bodyPost_ret (v := .agg #[.slice none 0 0, .int .i64 0, .bool false]) (by simp [results, Try.results60, go_sem, f2, f3, f4]) rfl f1
  | header h =>
    obtain ⟨hv, hh⟩ := HREC.out
    subst hv
    by_cases hne : h = id
    · subst hne
      have HI0 := hidden (ScanI.start HN.out)
      obtain ⟨WB, hWB⟩ : ∃ WB, (w1.alloc (.cells #[.int .i64 h] 154)).alloc (.cells #[.slice none 0 0, .int .i64 nn, .bool true] 89) = WB := ⟨_, rfl⟩
      have hz1 : WB.heap.size = w1.heap.size + 2 := by rw [← hWB]; simp [World.size_alloc]
      have hbB : Below w1.heap.size w1 WB := by
        rw [← hWB]; exact ((Below.refl _ _).alloc (Nat.le_refl _) _).alloc (by rw [World.size_alloc]; omega) _
      have HBB := hidden (HB1.out.trans (hbB.mono HB1.out.size))
      have HXB : Hid (WB.heap[w1.heap.size + 1]? = some (.cells #[.slice none 0 0, .int .i64 nn, .bool true] 89 (0, 0))) := hidden (by
        have := heap_alloc_new (w1.alloc (.cells #[.int .i64 h] 154)) (.cells #[.slice none 0 0, .int .i64 nn, .bool true] 89)
        rw [hWB, World.size_alloc] at this; exact this)
      have HKB : Hid (WB.heap[w.heap.size]? = some (.cells #[.slice none 0 0, .int .i64 0, .bool false] 89 (0, 0))) := hidden ((hbB.block _ hrb1).trans HK1.out)
      have HWB := hidden hWB
      have hag2 := asG_group
      have han2 := asG_nil
      have hah2 := asG_head
      have hw1s := HB1.out.size
      have HZZ := hidden hz1
      clear hWB hbB HREC
      go_wp2_with fail
      rw [HWB.out]
      clear hah hag han r0 r1 r2 rf
      obtain ⟨xb, hxb⟩ : ∃ xb, w1.heap.size + 1 = xb := ⟨_, rfl⟩
      rw [hxb] at HXB ⊢
      have hxW : xb < WB.heap.size := by omega
      have hwx : w.heap.size < xb := by omega
      have hWx : W0.heap.size ≤ xb := by omega
      clear hxb hz1
      have h8 := nextJ_head_len HN.out
      obtain ⟨b, o, rfl, -⟩ := HQ.out 0 (by omega)
      obtain ⟨i0, hi, hzz0, hzz1, hzz2⟩ := info_parts Try.infoT73
      have HINF := hidden (And.intro hi (And.intro hzz0 (And.intro hzz1 hzz2)))
      clear hi hzz0 hzz1 hzz2
      have hwB0 : W0.heap.size ≤ WB.heap.size := HBB.out.size
      go_loopg [10] (bs.length - nn) (fun k s10 wr => ∃ (gs : List (List OpD)) (a' : Option Addr) (cap' good : Nat), k = bs.length - good ∧ ScanI bs h gs good ∧ wr.heap[xb]? = some (.cells #[.slice a' gs.length cap', .int .i64 good, .bool true] 89 (0, 0)) ∧ OwnT tOps 73 WB.heap.size wr (.slice a' gs.length cap') gs ∧ Upd (fun k => k = xb) WB wr)
      case atStart => exact ⟨[], none, 0, nn, rfl, HI0.out, HXB.out, OwnT.nil _ _ _ _, Upd.refl _ _⟩
      case round =>
        obtain ⟨gs, a', cap', good, hgk, hI, hX, hO, hU⟩ := hrel
        have HI := hidden hI
        have HX := hidden hX
        have HO := hidden hO
        have HU := hidden hU
        have HGK := hidden hgk
        have hgl := hI.le
        have hgf := hI.few
        have hKr : wr.heap[w.heap.size]? = some (.cells #[.slice none 0 0, .int .i64 0, .bool false] 89 (0, 0)) := (hU.block _ (by omega) (by omega)).trans HKB.out
        have HKr := hidden hKr
        have hBr : Below W0.heap.size W0 wr := HBB.out.trans (hU.toBelow (by omega) (fun k hk e => by omega))
        have HBr := hidden hBr
        have hwb := hU.size
        have fin : logJ bs h = ⟨gs, good, true⟩ → ∀ W ob, Below wr.heap.size wr W → ScanP bs h w (.returned (.agg #[.slice a' gs.length cap', .int .i64 good, .bool true])) ((((W.setCell ⟨w.heap.size, 0, none⟩ (.slice a' gs.length cap')).setCell ⟨w.heap.size, 1, none⟩ (.int .i64 good)).setCell ⟨w.heap.size, 2, none⟩ (.bool true)).alloc ob) ∧ ((((W.setCell ⟨w.heap.size, 0, none⟩ (.slice a' gs.length cap')).setCell ⟨w.heap.size, 1, none⟩ (.int .i64 good)).setCell ⟨w.heap.size, 2, none⟩ (.bool true)).alloc ob).cell? ⟨w.heap.size, 0, none⟩ = some (.slice a' gs.length cap') ∧ ((((W.setCell ⟨w.heap.size, 0, none⟩ (.slice a' gs.length cap')).setCell ⟨w.heap.size, 1, none⟩ (.int .i64 good)).setCell ⟨w.heap.size, 2, none⟩ (.bool true)).alloc ob).cell? ⟨w.heap.size, 1, none⟩ = some (.int .i64 good) ∧ ((((W.setCell ⟨w.heap.size, 0, none⟩ (.slice a' gs.length cap')).setCell ⟨w.heap.size, 1, none⟩ (.int .i64 good)).setCell ⟨w.heap.size, 2, none⟩ (.bool true)).alloc ob).cell? ⟨w.heap.size, 2, none⟩ = some (.bool true) := by
          intro hlog W ob hW
          obtain ⟨g0, g1, g2, gu⟩ := put3 (u := .slice a' gs.length cap') (v := .int .i64 good) (t := .bool true) ((hW.block _ (by omega)).trans HKr.out)
          have hn : ∀ X : World, Upd (fun _ => False) X (X.alloc ob) := fun X => Upd.new _ _
          have hzW := hW.size
          have gu2 := gu.trans (hn _) (fun _ _ h => h.elim)
          have r1 := (tList tOps).upd ((tList tOps).upd HO.out.rep (Upd.ofNew (M := fun _ => False) hW) (fun _ _ h => h)) gu2 (fun k hk e => by have := hk.1; omega)
          have r2 := (tList tOps).mono r1 (S' := fun k => w.heap.size ≤ k ∧ k < ((((W.setCell ⟨w.heap.size, 0, none⟩ (.slice a' gs.length cap')).setCell ⟨w.heap.size, 1, none⟩ (.int .i64 good)).setCell ⟨w.heap.size, 2, none⟩ (.bool true)).alloc ob).heap.size) (fun k hk => ⟨by have := hk.1; omega, by have := hk.2; have := gu2.size; omega⟩)
          refine ⟨⟨?_, a', cap', by rw [hlog], by rw [hlog]; exact r2⟩, (hn _).cell g0 (fun h => h), (hn _).cell g1 (fun h => h), (hn _).cell g2 (fun h => h)⟩
          exact (HB0.out.trans (HBr.out.mono (by omega))).trans ((hW.mono (by omega)).trans (gu2.toBelow (by omega) (fun k hk e => by omega)))
        have FIN2 := hidden fin
        clear fin hI hX hO hU hgk hKr hBr FIN
        have c0 : wr.cell? ⟨xb, 0, none⟩ = some (.slice a' gs.length cap') := by simp [World.cell?, HX.out]
        have c1 : wr.cell? ⟨xb, 1, none⟩ = some (.int .i64 good) := by simp [World.cell?, HX.out]
        have HCX : Hid (∀ W, Below wr.heap.size wr W → W.cell? ⟨xb, 0, none⟩ = some (.slice a' gs.length cap') ∧ W.cell? ⟨xb, 1, none⟩ = some (.int .i64 good) ∧ W.cell? ⟨xb, 2, none⟩ = some (.bool true) ∧ (∀ i, W.frozen? ⟨xb, i, none⟩ = false) ∧ W.cell? ⟨w.heap.size, 0, none⟩ = some (.slice none 0 0) ∧ W.cell? ⟨w.heap.size, 1, none⟩ = some (.int .i64 0) ∧ W.cell? ⟨w.heap.size, 2, none⟩ = some (.bool false) ∧ (∀ i, W.frozen? ⟨w.heap.size, i, none⟩ = false)) := hidden (fun W hW => by
          have e1 := (hW.block xb (by omega)).trans HX.out
          have e2 := (hW.block w.heap.size (by omega)).trans HKr.out
          exact ⟨by simp [World.cell?, e1], by simp [World.cell?, e1], by simp [World.cell?, e1], fun i => by simp [World.frozen?, e1], by simp [World.cell?, e2], by simp [World.cell?, e2], by simp [World.cell?, e2], fun i => by simp [World.frozen?, e2]⟩)
        have HQr := hidden (HQ.out.on' HBr.out)
        by_cases hcg : cap = good
        · have HD : Hid (bs.drop good = []) := hidden (List.drop_of_length_le (by omega))
          have HNX : Hid (Calls Try.prog 97 #[.slice (some ⟨b, o, none⟩) (bs.length - good) 0] wr (NextP [] wr)) := hidden (by
            rw [show bs.length - good = 0 by omega]
            exact next_any _ 0 [] wr (bytes_nil _ _) (by simp) (by decide) (by simp))
          have HST := hidden (FIN2.out (HI.out.stop (fun l n e => by rw [HD.out, nextJ_nil] at e; cases e)))
          go_wp2_with fail
          with_reducible refine HNX.out.mono ?_
          rintro e w2 ⟨hb, v, rfl, hr⟩
          have hv : v = .nilIface := hr
          subst hv
          have HB2 := hidden hb
          have hs2 := hb.size
          rw [nextJ_nil]
          clear hb hr c0 c1 HNX
          obtain ⟨c0, c1, c2, cf, r0, r1, r2, rf⟩ := HCX.out w2 HB2.out
          have hx2 : xb < w2.heap.size := by omega
          have hx2n : xb ≠ w2.heap.size := by omega
          have hr2 : w.heap.size < w2.heap.size := by omega
          have hr2n : w.heap.size ≠ w2.heap.size := by omega
          have HNO := hidden (HST.out w2 (.cells #[.int .i64 0, .slice none 0 0] 159) HB2.out)
          go_wp2_with fail
          obtain ⟨f1, f2, f3, f4⟩ := HNO.out
          exact bodyPost_ret (v := .agg #[.slice a' gs.length cap', .int .i64 good, .bool true]) (by simp [results, Try.results60, go_sem, f2, f3, f4]) rfl f1
        · have HNX : Hid (Calls Try.prog 97 #[.slice (some ⟨b, o + good, none⟩) (bs.length - good) (cap - good)] wr (NextP (bs.drop good) wr)) := hidden (by
            have := next_any (some ⟨b, o + good, none⟩) (cap - good) (bs.drop good) wr (HQr.out.drop good) (by rw [List.length_drop]; omega) (by omega) (by rw [List.length_drop]; omega)
            rw [List.length_drop] at this; exact this)
          go_wp2_with fail
          with_reducible refine HNX.out.mono ?_
          rintro e w2 ⟨hb, v, rfl, hr⟩
          have HB2 := hidden hb
          have hs2 := hb.size
          have HREC := hidden hr
          clear hb hr c0 c1 HNX
          obtain ⟨c0, c1, c2, cf, r0, r1, r2, rf⟩ := HCX.out w2 HB2.out
          have hx2 : xb < w2.heap.size := by omega
          have hx2n : xb ≠ w2.heap.size := by omega
          have hr2 : w.heap.size < w2.heap.size := by omega
          have hr2n : w.heap.size ≠ w2.heap.size := by omega
          obtain ⟨rec2, n2, HN2⟩ : ∃ r n, Hid (nextJ (bs.drop good) = (r, n)) := ⟨_, _, rfl⟩
          rw [HN2.out] at HREC ⊢
          cases rec2 with
          | none =>
            have hv : v = .nilIface := HREC.out
            subst hv
            have HNO := hidden (FIN2.out (HI.out.stop (fun l n e => by rw [HN2.out] at e; cases e)) w2 (.cells #[.int .i64 0, .slice none 0 0] 159) HB2.out)
            go_wp2_with fail
            obtain ⟨f1, f2, f3, f4⟩ := HNO.out
            exact bodyPost_ret (v := .agg #[.slice a' gs.length cap', .int .i64 good, .bool true]) (by simp [results, Try.results60, go_sem, f2, f3, f4]) rfl f1
          | header h2 =>
            obtain ⟨hv, -⟩ := HREC.out
            subst hv
            have HNO := hidden (FIN2.out (HI.out.stop (fun l n e => by rw [HN2.out] at e; cases e)) w2 (.cells #[.int .i64 0, .slice none 0 0] 159) HB2.out)
            go_wp2_with fail
            obtain ⟨f1, f2, f3, f4⟩ := HNO.out
            exact bodyPost_ret (v := .agg #[.slice a' gs.length cap', .int .i64 good, .bool true]) (by simp [results, Try.results60, go_sem, f2, f3, f4]) rfl f1
          | group s l =>
            obtain ⟨u, hv, hrep, hok, hsb⟩ := HREC.out
            subst hv
            have hrep' := hrep
            obtain ⟨au, cu, hu, -⟩ := hrep'
            cases hu
            by_cases hseq : s = gs.length + 1
            · subst hseq
              have hst := HI.out.step HN2.out
              have HST := hidden hst.1
              have hn2 : 0 < n2 := hst.2
              have hn3 : good + n2 ≤ bs.length := hst.1.le
              have hlen1 : gs.length ≤ 100000000 := by omega
              have hUn : ∀ (X : World) (ob : Obj), Upd (fun _ => False) X (X.alloc ob) := fun X ob => Upd.new _ _
              have hUw : Upd (fun _ => False) wr w2 := Upd.ofNew HB2.out
              have hUA : Upd (fun _ => False) wr ((w2.alloc (.cells #[.int .i64 ((gs.length : Int) + 1), .slice au l.length cu] 159)).alloc (.cells #[.slice au l.length cu] 73)) := (hUw.trans (hUn _ _) (fun _ _ h => h)).trans (hUn _ _) (fun _ _ h => h)
              have hUB : Upd (fun _ => False) w2 ((w2.alloc (.cells #[.int .i64 ((gs.length : Int) + 1), .slice au l.length cu] 159)).alloc (.cells #[.slice au l.length cu] 73)) := (hUn _ _).trans (hUn _ _) (fun _ _ h => h)
              have HO2 := hidden (HO.out.on hUA (fun _ _ _ h => h))
              have HRN : Hid (((w2.alloc (.cells #[.int .i64 ((gs.length : Int) + 1), .slice au l.length cu] 159)).alloc (.cells #[.slice au l.length cu] 73)).rangeAt (w2.heap.size + 1) 0 [.slice au l.length cu]) := hidden (by
                have h := new_range (w2.alloc (.cells #[.int .i64 ((gs.length : Int) + 1), .slice au l.length cu] 159)) [.slice au l.length cu] 73
                rw [World.size_alloc] at h; exact h)
              have HLV : ∀ k, (Value.slice a' gs.length cap').ownBlock = some k → k < wr.heap.size := fun k hk => (HO.out.lt k hk).2
              have HRP : Hid (tOps.rep (fun k => WB.heap.size ≤ k ∧ k < ((w2.alloc (.cells #[.int .i64 ((gs.length : Int) + 1), .slice au l.length cu] 159)).alloc (.cells #[.slice au l.length cu] 73)).heap.size ∧ some k ≠ (Value.slice a' gs.length cap').ownBlock) ((w2.alloc (.cells #[.int .i64 ((gs.length : Int) + 1), .slice au l.length cu] 159)).alloc (.cells #[.slice au l.length cu] 73)) [.slice au l.length cu] l) := hidden (tOps.mono (tOps.upd hrep hUB (fun _ _ h => h)) (fun k hk => ⟨by have := hk.1; omega, Nat.lt_of_lt_of_le hk.2 hUB.size, fun e => by have := HLV k e.symm; have := hk.1; omega⟩))
              have HXL : Hid (gs.length ≤ 1000000000000) := hidden (by omega)
              have HXB2 : Hid ((gs.length + 1) * 24 ≤ 140737488355328) := hidden (by omega)
              have HBS : Hid (WB.heap.size ≤ ((w2.alloc (.cells #[.int .i64 ((gs.length : Int) + 1), .slice au l.length cu] 159)).alloc (.cells #[.slice au l.length cu] 73)).heap.size) := hidden (by have := hUB.size; omega)
              have HXA : Hid (((w2.alloc (.cells #[.int .i64 ((gs.length : Int) + 1), .slice au l.length cu] 159)).alloc (.cells #[.slice au l.length cu] 73)).heap[xb]? = some (.cells #[.slice a' gs.length cap', .int .i64 good, .bool true] 89 (0, 0))) := hidden ((hUA.block xb (by omega) (fun h => h)).trans HX.out)
              have HXZ : Hid (xb < ((w2.alloc (.cells #[.int .i64 ((gs.length : Int) + 1), .slice au l.length cu] 159)).alloc (.cells #[.slice au l.length cu] 73)).heap.size) := hidden (by have := hUB.size; omega)
              have HNX2 : Hid (¬ some xb = (Value.slice a' gs.length cap').ownBlock) := hidden (fun h => by have := (HO.out.lt _ h.symm).1; omega)
              have HUA := hidden hUA
              clear hst hUn hUw hUA hUB HLV hrep
              go_wp2_with (at_builtin; go_loud (refine wpList_append_T (A := tOps) rfl (.tmp 61) (.tmp 64) 87 rfl und87 HINF.out.1 HINF.out.2.1 HINF.out.2.2.1 HINF.out.2.2.2 rfl (by decide) (B := WB.heap.size) (v := .slice a' gs.length cap') (xs := gs) (x := l) rfl HO2.out (b := w2.heap.size + 1) (c := 1) rfl HRN.out HRP.out HXL.out HXB2.out HBS.out ?_); intro v4 w4 g; have G := hidden g; have HX4 := hidden ((g.upd.block xb HXZ.out HNX2.out).trans HXA.out); have q0 : w4.cell? ⟨xb, 0, none⟩ = some (.slice a' gs.length cap') := (by simp [World.cell?, HX4.out]); have q1 : w4.cell? ⟨xb, 1, none⟩ = some (.int .i64 good) := (by simp [World.cell?, HX4.out]); have qf : ∀ i, w4.frozen? ⟨xb, i, none⟩ = false := (fun i => by simp [World.frozen?, HX4.out]); obtain ⟨a4, c4, rfl⟩ := g.own.is; clear g)
              go_roundg (bs.length - (good + n2))
              case measure => have := HGK.out; omega
              case rel =>
                have hset : Upd (fun k => k = xb) w4 ((w4.setCell ⟨xb, 0, none⟩ (.slice a4 (gs ++ [l]).length c4)).setCell ⟨xb, 1, none⟩ (.int .i64 ((good + n2 : Nat) : Int))) := Upd.setCells (M := fun k => k = xb) rfl [.slice a4 (gs ++ [l]).length c4, .int .i64 ((good + n2 : Nat) : Int)] 0 w4
                have hX5 := setCell_heap (o := 1) (v := .int .i64 ((good + n2 : Nat) : Int)) (setCell_heap (o := 0) (v := .slice a4 (gs ++ [l]).length c4) HX4.out)
                rw [set3_0, set3_1] at hX5
                have hO5 := G.out.own.on hset (fun k hk _ e => by omega)
                have hU5 : Upd (fun k => k = xb) WB _ := ((HU.out.trans HUA.out (fun _ _ h => h.elim)).trans G.out.upd (fun k hk e => by have := (HO.out.lt k e.symm).1; omega)).trans hset (fun _ _ h => h)
                rw [show ((good + n2 : Nat) : Int) = (good : Int) + (n2 : Int) by omega] at hX5 hO5 hU5
                refine ⟨gs ++ [l], a4, c4, good + n2, rfl, HST.out, ?_, ?_, ?_⟩
                · rw [show (gs ++ [l]).length = gs.length + 1 by simp] at hX5 ⊢
                  rw [show ((good + n2 : Nat) : Int) = (good : Int) + (n2 : Int) by omega]
                  exact hX5
                · rw [show (gs ++ [l]).length = gs.length + 1 by simp] at hO5 ⊢
                  exact hO5
                · rw [show (gs ++ [l]).length = gs.length + 1 by simp] at hU5
                  exact hU5
            · have HNO := hidden (FIN2.out (HI.out.stop (fun l' n e => by rw [HN2.out] at e; cases e; exact hseq rfl)) w2 (.cells #[.int .i64 s, .slice au l.length cu] 159) HB2.out)
              have hseq' : (s != (gs.length : Int) + 1) = true := by rw [bne_iff_ne]; exact hseq
              clear hseq
              go_wp2_with fail
              obtain ⟨f1, f2, f3, f4⟩ := HNO.out
              exact bodyPost_ret (v := .agg #[.slice a' gs.length cap', .int .i64 good, .bool true]) (by simp [results, Try.results60, go_sem, f2, f3, f4]) rfl f1
    · have HNO := hidden (FIN.out (fun n e => by rw [HN.out] at e; cases e; exact hne rfl) w1 (.cells #[.int .i64 h] 154) HB1.out)
      have hne' : (h != id) = true := by rw [bne_iff_ne]; exact hne
      clear hne
      go_wp2_with fail
      obtain ⟨f1, f2, f3, f4⟩ := HNO.out
      exact bodyPost_ret (v := .agg #[.slice none 0 0, .int .i64 0, .bool false]) (by simp [results, Try.results60, go_sem, f2, f3, f4]) rfl f1
end Go.Proofs.Ytekmjegeiminnaa
