/- A journal's header and groups in bytes: the program's and the reference's, walked. -/
import Derived.Test.YtekmjegeiminnaaP7
import Derived.Test.YtekmjegeiminnaaE6
import Derived.Test.YtekmjegeiminnaaC8
import Derived.Deep.RegionLaw
import Derived.Test.YtekmjegeiminnaaF7
import Derived.Deep.CutRange
import Derived.Deep.LoopGhost
namespace Go.Proofs.Ytekmjegeiminnaa
open Go.RowKit
set_option linter.unusedVariables false
set_option linter.unusedSimpArgs false

/-- What a call that makes bytes answers. -/
def MadeB (bs : List UInt8) (w : World) (e : Ending) (w' : World) : Prop := Below w.heap.size w w' ∧ ∃ v, e = .returned v ∧ OwnB w.heap.size w' v bs
theorem MadeB.of {bs : List UInt8} {w w' : World} {v : Value} {B : Nat} (hb : Below w.heap.size w w') (ho : OwnB B w' v bs) (hB : w.heap.size ≤ B) : MadeB bs w (.returned v) w' := ⟨hb, v, rfl, ho.weaken hB⟩
theorem ints2_new {w : World} {x y : Int} : IntsAt (w.alloc (.cells #[.int .i64 x, .int .i64 y] 3)) (some ⟨w.heap.size, 0, none⟩) [x, y] := ints_new rfl _ rfl
theorem ints1_new {w : World} {x : Int} : IntsAt (w.alloc (.cells #[.int .i64 x] 3)) (some ⟨w.heap.size, 0, none⟩) [x] := ints_new rfl _ rfl
theorem h64_one {x : Int} (h : I64 x) : ∀ y ∈ [x], I64 y := fun y hy => by rw [List.mem_singleton] at hy; subst hy; exact h

set_option maxRecDepth 100000 in
set_option maxHeartbeats 8000000 in
theorem content_head (id : Int) (w : World) (hid : -9223372036854775808 ≤ id ∧ id ≤ 9223372036854775807) : Calls Try.prog 100 #[.agg #[.int .i64 id]] w (MadeB (encI [7, id]) w) := by
  have HX := hidden (h64_head hid)
  have HB1 : Hid (Below w.heap.size w (w.alloc (.cells #[.int .i64 id] 154))) := hidden ((Below.refl _ _).alloc (Nat.le_refl _) _)
  have HI : Hid (IntsAt ((w.alloc (.cells #[.int .i64 id] 154)).alloc (.cells #[.int .i64 7, .int .i64 id] 3)) (some ⟨w.heap.size + 1, 0, none⟩) [7, id]) := hidden (by have := ints2_new (w := w.alloc (.cells #[.int .i64 id] 154)) (x := 7) (y := id); rw [World.size_alloc] at this; exact this)
  have HB2 : Hid (Below w.heap.size w ((w.alloc (.cells #[.int .i64 id] 154)).alloc (.cells #[.int .i64 7, .int .i64 id] 3))) := hidden (HB1.out.alloc HB1.out.size _)
  go_enter Try.func100, Try.ntmps100
  go_wp2_with fail
  generalize ((w.alloc (.cells #[.int .i64 id] 154)).alloc (.cells #[.int .i64 7, .int .i64 id] 3)) = w1 at *
  with_reducible refine (ints_any (some ⟨w.heap.size + 1, 0, none⟩) 2 2 [7, id] w1 HX.out HI.out rfl (by omega) (by simp)).mono ?_
  rintro e w2 ⟨hb, v, rfl, ho⟩
  have HE := hidden (MadeB.of (HB2.out.trans (hb.mono HB2.out.size)) ho HB2.out.size)
  clear hb ho
  go_wp2_with fail
  go_ret
  exact HE.out

set_option maxRecDepth 100000 in
set_option maxHeartbeats 8000000 in
theorem begin_any (id : Int) (w : World) (hid : -9223372036854775808 ≤ id ∧ id ≤ 9223372036854775807) : Calls Try.prog 62 #[.int .i64 id] w (MadeB (headJ id) w) := by
  have HS := hidden (head_small hid).1
  have HID := hidden hid
  clear hid
  go_enter Try.func62, Try.ntmps62
  go_wp2_with fail
  with_reducible refine (content_head id w HID.out).mono ?_
  rintro e w1 ⟨hb, v, rfl, ho⟩
  obtain ⟨a, c, rfl, q, hc, -⟩ := ho.reads
  have HB := hidden hb
  have Q := hidden q
  have hl : (encI [7, id]).length ≤ 140737488351232 := by have := HS.out; omega
  generalize hfs : encI [7, id] = fs at Q HS hl
  have HFS : Hid (frameL fs = headJ id) := hidden (by rw [← hfs]; rfl)
  clear hb q ho hfs
  go_wp2_with fail
  with_reducible refine (frame_any a _ c fs w1 Q.out rfl hl).mono ?_
  rintro e w2 ⟨hb, v2, rfl, ho⟩
  rw [if_pos HS.out, HFS.out] at ho
  have HE := hidden (MadeB.of (HB.out.trans (hb.mono HB.out.size)) ho HB.out.size)
  clear hb ho
  go_wp2_with fail
  go_ret
  exact HE.out

set_option maxRecDepth 100000 in
set_option maxHeartbeats 8000000 in
theorem begin_ref (id : Int) (w : World) (hid : -9223372036854775808 ≤ id ∧ id ≤ 9223372036854775807) : Calls Try.prog 63 #[.int .i64 id] w (MadeB (headJ id) w) := by
  have HS := hidden (head_small hid).1
  have HX := hidden (h64_head hid)
  have HI : Hid (IntsAt (w.alloc (.cells #[.int .i64 7, .int .i64 id] 3)) (some ⟨w.heap.size, 0, none⟩) [7, id]) := hidden ints2_new
  have HB1 : Hid (Below w.heap.size w (w.alloc (.cells #[.int .i64 7, .int .i64 id] 3))) := hidden ((Below.refl _ _).alloc (Nat.le_refl _) _)
  go_enter Try.func63, Try.ntmps63
  go_wp2_with fail
  with_reducible refine (refints (some ⟨w.heap.size, 0, none⟩) 2 2 [7, id] _ HX.out HI.out rfl (by omega) (by simp)).mono ?_
  rintro e w1 ⟨hb, v, rfl, ho⟩
  obtain ⟨a, c, rfl, q, hc, -⟩ := ho.reads
  have HB := hidden (HB1.out.trans (hb.mono HB1.out.size))
  have Q := hidden q
  have hl : (encI [7, id]).length ≤ 140737488351232 := by have := HS.out; omega
  generalize hfs : encI [7, id] = fs at Q HS hl
  have HFS : Hid (frameL fs = headJ id) := hidden (by rw [← hfs]; rfl)
  clear hb q ho hfs
  go_wp2_with fail
  with_reducible refine (frame_ref a _ c fs w1 Q.out rfl hl).mono ?_
  rintro e w2 ⟨hb, v2, rfl, ho⟩
  rw [if_pos HS.out, HFS.out] at ho
  have HE := hidden (MadeB.of (HB.out.trans (hb.mono HB.out.size)) ho HB.out.size)
  clear hb ho
  go_wp2_with fail
  go_ret
  exact HE.out

set_option maxRecDepth 100000 in
set_option maxHeartbeats 16000000 in
theorem content_group (seq : Int) (v0 : Value) (l : List OpD) (w : World) (hs : -9223372036854775808 ≤ seq ∧ seq ≤ 9223372036854775807) (hr : tOps.rep (· < w.heap.size) w [v0] l) (hok : tOps.cod.ok l) (hl : (tOps.cod.enc l).length ≤ 100000000000) :
    Calls Try.prog 101 #[.agg #[.int .i64 seq, v0]] w (MadeB (contJ seq l) w) := by
  have HX := hidden (h64_one hs)
  have HL := hidden (encI_len (h64_one hs) (by simp))
  have hr' := hr
  obtain ⟨a, cap, hv, -⟩ := hr'
  cases hv
  have hb1 : Below w.heap.size w (w.alloc (.cells #[.int .i64 seq, .slice a l.length cap] 159)) := (Below.refl _ _).alloc (Nat.le_refl _) _
  have HB1 := hidden hb1
  have HR := hidden (rep_on hr hb1)
  have HOK := hidden hok
  have hc0 : (w.alloc (.cells #[.int .i64 seq, .slice a l.length cap] 159)).cell? ⟨w.heap.size, 0, none⟩ = some (.int .i64 seq) := new_range w [.int .i64 seq, .slice a l.length cap] 159 0 _ rfl
  have hc1 : (w.alloc (.cells #[.int .i64 seq, .slice a l.length cap] 159)).cell? ⟨w.heap.size, 1, none⟩ = some (.slice a l.length cap) := new_range w [.int .i64 seq, .slice a l.length cap] 159 1 _ rfl
  have HC := hidden (And.intro hc0 hc1)
  have hgl : w.heap.size < (w.alloc (.cells #[.int .i64 seq, .slice a l.length cap] 159)).heap.size := by rw [World.size_alloc]; omega
  clear hr hok hb1 hc0 hc1
  go_enter Try.func101, Try.ntmps101
  go_wp2_with fail
  generalize w.alloc (.cells #[.int .i64 seq, .slice a l.length cap] 159) = w1 at *
  generalize hg : w.heap.size = g at *
  have HFR : Hid (∀ W, Below w1.heap.size w1 W → W.cell? ⟨g, 0, none⟩ = some (.int .i64 seq) ∧ W.cell? ⟨g, 1, none⟩ = some (.slice a l.length cap)) := hidden (fun W hW => ⟨(hW.cell (p := ⟨g, 0, none⟩) hgl).trans HC.out.1, (hW.cell (p := ⟨g, 1, none⟩) hgl).trans HC.out.2⟩)
  have HI : Hid (IntsAt (w1.alloc (.cells #[.int .i64 seq] 3)).drew (some ⟨w1.heap.size, 0, none⟩) [seq]) := hidden ((ints1_new (w := w1)).on' (below_drew _))
  have HB2 : Hid (Below w1.heap.size w1 (w1.alloc (.cells #[.int .i64 seq] 3)).drew) := hidden (below_dn ((Below.refl _ _).alloc (Nat.le_refl _) _) 1)
  obtain ⟨k0, k1⟩ := HFR.out _ (Below.refl _ w1)
  have hgd : g < w1.drew.heap.size := hgl
  obtain ⟨fs, HFS⟩ : ∃ fs, Hid (encI [seq] = fs) := ⟨_, rfl⟩
  obtain ⟨gs, HGS⟩ : ∃ gs, Hid (tOps.cod.enc l = gs) := ⟨_, rfl⟩
  have hlf : fs.length ≤ 20 := by rw [← HFS.out]; exact HL.out
  have hlg : gs.length ≤ 100000000000 := by rw [← HGS.out]; exact hl
  have HLE : Hid (fs.length + gs.length ≤ 140737488355328) := hidden (by omega)
  have HCI : Hid (∀ W a, IntsAt W a [seq] → Calls Try.prog 28 #[.slice a 1 1] W fun e w' => Below W.heap.size W w' ∧ ∃ v, e = .returned v ∧ OwnB W.heap.size w' v fs) := hidden (fun W a h => by rw [← HFS.out]; exact ints_any a 1 1 [seq] W HX.out h rfl (by omega) (by simp))
  have HCO : Hid (∀ W, Below w1.heap.size w1 W → Calls Try.prog 50 #[.slice a l.length cap] W fun e w' => Below W.heap.size W w' ∧ ∃ v, e = .returned v ∧ OwnB W.heap.size w' v gs) := hidden (fun W h => by rw [← HGS.out]; exact ops_any _ l W (rep_on HR.out h) HOK.out (by omega))
  have HE : Hid (fs ++ gs = contJ seq l) := hidden (by rw [← HFS.out, ← HGS.out]; rfl)
  clear hl
  go_region_law (first
    | (refine step_append_B rfl (.tmp 6) (.tmp 9) rfl (by rfl) O2.out (by rfl) rfl Q3.out HLE.out ZB.out ?_; intro v4 w4 g4; have G4 := hidden g4; clear g4)
    | (go_simp; go_at_call 28; (with_reducible refine (HCI.out _ _ HI.out).mono ?_); rintro e w2 ⟨hb, v2, rfl, ho⟩; have O1 := hidden ho; have Z1 := hidden hb.size; have BB := hidden (HB2.out.trans (hb.mono HB2.out.size)); obtain ⟨a2, c2, rfl, -, -, -⟩ := ho.reads; clear hb ho k0 k1; obtain ⟨k0, k1⟩ := HFR.out _ BB.out)
    | (go_simp; go_at_call 50; (with_reducible refine (HCO.out _ BB.out).mono ?_); rintro e w3 ⟨hb, v3, rfl, ho⟩; obtain ⟨a3, c3, rfl, q3, -, -⟩ := ho.reads; have Q3 := hidden q3; have O2 := hidden (O1.out.on (Upd.ofNew (M := fun _ => False) hb) (fun _ _ h => h)); have ZB := hidden (Nat.le_trans Z1.out hb.size); have B3 := hidden (BB.out.trans (hb.mono BB.out.size)); clear hb ho q3)
    | fail)
  all_goals
    go_wp2_with fail
    go_ret
    have ho := G4.out.own
    rw [HE.out] at ho
    have h2 : w1.heap.size ≤ (w1.alloc (.cells #[.int .i64 seq] 3)).drew.heap.size := HB2.out.size
    have hb4 : Below w1.heap.size w1 _ := B3.out.trans (G4.out.below (C := w1.heap.size) B3.out.size (fun k hk => by have := (O2.out.lt k hk).1; omega))
    refine ⟨?_, v4, rfl, ho.weaken (by omega)⟩
    rw [hg]
    exact HB1.out.trans (hb4.mono (by have := HB1.out.size; omega))

/-- What Group answers. -/
def GroupP (seq : Int) (l : List OpD) (w : World) (e : Ending) (w' : World) : Prop :=
  Below w.heap.size w w' ∧ ∃ v, e = .returned (.tuple #[v, .int .i64 ((groupJ seq l).2 : Nat)]) ∧ OwnB w.heap.size w' v (groupJ seq l).1
theorem GroupP.err {seq : Int} {l : List OpD} {w w' : World} {k : Nat} (hb : Below w.heap.size w w') (h : groupJ seq l = ([], k)) {m : Int} (hm : m = k) : GroupP seq l w (.returned (.tuple #[.slice none 0 0, .int .i64 m])) w' := by
  subst hm
  exact ⟨hb, _, by rw [h], by rw [h]; exact OwnB.nil _ _⟩
theorem groupJ_arg {seq : Int} {l : List OpD} (h : seq < 1 ∨ l.length = 0) : groupJ seq l = ([], 2) := by
  unfold groupJ
  rw [if_pos (h.imp id List.eq_nil_of_length_eq_zero)]
theorem groupJ_go {seq : Int} {l : List OpD} (h1 : ¬ seq < 1) (h2 : ¬ l.length = 0) : groupJ seq l = if 131072 < (contJ seq l).length then ([], 9) else (frameL (contJ seq l), 0) := by
  unfold groupJ
  rw [if_neg (by rintro (h | h); exact h1 h; exact h2 (by rw [h]; rfl))]
theorem contJ_len {seq : Int} {l : List OpD} (hs : I64 seq) (hl : (tOps.cod.enc l).length ≤ 100000000000) : (contJ seq l).length ≤ 100000000020 := by
  have := encI_len (h64_one hs) (by simp)
  unfold contJ
  rw [List.length_append]
  simp only [List.length_cons, List.length_nil] at this
  omega

set_option maxRecDepth 100000 in
set_option maxHeartbeats 16000000 in
theorem group_any (seq : Int) (v0 : Value) (l : List OpD) (w : World) (hs : -9223372036854775808 ≤ seq ∧ seq ≤ 9223372036854775807) (hr : tOps.rep (· < w.heap.size) w [v0] l) (hok : tOps.cod.ok l) (hl : (tOps.cod.enc l).length ≤ 100000000000) :
    Calls Try.prog 64 #[.int .i64 seq, v0] w (GroupP seq l w) := by
  have hr' := hr
  obtain ⟨a, cap, hv, -⟩ := hr'
  cases hv
  have HR := hidden hr
  have HOK := hidden hok
  clear hr hok
  by_cases hs1 : seq < 1
  · have HA := hidden (groupJ_arg (l := l) (.inl hs1))
    go_enter Try.func64, Try.ntmps64
    go_wp2_with fail
    go_ret2
    exact GroupP.err (Below.refl _ _) HA.out rfl
  · by_cases hl0 : l.length = 0
    · have HA := hidden (groupJ_arg (seq := seq) (.inr hl0))
      have hl0' : ((l.length : Int) == 0) = true := by rw [beq_iff_eq]; omega
      have HL0 := hidden hl0
      clear hl0
      go_enter Try.func64, Try.ntmps64
      go_wp2_with fail
      go_ret2
      exact GroupP.err (Below.refl _ _) HA.out rfl
    · have HG := hidden (groupJ_go hs1 hl0)
      have hl0' : ((l.length : Int) == 0) = false := by rw [beq_eq_false_iff_ne]; omega
      have hcl := contJ_len hs hl
      clear hl0
      have HCC : Hid (Calls Try.prog 101 #[.agg #[.int .i64 seq, .slice a l.length cap]] w (MadeB (contJ seq l) w)) := hidden (content_group seq _ l w hs HR.out HOK.out hl)
      go_enter Try.func64, Try.ntmps64
      go_wp2_with fail
      with_reducible refine HCC.out.mono ?_
      rintro e w1 ⟨hb, v, rfl, ho⟩
      clear HCC
      obtain ⟨a1, c1, rfl, q, hc, -⟩ := ho.reads
      have Q := hidden q
      have HB := hidden hb
      clear q ho hb
      by_cases hbig : 131072 < (contJ seq l).length
      · have HA : Hid (groupJ seq l = ([], 9)) := hidden (by rw [HG.out, if_pos hbig])
        go_wp2_with fail
        go_ret2
        exact GroupP.err HB.out HA.out rfl
      · have HA : Hid (groupJ seq l = (frameL (contJ seq l), 0)) := hidden (by rw [HG.out, if_neg hbig])
        have hcl2 : (contJ seq l).length ≤ 140737488351232 := by omega
        have HSM : Hid ((contJ seq l).length ≤ 131072) := hidden (by omega)
        have HFR : Hid (Calls Try.prog 23 #[.slice a1 (contJ seq l).length c1] w1 (Framed (contJ seq l) w1)) := hidden (frame_any a1 _ c1 (contJ seq l) w1 Q.out rfl hcl2)
        go_wp2_with fail
        with_reducible refine HFR.out.mono ?_
        rintro e w3 ⟨hb, v2, rfl, ho⟩
        rw [if_pos HSM.out] at ho
        have HE : Hid (GroupP seq l w (.returned (.tuple #[v2, .int .i64 0])) w3) := hidden ⟨HB.out.trans (hb.mono HB.out.size), v2, by rw [HA.out]; rfl, by rw [HA.out]; exact ho.weaken HB.out.size⟩
        clear hb ho HFR
        go_wp2_with fail
        go_ret2
        exact HE.out

set_option maxRecDepth 100000 in
set_option maxHeartbeats 16000000 in
theorem group_ref (seq : Int) (v0 : Value) (l : List OpD) (w : World) (hs : -9223372036854775808 ≤ seq ∧ seq ≤ 9223372036854775807) (hr : tOps.rep (· < w.heap.size) w [v0] l) (hok : tOps.cod.ok l) (hl : (tOps.cod.enc l).length ≤ 100000000000) :
    Calls Try.prog 65 #[.int .i64 seq, v0] w (GroupP seq l w) := by
  have hr' := hr
  obtain ⟨a, cap, hv, -⟩ := hr'
  cases hv
  have HR := hidden hr
  have HOK := hidden hok
  clear hr hok
  by_cases hs1 : seq < 1
  · have HA := hidden (groupJ_arg (l := l) (.inl hs1))
    go_enter Try.func65, Try.ntmps65
    go_wp2_with fail
    go_ret2
    exact GroupP.err (Below.refl _ _) HA.out rfl
  · by_cases hl0 : l.length = 0
    · have HA := hidden (groupJ_arg (seq := seq) (.inr hl0))
      have hl0' : ((l.length : Int) == 0) = true := by rw [beq_iff_eq]; omega
      have HL0 := hidden hl0
      clear hl0
      go_enter Try.func65, Try.ntmps65
      go_wp2_with fail
      go_ret2
      exact GroupP.err (Below.refl _ _) HA.out rfl
    · have HG := hidden (groupJ_go hs1 hl0)
      have hl0' : ((l.length : Int) == 0) = false := by rw [beq_eq_false_iff_ne]; omega
      have hcl := contJ_len hs hl
      clear hl0
      have HX := hidden (h64_one hs)
      have HL := hidden (encI_len (h64_one hs) (by simp))
      have HI : Hid (IntsAt (w.alloc (.cells #[.int .i64 seq] 3)) (some ⟨w.heap.size, 0, none⟩) [seq]) := hidden ints1_new
      have HB1 : Hid (Below w.heap.size w (w.alloc (.cells #[.int .i64 seq] 3))) := hidden ((Below.refl _ _).alloc (Nat.le_refl _) _)
      obtain ⟨fs, HFS⟩ : ∃ fs, Hid (encI [seq] = fs) := ⟨_, rfl⟩
      obtain ⟨gs, HGS⟩ : ∃ gs, Hid (tOps.cod.enc l = gs) := ⟨_, rfl⟩
      have hlf : fs.length ≤ 20 := by rw [← HFS.out]; exact HL.out
      have hlg : gs.length ≤ 100000000000 := by rw [← HGS.out]; exact hl
      have HLE : Hid (fs.length + gs.length ≤ 140737488355328) := hidden (by omega)
      have HCI : Hid (∀ W a, IntsAt W a [seq] → Calls Try.prog 30 #[.slice a 1 1] W fun e w' => Below W.heap.size W w' ∧ ∃ v, e = .returned v ∧ OwnB W.heap.size w' v fs) := hidden (fun W a h => by rw [← HFS.out]; exact refints a 1 1 [seq] W HX.out h rfl (by omega) (by simp))
      have HCO : Hid (∀ W, Below w.heap.size w W → Calls Try.prog 51 #[.slice a l.length cap] W fun e w' => Below W.heap.size W w' ∧ ∃ v, e = .returned v ∧ OwnB W.heap.size w' v gs) := hidden (fun W h => by rw [← HGS.out]; exact refops _ l W (rep_on HR.out h) HOK.out (by omega))
      have HE : Hid (fs ++ gs = contJ seq l) := hidden (by rw [← HFS.out, ← HGS.out]; rfl)
      clear hl
      go_enter Try.func65, Try.ntmps65
      go_wp2_with fail
      with_reducible refine (HCI.out _ _ HI.out).mono ?_
      rintro e w1 ⟨hb, v, rfl, ho⟩
      have O1 := hidden ho
      have Z1 := hidden hb.size
      have B1 := hidden (HB1.out.trans (hb.mono HB1.out.size))
      obtain ⟨a1, c1, rfl, -, -, -⟩ := ho.reads
      clear ho hb
      go_wp2_with fail
      with_reducible refine (HCO.out _ B1.out).mono ?_
      rintro e w2 ⟨hb, v, rfl, ho⟩
      have O2 := hidden (O1.out.on (Upd.ofNew (M := fun _ => False) hb) (fun _ _ h => h))
      have Z2 := hidden (Nat.le_trans Z1.out hb.size)
      have B2 := hidden (B1.out.trans (hb.mono B1.out.size))
      obtain ⟨a2, c2, rfl, q2, -, -⟩ := ho.reads
      have Q2 := hidden q2
      clear ho hb q2
      by_cases hbig : 131072 < (contJ seq l).length
      · have HA : Hid (groupJ seq l = ([], 9)) := hidden (by rw [HG.out, if_pos hbig])
        go_wp2_with (at_builtin; go_loud (refine wpList_append_B rfl (.tmp 16) (.tmp 18) rfl rfl O2.out rfl rfl Q2.out HLE.out Z2.out ?_); intro v4 w4 g4; rw [HE.out] at g4; have G4 := hidden g4; obtain ⟨a3, c3, rfl, q, hc, -⟩ := g4.own.reads; clear g4)
        have hz1 : (w.alloc (.cells #[.int .i64 seq] 3)).heap.size = w.heap.size + 1 := World.size_alloc _ _
        have HB : Hid (Below w.heap.size w w4) := hidden (B2.out.trans (G4.out.below (C := w.heap.size) B2.out.size (fun k hk => by have := (O2.out.lt k hk).1; omega)))
        clear hz1
        go_ret2
        exact GroupP.err HB.out HA.out rfl
      · have HA : Hid (groupJ seq l = (frameL (contJ seq l), 0)) := hidden (by rw [HG.out, if_neg hbig])
        have hcl2 : (contJ seq l).length ≤ 140737488351232 := by omega
        have HSM : Hid ((contJ seq l).length ≤ 131072) := hidden (by omega)
        go_wp2_with (at_builtin; go_loud (refine wpList_append_B rfl (.tmp 16) (.tmp 18) rfl rfl O2.out rfl rfl Q2.out HLE.out Z2.out ?_); intro v4 w4 g4; rw [HE.out] at g4; have G4 := hidden g4; obtain ⟨a3, c3, rfl, q, hc, -⟩ := g4.own.reads; clear g4)
        have hz1 : (w.alloc (.cells #[.int .i64 seq] 3)).heap.size = w.heap.size + 1 := World.size_alloc _ _
        have HB : Hid (Below w.heap.size w w4) := hidden (B2.out.trans (G4.out.below (C := w.heap.size) B2.out.size (fun k hk => by have := (O2.out.lt k hk).1; omega)))
        clear hz1
        with_reducible refine (frame_ref a3 _ c3 (contJ seq l) w4 q rfl hcl2).mono ?_
        rintro e w5 ⟨hb, v2, rfl, ho⟩
        rw [if_pos HSM.out] at ho
        have HF : Hid (GroupP seq l w (.returned (.tuple #[v2, .int .i64 0])) w5) := hidden ⟨HB.out.trans (hb.mono HB.out.size), v2, by rw [HA.out]; rfl, by rw [HA.out]; exact ho.weaken HB.out.size⟩
        clear hb ho
        go_wp2_with fail
        go_ret2
        exact HF.out
end Go.Proofs.Ytekmjegeiminnaa

/- The program's parse and next, walked. -/
namespace Go.Proofs.Ytekmjegeiminnaa
open Go.RowKit
set_option linter.unusedVariables false
set_option linter.unusedSimpArgs false

/-- A record in an interface value. -/
def RecAt (S : Nat → Prop) (w : World) (v : Value) : Rec → Prop
  | .none => v = .nilIface
  | .header id => v = .iface 154 (.agg #[.int .i64 id]) ∧ (-9223372036854775808 ≤ id ∧ id ≤ 9223372036854775807)
  | .group s l => ∃ u, v = .iface 159 (.agg #[.int .i64 s, u]) ∧ tOps.rep S w [u] l ∧ tOps.cod.ok l ∧ (-9223372036854775808 ≤ s ∧ s ≤ 9223372036854775807)
def ParseP (bs : List UInt8) (w : World) (e : Ending) (w' : World) : Prop :=
  Below w.heap.size w w' ∧ ∃ v, e = .returned v ∧ RecAt (fun k => w.heap.size ≤ k ∧ k < w'.heap.size) w' v (parseJ bs)
/-- Are these ints a header's? -/
def hdrB (c : Int) (X : List Int) : Bool := decide (c = 0) && match X with
  | [m, _] => decide (m = 7)
  | _ => false
theorem hdrB_true {bs : List UInt8} {c : Int} {X : List Int} (h : IntsAns bs c X) (hb : hdrB c X = true) : ∃ id, X = [7, id] ∧ readI bs = some [7, id] := by
  unfold hdrB at hb
  rw [Bool.and_eq_true] at hb
  obtain ⟨h1, h2⟩ := hb
  have h1 : c = 0 := by simpa using h1
  match X, h, h2 with
  | [m, id], h, h2 =>
    have h2 : m = 7 := by simpa using h2
    subst h2
    rcases h with ⟨-, h⟩ | ⟨e, -, -⟩
    · exact ⟨id, rfl, h⟩
    · omega
theorem hdrB_false {bs : List UInt8} {c : Int} {X : List Int} (h : IntsAns bs c X) (hb : hdrB c X = false) : ∀ id, readI bs ≠ some [7, id] := by
  intro id hr
  rcases h with ⟨rfl, h⟩ | ⟨-, h, -⟩
  · rw [hr] at h
    cases h
    simp [hdrB] at hb
  · rw [hr] at h; cases h

theorem ReadO.ans' {bs : List UInt8} {w w' : World} {e : Ending} (h : ReadO bs w e w') : Below w.heap.size w w' ∧ ∃ (c : Int) (X : List OpD) (a1 : Option Addr) (l1 c1 : Nat), e = .returned (.tuple #[.slice a1 l1 c1, .int .i64 c]) ∧ tOps.rep (fun k => w.heap.size ≤ k ∧ k < w'.heap.size) w' [.slice a1 l1 c1] X ∧ tOps.cod.ok X ∧ ((c = 0 ∧ whole tOps.cod bs = some X) ∨ (c = 12 ∧ whole tOps.cod bs = none)) := by
  obtain ⟨hb, ⟨X, v, hw, rfl, hr⟩ | ⟨hw, rfl⟩⟩ := h
  · obtain ⟨e1, e2⟩ := enc_whole _ hw
    have hr' := hr
    obtain ⟨a1, c1, hv, -⟩ := hr'
    cases hv
    exact ⟨hb, 0, X, a1, _, c1, rfl, hr, e2, .inl ⟨rfl, hw⟩⟩
  · exact ⟨hb, 12, [], none, 0, 0, rfl, list_nil_rep _ _ _, ⟨by simp, fun x hx => by cases hx⟩, .inr ⟨rfl, hw⟩⟩

set_option maxRecDepth 100000 in
set_option maxHeartbeats 32000000 in
theorem parse_any (a : Option Addr) (cap : Nat) (bs : List UInt8) (w : World) (h : BytesAt w a bs) (hcap : bs.length ≤ cap) (hc2 : (cap : Int) ≤ 9223372036854775807) (hl : bs.length ≤ 100000000) (ha : ∀ A, a = some A → A.block < w.heap.size) :
    Calls Try.prog 119 #[.slice a bs.length cap] w (ParseP bs w) := by
  have HQ := hidden h
  have HA := hidden ha
  clear h ha
  go_enter Try.func119, Try.ntmps119
  go_wp2_with fail
  with_reducible refine (readints_any a _ cap bs w HQ.out rfl hcap hc2 (by omega) HA.out).mono ?_
  rintro e w1 hr
  obtain ⟨hb, c, X, v, rfl, ⟨ax, cx, rfl, ix, hlx⟩, hans⟩ := ReadI.ans hr
  have HB1 := hidden hb
  have HX := hidden ix
  have HANS := hidden hans
  clear hr hb ix hans
  go_upto_region 2 with fail
  go_cut [27] from 15 to 26 (fun s27 wx => s27 = .bool (hdrB c X) ∧ wx = w1)
  case first =>
    rcases HANS.out with ⟨rfl, -⟩ | ⟨rfl, -, rfl⟩
    · by_cases h2 : X.length = 2
      · match X, h2 with
        | [m, id], _ =>
          obtain ⟨b, o, rfl, hc0⟩ := HX.out 0 (by simp)
          simp only [Nat.add_zero, List.getElem_cons_zero] at hc0
          by_cases hm : m = 7
          · subst hm
            go_wp2_with fail
            go_meet
            exact ⟨by simp [hdrB], rfl⟩
          · have hm' : (m == 7) = false := by rw [beq_eq_false_iff_ne]; exact hm
            clear hm
            go_wp2_with fail
            go_meet
            exact ⟨by simp only [hdrB]; simp; simpa using hm', rfl⟩
      · have h2' : ((X.length : Int) == 2) = false := by rw [beq_eq_false_iff_ne]; omega
        have HF : Hid (hdrB 0 X = false) := hidden (by
          match X, h2 with
          | [], _ => rfl
          | [_], _ => rfl
          | [_, _], h => exact absurd rfl h
          | _ :: _ :: _ :: _, _ => rfl)
        clear h2
        go_wp2_with fail
        go_meet
        exact ⟨by rw [HF.out], rfl⟩
    · go_wp2_with fail
      go_meet
      exact ⟨rfl, rfl⟩
  case rest =>
    obtain ⟨hs27, hw⟩ := hcut
    subst hw
    subst hs27
    cases hhb : hdrB c X with
    | true =>
      obtain ⟨id, rfl, hr⟩ := hdrB_true HANS.out hhb
      obtain ⟨b, o, rfl, hc0⟩ := HX.out 1 (by simp)
      simp only [List.getElem_cons_succ, List.getElem_cons_zero] at hc0
      have HP := hidden (parseJ_header hr)
      have HI := hidden ((enc_readI hr).2 id (by simp))
      clear hr hhb
      go_wp2_with fail
      go_ret
      refine ⟨HB1.out, _, rfl, ?_⟩
      rw [HP.out]
      exact ⟨rfl, HI.out⟩
    | false =>
      have HP := hidden (parseJ_other (hdrB_false HANS.out hhb))
      clear hhb HANS HX
      go_wp2_with fail
      go_loopw [5] (fun s5 wk => ∃ (n : Nat), s5 = .int .i64 n ∧ 2 ≤ n ∧ n ≤ 12 ∧ Below w.heap.size w wk ∧ (∀ m seq, 2 ≤ m → m < n → readI (bs.take m) ≠ some [seq])) (fun s5 _ => (12 - intOf s5).toNat)
      case atStart => exact ⟨2, rfl, by omega, by omega, HB1.out, fun m seq h1 h2 => by omega⟩
      case round =>
        obtain ⟨n, rfl, hn2, hn12, hb, hno⟩ := hrel
        have HB := hidden hb
        have HNO := hidden hno
        clear hb hno
        by_cases hgo : n ≤ bs.length ∧ n ≤ 11
        · obtain ⟨hnl, hn11⟩ := hgo
          obtain ⟨b, o, rfl, -⟩ := HQ.out 0 (by omega)
          have hcn : n ≤ cap := by omega
          have HT : Hid (BytesAt wr (some ⟨b, o, none⟩) (bs.take n)) := hidden ((HQ.out.on' HB.out).take n)
          have htl : (bs.take n).length = n := by rw [List.length_take]; omega
          have HTL := hidden htl
          have HRI : Hid (Calls Try.prog 29 #[.slice (some ⟨b, o, none⟩) n cap] wr (ReadI (bs.take n) wr)) := hidden (readints_any _ n cap _ wr HT.out htl.symm hcn hc2 (by omega) (fun A hA => Nat.lt_of_lt_of_le (HA.out A hA) HB.out.size))
          clear htl
          go_wp2_with fail
          with_reducible refine HRI.out.mono ?_
          rintro e w2 hr
          obtain ⟨hb, c2, Y, v2, rfl, ⟨ay, cy, rfl, iy, hly⟩, hans⟩ := ReadI.ans hr
          have HB2 := hidden (HB.out.trans (hb.mono HB.out.size))
          have HY := hidden iy
          have HANY := hidden hans
          clear hr hb iy hans HRI
          by_cases hone : c2 = 0 ∧ Y.length = 1
          · obtain ⟨rfl, hY1⟩ := hone
            match Y, hY1 with
            | [seq], _ =>
              have hrd : readI (bs.take n) = some [seq] := by
                rcases HANY.out with ⟨-, h⟩ | ⟨e, -, -⟩
                · exact h
                · omega
              have HPG := hidden (HP.out.trans (parseG_found hrd))
              have HSB := hidden ((enc_readI hrd).2 seq (by simp))
              obtain ⟨by0, oy, rfl, hcy⟩ := HY.out 0 (by simp)
              simp only [Nat.add_zero, List.getElem_cons_zero] at hcy
              have hby := World.block_lt_of_cell? w2 _ hcy
              simp only at hby
              clear hrd
              have key : ∀ A', (A' = some (⟨b, o, none⟩ : Addr) ∧ cap = n ∨ A' = some ⟨b, o + n, none⟩) → Calls Try.prog 52 #[.slice A' (bs.length - n) (cap - n)] w2 (ReadO (bs.drop n) w2) := by
                intro A' hA'
                refine readops_any A' _ _ (bs.drop n) w2 ?_ (by rw [List.length_drop]) (by omega) (by omega) (by omega) ?_
                · rcases hA' with ⟨rfl, hc⟩ | rfl
                  · rw [List.drop_of_length_le (by omega)]
                    exact bytes_nil _ _
                  · exact (HQ.out.on' HB2.out).drop n
                · have := HA.out _ rfl
                  have h2 := HB2.out.size
                  intro A hA
                  rcases hA' with ⟨rfl, hc⟩ | rfl <;> (cases hA; exact Nat.lt_of_lt_of_le this h2)
              have KEY := hidden key
              clear key
              by_cases hcn0 : cap = n
              · have HRO : Hid (Calls Try.prog 52 #[.slice (some ⟨b, o, none⟩) (bs.length - n) 0] w2 (ReadO (bs.drop n) w2)) := hidden (by have h := KEY.out (some ⟨b, o, none⟩) (.inl ⟨rfl, hcn0⟩); rw [hcn0, Nat.sub_self] at h; exact h)
                go_wp2_with fail
                with_reducible refine HRO.out.mono ?_
                rintro e w3 hr
                obtain ⟨hb, c3, L, al, ll, cl, rfl, hans⟩ := ReadO.ans' hr
                have HB3 := hidden (HB2.out.trans (hb.mono HB2.out.size))
                have hcy3 : w3.cell? ⟨by0, oy, none⟩ = some (.int .i64 seq) := (hb.cell (p := ⟨by0, oy, none⟩) hby).trans hcy
                have HANS := hidden hans
                clear hr hb hcy HRO KEY
                rcases HANS.out with ⟨hrep, hok, ⟨rfl, hw⟩ | ⟨rfl, hw⟩⟩
                · obtain ⟨a9, c9, he9, -⟩ := hrep
                  cases he9
                  match L, HANS, hw with
                  | [], HANS, hw =>
                    have HPN : Hid (parseJ bs = .none) := hidden (by rw [HPG.out, hw])
                    clear hw
                    go_wp2_with fail
                    go_ret
                    exact ⟨HB3.out, _, rfl, by rw [HPN.out]; rfl⟩
                  | g :: L, HANS, hw =>
                    have HPN : Hid (parseJ bs = .group seq (g :: L)) := hidden (by rw [HPG.out, hw])
                    have hpos : 0 < (g :: L).length := by simp
                    have HG2 := hidden HANS.out.1
                    generalize (g :: L).length = gl at hpos HG2 ⊢
                    clear hw
                    go_wp2_with fail
                    go_ret
                    refine ⟨HB3.out, _, rfl, ?_⟩
                    rw [HPN.out]
                    exact ⟨_, rfl, tOps.mono HG2.out (fun k hk => ⟨by have := HB2.out.size; omega, hk.2⟩), HANS.out.2.1, HSB.out⟩
                · have HPN : Hid (parseJ bs = .none) := hidden (by rw [HPG.out, hw])
                  clear hw
                  go_wp2_with fail
                  go_ret
                  exact ⟨HB3.out, _, rfl, by rw [HPN.out]; rfl⟩
              · have HRO := hidden (KEY.out (some ⟨b, o + n, none⟩) (.inr rfl))
                go_wp2_with fail
                with_reducible refine HRO.out.mono ?_
                rintro e w3 hr
                obtain ⟨hb, c3, L, al, ll, cl, rfl, hans⟩ := ReadO.ans' hr
                have HB3 := hidden (HB2.out.trans (hb.mono HB2.out.size))
                have hcy3 : w3.cell? ⟨by0, oy, none⟩ = some (.int .i64 seq) := (hb.cell (p := ⟨by0, oy, none⟩) hby).trans hcy
                have HANS := hidden hans
                clear hr hb hcy HRO KEY
                rcases HANS.out with ⟨hrep, hok, ⟨rfl, hw⟩ | ⟨rfl, hw⟩⟩
                · obtain ⟨a9, c9, he9, -⟩ := hrep
                  cases he9
                  match L, HANS, hw with
                  | [], HANS, hw =>
                    have HPN : Hid (parseJ bs = .none) := hidden (by rw [HPG.out, hw])
                    clear hw
                    go_wp2_with fail
                    go_ret
                    exact ⟨HB3.out, _, rfl, by rw [HPN.out]; rfl⟩
                  | g :: L, HANS, hw =>
                    have HPN : Hid (parseJ bs = .group seq (g :: L)) := hidden (by rw [HPG.out, hw])
                    have hpos : 0 < (g :: L).length := by simp
                    have HG2 := hidden HANS.out.1
                    generalize (g :: L).length = gl at hpos HG2 ⊢
                    clear hw
                    go_wp2_with fail
                    go_ret
                    refine ⟨HB3.out, _, rfl, ?_⟩
                    rw [HPN.out]
                    exact ⟨_, rfl, tOps.mono HG2.out (fun k hk => ⟨by have := HB2.out.size; omega, hk.2⟩), HANS.out.2.1, HSB.out⟩
                · have HPN : Hid (parseJ bs = .none) := hidden (by rw [HPG.out, hw])
                  clear hw
                  go_wp2_with fail
                  go_ret
                  exact ⟨HB3.out, _, rfl, by rw [HPN.out]; rfl⟩
          · have HNX : Hid (∀ m seq, 2 ≤ m → m < n + 1 → readI (bs.take m) ≠ some [seq]) := hidden (fun m seq h1 h2 => by
              by_cases hm : m < n
              · exact HNO.out m seq h1 hm
              · have : m = n := by omega
                subst this
                intro h
                rcases HANY.out with ⟨e, h'⟩ | ⟨-, h', -⟩
                · rw [h] at h'; cases h'; exact hone ⟨e, rfl⟩
                · rw [h] at h'; cases h')
            rcases HANY.out with ⟨rfl, -⟩ | ⟨rfl, -, rfl⟩
            · have h1 : ((Y.length : Int) != 1) = true := by rw [bne_iff_ne]; intro h; exact hone ⟨rfl, by omega⟩
              clear hone
              go_wp2_with fail
              exact ⟨⟨n + 1, by go_num, by omega, by omega, HB2.out, HNX.out⟩, by simp [intOf]; omega⟩
            · clear hone
              go_wp2_with fail
              exact ⟨⟨n + 1, by go_num, by omega, by omega, HB2.out, HNX.out⟩, by simp [intOf]; omega⟩
        · have HPN : Hid (parseJ bs = .none) := hidden (HP.out.trans (parseG_none (fun m seq h1 h2 h3 => HNO.out m seq h1 (by omega))))
          by_cases hnl : n ≤ bs.length
          · have hn11 : ¬ n ≤ 11 := fun h => hgo ⟨hnl, h⟩
            clear hgo
            go_wp2_with fail
            go_ret
            exact ⟨HB.out, _, rfl, by rw [HPN.out]; rfl⟩
          · clear hgo
            go_wp2_with fail
            go_ret
            exact ⟨HB.out, _, rfl, by rw [HPN.out]; rfl⟩

def NextP (bs : List UInt8) (w : World) (e : Ending) (w' : World) : Prop :=
  Below w.heap.size w w' ∧ ∃ v, e = .returned (.tuple #[v, .int .i64 ((nextJ bs).2 : Nat)]) ∧ RecAt (fun k => w.heap.size ≤ k ∧ k < w'.heap.size) w' v (nextJ bs).1
theorem RecAt.mono {S S' : Nat → Prop} {w : World} {v : Value} {r : Rec} (h : RecAt S w v r) (hs : ∀ k, S k → S' k) : RecAt S' w v r := by
  cases r with
  | none => exact h
  | header id => exact h
  | group s l => obtain ⟨u, h1, h2, h3⟩ := h; exact ⟨u, h1, tOps.mono h2 hs, h3⟩

set_option maxRecDepth 100000 in
set_option maxHeartbeats 32000000 in
theorem next_any (a : Option Addr) (cap : Nat) (bs : List UInt8) (w : World) (h : BytesAt w a bs) (hcap : bs.length ≤ cap) (hc2 : (cap : Int) ≤ 9223372036854775807) (hl : bs.length ≤ 100000000) :
    Calls Try.prog 97 #[.slice a bs.length cap] w (NextP bs w) := by
  have HQ := hidden h
  clear h
  go_enter Try.func97, Try.ntmps97
  go_wp2_with fail
  with_reducible refine (unframe_any a _ cap bs w HQ.out rfl hcap hc2 (by omega)).mono ?_
  rintro e w1 ⟨hb, v, rfl, ho⟩
  have HB1 := hidden hb
  obtain ⟨a1, c1, rfl, q, hc, hA⟩ := ho.reads
  have Q := hidden q
  have hm := own_cap ho rfl
  have HA1 : Hid (∀ A, a1 = some A → A.block < w1.heap.size) := hidden (fun A hA' => (ho.lt _ (hA A hA').1).2)
  have hcl : (unfC bs).length ≤ 100000000 := by have := unfC_le bs; omega
  clear hb ho q hA
  by_cases hE : unfE bs = 0
  · have HN : Hid (nextJ bs = (parseJ (unfC bs), unfN bs)) := hidden (by unfold nextJ; rw [if_pos hE])
    rw [hE]
    clear hE
    generalize unfC bs = cs at Q hc hcl HN
    generalize unfN bs = un at HN
    go_wp2_with fail
    with_reducible refine (parse_any a1 c1 cs w1 Q.out hc hm hcl HA1.out).mono ?_
    rintro e w2 ⟨hb, v, rfl, hr⟩
    have HE : Hid (NextP bs w (.returned (.tuple #[v, .int .i64 un])) w2) := hidden ⟨HB1.out.trans (hb.mono HB1.out.size), v, by rw [HN.out], by rw [HN.out]; exact hr.mono (fun k hk => ⟨Nat.le_trans HB1.out.size hk.1, hk.2⟩)⟩
    clear hb hr
    go_wp2_with fail
    go_ret2
    exact HE.out
  · have HN : Hid (nextJ bs = (.none, 0)) := hidden (by unfold nextJ; rw [if_neg hE])
    have hE' : (((unfE bs : Nat) : Int) != 0) = true := by rw [bne_iff_ne]; omega
    clear hE
    go_wp2_with fail
    go_ret2
    exact ⟨HB1.out, _, by rw [HN.out]; rfl, by rw [HN.out]; rfl⟩
end Go.Proofs.Ytekmjegeiminnaa

/- The program's Scan, walked. -/
namespace Go.Proofs.Ytekmjegeiminnaa
open Go.RowKit
set_option linter.unusedVariables false
set_option linter.unusedSimpArgs false

theorem Try.infoT73 : (Try.prog.info? 73).map (fun i => (i.zero, i.size, i.bytes)) = some (some (.slice none 0 0), 1, 24) := by kernel_rfl
theorem und87 : Try.prog.underlying 87 = some (.slice 73) := by kernel_rfl
theorem Try.infoZ154 : (Try.prog.info? 154).map (·.zero) = some (some (.agg #[.int .i64 0])) := by kernel_rfl
theorem Try.infoZ159 : (Try.prog.info? 159).map (·.zero) = some (some (.agg #[.int .i64 0, .slice none 0 0])) := by kernel_rfl
theorem asH_head (w : World) (id : Int) : (Instr.typeAssert (.iface 154 (.agg #[.int .i64 id])) 150 154 true).run Try.prog w = .ok (.tuple #[.agg #[.int .i64 id], .bool true]) w := by
  simp [Instr.typeAssert, run_underlying Try.underlying154, go_sem, Result.andThen]
theorem asH_nil (w : World) : (Instr.typeAssert .nilIface 150 154 true).run Try.prog w = .ok (.tuple #[.agg #[.int .i64 0], .bool false]) w := by
  simp [Instr.typeAssert, run_underlying Try.underlying154, go_sem, Result.andThen]
theorem asH_group (w : World) (s : Int) (u : Value) : (Instr.typeAssert (.iface 159 (.agg #[.int .i64 s, u])) 150 154 true).run Try.prog w = .ok (.tuple #[.agg #[.int .i64 0], .bool false]) w := by
  simp [Instr.typeAssert, run_underlying Try.underlying154, go_sem, Result.andThen]
theorem asG_group (w : World) (s : Int) (u : Value) : (Instr.typeAssert (.iface 159 (.agg #[.int .i64 s, u])) 150 159 true).run Try.prog w = .ok (.tuple #[.agg #[.int .i64 s, u], .bool true]) w := by
  simp [Instr.typeAssert, run_underlying Try.underlying159, go_sem, Result.andThen]
theorem asG_nil (w : World) : (Instr.typeAssert .nilIface 150 159 true).run Try.prog w = .ok (.tuple #[.agg #[.int .i64 0, .slice none 0 0], .bool false]) w := by
  simp [Instr.typeAssert, run_underlying Try.underlying159, go_sem, Result.andThen]
theorem asG_head (w : World) (id : Int) : (Instr.typeAssert (.iface 154 (.agg #[.int .i64 id])) 150 159 true).run Try.prog w = .ok (.tuple #[.agg #[.int .i64 0, .slice none 0 0], .bool false]) w := by
  simp [Instr.typeAssert, run_underlying Try.underlying159, go_sem, Result.andThen]

/-- What a scan answers. -/
def ScanP (bs : List UInt8) (id : Int) (w : World) (e : Ending) (w' : World) : Prop :=
  Below w.heap.size w w' ∧ ∃ a cap, e = .returned (.agg #[.slice a (logJ bs id).groups.length cap, .int .i64 ((logJ bs id).good : Nat), .bool (logJ bs id).bound]) ∧ (tList tOps).rep (fun k => w.heap.size ≤ k ∧ k < w'.heap.size) w' [.slice a (logJ bs id).groups.length cap] (logJ bs id).groups
theorem logJ_none {bs : List UInt8} {id : Int} (h : ∀ n, nextJ bs ≠ (.header id, n)) : logJ bs id = ⟨[], 0, false⟩ := by
  unfold logJ
  split
  · rename_i h' n e
    split
    · rename_i he; subst he; exact absurd e (h n)
    · rfl
  · rfl
theorem logJ_head {bs : List UInt8} {id : Int} {n : Nat} (h : nextJ bs = (.header id, n)) : logJ bs id = ⟨(scanJ (bs.drop n) 0).1, n + (scanJ (bs.drop n) 0).2, true⟩ := by
  unfold logJ; rw [h]; simp
theorem nextJ_le {bs : List UInt8} {r : Rec} {n : Nat} (h : nextJ bs = (r, n)) : n ≤ bs.length := by
  unfold nextJ at h
  split at h
  · rename_i hE
    cases h
    exact (unf_le hE).1
  · cases h; omega
/-- Between two rounds: these groups have been told, so many bytes are behind. -/
structure ScanI (bs : List UInt8) (id : Int) (gs : List (List OpD)) (good : Nat) : Prop where
  log : logJ bs id = ⟨gs ++ (scanJ (bs.drop good) gs.length).1, good + (scanJ (bs.drop good) gs.length).2, true⟩
  le : good ≤ bs.length
  few : gs.length ≤ good
theorem ScanI.start {bs : List UInt8} {id : Int} {n : Nat} (h : nextJ bs = (.header id, n)) : ScanI bs id [] n := ⟨by rw [logJ_head h]; rfl, nextJ_le h, by simp⟩
theorem ScanI.step {bs : List UInt8} {id : Int} {gs : List (List OpD)} {good n : Nat} {l : List OpD} (h : ScanI bs id gs good) (hn : nextJ (bs.drop good) = (.group (gs.length + 1) l, n)) : ScanI bs id (gs ++ [l]) (good + n) ∧ 0 < n := by
  obtain ⟨-, -, -, h4, h5⟩ := nextJ_group_le hn
  rw [List.length_drop] at h5
  have h1 := h.le
  have h2 := h.few
  refine ⟨⟨?_, by omega, by simp; omega⟩, h4⟩
  rw [h.log, scanJ_step hn, List.drop_drop, show (gs ++ [l]).length = gs.length + 1 by simp]
  simp only [List.append_assoc, List.cons_append, List.nil_append]
  congr 1
  omega
theorem ScanI.stop {bs : List UInt8} {id : Int} {gs : List (List OpD)} {good : Nat} (h : ScanI bs id gs good) (hn : ∀ l n, nextJ (bs.drop good) ≠ (.group (gs.length + 1) l, n)) : logJ bs id = ⟨gs, good, true⟩ := by
  rw [h.log, scanJ_stop hn]; simp
theorem nextJ_head_len {bs : List UInt8} {id : Int} {n : Nat} (h : nextJ bs = (.header id, n)) : 8 ≤ bs.length := by
  unfold nextJ at h
  split at h
  · rename_i hE
    have := unf_le hE
    omega
  · cases h
theorem nextJ_nil : nextJ [] = (.none, 0) := rfl
/-- A variable's block of three cells, behind stores into all of them. -/
theorem put3 {w : World} {b : Nat} {x y z u v t : Value} {ty : TypeId} (h : w.heap[b]? = some (.cells #[x, y, z] ty (0, 0))) :
    let W := ((w.setCell ⟨b, 0, none⟩ u).setCell ⟨b, 1, none⟩ v).setCell ⟨b, 2, none⟩ t
    W.cell? ⟨b, 0, none⟩ = some u ∧ W.cell? ⟨b, 1, none⟩ = some v ∧ W.cell? ⟨b, 2, none⟩ = some t ∧ Upd (fun k => k = b) w W := by
  have h1 := setCell_heap (o := 0) (v := u) h
  have h2 := setCell_heap (o := 1) (v := v) h1
  have h3 := setCell_heap (o := 2) (v := t) h2
  rw [set3_0, set3_1, set3_2] at h3
  refine ⟨by simp [World.cell?, h3], by simp [World.cell?, h3], by simp [World.cell?, h3], Upd.setCells (M := fun k => k = b) rfl [u, v, t] 0 w⟩

set_option maxRecDepth 100000 in
set_option maxHeartbeats 64000000 in
theorem scan_any (a : Option Addr) (cap : Nat) (bs : List UInt8) (id : Int) (w : World) (h : BytesAt w a bs) (hcap : bs.length ≤ cap) (hc2 : (cap : Int) ≤ 9223372036854775807) (hl : bs.length ≤ 100000000) :
    Calls Try.prog 60 #[.slice a bs.length cap, .int .i64 id] w (ScanP bs id w) := by
  have hb0 : Below w.heap.size w (w.alloc (.cells #[.slice none 0 0, .int .i64 0, .bool false] 89)) := (Below.refl _ _).alloc (Nat.le_refl _) _
  have HB0 := hidden hb0
  have HQ := hidden (h.on' hb0)
  have HK0 : Hid ((w.alloc (.cells #[.slice none 0 0, .int .i64 0, .bool false] 89)).heap[w.heap.size]? = some (.cells #[.slice none 0 0, .int .i64 0, .bool false] 89 (0, 0))) := hidden (heap_alloc_new _ _)
  have hz0 : (w.alloc (.cells #[.slice none 0 0, .int .i64 0, .bool false] 89)).heap.size = w.heap.size + 1 := World.size_alloc _ _
  clear h hb0
  go_enter Try.func60, Try.ntmps60
  go_wp2_with fail
  generalize w.alloc (.cells #[.slice none 0 0, .int .i64 0, .bool false] 89) = W0 at *
  have HZ0 := hidden hz0
  have hrb : w.heap.size < W0.heap.size := by omega
  clear hz0
  with_reducible refine (next_any a cap bs W0 HQ.out hcap hc2 hl).mono ?_
  rintro e w1 ⟨hb, v, rfl, hr⟩
  have HB1 := hidden hb
  have HREC := hidden hr
  have hK1 : w1.heap[w.heap.size]? = some (.cells #[.slice none 0 0, .int .i64 0, .bool false] 89 (0, 0)) := (hb.block _ hrb).trans HK0.out
  have HK1 := hidden hK1
  have hrb1 : w.heap.size < w1.heap.size := Nat.lt_of_lt_of_le hrb hb.size
  have hah := asH_head
  have hag := asH_group
  have han := asH_nil
  clear hb hr hK1
  have fin : (∀ n, nextJ bs ≠ (.header id, n)) → ∀ W o, Below W0.heap.size W0 W → ScanP bs id w (.returned (.agg #[.slice none 0 0, .int .i64 0, .bool false])) ((((W.setCell ⟨w.heap.size, 0, none⟩ (.slice none 0 0)).setCell ⟨w.heap.size, 1, none⟩ (.int .i64 0)).setCell ⟨w.heap.size, 2, none⟩ (.bool false)).alloc o) ∧ ((((W.setCell ⟨w.heap.size, 0, none⟩ (.slice none 0 0)).setCell ⟨w.heap.size, 1, none⟩ (.int .i64 0)).setCell ⟨w.heap.size, 2, none⟩ (.bool false)).alloc o).cell? ⟨w.heap.size, 0, none⟩ = some (.slice none 0 0) ∧ ((((W.setCell ⟨w.heap.size, 0, none⟩ (.slice none 0 0)).setCell ⟨w.heap.size, 1, none⟩ (.int .i64 0)).setCell ⟨w.heap.size, 2, none⟩ (.bool false)).alloc o).cell? ⟨w.heap.size, 1, none⟩ = some (.int .i64 0) ∧ ((((W.setCell ⟨w.heap.size, 0, none⟩ (.slice none 0 0)).setCell ⟨w.heap.size, 1, none⟩ (.int .i64 0)).setCell ⟨w.heap.size, 2, none⟩ (.bool false)).alloc o).cell? ⟨w.heap.size, 2, none⟩ = some (.bool false) := by
    intro hno W o hW
    obtain ⟨g0, g1, g2, gu⟩ := put3 (u := .slice none 0 0) (v := .int .i64 0) (t := .bool false) ((hW.block _ hrb).trans HK0.out)
    have hlog := logJ_none hno
    have hn : ∀ X : World, Upd (fun _ => False) X (X.alloc o) := fun X => Upd.new _ _
    refine ⟨⟨?_, none, 0, by rw [hlog]; rfl, by rw [hlog]; exact list_nil_rep _ _ _⟩, (hn _).cell g0 (fun h => h), (hn _).cell g1 (fun h => h), (hn _).cell g2 (fun h => h)⟩
    exact (HB0.out.trans (hW.mono HB0.out.size)).trans ((gu.trans (hn _) (fun _ _ h => h.elim)).toBelow (by have := hW.size; omega) (fun k hk e => by omega))
  have FIN := hidden fin
  clear fin
  have r0 : w1.cell? ⟨w.heap.size, 0, none⟩ = some (.slice none 0 0) := by simp [World.cell?, HK1.out]
  have r1 : w1.cell? ⟨w.heap.size, 1, none⟩ = some (.int .i64 0) := by simp [World.cell?, HK1.out]
  have r2 : w1.cell? ⟨w.heap.size, 2, none⟩ = some (.bool false) := by simp [World.cell?, HK1.out]
  have rf : ∀ i, w1.frozen? ⟨w.heap.size, i, none⟩ = false := fun i => by simp [World.frozen?, HK1.out]
  obtain ⟨rec, nn, HN⟩ : ∃ r n, Hid (nextJ bs = (r, n)) := ⟨_, _, rfl⟩
  rw [HN.out] at HREC ⊢
  have hnb : nn ≤ bs.length := nextJ_le HN.out
  cases rec with
  | none =>
    have hv : v = .nilIface := HREC.out
    subst hv
    have HNO := hidden (FIN.out (fun n e => by rw [HN.out] at e; cases e) w1 (.cells #[.int .i64 0] 154) HB1.out)
    go_wp2_with fail
    obtain ⟨f1, f2, f3, f4⟩ := HNO.out
    exact bodyPost_ret (v := .agg #[.slice none 0 0, .int .i64 0, .bool false]) (by simp [results, Try.results60, go_sem, f2, f3, f4]) rfl f1
  | group s l =>
    obtain ⟨u, hv, -⟩ := HREC.out
    subst hv
    have HNO := hidden (FIN.out (fun n e => by rw [HN.out] at e; cases e) w1 (.cells #[.int .i64 0] 154) HB1.out)
    go_wp2_with fail
    obtain ⟨f1, f2, f3, f4⟩ := HNO.out
    exact bodyPost_ret (v := .agg #[.slice none 0 0, .int .i64 0, .bool false]) (by simp [results, Try.results60, go_sem, f2, f3, f4]) rfl f1
  | header h =>
    obtain ⟨hv, hh⟩ := HREC.out
    subst hv
    by_cases hne : h = id
    · subst hne
      have HI0 := hidden (ScanI.start HN.out)
      obtain ⟨WB, hWB⟩ : ∃ WB, (w1.alloc (.cells #[.int .i64 h] 154)).alloc (.cells #[.slice none 0 0, .int .i64 nn, .bool true] 89) = WB := ⟨_, rfl⟩
      have hz1 : WB.heap.size = w1.heap.size + 2 := by rw [← hWB]; simp [World.size_alloc]
      have hbB : Below w1.heap.size w1 WB := by
        rw [← hWB]; exact ((Below.refl _ _).alloc (Nat.le_refl _) _).alloc (by rw [World.size_alloc]; omega) _
      have HBB := hidden (HB1.out.trans (hbB.mono HB1.out.size))
      have HXB : Hid (WB.heap[w1.heap.size + 1]? = some (.cells #[.slice none 0 0, .int .i64 nn, .bool true] 89 (0, 0))) := hidden (by
        have := heap_alloc_new (w1.alloc (.cells #[.int .i64 h] 154)) (.cells #[.slice none 0 0, .int .i64 nn, .bool true] 89)
        rw [hWB, World.size_alloc] at this; exact this)
      have HKB : Hid (WB.heap[w.heap.size]? = some (.cells #[.slice none 0 0, .int .i64 0, .bool false] 89 (0, 0))) := hidden ((hbB.block _ hrb1).trans HK1.out)
      have HWB := hidden hWB
      have hag2 := asG_group
      have han2 := asG_nil
      have hah2 := asG_head
      have hw1s := HB1.out.size
      have HZZ := hidden hz1
      clear hWB hbB HREC
      go_wp2_with fail
      rw [HWB.out]
      clear hah hag han r0 r1 r2 rf
      obtain ⟨xb, hxb⟩ : ∃ xb, w1.heap.size + 1 = xb := ⟨_, rfl⟩
      rw [hxb] at HXB ⊢
      have hxW : xb < WB.heap.size := by omega
      have hwx : w.heap.size < xb := by omega
      have hWx : W0.heap.size ≤ xb := by omega
      clear hxb hz1
      have h8 := nextJ_head_len HN.out
      obtain ⟨b, o, rfl, -⟩ := HQ.out 0 (by omega)
      obtain ⟨i0, hi, hzz0, hzz1, hzz2⟩ := info_parts Try.infoT73
      have HINF := hidden (And.intro hi (And.intro hzz0 (And.intro hzz1 hzz2)))
      clear hi hzz0 hzz1 hzz2
      have hwB0 : W0.heap.size ≤ WB.heap.size := HBB.out.size
      go_loopg [10] (bs.length - nn) (fun k s10 wr => ∃ (gs : List (List OpD)) (a' : Option Addr) (cap' good : Nat), k = bs.length - good ∧ ScanI bs h gs good ∧ wr.heap[xb]? = some (.cells #[.slice a' gs.length cap', .int .i64 good, .bool true] 89 (0, 0)) ∧ OwnT tOps 73 WB.heap.size wr (.slice a' gs.length cap') gs ∧ Upd (fun k => k = xb) WB wr)
      case atStart => exact ⟨[], none, 0, nn, rfl, HI0.out, HXB.out, OwnT.nil _ _ _ _, Upd.refl _ _⟩
      case round =>
        obtain ⟨gs, a', cap', good, hgk, hI, hX, hO, hU⟩ := hrel
        have HI := hidden hI
        have HX := hidden hX
        have HO := hidden hO
        have HU := hidden hU
        have HGK := hidden hgk
        have hgl := hI.le
        have hgf := hI.few
        have hKr : wr.heap[w.heap.size]? = some (.cells #[.slice none 0 0, .int .i64 0, .bool false] 89 (0, 0)) := (hU.block _ (by omega) (by omega)).trans HKB.out
        have HKr := hidden hKr
        have hBr : Below W0.heap.size W0 wr := HBB.out.trans (hU.toBelow (by omega) (fun k hk e => by omega))
        have HBr := hidden hBr
        have hwb := hU.size
        have fin : logJ bs h = ⟨gs, good, true⟩ → ∀ W ob, Below wr.heap.size wr W → ScanP bs h w (.returned (.agg #[.slice a' gs.length cap', .int .i64 good, .bool true])) ((((W.setCell ⟨w.heap.size, 0, none⟩ (.slice a' gs.length cap')).setCell ⟨w.heap.size, 1, none⟩ (.int .i64 good)).setCell ⟨w.heap.size, 2, none⟩ (.bool true)).alloc ob) ∧ ((((W.setCell ⟨w.heap.size, 0, none⟩ (.slice a' gs.length cap')).setCell ⟨w.heap.size, 1, none⟩ (.int .i64 good)).setCell ⟨w.heap.size, 2, none⟩ (.bool true)).alloc ob).cell? ⟨w.heap.size, 0, none⟩ = some (.slice a' gs.length cap') ∧ ((((W.setCell ⟨w.heap.size, 0, none⟩ (.slice a' gs.length cap')).setCell ⟨w.heap.size, 1, none⟩ (.int .i64 good)).setCell ⟨w.heap.size, 2, none⟩ (.bool true)).alloc ob).cell? ⟨w.heap.size, 1, none⟩ = some (.int .i64 good) ∧ ((((W.setCell ⟨w.heap.size, 0, none⟩ (.slice a' gs.length cap')).setCell ⟨w.heap.size, 1, none⟩ (.int .i64 good)).setCell ⟨w.heap.size, 2, none⟩ (.bool true)).alloc ob).cell? ⟨w.heap.size, 2, none⟩ = some (.bool true) := by
          intro hlog W ob hW
          obtain ⟨g0, g1, g2, gu⟩ := put3 (u := .slice a' gs.length cap') (v := .int .i64 good) (t := .bool true) ((hW.block _ (by omega)).trans HKr.out)
          have hn : ∀ X : World, Upd (fun _ => False) X (X.alloc ob) := fun X => Upd.new _ _
          have hzW := hW.size
          have gu2 := gu.trans (hn _) (fun _ _ h => h.elim)
          have r1 := (tList tOps).upd ((tList tOps).upd HO.out.rep (Upd.ofNew (M := fun _ => False) hW) (fun _ _ h => h)) gu2 (fun k hk e => by have := hk.1; omega)
          have r2 := (tList tOps).mono r1 (S' := fun k => w.heap.size ≤ k ∧ k < ((((W.setCell ⟨w.heap.size, 0, none⟩ (.slice a' gs.length cap')).setCell ⟨w.heap.size, 1, none⟩ (.int .i64 good)).setCell ⟨w.heap.size, 2, none⟩ (.bool true)).alloc ob).heap.size) (fun k hk => ⟨by have := hk.1; omega, by have := hk.2; have := gu2.size; omega⟩)
          refine ⟨⟨?_, a', cap', by rw [hlog], by rw [hlog]; exact r2⟩, (hn _).cell g0 (fun h => h), (hn _).cell g1 (fun h => h), (hn _).cell g2 (fun h => h)⟩
          exact (HB0.out.trans (HBr.out.mono (by omega))).trans ((hW.mono (by omega)).trans (gu2.toBelow (by omega) (fun k hk e => by omega)))
        have FIN2 := hidden fin
        clear fin hI hX hO hU hgk hKr hBr FIN
        have c0 : wr.cell? ⟨xb, 0, none⟩ = some (.slice a' gs.length cap') := by simp [World.cell?, HX.out]
        have c1 : wr.cell? ⟨xb, 1, none⟩ = some (.int .i64 good) := by simp [World.cell?, HX.out]
        have HCX : Hid (∀ W, Below wr.heap.size wr W → W.cell? ⟨xb, 0, none⟩ = some (.slice a' gs.length cap') ∧ W.cell? ⟨xb, 1, none⟩ = some (.int .i64 good) ∧ W.cell? ⟨xb, 2, none⟩ = some (.bool true) ∧ (∀ i, W.frozen? ⟨xb, i, none⟩ = false) ∧ W.cell? ⟨w.heap.size, 0, none⟩ = some (.slice none 0 0) ∧ W.cell? ⟨w.heap.size, 1, none⟩ = some (.int .i64 0) ∧ W.cell? ⟨w.heap.size, 2, none⟩ = some (.bool false) ∧ (∀ i, W.frozen? ⟨w.heap.size, i, none⟩ = false)) := hidden (fun W hW => by
          have e1 := (hW.block xb (by omega)).trans HX.out
          have e2 := (hW.block w.heap.size (by omega)).trans HKr.out
          exact ⟨by simp [World.cell?, e1], by simp [World.cell?, e1], by simp [World.cell?, e1], fun i => by simp [World.frozen?, e1], by simp [World.cell?, e2], by simp [World.cell?, e2], by simp [World.cell?, e2], fun i => by simp [World.frozen?, e2]⟩)
        have HQr := hidden (HQ.out.on' HBr.out)
        by_cases hcg : cap = good
        · have HD : Hid (bs.drop good = []) := hidden (List.drop_of_length_le (by omega))
          have HNX : Hid (Calls Try.prog 97 #[.slice (some ⟨b, o, none⟩) (bs.length - good) 0] wr (NextP [] wr)) := hidden (by
            rw [show bs.length - good = 0 by omega]
            exact next_any _ 0 [] wr (bytes_nil _ _) (by simp) (by decide) (by simp))
          have HST := hidden (FIN2.out (HI.out.stop (fun l n e => by rw [HD.out, nextJ_nil] at e; cases e)))
          go_wp2_with fail
          with_reducible refine HNX.out.mono ?_
          rintro e w2 ⟨hb, v, rfl, hr⟩
          have hv : v = .nilIface := hr
          subst hv
          have HB2 := hidden hb
          have hs2 := hb.size
          rw [nextJ_nil]
          clear hb hr c0 c1 HNX
          obtain ⟨c0, c1, c2, cf, r0, r1, r2, rf⟩ := HCX.out w2 HB2.out
          have hx2 : xb < w2.heap.size := by omega
          have hx2n : xb ≠ w2.heap.size := by omega
          have hr2 : w.heap.size < w2.heap.size := by omega
          have hr2n : w.heap.size ≠ w2.heap.size := by omega
          have HNO := hidden (HST.out w2 (.cells #[.int .i64 0, .slice none 0 0] 159) HB2.out)
          go_wp2_with fail
          obtain ⟨f1, f2, f3, f4⟩ := HNO.out
          exact bodyPost_ret (v := .agg #[.slice a' gs.length cap', .int .i64 good, .bool true]) (by simp [results, Try.results60, go_sem, f2, f3, f4]) rfl f1
        · have HNX : Hid (Calls Try.prog 97 #[.slice (some ⟨b, o + good, none⟩) (bs.length - good) (cap - good)] wr (NextP (bs.drop good) wr)) := hidden (by
            have := next_any (some ⟨b, o + good, none⟩) (cap - good) (bs.drop good) wr (HQr.out.drop good) (by rw [List.length_drop]; omega) (by omega) (by rw [List.length_drop]; omega)
            rw [List.length_drop] at this; exact this)
          go_wp2_with fail
          with_reducible refine HNX.out.mono ?_
          rintro e w2 ⟨hb, v, rfl, hr⟩
          have HB2 := hidden hb
          have hs2 := hb.size
          have HREC := hidden hr
          clear hb hr c0 c1 HNX
          obtain ⟨c0, c1, c2, cf, r0, r1, r2, rf⟩ := HCX.out w2 HB2.out
          have hx2 : xb < w2.heap.size := by omega
          have hx2n : xb ≠ w2.heap.size := by omega
          have hr2 : w.heap.size < w2.heap.size := by omega
          have hr2n : w.heap.size ≠ w2.heap.size := by omega
          obtain ⟨rec2, n2, HN2⟩ : ∃ r n, Hid (nextJ (bs.drop good) = (r, n)) := ⟨_, _, rfl⟩
          rw [HN2.out] at HREC ⊢
          cases rec2 with
          | none =>
            have hv : v = .nilIface := HREC.out
            subst hv
            have HNO := hidden (FIN2.out (HI.out.stop (fun l n e => by rw [HN2.out] at e; cases e)) w2 (.cells #[.int .i64 0, .slice none 0 0] 159) HB2.out)
            go_wp2_with fail
            obtain ⟨f1, f2, f3, f4⟩ := HNO.out
            exact bodyPost_ret (v := .agg #[.slice a' gs.length cap', .int .i64 good, .bool true]) (by simp [results, Try.results60, go_sem, f2, f3, f4]) rfl f1
          | header h2 =>
            obtain ⟨hv, -⟩ := HREC.out
            subst hv
            have HNO := hidden (FIN2.out (HI.out.stop (fun l n e => by rw [HN2.out] at e; cases e)) w2 (.cells #[.int .i64 0, .slice none 0 0] 159) HB2.out)
            go_wp2_with fail
            obtain ⟨f1, f2, f3, f4⟩ := HNO.out
            exact bodyPost_ret (v := .agg #[.slice a' gs.length cap', .int .i64 good, .bool true]) (by simp [results, Try.results60, go_sem, f2, f3, f4]) rfl f1
          | group s l =>
            obtain ⟨u, hv, hrep, hok, hsb⟩ := HREC.out
            subst hv
            have hrep' := hrep
            obtain ⟨au, cu, hu, -⟩ := hrep'
            cases hu
            by_cases hseq : s = gs.length + 1
            · subst hseq
              have hst := HI.out.step HN2.out
              have HST := hidden hst.1
              have hn2 : 0 < n2 := hst.2
              have hn3 : good + n2 ≤ bs.length := hst.1.le
              have hlen1 : gs.length ≤ 100000000 := by omega
              have hUn : ∀ (X : World) (ob : Obj), Upd (fun _ => False) X (X.alloc ob) := fun X ob => Upd.new _ _
              have hUw : Upd (fun _ => False) wr w2 := Upd.ofNew HB2.out
              have hUA : Upd (fun _ => False) wr ((w2.alloc (.cells #[.int .i64 ((gs.length : Int) + 1), .slice au l.length cu] 159)).alloc (.cells #[.slice au l.length cu] 73)) := (hUw.trans (hUn _ _) (fun _ _ h => h)).trans (hUn _ _) (fun _ _ h => h)
              have hUB : Upd (fun _ => False) w2 ((w2.alloc (.cells #[.int .i64 ((gs.length : Int) + 1), .slice au l.length cu] 159)).alloc (.cells #[.slice au l.length cu] 73)) := (hUn _ _).trans (hUn _ _) (fun _ _ h => h)
              have HO2 := hidden (HO.out.on hUA (fun _ _ _ h => h))
              have HRN : Hid (((w2.alloc (.cells #[.int .i64 ((gs.length : Int) + 1), .slice au l.length cu] 159)).alloc (.cells #[.slice au l.length cu] 73)).rangeAt (w2.heap.size + 1) 0 [.slice au l.length cu]) := hidden (by
                have h := new_range (w2.alloc (.cells #[.int .i64 ((gs.length : Int) + 1), .slice au l.length cu] 159)) [.slice au l.length cu] 73
                rw [World.size_alloc] at h; exact h)
              have HLV : ∀ k, (Value.slice a' gs.length cap').ownBlock = some k → k < wr.heap.size := fun k hk => (HO.out.lt k hk).2
              have HRP : Hid (tOps.rep (fun k => WB.heap.size ≤ k ∧ k < ((w2.alloc (.cells #[.int .i64 ((gs.length : Int) + 1), .slice au l.length cu] 159)).alloc (.cells #[.slice au l.length cu] 73)).heap.size ∧ some k ≠ (Value.slice a' gs.length cap').ownBlock) ((w2.alloc (.cells #[.int .i64 ((gs.length : Int) + 1), .slice au l.length cu] 159)).alloc (.cells #[.slice au l.length cu] 73)) [.slice au l.length cu] l) := hidden (tOps.mono (tOps.upd hrep hUB (fun _ _ h => h)) (fun k hk => ⟨by have := hk.1; omega, Nat.lt_of_lt_of_le hk.2 hUB.size, fun e => by have := HLV k e.symm; have := hk.1; omega⟩))
              have HXL : Hid (gs.length ≤ 1000000000000) := hidden (by omega)
              have HXB2 : Hid ((gs.length + 1) * 24 ≤ 140737488355328) := hidden (by omega)
              have HBS : Hid (WB.heap.size ≤ ((w2.alloc (.cells #[.int .i64 ((gs.length : Int) + 1), .slice au l.length cu] 159)).alloc (.cells #[.slice au l.length cu] 73)).heap.size) := hidden (by have := hUB.size; omega)
              have HXA : Hid (((w2.alloc (.cells #[.int .i64 ((gs.length : Int) + 1), .slice au l.length cu] 159)).alloc (.cells #[.slice au l.length cu] 73)).heap[xb]? = some (.cells #[.slice a' gs.length cap', .int .i64 good, .bool true] 89 (0, 0))) := hidden ((hUA.block xb (by omega) (fun h => h)).trans HX.out)
              have HXZ : Hid (xb < ((w2.alloc (.cells #[.int .i64 ((gs.length : Int) + 1), .slice au l.length cu] 159)).alloc (.cells #[.slice au l.length cu] 73)).heap.size) := hidden (by have := hUB.size; omega)
              have HNX2 : Hid (¬ some xb = (Value.slice a' gs.length cap').ownBlock) := hidden (fun h => by have := (HO.out.lt _ h.symm).1; omega)
              have HUA := hidden hUA
              clear hst hUn hUw hUA hUB HLV hrep
              go_wp2_with (at_builtin; go_loud (refine wpList_append_T (A := tOps) rfl (.tmp 61) (.tmp 64) 87 rfl und87 HINF.out.1 HINF.out.2.1 HINF.out.2.2.1 HINF.out.2.2.2 rfl (by decide) (B := WB.heap.size) (v := .slice a' gs.length cap') (xs := gs) (x := l) rfl HO2.out (b := w2.heap.size + 1) (c := 1) rfl HRN.out HRP.out HXL.out HXB2.out HBS.out ?_); intro v4 w4 g; have G := hidden g; have HX4 := hidden ((g.upd.block xb HXZ.out HNX2.out).trans HXA.out); have q0 : w4.cell? ⟨xb, 0, none⟩ = some (.slice a' gs.length cap') := (by simp [World.cell?, HX4.out]); have q1 : w4.cell? ⟨xb, 1, none⟩ = some (.int .i64 good) := (by simp [World.cell?, HX4.out]); have qf : ∀ i, w4.frozen? ⟨xb, i, none⟩ = false := (fun i => by simp [World.frozen?, HX4.out]); obtain ⟨a4, c4, rfl⟩ := g.own.is; clear g)
              go_roundg (bs.length - (good + n2))
              case measure => have := HGK.out; omega
              case rel =>
                have hset : Upd (fun k => k = xb) w4 ((w4.setCell ⟨xb, 0, none⟩ (.slice a4 (gs ++ [l]).length c4)).setCell ⟨xb, 1, none⟩ (.int .i64 ((good + n2 : Nat) : Int))) := Upd.setCells (M := fun k => k = xb) rfl [.slice a4 (gs ++ [l]).length c4, .int .i64 ((good + n2 : Nat) : Int)] 0 w4
                have hX5 := setCell_heap (o := 1) (v := .int .i64 ((good + n2 : Nat) : Int)) (setCell_heap (o := 0) (v := .slice a4 (gs ++ [l]).length c4) HX4.out)
                rw [set3_0, set3_1] at hX5
                have hO5 := G.out.own.on hset (fun k hk _ e => by omega)
                have hU5 : Upd (fun k => k = xb) WB _ := ((HU.out.trans HUA.out (fun _ _ h => h.elim)).trans G.out.upd (fun k hk e => by have := (HO.out.lt k e.symm).1; omega)).trans hset (fun _ _ h => h)
                rw [show ((good + n2 : Nat) : Int) = (good : Int) + (n2 : Int) by omega] at hX5 hO5 hU5
                refine ⟨gs ++ [l], a4, c4, good + n2, rfl, HST.out, ?_, ?_, ?_⟩
                · rw [show (gs ++ [l]).length = gs.length + 1 by simp] at hX5 ⊢
                  rw [show ((good + n2 : Nat) : Int) = (good : Int) + (n2 : Int) by omega]
                  exact hX5
                · rw [show (gs ++ [l]).length = gs.length + 1 by simp] at hO5 ⊢
                  exact hO5
                · rw [show (gs ++ [l]).length = gs.length + 1 by simp] at hU5
                  exact hU5
            · have HNO := hidden (FIN2.out (HI.out.stop (fun l' n e => by rw [HN2.out] at e; cases e; exact hseq rfl)) w2 (.cells #[.int .i64 s, .slice au l.length cu] 159) HB2.out)
              have hseq' : (s != (gs.length : Int) + 1) = true := by rw [bne_iff_ne]; exact hseq
              clear hseq
              go_wp2_with fail
              obtain ⟨f1, f2, f3, f4⟩ := HNO.out
              exact bodyPost_ret (v := .agg #[.slice a' gs.length cap', .int .i64 good, .bool true]) (by simp [results, Try.results60, go_sem, f2, f3, f4]) rfl f1
    · have HNO := hidden (FIN.out (fun n e => by rw [HN.out] at e; cases e; exact hne rfl) w1 (.cells #[.int .i64 h] 154) HB1.out)
      have hne' : (h != id) = true := by rw [bne_iff_ne]; exact hne
      clear hne
      go_wp2_with fail
      obtain ⟨f1, f2, f3, f4⟩ := HNO.out
      exact bodyPost_ret (v := .agg #[.slice none 0 0, .int .i64 0, .bool false]) (by simp [results, Try.results60, go_sem, f2, f3, f4]) rfl f1
end Go.Proofs.Ytekmjegeiminnaa

/- The program's Add; the journal's lives; the law JournalGroups, walked. -/
namespace Go.Proofs.Ytekmjegeiminnaa
open Go.RowKit
set_option linter.unusedVariables false
set_option linter.unusedSimpArgs false

/-- What Add answers. -/
def AddP (bs : List UInt8) (l : List OpD) (w : World) (e : Ending) (w' : World) : Prop :=
  Below w.heap.size w w' ∧ ∃ v, e = .returned (.tuple #[v, .int .i64 ((addJ bs l).2 : Nat)]) ∧ OwnB w.heap.size w' v (addJ bs l).1
theorem AddP.err {bs : List UInt8} {l : List OpD} {w w' : World} (hb : Below w.heap.size w w') (h : addJ bs l = ([], 12)) : AddP bs l w (.returned (.tuple #[.slice none 0 0, .int .i64 12])) w' :=
  ⟨hb, _, by rw [h]; rfl, by rw [h]; exact OwnB.nil _ _⟩
theorem addJ_none {bs : List UInt8} {l : List OpD} (h : ∀ id n, nextJ bs ≠ (.header id, n)) : addJ bs l = ([], 12) := by
  unfold addJ
  split
  · rename_i id n e; exact absurd e (h _ _)
  · rfl
theorem addJ_head {bs : List UInt8} {l : List OpD} {id : Int} {n : Nat} (h : nextJ bs = (.header id, n)) : addJ bs l = if (logJ bs id).good < bs.length then ([], 12) else groupJ ((logJ bs id).groups.length + 1) l := by
  unfold addJ; rw [h]
theorem logJ_few (bs : List UInt8) (id : Int) : (logJ bs id).groups.length ≤ bs.length ∧ (logJ bs id).good ≤ bs.length := by
  unfold logJ
  split
  · rename_i h n e
    split
    · have h1 := nextJ_le e
      have h2 := scanJ_le (bs.drop n) 0
      rw [List.length_drop] at h2
      dsimp only
      omega
    · simp
  · simp

set_option maxRecDepth 100000 in
set_option maxHeartbeats 64000000 in
theorem add_any (a : Option Addr) (cap : Nat) (bs : List UInt8) (v0 : Value) (l : List OpD) (w : World) (h : BytesAt w a bs) (hcap : bs.length ≤ cap) (hc2 : (cap : Int) ≤ 9223372036854775807) (hl : bs.length ≤ 100000000)
    (hr : tOps.rep (· < w.heap.size) w [v0] l) (hok : tOps.cod.ok l) (hle : (tOps.cod.enc l).length ≤ 100000000000) :
    Calls Try.prog 57 #[.slice a bs.length cap, v0] w (AddP bs l w) := by
  have hr' := hr
  obtain ⟨a0, cap0, hv, -⟩ := hr'
  cases hv
  have HQ := hidden h
  have HR := hidden hr
  have HOK := hidden hok
  clear h hr hok
  go_enter Try.func57, Try.ntmps57
  go_wp2_with fail
  with_reducible refine (next_any a cap bs w HQ.out hcap hc2 hl).mono ?_
  rintro e w1 ⟨hb, v, rfl, hr⟩
  have HB1 := hidden hb
  have HREC := hidden hr
  have hah := asH_head
  have hag := asH_group
  have han := asH_nil
  clear hb hr
  obtain ⟨rec, nn, HN⟩ : ∃ r n, Hid (nextJ bs = (r, n)) := ⟨_, _, rfl⟩
  rw [HN.out] at HREC ⊢
  cases rec with
  | none =>
    have hv : v = .nilIface := HREC.out
    subst hv
    have HNO := hidden (addJ_none (bs := bs) (l := l) (fun i n e => by rw [HN.out] at e; cases e))
    have HBE := hidden (HB1.out.alloc HB1.out.size (.cells #[.int .i64 0] 154))
    go_wp2_with fail
    go_ret2
    exact AddP.err HBE.out HNO.out
  | group s l' =>
    obtain ⟨u, hv, -⟩ := HREC.out
    subst hv
    have HNO := hidden (addJ_none (bs := bs) (l := l) (fun i n e => by rw [HN.out] at e; cases e))
    have HBE := hidden (HB1.out.alloc HB1.out.size (.cells #[.int .i64 0] 154))
    go_wp2_with fail
    go_ret2
    exact AddP.err HBE.out HNO.out
  | header id =>
    obtain ⟨hv, hh⟩ := HREC.out
    subst hv
    have HAD := hidden (addJ_head (l := l) HN.out)
    have HBE := hidden (HB1.out.alloc HB1.out.size (.cells #[.int .i64 id] 154))
    obtain ⟨hfew, hgoodle⟩ := logJ_few bs id
    go_wp2_with fail
    clear hah hag han
    generalize w1.alloc (.cells #[.int .i64 id] 154) = W1 at *
    with_reducible refine (scan_any a cap bs id W1 (HQ.out.on' HBE.out) hcap hc2 hl).mono ?_
    rintro e w2 ⟨hb, a2, c2, rfl, -⟩
    have HB2 := hidden (HBE.out.trans (hb.mono HBE.out.size))
    have HB3 := hidden (HB2.out.alloc HB2.out.size (.cells #[.slice a2 (logJ bs id).groups.length c2, .int .i64 ((logJ bs id).good : Nat), .bool (logJ bs id).bound] 89))
    clear hb
    generalize hL : logJ bs id = L at HAD HB3 hfew hgoodle ⊢
    obtain ⟨gs, good, bound⟩ := L
    dsimp only at HAD HB3 hfew hgoodle ⊢
    clear hL
    by_cases hg : good < bs.length
    · have HNO : Hid (addJ bs l = ([], 12)) := hidden (by rw [HAD.out, if_pos hg])
      go_wp2_with fail
      go_ret2
      exact AddP.err HB3.out HNO.out
    · have HNO : Hid (addJ bs l = groupJ (gs.length + 1) l) := hidden (by rw [HAD.out, if_neg hg])
      have HGR : Hid (∀ W, Below w.heap.size w W → Calls Try.prog 64 #[.int .i64 ((gs.length : Int) + 1), .slice a0 l.length cap0] W (GroupP ((gs.length : Int) + 1) l W)) := hidden (fun W hW => group_any _ _ l W ⟨by omega, by omega⟩ (rep_on HR.out hW) HOK.out hle)
      go_wp2_with fail
      with_reducible refine (HGR.out _ HB3.out).mono ?_
      rintro e w3 ⟨hb, v3, rfl, ho⟩
      have HE : Hid (AddP bs l w (.returned (.tuple #[v3, .int .i64 ((groupJ ((gs.length : Int) + 1) l).2 : Nat)])) w3) := hidden ⟨HB3.out.trans (hb.mono HB3.out.size), v3, by rw [HNO.out], by rw [HNO.out]; exact ho.weaken HB3.out.size⟩
      clear hb ho HGR
      go_wp2_with fail
      go_ret2
      exact HE.out

/-! ### One change of kind 1 -/
def op1 : OpD := (1, [], [], 0, 0, 0, 0, [], ([], [], []), ([], [], 0, 0, (0, 0, [])), [])
def op1V : List Value := [.int .i64 1, .string ⟨#[]⟩, .string ⟨#[]⟩, .int .i64 0, .int .i64 0, .int .i64 0, .int .i64 0, .string ⟨#[]⟩, .string ⟨#[]⟩, .string ⟨#[]⟩, .string ⟨#[]⟩, .string ⟨#[]⟩, .string ⟨#[]⟩, .int .i64 0, .int .i64 0, .int .i64 0, .int .i64 0, .string ⟨#[]⟩, .slice none 0 0]
theorem op1_rep (S : Nat → Prop) (w : World) : tOp.rep S w op1V op1 :=
  ⟨[.int .i64 1], _, rfl, rfl, [.string ⟨#[]⟩], _, rfl, rfl, [.string ⟨#[]⟩], _, rfl, rfl, [.int .i64 0], _, rfl, rfl, [.int .i64 0], _, rfl, rfl, [.int .i64 0], _, rfl, rfl, [.int .i64 0], _, rfl, rfl, [.string ⟨#[]⟩], _, rfl, rfl,
    [.string ⟨#[]⟩, .string ⟨#[]⟩, .string ⟨#[]⟩], _, rfl, ⟨[.string ⟨#[]⟩], _, rfl, rfl, [.string ⟨#[]⟩], _, rfl, rfl, rfl⟩,
    [.string ⟨#[]⟩, .string ⟨#[]⟩, .int .i64 0, .int .i64 0, .int .i64 0, .int .i64 0, .string ⟨#[]⟩], _, rfl, ⟨[.string ⟨#[]⟩], _, rfl, rfl, [.string ⟨#[]⟩], _, rfl, rfl, [.int .i64 0], _, rfl, rfl, [.int .i64 0], _, rfl, rfl, [.int .i64 0], _, rfl, rfl, [.int .i64 0], _, rfl, rfl, rfl⟩, list_nil_rep _ _ _⟩
theorem ops1_ok : tOps.cod.ok [op1] := by
  have z : I64 0 := ⟨by decide, by decide⟩
  have t : cT.ok [] := Nat.zero_le _
  refine ⟨by simp, fun x hx => ?_⟩
  rw [List.mem_singleton] at hx
  subst hx
  exact ⟨⟨by decide, by decide⟩, t, t, z, z, z, z, t, ⟨t, t, t⟩, ⟨t, t, z, z, z, z, t⟩, ⟨Nat.zero_le _, fun x hx => by cases hx⟩⟩
theorem ops1_len : (tOps.cod.enc [op1]).length ≤ 300 := by
  have h0 := encN_zero_len
  have h1 : (encN 1).length ≤ 10 := encN_length ⟨by decide, by decide⟩
  have ht : (encT []).length ≤ 10 := by
    show (encN 0 ++ []).length ≤ 10
    rw [List.append_nil]; exact h0
  have hm : encM tCell.cod [] = [] := rfl
  show (encN 1 ++ encM tOp.cod [op1]).length ≤ _
  rw [encM_one]
  show (encN 1 ++ (encN 1 ++ (encT [] ++ (encT [] ++ (encN 0 ++ (encN 0 ++ (encN 0 ++ (encN 0 ++ (encT [] ++ ((encT [] ++ (encT [] ++ encT [])) ++ ((encT [] ++ (encT [] ++ (encN 0 ++ (encN 0 ++ (encN 0 ++ (encN 0 ++ encT [])))))) ++ (encN 0 ++ encM tCell.cod [])))))))))))).length ≤ _
  rw [hm]
  simp only [List.length_append, List.length_nil]
  omega
theorem fit1 {k : Nat} (hk : k ≤ 100000000) : FitJ k [op1] := by
  refine ⟨by simp, ops1_ok, ?_⟩
  have h1 := encI_len (xs := [(k : Int) + 1]) (h64_one ⟨by omega, by omega⟩) (by show 1 ≤ 100; omega)
  have h2 := ops1_len
  unfold contJ
  rw [List.length_append]
  simp only [List.length_cons, List.length_nil] at h1
  omega
theorem op1V_one : ∀ u ∈ op1V, u.oneCell' = true := tOp.one (op1_rep (fun _ => True) (default : World))
theorem built1 : Try.prog.built 108 [(0, .int .i64 1)] = some op1V.toArray := built108 1
/-- A slice of that one change, just made. -/
theorem ops1_new (w : World) : tOps.rep (· < (w.alloc (.cells op1V.toArray 108)).heap.size) (w.alloc (.cells op1V.toArray 108)) [.slice (some ⟨w.heap.size, 0, none⟩) 1 1] [op1] := by
  refine ⟨some ⟨w.heap.size, 0, none⟩, 1, rfl, Nat.le_refl _, by decide, fun i hi => ?_⟩
  have hi0 : i = 0 := by simp at hi; omega
  subst hi0
  refine ⟨w.heap.size, 0, op1V, rfl, by rw [World.size_alloc]; omega, ?_, op1_rep _ _⟩
  rw [Nat.zero_mul]
  exact new_range w op1V 108
theorem empty_new {B g : Nat} (w : World) (hB : B ≤ w.heap.size) (hg : g = w.heap.size) : OwnB B (w.alloc (.cells #[] 5)) (.slice (some ⟨g, 0, none⟩) 0 0) [] := by
  subst hg
  have h : OwnB w.heap.size (w.alloc (.cells #[] 5)) (.slice (some ⟨w.heap.size, 0, none⟩) 0 0) [] := World.ownsRow_lit w #[] 0 (Nat.le_refl _) (by decide) rfl
  exact h.weaken hB
theorem field89_2 (w : World) (a : Option Addr) (n c : Nat) (g : Int) (b : Bool) : (Instr.field 89 (.agg #[.slice a n c, .int .i64 g, .bool b]) 2).run Try.prog w = .ok (.bool b) w := by kernel_rfl
theorem field89_1 (w : World) (a : Option Addr) (n c : Nat) (g : Int) (b : Bool) : (Instr.field 89 (.agg #[.slice a n c, .int .i64 g, .bool b]) 1).run Try.prog w = .ok (.int .i64 g) w := by kernel_rfl
theorem h5 : -9223372036854775808 ≤ (5 : Int) ∧ (5 : Int) ≤ 9223372036854775807 := ⟨by decide, by decide⟩
theorem jour_nil (id : Int) : jourJ id [] = headJ id := by unfold jourJ bodyJ; exact List.append_nil _
theorem lives_plain : addJ (headJ 5) [op1] = (frameL (contJ 1 [op1]), 0) ∧ logJ (headJ 5 ++ frameL (contJ 1 [op1])) 5 = ⟨[[op1]], (headJ 5 ++ frameL (contJ 1 [op1])).length, true⟩ ∧ logJ (headJ 5) 6 = ⟨[], 0, false⟩ ∧ logJ (headJ 5) 5 = ⟨[], (headJ 5).length, true⟩ ∧ (headJ 5).length ≤ 38 ∧ (frameL (contJ 1 [op1])).length ≤ 140000 := by
  have hf : FitJ 0 [op1] := fit1 (by omega)
  have h1 := addJ_jour h5 (gs := []) (by simp) trivial [op1]
  have h2 := groupJ_fit hf
  have h3 := logJ_jour h5 (gs := [[op1]]) (by simp) ⟨hf, trivial⟩
  have h4 := logJ_other h5 (a := 6) (by decide) []
  have h6 := logJ_jour h5 (gs := []) (by simp) trivial
  rw [jour_nil] at h1 h4 h6
  have h7 : jourJ 5 [[op1]] = headJ 5 ++ frameL (contJ 1 [op1]) := by
    unfold jourJ
    show headJ 5 ++ (frameL (contJ _ [op1]) ++ []) = _
    rw [List.append_nil]; rfl
  rw [h7] at h3
  have h8 : ((0 : Nat) : Int) + 1 = 1 := rfl
  rw [h8] at h2
  have h9 := hf.2.2
  rw [h8] at h9
  refine ⟨h1.trans h2, h3, h4, h6, (head_small h5).2, by rw [frameL_length]; omega⟩

set_option maxRecDepth 100000 in
set_option maxHeartbeats 64000000 in
theorem lives_04 (w : World) : Calls Try.prog 56 #[] w fun e w' => e = .returned (.bool true) ∧ Below w.heap.size w w' := by
  obtain ⟨p1, p2, p3, p4, p5, p6⟩ := lives_plain
  have H1 := hidden p1
  have H2 := hidden p2
  have H3 := hidden p3
  have H4 := hidden p4
  have HHD : Hid (∀ W, Calls Try.prog 62 #[.int .i64 5] W (MadeB (headJ 5) W)) := hidden (fun W => begin_any 5 W h5)
  generalize headJ 5 = hd at HHD H1 H2 H3 H4 p5
  generalize frameL (contJ 1 [op1]) = fr at H1 H2 p6
  clear p1 p2 p3 p4
  have HBU := hidden built1
  obtain ⟨us, hus⟩ : ∃ us, op1V = us := ⟨_, rfl⟩
  have HOP := hidden ops1_new
  rw [hus] at HBU HOP
  have hul19 : us.length = 19 := by rw [← hus]; rfl
  clear hus
  have hfold := fold_cells us #[Value.int IntKind.i64 0, Value.string { data := #[] }, Value.string { data := #[] }, Value.int IntKind.i64 0, Value.int IntKind.i64 0, Value.int IntKind.i64 0, Value.int IntKind.i64 0, Value.string { data := #[] }, Value.string { data := #[] }, Value.string { data := #[] }, Value.string { data := #[] }, Value.string { data := #[] }, Value.string { data := #[] }, Value.int IntKind.i64 0, Value.int IntKind.i64 0, Value.int IntKind.i64 0, Value.int IntKind.i64 0, Value.string { data := #[] }, Value.slice none 0 0] hul19
  go_enter Try.func56, Try.ntmps56
  go_wp2_with fail
  with_reducible refine (HHD.out w).mono ?_
  rintro e w1 ⟨hb, v, rfl, ho⟩
  have HB1 := hidden hb
  have HO1 := hidden ho
  obtain ⟨a1, c1, rfl, q1, hc1, -⟩ := ho.reads
  have hm1 := own_cap ho rfl
  have Q1 := hidden q1
  clear hb ho q1
  have HAD : Hid (Calls Try.prog 57 #[.slice a1 hd.length c1, .slice (some ⟨w1.heap.size, 0, none⟩) 1 1] (w1.alloc (.cells us.toArray 108)) (AddP hd [op1] (w1.alloc (.cells us.toArray 108)))) := hidden (add_any a1 c1 hd _ [op1] _ (Q1.out.on' ((Below.refl _ _).alloc (Nat.le_refl _) _)) hc1 hm1 (by omega) (HOP.out w1) ops1_ok (by have := ops1_len; omega))
  have HB2 := hidden (HB1.out.alloc HB1.out.size (.cells us.toArray 108))
  go_wp2_with (first | ((with_reducible refine wpList_built (o := ⟨some 8, .build 108 #[(0, .const (.int .i64 1))], _, _, _, _⟩) ?_ 108 #[(0, .const (.int .i64 1))] ?_ us.toArray ?_ ?_); rfl; rfl; (simp only [List.map_toArray, List.map_cons, List.map_nil, Act.eval]; exact HBU.out)) | fail)
  with_reducible refine HAD.out.mono ?_
  rintro e w2 ⟨hb, v2, rfl, ho⟩
  rw [H1.out] at ho ⊢
  have HB3 := hidden (HB2.out.trans (hb.mono HB2.out.size))
  have Q2 := hidden ((Q1.out.on' ((Below.refl w1.heap.size w1).alloc (Nat.le_refl _) (.cells us.toArray 108))).on' hb)
  obtain ⟨a2, c2, rfl, q2, hc2, -⟩ := ho.reads
  have QG := hidden q2
  clear hb ho q2 HAD
  have HLB : Hid (hd.length + fr.length ≤ 140737488355328) := hidden (by omega)
  have HE0 : Hid (OwnB w2.heap.size (w2.alloc (.cells #[] 5)) (.slice (some ⟨w2.heap.size, 0, none⟩) 0 0) []) := hidden (empty_new w2 (Nat.le_refl _) rfl)
  have hbe : Below w2.heap.size w2 (w2.alloc (.cells #[] 5)) := (Below.refl _ _).alloc (Nat.le_refl _) _
  have QE := hidden (Q2.out.on' hbe)
  have ZE : Hid (w2.heap.size ≤ (w2.alloc (.cells #[] 5)).heap.size) := hidden hbe.size
  have HLH : Hid (([] : List UInt8).length + hd.length ≤ 140737488355328) := hidden (by simp; omega)
  have HBE := hidden hbe
  clear hbe
  go_wp2_with (first
    | (at_builtin; refine wpList_append_B rfl (.tmp 13) (.tmp 14) rfl rfl HE0.out rfl rfl QE.out HLH.out ZE.out ?_; intro v3 w3 g3; rw [List.nil_append] at g3; have G3 := hidden g3; obtain ⟨a3, c3, rfl, -, -, -⟩ := g3.own.reads; clear g3)
    | (at_builtin; refine wpList_append_B rfl (.tmp 15) (.tmp 16) rfl rfl G3.out.own rfl rfl (QG.out.on' (HBE.out.trans (G3.out.below (C := w2.heap.size) ZE.out (fun k hk => (HE0.out.lt k hk).1)))) HLB.out (Nat.le_trans ZE.out G3.out.upd.size) ?_; intro v4 w4 g4; have G4 := hidden g4; obtain ⟨a4, c4, rfl, q4, hc4, -⟩ := g4.own.reads; have hm4 := own_cap g4.own rfl; have Q4 := hidden q4; clear g4 q4)
    | fail)
  have HB4 := hidden (HB3.out.trans ((HBE.out.trans ((G3.out.below (C := w2.heap.size) ZE.out (fun k hk => (HE0.out.lt k hk).1)).trans (G4.out.below (C := w2.heap.size) (Nat.le_trans ZE.out G3.out.upd.size) (fun k hk => (G3.out.own.lt k hk).1)))).mono HB3.out.size))
  have HSC : Hid (Calls Try.prog 60 #[.slice a4 (hd ++ fr).length c4, .int .i64 5] w4 (ScanP (hd ++ fr) 5 w4)) := hidden (scan_any a4 c4 (hd ++ fr) 5 w4 Q4.out hc4 hm4 (by rw [List.length_append]; omega))
  rw [List.length_append] at HSC
  with_reducible refine HSC.out.mono ?_
  rintro e w5 ⟨hb, a5, c5, rfl, -⟩
  rw [H2.out]
  have HB5 := hidden (HB4.out.trans (hb.mono HB4.out.size))
  have HB6 := hidden (HB5.out.alloc HB5.out.size (.cells #[.slice a5 1 c5, .int .i64 ((hd ++ fr).length : Nat), .bool true] 89))
  have Q6 : Hid (BytesAt (w5.alloc (.cells #[.slice a5 1 c5, .int .i64 ((hd ++ fr).length : Nat), .bool true] 89)) a1 hd) := hidden ((((Q2.out.on' (HBE.out.trans ((G3.out.below (C := w2.heap.size) ZE.out (fun k hk => (HE0.out.lt k hk).1)).trans (G4.out.below (C := w2.heap.size) (Nat.le_trans ZE.out G3.out.upd.size) (fun k hk => (G3.out.own.lt k hk).1))))).on' hb)).on' ((Below.refl _ _).alloc (Nat.le_refl _) _))
  clear hb HSC
  simp only [List.length_cons, List.length_nil, Nat.zero_add]
  generalize (hd ++ fr).length = T at HB6 Q6 ⊢
  go_wp2_with fail
  have hf2 := field89_2
  have hf1 := field89_1
  generalize w5.alloc (.cells #[.slice a5 1 c5, .int .i64 (T : Int), .bool true] 89) = w6 at *
  with_reducible refine (scan_any a1 c1 hd 6 w6 Q6.out hc1 hm1 (by omega)).mono ?_
  rintro e w7 ⟨hb, a7, c7, rfl, -⟩
  rw [H3.out]
  have HB7 := hidden (HB6.out.trans (hb.mono HB6.out.size))
  have Q7 := hidden (Q6.out.on' hb)
  clear hb
  go_wp2_with fail
  with_reducible refine (scan_any a1 c1 hd 5 w7 Q7.out hc1 hm1 (by omega)).mono ?_
  rintro e w8 ⟨hb, a8, c8, rfl, -⟩
  rw [H4.out]
  have HB8 := hidden (HB7.out.trans (hb.mono HB7.out.size))
  clear hb
  go_wp2_with fail
  go_ret
  exact ⟨rfl, HB8.out⟩

set_option maxRecDepth 100000 in
set_option maxHeartbeats 32000000 in
theorem groups_law (seq : Int) (v0 : Value) (l : List OpD) (w : World) (hs : -9223372036854775808 ≤ seq ∧ seq ≤ 9223372036854775807) (hr : tOps.rep (· < w.heap.size) w [v0] l) (hok : tOps.cod.ok l) (hle : (tOps.cod.enc l).length ≤ 100000000000) :
    Calls Try.prog 14 #[.int .i64 seq, v0] w fun e w' => e = .returned (.bool true) ∧ Below w.heap.size w w' := by
  have hr' := hr
  obtain ⟨a0, cap0, hv, -⟩ := hr'
  cases hv
  have HR := hidden hr
  have HOK := hidden hok
  clear hr hok
  by_cases hbig : 50 < l.length
  · go_enter Try.func14, Try.ntmps14
    go_wp2_with fail
    with_reducible refine (lives_04 w).mono ?_
    rintro e w1 ⟨rfl, hb⟩
    have B := hidden hb
    clear hb
    go_wp2_with fail
    go_ret
    exact ⟨rfl, B.out⟩
  · have HGA : Hid (Calls Try.prog 64 #[.int .i64 seq, .slice a0 l.length cap0] w (GroupP seq l w)) := hidden (group_any _ _ l w hs HR.out HOK.out hle)
    have HGR : Hid (∀ W, Below w.heap.size w W → Calls Try.prog 65 #[.int .i64 seq, .slice a0 l.length cap0] W (GroupP seq l W)) := hidden (fun W hW => group_ref _ _ l W hs (rep_on HR.out hW) HOK.out hle)
    go_enter Try.func14, Try.ntmps14
    go_wp2_with fail
    with_reducible refine HGA.out.mono ?_
    rintro e w1 ⟨hb, v1, rfl, ho⟩
    have B1 := hidden hb
    obtain ⟨a1, c1, rfl, q1, -, -⟩ := ho.reads
    have Q1 := hidden q1
    clear hb ho q1 HGA
    go_wp2_with fail
    with_reducible refine (HGR.out _ B1.out).mono ?_
    rintro e w2 ⟨hb, v2, rfl, ho⟩
    have B2 := hidden (B1.out.trans (hb.mono B1.out.size))
    have Q2 := hidden (Q1.out.on' hb)
    obtain ⟨a2, c2, rfl, q2, -, -⟩ := ho.reads
    clear hb ho HGR
    generalize (groupJ seq l).1 = fs at Q2 q2 ⊢
    generalize (groupJ seq l).2 = er
    go_wp2_with fail
    with_reducible refine (same_eq _ _ _ _ _ _ fs w2 Q2.out q2 rfl rfl).mono ?_
    rintro e w3 ⟨rfl, rfl⟩
    clear q2
    go_wp2_with fail
    with_reducible refine (lives_04 w2).mono ?_
    rintro e w3 ⟨rfl, hb⟩
    have B3 := hidden (B2.out.trans (hb.mono B2.out.size))
    clear hb
    go_wp2_with fail
    go_ret
    exact ⟨rfl, B3.out⟩
end Go.Proofs.Ytekmjegeiminnaa
