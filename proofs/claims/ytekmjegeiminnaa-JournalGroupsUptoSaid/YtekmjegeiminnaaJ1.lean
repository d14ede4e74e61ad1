/- A journal's header and groups in bytes: the program's and the reference's, walked. -/
import Derived.Test.YtekmjegeiminnaaP7
import Derived.Test.YtekmjegeiminnaaE6
import Derived.Test.YtekmjegeiminnaaC8
import Derived.Deep.RegionLaw
namespace Go.Proofs.Ytekmjegeiminnaa
open Go.RowKit
set_option linter.unusedVariables false
set_option linter.unusedSimpArgs false

/-- What a call that makes bytes answers. -/
def MadeB (bs : List UInt8) (w : World) (e : Ending) (w' : World) : Prop := Below w.heap.size w w' ∧ ∃ v, e = .returned v ∧ OwnB w.heap.size w' v bs
theorem MadeB.of {bs : List UInt8} {w w' : World} {v : Value} {B : Nat} (hb : Below w.heap.size w w') (ho : OwnB B w' v bs) (hB : w.heap.size ≤ B) : MadeB bs w (.returned v) w' := ⟨hb, v, rfl, ho.weaken hB⟩
theorem ints2_new {w : World} {x y : Int} : IntsAt (w.alloc (.cells #[.int .i64 x, .int .i64 y] 3)) (some ⟨w.heap.size, 0, none⟩) [x, y] := ints_new rfl _ rfl
theorem ints1_new {w : World} {x : Int} : IntsAt (w.alloc (.cells #[.int .i64 x] 3)) (some ⟨w.heap.size, 0, none⟩) [x] := ints_new rfl _ rfl
theorem h64_one {x : Int} (h : I64 x) : ∀ y ∈ [x], I64 y := fun y hy => by rw [List.mem_singleton] at hy; subst hy; exact h

set_option maxRecDepth 100000 in
set_option maxHeartbeats 8000000 in
theorem content_head (id : Int) (w : World) (hid : -9223372036854775808 ≤ id ∧ id ≤ 9223372036854775807) : Calls Try.prog 100 #[.agg #[.int .i64 id]] w (MadeB (encI [7, id]) w) := by
  have HX := hidden (h64_head hid)
  have HB1 : Hid (Below w.heap.size w (w.alloc (.cells #[.int .i64 id] 154))) := hidden ((Below.refl _ _).alloc (Nat.le_refl _) _)
  have HI : Hid (IntsAt ((w.alloc (.cells #[.int .i64 id] 154)).alloc (.cells #[.int .i64 7, .int .i64 id] 3)) (some ⟨w.heap.size + 1, 0, none⟩) [7, id]) := hidden (by have := ints2_new (w := w.alloc (.cells #[.int .i64 id] 154)) (x := 7) (y := id); rw [World.size_alloc] at this; exact this)
  have HB2 : Hid (Below w.heap.size w ((w.alloc (.cells #[.int .i64 id] 154)).alloc (.cells #[.int .i64 7, .int .i64 id] 3))) := hidden (HB1.out.alloc HB1.out.size _)
  go_enter Try.func100, Try.ntmps100
  go_wp2_with fail
  generalize ((w.alloc (.cells #[.int .i64 id] 154)).alloc (.cells #[.int .i64 7, .int .i64 id] 3)) = w1 at *
  with_reducible refine (ints_any (some ⟨w.heap.size + 1, 0, none⟩) 2 2 [7, id] w1 HX.out HI.out rfl (by omega) (by simp)).mono ?_
  rintro e w2 ⟨hb, v, rfl, ho⟩
  have HE := hidden (MadeB.of (HB2.out.trans (hb.mono HB2.out.size)) ho HB2.out.size)
  clear hb ho
  go_wp2_with fail
  go_ret
  exact HE.out

set_option maxRecDepth 100000 in
set_option maxHeartbeats 8000000 in
theorem begin_any (id : Int) (w : World) (hid : -9223372036854775808 ≤ id ∧ id ≤ 9223372036854775807) : Calls Try.prog 62 #[.int .i64 id] w (MadeB (headJ id) w) := by
  have HS := hidden (head_small hid).1
  have HID := hidden hid
  clear hid
  go_enter Try.func62, Try.ntmps62
  go_wp2_with fail
  with_reducible refine (content_head id w HID.out).mono ?_
  rintro e w1 ⟨hb, v, rfl, ho⟩
  obtain ⟨a, c, rfl, q, hc, -⟩ := ho.reads
  have HB := hidden hb
  have Q := hidden q
  have hl : (encI [7, id]).length ≤ 140737488351232 := by have := HS.out; omega
  generalize hfs : encI [7, id] = fs at Q HS hl
  have HFS : Hid (frameL fs = headJ id) := hidden (by rw [← hfs]; rfl)
  clear hb q ho hfs
  go_wp2_with fail
  with_reducible refine (frame_any a _ c fs w1 Q.out rfl hl).mono ?_
  rintro e w2 ⟨hb, v2, rfl, ho⟩
  rw [if_pos HS.out, HFS.out] at ho
  have HE := hidden (MadeB.of (HB.out.trans (hb.mono HB.out.size)) ho HB.out.size)
  clear hb ho
  go_wp2_with fail
  go_ret
  exact HE.out

set_option maxRecDepth 100000 in
set_option maxHeartbeats 8000000 in
theorem begin_ref (id : Int) (w : World) (hid : -9223372036854775808 ≤ id ∧ id ≤ 9223372036854775807) : Calls Try.prog 63 #[.int .i64 id] w (MadeB (headJ id) w) := by
  have HS := hidden (head_small hid).1
  have HX := hidden (h64_head hid)
  have HI : Hid (IntsAt (w.alloc (.cells #[.int .i64 7, .int .i64 id] 3)) (some ⟨w.heap.size, 0, none⟩) [7, id]) := hidden ints2_new
  have HB1 : Hid (Below w.heap.size w (w.alloc (.cells #[.int .i64 7, .int .i64 id] 3))) := hidden ((Below.refl _ _).alloc (Nat.le_refl _) _)
  go_enter Try.func63, Try.ntmps63
  go_wp2_with fail
  with_reducible refine (refints (some ⟨w.heap.size, 0, none⟩) 2 2 [7, id] _ HX.out HI.out rfl (by omega) (by simp)).mono ?_
  rintro e w1 ⟨hb, v, rfl, ho⟩
  obtain ⟨a, c, rfl, q, hc, -⟩ := ho.reads
  have HB := hidden (HB1.out.trans (hb.mono HB1.out.size))
  have Q := hidden q
  have hl : (encI [7, id]).length ≤ 140737488351232 := by have := HS.out; omega
  generalize hfs : encI [7, id] = fs at Q HS hl
  have HFS : Hid (frameL fs = headJ id) := hidden (by rw [← hfs]; rfl)
  clear hb q ho hfs
  go_wp2_with fail
  with_reducible refine (frame_ref a _ c fs w1 Q.out rfl hl).mono ?_
  rintro e w2 ⟨hb, v2, rfl, ho⟩
  rw [if_pos HS.out, HFS.out] at ho
  have HE := hidden (MadeB.of (HB.out.trans (hb.mono HB.out.size)) ho HB.out.size)
  clear hb ho
  go_wp2_with fail
  go_ret
  exact HE.out

set_option maxRecDepth 100000 in
set_option maxHeartbeats 16000000 in
theorem content_group (seq : Int) (v0 : Value) (l : List OpD) (w : World) (hs : -9223372036854775808 ≤ seq ∧ seq ≤ 9223372036854775807) (hr : tOps.rep (· < w.heap.size) w [v0] l) (hok : tOps.cod.ok l) (hl : (tOps.cod.enc l).length ≤ 100000000000) :
    Calls Try.prog 101 #[.agg #[.int .i64 seq, v0]] w (MadeB (contJ seq l) w) := by
  have HX := hidden (h64_one hs)
  have HL := hidden (encI_len (h64_one hs) (by simp))
  have hr' := hr
  obtain ⟨a, cap, hv, -⟩ := hr'
  cases hv
  have hb1 : Below w.heap.size w (w.alloc (.cells #[.int .i64 seq, .slice a l.length cap] 159)) := (Below.refl _ _).alloc (Nat.le_refl _) _
  have HB1 := hidden hb1
  have HR := hidden (rep_on hr hb1)
  have HOK := hidden hok
  have hc0 : (w.alloc (.cells #[.int .i64 seq, .slice a l.length cap] 159)).cell? ⟨w.heap.size, 0, none⟩ = some (.int .i64 seq) := new_range w [.int .i64 seq, .slice a l.length cap] 159 0 _ rfl
  have hc1 : (w.alloc (.cells #[.int .i64 seq, .slice a l.length cap] 159)).cell? ⟨w.heap.size, 1, none⟩ = some (.slice a l.length cap) := new_range w [.int .i64 seq, .slice a l.length cap] 159 1 _ rfl
  have HC := hidden (And.intro hc0 hc1)
  have hgl : w.heap.size < (w.alloc (.cells #[.int .i64 seq, .slice a l.length cap] 159)).heap.size := by rw [World.size_alloc]; omega
  clear hr hok hb1 hc0 hc1
  go_enter Try.func101, Try.ntmps101
  go_wp2_with fail
  generalize w.alloc (.cells #[.int .i64 seq, .slice a l.length cap] 159) = w1 at *
  generalize hg : w.heap.size = g at *
  have HFR : Hid (∀ W, Below w1.heap.size w1 W → W.cell? ⟨g, 0, none⟩ = some (.int .i64 seq) ∧ W.cell? ⟨g, 1, none⟩ = some (.slice a l.length cap)) := hidden (fun W hW => ⟨(hW.cell (p := ⟨g, 0, none⟩) hgl).trans HC.out.1, (hW.cell (p := ⟨g, 1, none⟩) hgl).trans HC.out.2⟩)
  have HI : Hid (IntsAt (w1.alloc (.cells #[.int .i64 seq] 3)).drew (some ⟨w1.heap.size, 0, none⟩) [seq]) := hidden ((ints1_new (w := w1)).on' (below_drew _))
  have HB2 : Hid (Below w1.heap.size w1 (w1.alloc (.cells #[.int .i64 seq] 3)).drew) := hidden (below_dn ((Below.refl _ _).alloc (Nat.le_refl _) _) 1)
  obtain ⟨k0, k1⟩ := HFR.out _ (Below.refl _ w1)
  have hgd : g < w1.drew.heap.size := hgl
  obtain ⟨fs, HFS⟩ : ∃ fs, Hid (encI [seq] = fs) := ⟨_, rfl⟩
  obtain ⟨gs, HGS⟩ : ∃ gs, Hid (tOps.cod.enc l = gs) := ⟨_, rfl⟩
  have hlf : fs.length ≤ 20 := by rw [← HFS.out]; exact HL.out
  have hlg : gs.length ≤ 100000000000 := by rw [← HGS.out]; exact hl
  have HLE : Hid (fs.length + gs.length ≤ 140737488355328) := hidden (by omega)
  have HCI : Hid (∀ W a, IntsAt W a [seq] → Calls Try.prog 28 #[.slice a 1 1] W fun e w' => Below W.heap.size W w' ∧ ∃ v, e = .returned v ∧ OwnB W.heap.size w' v fs) := hidden (fun W a h => by rw [← HFS.out]; exact ints_any a 1 1 [seq] W HX.out h rfl (by omega) (by simp))
  have HCO : Hid (∀ W, Below w1.heap.size w1 W → Calls Try.prog 50 #[.slice a l.length cap] W fun e w' => Below W.heap.size W w' ∧ ∃ v, e = .returned v ∧ OwnB W.heap.size w' v gs) := hidden (fun W h => by rw [← HGS.out]; exact ops_any _ l W (rep_on HR.out h) HOK.out (by omega))
  have HE : Hid (fs ++ gs = contJ seq l) := hidden (by rw [← HFS.out, ← HGS.out]; rfl)
  clear hl
  go_region_law (first
    | (refine step_append_B rfl (.tmp 6) (.tmp 9) rfl (by rfl) O2.out (by rfl) rfl Q3.out HLE.out ZB.out ?_; intro v4 w4 g4; have G4 := hidden g4; clear g4)
    | (go_simp; go_at_call 28; (with_reducible refine (HCI.out _ _ HI.out).mono ?_); rintro e w2 ⟨hb, v2, rfl, ho⟩; have O1 := hidden ho; have Z1 := hidden hb.size; have BB := hidden (HB2.out.trans (hb.mono HB2.out.size)); obtain ⟨a2, c2, rfl, -, -, -⟩ := ho.reads; clear hb ho k0 k1; obtain ⟨k0, k1⟩ := HFR.out _ BB.out)
    | (go_simp; go_at_call 50; (with_reducible refine (HCO.out _ BB.out).mono ?_); rintro e w3 ⟨hb, v3, rfl, ho⟩; obtain ⟨a3, c3, rfl, q3, -, -⟩ := ho.reads; have Q3 := hidden q3; have O2 := hidden (O1.out.on (Upd.ofNew (M := fun _ => False) hb) (fun _ _ h => h)); have ZB := hidden (Nat.le_trans Z1.out hb.size); have B3 := hidden (BB.out.trans (hb.mono BB.out.size)); clear hb ho q3)
    | fail)
  all_goals
    go_wp2_with fail
    go_ret
    have ho := G4.out.own
    rw [HE.out] at ho
    have h2 : w1.heap.size ≤ (w1.alloc (.cells #[.int .i64 seq] 3)).drew.heap.size := HB2.out.size
    have hb4 : Below w1.heap.size w1 _ := B3.out.trans (G4.out.below (C := w1.heap.size) B3.out.size (fun k hk => by have := (O2.out.lt k hk).1; omega))
    refine ⟨?_, v4, rfl, ho.weaken (by omega)⟩
    rw [hg]
    exact HB1.out.trans (hb4.mono (by have := HB1.out.size; omega))

/-- What Group answers. -/
def GroupP (seq : Int) (l : List OpD) (w : World) (e : Ending) (w' : World) : Prop :=
  Below w.heap.size w w' ∧ ∃ v, e = .returned (.tuple #[v, .int .i64 ((groupJ seq l).2 : Nat)]) ∧ OwnB w.heap.size w' v (groupJ seq l).1
theorem GroupP.err {seq : Int} {l : List OpD} {w w' : World} {k : Nat} (hb : Below w.heap.size w w') (h : groupJ seq l = ([], k)) {m : Int} (hm : m = k) : GroupP seq l w (.returned (.tuple #[.slice none 0 0, .int .i64 m])) w' := by
  subst hm
  exact ⟨hb, _, by rw [h], by rw [h]; exact OwnB.nil _ _⟩
theorem groupJ_arg {seq : Int} {l : List OpD} (h : seq < 1 ∨ l.length = 0) : groupJ seq l = ([], 2) := by
  unfold groupJ
  rw [if_pos (h.imp id List.eq_nil_of_length_eq_zero)]
theorem groupJ_go {seq : Int} {l : List OpD} (h1 : ¬ seq < 1) (h2 : ¬ l.length = 0) : groupJ seq l = if 131072 < (contJ seq l).length then ([], 9) else (frameL (contJ seq l), 0) := by
  unfold groupJ
  rw [if_neg (by rintro (h | h); exact h1 h; exact h2 (by rw [h]; rfl))]
theorem contJ_len {seq : Int} {l : List OpD} (hs : I64 seq) (hl : (tOps.cod.enc l).length ≤ 100000000000) : (contJ seq l).length ≤ 100000000020 := by
  have := encI_len (h64_one hs) (by simp)
  unfold contJ
  rw [List.length_append]
  simp only [List.length_cons, List.length_nil] at this
  omega

set_option maxRecDepth 100000 in
set_option maxHeartbeats 16000000 in
theorem group_any (seq : Int) (v0 : Value) (l : List OpD) (w : World) (hs : -9223372036854775808 ≤ seq ∧ seq ≤ 9223372036854775807) (hr : tOps.rep (· < w.heap.size) w [v0] l) (hok : tOps.cod.ok l) (hl : (tOps.cod.enc l).length ≤ 100000000000) :
    Calls Try.prog 64 #[.int .i64 seq, v0] w (GroupP seq l w) := by
  have hr' := hr
  obtain ⟨a, cap, hv, -⟩ := hr'
  cases hv
  have HR := hidden hr
  have HOK := hidden hok
  clear hr hok
  by_cases hs1 : seq < 1
  · have HA := hidden (groupJ_arg (l := l) (.inl hs1))
    go_enter Try.func64, Try.ntmps64
    go_wp2_with fail
    go_ret2
    exact GroupP.err (Below.refl _ _) HA.out rfl
  · by_cases hl0 : l.length = 0
    · have HA := hidden (groupJ_arg (seq := seq) (.inr hl0))
      have hl0' : ((l.length : Int) == 0) = true := by rw [beq_iff_eq]; omega
      have HL0 := hidden hl0
      clear hl0
      go_enter Try.func64, Try.ntmps64
      go_wp2_with fail
      go_ret2
      exact GroupP.err (Below.refl _ _) HA.out rfl
    · have HG := hidden (groupJ_go hs1 hl0)
      have hl0' : ((l.length : Int) == 0) = false := by rw [beq_eq_false_iff_ne]; omega
      have hcl := contJ_len hs hl
      clear hl0
      have HCC : Hid (Calls Try.prog 101 #[.agg #[.int .i64 seq, .slice a l.length cap]] w (MadeB (contJ seq l) w)) := hidden (content_group seq _ l w hs HR.out HOK.out hl)
      go_enter Try.func64, Try.ntmps64
      go_wp2_with fail
      with_reducible refine HCC.out.mono ?_
      rintro e w1 ⟨hb, v, rfl, ho⟩
      clear HCC
      obtain ⟨a1, c1, rfl, q, hc, -⟩ := ho.reads
      have Q := hidden q
      have HB := hidden hb
      clear q ho hb
      by_cases hbig : 131072 < (contJ seq l).length
      · have HA : Hid (groupJ seq l = ([], 9)) := hidden (by rw [HG.out, if_pos hbig])
        go_wp2_with fail
        go_ret2
        exact GroupP.err HB.out HA.out rfl
      · have HA : Hid (groupJ seq l = (frameL (contJ seq l), 0)) := hidden (by rw [HG.out, if_neg hbig])
        have hcl2 : (contJ seq l).length ≤ 140737488351232 := by omega
        have HSM : Hid ((contJ seq l).length ≤ 131072) := hidden (by omega)
        have HFR : Hid (Calls Try.prog 23 #[.slice a1 (contJ seq l).length c1] w1 (Framed (contJ seq l) w1)) := hidden (frame_any a1 _ c1 (contJ seq l) w1 Q.out rfl hcl2)
        go_wp2_with fail
        with_reducible refine HFR.out.mono ?_
        rintro e w3 ⟨hb, v2, rfl, ho⟩
        rw [if_pos HSM.out] at ho
        have HE : Hid (GroupP seq l w (.returned (.tuple #[v2, .int .i64 0])) w3) := hidden ⟨HB.out.trans (hb.mono HB.out.size), v2, by rw [HA.out]; rfl, by rw [HA.out]; exact ho.weaken HB.out.size⟩
        clear hb ho HFR
        go_wp2_with fail
        go_ret2
        exact HE.out

set_option maxRecDepth 100000 in
set_option maxHeartbeats 16000000 in
theorem group_ref (seq : Int) (v0 : Value) (l : List OpD) (w : World) (hs : -9223372036854775808 ≤ seq ∧ seq ≤ 9223372036854775807) (hr : tOps.rep (· < w.heap.size) w [v0] l) (hok : tOps.cod.ok l) (hl : (tOps.cod.enc l).length ≤ 100000000000) :
    Calls Try.prog 65 #[.int .i64 seq, v0] w (GroupP seq l w) := by
  have hr' := hr
  obtain ⟨a, cap, hv, -⟩ := hr'
  cases hv
  have HR := hidden hr
  have HOK := hidden hok
  clear hr hok
  by_cases hs1 : seq < 1
  · have HA := hidden (groupJ_arg (l := l) (.inl hs1))
    go_enter Try.func65, Try.ntmps65
    go_wp2_with fail
    go_ret2
    exact GroupP.err (Below.refl _ _) HA.out rfl
  · by_cases hl0 : l.length = 0
    · have HA := hidden (groupJ_arg (seq := seq) (.inr hl0))
      have hl0' : ((l.length : Int) == 0) = true := by rw [beq_iff_eq]; omega
      have HL0 := hidden hl0
      clear hl0
      go_enter Try.func65, Try.ntmps65
      go_wp2_with fail
      go_ret2
      exact GroupP.err (Below.refl _ _) HA.out rfl
    · have HG := hidden (groupJ_go hs1 hl0)
      have hl0' : ((l.length : Int) == 0) = false := by rw [beq_eq_false_iff_ne]; omega
      have hcl := contJ_len hs hl
      clear hl0
      have HX := hidden (h64_one hs)
      have HL := hidden (encI_len (h64_one hs) (by simp))
      have HI : Hid (IntsAt (w.alloc (.cells #[.int .i64 seq] 3)) (some ⟨w.heap.size, 0, none⟩) [seq]) := hidden ints1_new
      have HB1 : Hid (Below w.heap.size w (w.alloc (.cells #[.int .i64 seq] 3))) := hidden ((Below.refl _ _).alloc (Nat.le_refl _) _)
      obtain ⟨fs, HFS⟩ : ∃ fs, Hid (encI [seq] = fs) := ⟨_, rfl⟩
      obtain ⟨gs, HGS⟩ : ∃ gs, Hid (tOps.cod.enc l = gs) := ⟨_, rfl⟩
      have hlf : fs.length ≤ 20 := by rw [← HFS.out]; exact HL.out
      have hlg : gs.length ≤ 100000000000 := by rw [← HGS.out]; exact hl
      have HLE : Hid (fs.length + gs.length ≤ 140737488355328) := hidden (by omega)
      have HCI : Hid (∀ W a, IntsAt W a [seq] → Calls Try.prog 30 #[.slice a 1 1] W fun e w' => Below W.heap.size W w' ∧ ∃ v, e = .returned v ∧ OwnB W.heap.size w' v fs) := hidden (fun W a h => by rw [← HFS.out]; exact refints a 1 1 [seq] W HX.out h rfl (by omega) (by simp))
      have HCO : Hid (∀ W, Below w.heap.size w W → Calls Try.prog 51 #[.slice a l.length cap] W fun e w' => Below W.heap.size W w' ∧ ∃ v, e = .returned v ∧ OwnB W.heap.size w' v gs) := hidden (fun W h => by rw [← HGS.out]; exact refops _ l W (rep_on HR.out h) HOK.out (by omega))
      have HE : Hid (fs ++ gs = contJ seq l) := hidden (by rw [← HFS.out, ← HGS.out]; rfl)
      clear hl
      go_enter Try.func65, Try.ntmps65
      go_wp2_with fail
      with_reducible refine (HCI.out _ _ HI.out).mono ?_
      rintro e w1 ⟨hb, v, rfl, ho⟩
      have O1 := hidden ho
      have Z1 := hidden hb.size
      have B1 := hidden (HB1.out.trans (hb.mono HB1.out.size))
      obtain ⟨a1, c1, rfl, -, -, -⟩ := ho.reads
      clear ho hb
      go_wp2_with fail
      with_reducible refine (HCO.out _ B1.out).mono ?_
      rintro e w2 ⟨hb, v, rfl, ho⟩
      have O2 := hidden (O1.out.on (Upd.ofNew (M := fun _ => False) hb) (fun _ _ h => h))
      have Z2 := hidden (Nat.le_trans Z1.out hb.size)
      have B2 := hidden (B1.out.trans (hb.mono B1.out.size))
      obtain ⟨a2, c2, rfl, q2, -, -⟩ := ho.reads
      have Q2 := hidden q2
      clear ho hb q2
      by_cases hbig : 131072 < (contJ seq l).length
      · have HA : Hid (groupJ seq l = ([], 9)) := hidden (by rw [HG.out, if_pos hbig])
        go_wp2_with (at_builtin; go_loud (refine wpList_append_B rfl (.tmp 16) (.tmp 18) rfl rfl O2.out rfl rfl Q2.out HLE.out Z2.out ?_); intro v4 w4 g4; rw [HE.out] at g4; have G4 := hidden g4; obtain ⟨a3, c3, rfl, q, hc, -⟩ := g4.own.reads; clear g4)
        have hz1 : (w.alloc (.cells #[.int .i64 seq] 3)).heap.size = w.heap.size + 1 := World.size_alloc _ _
        have HB : Hid (Below w.heap.size w w4) := hidden (B2.out.trans (G4.out.below (C := w.heap.size) B2.out.size (fun k hk => by have := (O2.out.lt k hk).1; omega)))
        clear hz1
        go_ret2
        exact GroupP.err HB.out HA.out rfl
      · have HA : Hid (groupJ seq l = (frameL (contJ seq l), 0)) := hidden (by rw [HG.out, if_neg hbig])
        have hcl2 : (contJ seq l).length ≤ 140737488351232 := by omega
        have HSM : Hid ((contJ seq l).length ≤ 131072) := hidden (by omega)
        go_wp2_with (at_builtin; go_loud (refine wpList_append_B rfl (.tmp 16) (.tmp 18) rfl rfl O2.out rfl rfl Q2.out HLE.out Z2.out ?_); intro v4 w4 g4; rw [HE.out] at g4; have G4 := hidden g4; obtain ⟨a3, c3, rfl, q, hc, -⟩ := g4.own.reads; clear g4)
        have hz1 : (w.alloc (.cells #[.int .i64 seq] 3)).heap.size = w.heap.size + 1 := World.size_alloc _ _
        have HB : Hid (Below w.heap.size w w4) := hidden (B2.out.trans (G4.out.below (C := w.heap.size) B2.out.size (fun k hk => by have := (O2.out.lt k hk).1; omega)))
        clear hz1
        with_reducible refine (frame_ref a3 _ c3 (contJ seq l) w4 q rfl hcl2).mono ?_
        rintro e w5 ⟨hb, v2, rfl, ho⟩
        rw [if_pos HSM.out] at ho
        have HF : Hid (GroupP seq l w (.returned (.tuple #[v2, .int .i64 0])) w5) := hidden ⟨HB.out.trans (hb.mono HB.out.size), v2, by rw [HA.out]; rfl, by rw [HA.out]; exact ho.weaken HB.out.size⟩
        clear hb ho
        go_wp2_with fail
        go_ret2
        exact HF.out
end Go.Proofs.Ytekmjegeiminnaa
