/- The program's Add; the journal's lives; the law JournalGroups, walked. -/
import Derived.Test.YtekmjegeiminnaaJ3
namespace Go.Proofs.Ytekmjegeiminnaa
open Go.RowKit
set_option linter.unusedVariables false
set_option linter.unusedSimpArgs false

/-- What Add answers. -/
def AddP (bs : List UInt8) (l : List OpD) (w : World) (e : Ending) (w' : World) : Prop :=
  Below w.heap.size w w' ∧ ∃ v, e = .returned (.tuple #[v, .int .i64 ((addJ bs l).2 : Nat)]) ∧ OwnB w.heap.size w' v (addJ bs l).1
theorem AddP.err {bs : List UInt8} {l : List OpD} {w w' : World} (hb : Below w.heap.size w w') (h : addJ bs l = ([], 12)) : AddP bs l w (.returned (.tuple #[.slice none 0 0, .int .i64 12])) w' :=
  ⟨hb, _, by rw [h]; rfl, by rw [h]; exact OwnB.nil _ _⟩
theorem addJ_none {bs : List UInt8} {l : List OpD} (h : ∀ id n, nextJ bs ≠ (.header id, n)) : addJ bs l = ([], 12) := by
  unfold addJ
  split
  · rename_i id n e; exact absurd e (h _ _)
  · rfl
theorem addJ_head {bs : List UInt8} {l : List OpD} {id : Int} {n : Nat} (h : nextJ bs = (.header id, n)) : addJ bs l = if (logJ bs id).good < bs.length then ([], 12) else groupJ ((logJ bs id).groups.length + 1) l := by
  unfold addJ; rw [h]
theorem logJ_few (bs : List UInt8) (id : Int) : (logJ bs id).groups.length ≤ bs.length ∧ (logJ bs id).good ≤ bs.length := by
  unfold logJ
  split
  · rename_i h n e
    split
    · have h1 := nextJ_le e
      have h2 := scanJ_le (bs.drop n) 0
      rw [List.length_drop] at h2
      dsimp only
      omega
    · simp
  · simp

set_option maxRecDepth 100000 in
set_option maxHeartbeats 64000000 in
theorem add_any (a : Option Addr) (cap : Nat) (bs : List UInt8) (v0 : Value) (l : List OpD) (w : World) (h : BytesAt w a bs) (hcap : bs.length ≤ cap) (hc2 : (cap : Int) ≤ 9223372036854775807) (hl : bs.length ≤ 100000000)
    (hr : tOps.rep (· < w.heap.size) w [v0] l) (hok : tOps.cod.ok l) (hle : (tOps.cod.enc l).length ≤ 100000000000) :
    Calls Try.prog 57 #[.slice a bs.length cap, v0] w (AddP bs l w) := by
  have hr' := hr
  obtain ⟨a0, cap0, hv, -⟩ := hr'
  cases hv
  have HQ := hidden h
  have HR := hidden hr
  have HOK := hidden hok
  clear h hr hok
  go_enter Try.func57, Try.ntmps57
  go_wp2_with fail
  with_reducible refine (next_any a cap bs w HQ.out hcap hc2 hl).mono ?_
  rintro e w1 ⟨hb, v, rfl, hr⟩
  have HB1 := hidden hb
  have HREC := hidden hr
  have hah := asH_head
  have hag := asH_group
  have han := asH_nil
  clear hb hr
  obtain ⟨rec, nn, HN⟩ : ∃ r n, Hid (nextJ bs = (r, n)) := ⟨_, _, rfl⟩
  rw [HN.out] at HREC ⊢
  cases rec with
  | none =>
    have hv : v = .nilIface := HREC.out
    subst hv
    have HNO := hidden (addJ_none (bs := bs) (l := l) (fun i n e => by rw [HN.out] at e; cases e))
    have HBE := hidden (HB1.out.alloc HB1.out.size (.cells #[.int .i64 0] 154))
    go_wp2_with fail
    go_ret2
    exact AddP.err HBE.out HNO.out
  | group s l' =>
    obtain ⟨u, hv, -⟩ := HREC.out
    subst hv
    have HNO := hidden (addJ_none (bs := bs) (l := l) (fun i n e => by rw [HN.out] at e; cases e))
    have HBE := hidden (HB1.out.alloc HB1.out.size (.cells #[.int .i64 0] 154))
    go_wp2_with fail
    go_ret2
    exact AddP.err HBE.out HNO.out
  | header id =>
    obtain ⟨hv, hh⟩ := HREC.out
    subst hv
    have HAD := hidden (addJ_head (l := l) HN.out)
    have HBE := hidden (HB1.out.alloc HB1.out.size (.cells #[.int .i64 id] 154))
    obtain ⟨hfew, hgoodle⟩ := logJ_few bs id
    go_wp2_with fail
    clear hah hag han
    generalize w1.alloc (.cells #[.int .i64 id] 154) = W1 at *
    with_reducible refine (scan_any a cap bs id W1 (HQ.out.on' HBE.out) hcap hc2 hl).mono ?_
    rintro e w2 ⟨hb, a2, c2, rfl, -⟩
    have HB2 := hidden (HBE.out.trans (hb.mono HBE.out.size))
    have HB3 := hidden (HB2.out.alloc HB2.out.size (.cells #[.slice a2 (logJ bs id).groups.length c2, .int .i64 ((logJ bs id).good : Nat), .bool (logJ bs id).bound] 89))
    clear hb
    generalize hL : logJ bs id = L at HAD HB3 hfew hgoodle ⊢
    obtain ⟨gs, good, bound⟩ := L
    dsimp only at HAD HB3 hfew hgoodle ⊢
    clear hL
    by_cases hg : good < bs.length
    · have HNO : Hid (addJ bs l = ([], 12)) := hidden (by rw [HAD.out, if_pos hg])
      go_wp2_with fail
      go_ret2
      exact AddP.err HB3.out HNO.out
    · have HNO : Hid (addJ bs l = groupJ (gs.length + 1) l) := hidden (by rw [HAD.out, if_neg hg])
      have HGR : Hid (∀ W, Below w.heap.size w W → Calls Try.prog 64 #[.int .i64 ((gs.length : Int) + 1), .slice a0 l.length cap0] W (GroupP ((gs.length : Int) + 1) l W)) := hidden (fun W hW => group_any _ _ l W ⟨by omega, by omega⟩ (rep_on HR.out hW) HOK.out hle)
      go_wp2_with fail
      with_reducible refine (HGR.out _ HB3.out).mono ?_
      rintro e w3 ⟨hb, v3, rfl, ho⟩
      have HE : Hid (AddP bs l w (.returned (.tuple #[v3, .int .i64 ((groupJ ((gs.length : Int) + 1) l).2 : Nat)])) w3) := hidden ⟨HB3.out.trans (hb.mono HB3.out.size), v3, by rw [HNO.out], by rw [HNO.out]; exact ho.weaken HB3.out.size⟩
      clear hb ho HGR
      go_wp2_with fail
      go_ret2
      exact HE.out

/-! ### One change of kind 1 -/
def op1 : OpD := (1, [], [], 0, 0, 0, 0, [], ([], [], []), ([], [], 0, 0, (0, 0, [])), [])
def op1V : List Value := [.int .i64 1, .string ⟨#[]⟩, .string ⟨#[]⟩, .int .i64 0, .int .i64 0, .int .i64 0, .int .i64 0, .string ⟨#[]⟩, .string ⟨#[]⟩, .string ⟨#[]⟩, .string ⟨#[]⟩, .string ⟨#[]⟩, .string ⟨#[]⟩, .int .i64 0, .int .i64 0, .int .i64 0, .int .i64 0, .string ⟨#[]⟩, .slice none 0 0]
theorem op1_rep (S : Nat → Prop) (w : World) : tOp.rep S w op1V op1 :=
  ⟨[.int .i64 1], _, rfl, rfl, [.string ⟨#[]⟩], _, rfl, rfl, [.string ⟨#[]⟩], _, rfl, rfl, [.int .i64 0], _, rfl, rfl, [.int .i64 0], _, rfl, rfl, [.int .i64 0], _, rfl, rfl, [.int .i64 0], _, rfl, rfl, [.string ⟨#[]⟩], _, rfl, rfl,
    [.string ⟨#[]⟩, .string ⟨#[]⟩, .string ⟨#[]⟩], _, rfl, ⟨[.string ⟨#[]⟩], _, rfl, rfl, [.string ⟨#[]⟩], _, rfl, rfl, rfl⟩,
    [.string ⟨#[]⟩, .string ⟨#[]⟩, .int .i64 0, .int .i64 0, .int .i64 0, .int .i64 0, .string ⟨#[]⟩], _, rfl, ⟨[.string ⟨#[]⟩], _, rfl, rfl, [.string ⟨#[]⟩], _, rfl, rfl, [.int .i64 0], _, rfl, rfl, [.int .i64 0], _, rfl, rfl, [.int .i64 0], _, rfl, rfl, [.int .i64 0], _, rfl, rfl, rfl⟩, list_nil_rep _ _ _⟩
theorem ops1_ok : tOps.cod.ok [op1] := by
  have z : I64 0 := ⟨by decide, by decide⟩
  have t : cT.ok [] := Nat.zero_le _
  refine ⟨by simp, fun x hx => ?_⟩
  rw [List.mem_singleton] at hx
  subst hx
  exact ⟨⟨by decide, by decide⟩, t, t, z, z, z, z, t, ⟨t, t, t⟩, ⟨t, t, z, z, z, z, t⟩, ⟨Nat.zero_le _, fun x hx => by cases hx⟩⟩
theorem ops1_len : (tOps.cod.enc [op1]).length ≤ 300 := by
  have h0 := encN_zero_len
  have h1 : (encN 1).length ≤ 10 := encN_length ⟨by decide, by decide⟩
  have ht : (encT []).length ≤ 10 := by
    show (encN 0 ++ []).length ≤ 10
    rw [List.append_nil]; exact h0
  have hm : encM tCell.cod [] = [] := rfl
  show (encN 1 ++ encM tOp.cod [op1]).length ≤ _
  rw [encM_one]
  show (encN 1 ++ (encN 1 ++ (encT [] ++ (encT [] ++ (encN 0 ++ (encN 0 ++ (encN 0 ++ (encN 0 ++ (encT [] ++ ((encT [] ++ (encT [] ++ encT [])) ++ ((encT [] ++ (encT [] ++ (encN 0 ++ (encN 0 ++ (encN 0 ++ (encN 0 ++ encT [])))))) ++ (encN 0 ++ encM tCell.cod [])))))))))))).length ≤ _
  rw [hm]
  simp only [List.length_append, List.length_nil]
  omega
theorem fit1 {k : Nat} (hk : k ≤ 100000000) : FitJ k [op1] := by
  refine ⟨by simp, ops1_ok, ?_⟩
  have h1 := encI_len (xs := [(k : Int) + 1]) (h64_one ⟨by omega, by omega⟩) (by show 1 ≤ 100; omega)
  have h2 := ops1_len
  unfold contJ
  rw [List.length_append]
  simp only [List.length_cons, List.length_nil] at h1
  omega
theorem op1V_one : ∀ u ∈ op1V, u.oneCell' = true := tOp.one (op1_rep (fun _ => True) (default : World))
theorem built1 : Try.prog.built 108 [(0, .int .i64 1)] = some op1V.toArray := built108 1
/-- A slice of that one change, just made. -/
theorem ops1_new (w : World) : tOps.rep (· < (w.alloc (.cells op1V.toArray 108)).heap.size) (w.alloc (.cells op1V.toArray 108)) [.slice (some ⟨w.heap.size, 0, none⟩) 1 1] [op1] := by
  refine ⟨some ⟨w.heap.size, 0, none⟩, 1, rfl, Nat.le_refl _, by decide, fun i hi => ?_⟩
  have hi0 : i = 0 := by simp at hi; omega
  subst hi0
  refine ⟨w.heap.size, 0, op1V, rfl, by rw [World.size_alloc]; omega, ?_, op1_rep _ _⟩
  rw [Nat.zero_mul]
  exact new_range w op1V 108
theorem empty_new {B g : Nat} (w : World) (hB : B ≤ w.heap.size) (hg : g = w.heap.size) : OwnB B (w.alloc (.cells #[] 5)) (.slice (some ⟨g, 0, none⟩) 0 0) [] := by
  subst hg
  have h : OwnB w.heap.size (w.alloc (.cells #[] 5)) (.slice (some ⟨w.heap.size, 0, none⟩) 0 0) [] := World.ownsRow_lit w #[] 0 (Nat.le_refl _) (by decide) rfl
  exact h.weaken hB
theorem field89_2 (w : World) (a : Option Addr) (n c : Nat) (g : Int) (b : Bool) : (Instr.field 89 (.agg #[.slice a n c, .int .i64 g, .bool b]) 2).run Try.prog w = .ok (.bool b) w := by kernel_rfl
theorem field89_1 (w : World) (a : Option Addr) (n c : Nat) (g : Int) (b : Bool) : (Instr.field 89 (.agg #[.slice a n c, .int .i64 g, .bool b]) 1).run Try.prog w = .ok (.int .i64 g) w := by kernel_rfl
theorem h5 : -9223372036854775808 ≤ (5 : Int) ∧ (5 : Int) ≤ 9223372036854775807 := ⟨by decide, by decide⟩
theorem jour_nil (id : Int) : jourJ id [] = headJ id := by unfold jourJ bodyJ; exact List.append_nil _
theorem lives_plain : addJ (headJ 5) [op1] = (frameL (contJ 1 [op1]), 0) ∧ logJ (headJ 5 ++ frameL (contJ 1 [op1])) 5 = ⟨[[op1]], (headJ 5 ++ frameL (contJ 1 [op1])).length, true⟩ ∧ logJ (headJ 5) 6 = ⟨[], 0, false⟩ ∧ logJ (headJ 5) 5 = ⟨[], (headJ 5).length, true⟩ ∧ (headJ 5).length ≤ 38 ∧ (frameL (contJ 1 [op1])).length ≤ 140000 := by
  have hf : FitJ 0 [op1] := fit1 (by omega)
  have h1 := addJ_jour h5 (gs := []) (by simp) trivial [op1]
  have h2 := groupJ_fit hf
  have h3 := logJ_jour h5 (gs := [[op1]]) (by simp) ⟨hf, trivial⟩
  have h4 := logJ_other h5 (a := 6) (by decide) []
  have h6 := logJ_jour h5 (gs := []) (by simp) trivial
  rw [jour_nil] at h1 h4 h6
  have h7 : jourJ 5 [[op1]] = headJ 5 ++ frameL (contJ 1 [op1]) := by
    unfold jourJ
    show headJ 5 ++ (frameL (contJ _ [op1]) ++ []) = _
    rw [List.append_nil]; rfl
  rw [h7] at h3
  have h8 : ((0 : Nat) : Int) + 1 = 1 := rfl
  rw [h8] at h2
  have h9 := hf.2.2
  rw [h8] at h9
  refine ⟨h1.trans h2, h3, h4, h6, (head_small h5).2, by rw [frameL_length]; omega⟩

set_option maxRecDepth 100000 in
set_option maxHeartbeats 64000000 in
theorem lives_04 (w : World) : Calls Try.prog 56 #[] w fun e w' => e = .returned (.bool true) ∧ Below w.heap.size w w' := by
  obtain ⟨p1, p2, p3, p4, p5, p6⟩ := lives_plain
  have H1 := hidden p1
  have H2 := hidden p2
  have H3 := hidden p3
  have H4 := hidden p4
  have HHD : Hid (∀ W, Calls Try.prog 62 #[.int .i64 5] W (MadeB (headJ 5) W)) := hidden (fun W => begin_any 5 W h5)
  generalize headJ 5 = hd at HHD H1 H2 H3 H4 p5
  generalize frameL (contJ 1 [op1]) = fr at H1 H2 p6
  clear p1 p2 p3 p4
  have HBU := hidden built1
  obtain ⟨us, hus⟩ : ∃ us, op1V = us := ⟨_, rfl⟩
  have HOP := hidden ops1_new
  rw [hus] at HBU HOP
  have hul19 : us.length = 19 := by rw [← hus]; rfl
  clear hus
  have hfold := fold_cells us #[Value.int IntKind.i64 0, Value.string { data := #[] }, Value.string { data := #[] }, Value.int IntKind.i64 0, Value.int IntKind.i64 0, Value.int IntKind.i64 0, Value.int IntKind.i64 0, Value.string { data := #[] }, Value.string { data := #[] }, Value.string { data := #[] }, Value.string { data := #[] }, Value.string { data := #[] }, Value.string { data := #[] }, Value.int IntKind.i64 0, Value.int IntKind.i64 0, Value.int IntKind.i64 0, Value.int IntKind.i64 0, Value.string { data := #[] }, Value.slice none 0 0] hul19
  go_enter Try.func56, Try.ntmps56
  go_wp2_with fail
  with_reducible refine (HHD.out w).mono ?_
  rintro e w1 ⟨hb, v, rfl, ho⟩
  have HB1 := hidden hb
  have HO1 := hidden ho
  obtain ⟨a1, c1, rfl, q1, hc1, -⟩ := ho.reads
  have hm1 := own_cap ho rfl
  have Q1 := hidden q1
  clear hb ho q1
  have HAD : Hid (Calls Try.prog 57 #[.slice a1 hd.length c1, .slice (some ⟨w1.heap.size, 0, none⟩) 1 1] (w1.alloc (.cells us.toArray 108)) (AddP hd [op1] (w1.alloc (.cells us.toArray 108)))) := hidden (add_any a1 c1 hd _ [op1] _ (Q1.out.on' ((Below.refl _ _).alloc (Nat.le_refl _) _)) hc1 hm1 (by omega) (HOP.out w1) ops1_ok (by have := ops1_len; omega))
  have HB2 := hidden (HB1.out.alloc HB1.out.size (.cells us.toArray 108))
  go_wp2_with (first | ((with_reducible refine wpList_built (o := ⟨some 8, .build 108 #[(0, .const (.int .i64 1))], _, _, _, _⟩) ?_ 108 #[(0, .const (.int .i64 1))] ?_ us.toArray ?_ ?_); rfl; rfl; (simp only [List.map_toArray, List.map_cons, List.map_nil, Act.eval]; exact HBU.out)) | fail)
  with_reducible refine HAD.out.mono ?_
  rintro e w2 ⟨hb, v2, rfl, ho⟩
  rw [H1.out] at ho ⊢
  have HB3 := hidden (HB2.out.trans (hb.mono HB2.out.size))
  have Q2 := hidden ((Q1.out.on' ((Below.refl w1.heap.size w1).alloc (Nat.le_refl _) (.cells us.toArray 108))).on' hb)
  obtain ⟨a2, c2, rfl, q2, hc2, -⟩ := ho.reads
  have QG := hidden q2
  clear hb ho q2 HAD
  have HLB : Hid (hd.length + fr.length ≤ 140737488355328) := hidden (by omega)
  have HE0 : Hid (OwnB w2.heap.size (w2.alloc (.cells #[] 5)) (.slice (some ⟨w2.heap.size, 0, none⟩) 0 0) []) := hidden (empty_new w2 (Nat.le_refl _) rfl)
  have hbe : Below w2.heap.size w2 (w2.alloc (.cells #[] 5)) := (Below.refl _ _).alloc (Nat.le_refl _) _
  have QE := hidden (Q2.out.on' hbe)
  have ZE : Hid (w2.heap.size ≤ (w2.alloc (.cells #[] 5)).heap.size) := hidden hbe.size
  have HLH : Hid (([] : List UInt8).length + hd.length ≤ 140737488355328) := hidden (by simp; omega)
  have HBE := hidden hbe
  clear hbe
  go_wp2_with (first
    | (at_builtin; refine wpList_append_B rfl (.tmp 13) (.tmp 14) rfl rfl HE0.out rfl rfl QE.out HLH.out ZE.out ?_; intro v3 w3 g3; rw [List.nil_append] at g3; have G3 := hidden g3; obtain ⟨a3, c3, rfl, -, -, -⟩ := g3.own.reads; clear g3)
    | (at_builtin; refine wpList_append_B rfl (.tmp 15) (.tmp 16) rfl rfl G3.out.own rfl rfl (QG.out.on' (HBE.out.trans (G3.out.below (C := w2.heap.size) ZE.out (fun k hk => (HE0.out.lt k hk).1)))) HLB.out (Nat.le_trans ZE.out G3.out.upd.size) ?_; intro v4 w4 g4; have G4 := hidden g4; obtain ⟨a4, c4, rfl, q4, hc4, -⟩ := g4.own.reads; have hm4 := own_cap g4.own rfl; have Q4 := hidden q4; clear g4 q4)
    | fail)
  have HB4 := hidden (HB3.out.trans ((HBE.out.trans ((G3.out.below (C := w2.heap.size) ZE.out (fun k hk => (HE0.out.lt k hk).1)).trans (G4.out.below (C := w2.heap.size) (Nat.le_trans ZE.out G3.out.upd.size) (fun k hk => (G3.out.own.lt k hk).1)))).mono HB3.out.size))
  have HSC : Hid (Calls Try.prog 60 #[.slice a4 (hd ++ fr).length c4, .int .i64 5] w4 (ScanP (hd ++ fr) 5 w4)) := hidden (scan_any a4 c4 (hd ++ fr) 5 w4 Q4.out hc4 hm4 (by rw [List.length_append]; omega))
  rw [List.length_append] at HSC
  with_reducible refine HSC.out.mono ?_
  rintro e w5 ⟨hb, a5, c5, rfl, -⟩
  rw [H2.out]
  have HB5 := hidden (HB4.out.trans (hb.mono HB4.out.size))
  have HB6 := hidden (HB5.out.alloc HB5.out.size (.cells #[.slice a5 1 c5, .int .i64 ((hd ++ fr).length : Nat), .bool true] 89))
  have Q6 : Hid (BytesAt (w5.alloc (.cells #[.slice a5 1 c5, .int .i64 ((hd ++ fr).length : Nat), .bool true] 89)) a1 hd) := hidden ((((Q2.out.on' (HBE.out.trans ((G3.out.below (C := w2.heap.size) ZE.out (fun k hk => (HE0.out.lt k hk).1)).trans (G4.out.below (C := w2.heap.size) (Nat.le_trans ZE.out G3.out.upd.size) (fun k hk => (G3.out.own.lt k hk).1))))).on' hb)).on' ((Below.refl _ _).alloc (Nat.le_refl _) _))
  clear hb HSC
  simp only [List.length_cons, List.length_nil, Nat.zero_add]
  generalize (hd ++ fr).length = T at HB6 Q6 ⊢
  go_wp2_with fail
  have hf2 := field89_2
  have hf1 := field89_1
  generalize w5.alloc (.cells #[.slice a5 1 c5, .int .i64 (T : Int), .bool true] 89) = w6 at *
  with_reducible refine (scan_any a1 c1 hd 6 w6 Q6.out hc1 hm1 (by omega)).mono ?_
  rintro e w7 ⟨hb, a7, c7, rfl, -⟩
  rw [H3.out]
  have HB7 := hidden (HB6.out.trans (hb.mono HB6.out.size))
  have Q7 := hidden (Q6.out.on' hb)
  clear hb
  go_wp2_with fail
  with_reducible refine (scan_any a1 c1 hd 5 w7 Q7.out hc1 hm1 (by omega)).mono ?_
  rintro e w8 ⟨hb, a8, c8, rfl, -⟩
  rw [H4.out]
  have HB8 := hidden (HB7.out.trans (hb.mono HB7.out.size))
  clear hb
  go_wp2_with fail
  go_ret
  exact ⟨rfl, HB8.out⟩

set_option maxRecDepth 100000 in
set_option maxHeartbeats 32000000 in
theorem groups_law (seq : Int) (v0 : Value) (l : List OpD) (w : World) (hs : -9223372036854775808 ≤ seq ∧ seq ≤ 9223372036854775807) (hr : tOps.rep (· < w.heap.size) w [v0] l) (hok : tOps.cod.ok l) (hle : (tOps.cod.enc l).length ≤ 100000000000) :
    Calls Try.prog 14 #[.int .i64 seq, v0] w fun e w' => e = .returned (.bool true) ∧ Below w.heap.size w w' := by
  have hr' := hr
  obtain ⟨a0, cap0, hv, -⟩ := hr'
  cases hv
  have HR := hidden hr
  have HOK := hidden hok
  clear hr hok
  by_cases hbig : 50 < l.length
  · go_enter Try.func14, Try.ntmps14
    go_wp2_with fail
    with_reducible refine (lives_04 w).mono ?_
    rintro e w1 ⟨rfl, hb⟩
    have B := hidden hb
    clear hb
    go_wp2_with fail
    go_ret
    exact ⟨rfl, B.out⟩
  · have HGA : Hid (Calls Try.prog 64 #[.int .i64 seq, .slice a0 l.length cap0] w (GroupP seq l w)) := hidden (group_any _ _ l w hs HR.out HOK.out hle)
    have HGR : Hid (∀ W, Below w.heap.size w W → Calls Try.prog 65 #[.int .i64 seq, .slice a0 l.length cap0] W (GroupP seq l W)) := hidden (fun W hW => group_ref _ _ l W hs (rep_on HR.out hW) HOK.out hle)
    go_enter Try.func14, Try.ntmps14
    go_wp2_with fail
    with_reducible refine HGA.out.mono ?_
    rintro e w1 ⟨hb, v1, rfl, ho⟩
    have B1 := hidden hb
    obtain ⟨a1, c1, rfl, q1, -, -⟩ := ho.reads
    have Q1 := hidden q1
    clear hb ho q1 HGA
    go_wp2_with fail
    with_reducible refine (HGR.out _ B1.out).mono ?_
    rintro e w2 ⟨hb, v2, rfl, ho⟩
    have B2 := hidden (B1.out.trans (hb.mono B1.out.size))
    have Q2 := hidden (Q1.out.on' hb)
    obtain ⟨a2, c2, rfl, q2, -, -⟩ := ho.reads
    clear hb ho HGR
    generalize (groupJ seq l).1 = fs at Q2 q2 ⊢
    generalize (groupJ seq l).2 = er
    go_wp2_with fail
    with_reducible refine (same_eq _ _ _ _ _ _ fs w2 Q2.out q2 rfl rfl).mono ?_
    rintro e w3 ⟨rfl, rfl⟩
    clear q2
    go_wp2_with fail
    with_reducible refine (lives_04 w2).mono ?_
    rintro e w3 ⟨rfl, hb⟩
    have B3 := hidden (B2.out.trans (hb.mono B2.out.size))
    clear hb
    go_wp2_with fail
    go_ret
    exact ⟨rfl, B3.out⟩
end Go.Proofs.Ytekmjegeiminnaa
