/- The law of books, walked. -/
import Derived.Test.YtekmjegeiminnaaE6
namespace Go.Proofs.Ytekmjegeiminnaa
open Go.RowKit
set_option linter.unusedVariables false
set_option linter.unusedSimpArgs false

set_option maxRecDepth 100000 in
set_option maxHeartbeats 16000000 in
theorem small_any (vs : List Value) (x : BookD) (w : World) (hr : tBook.rep (· < w.heap.size) w vs x) (hl : x.1.length ≤ 100000000000) :
    Calls Try.prog 46 #[.agg vs.toArray] w fun e w' => (∃ b, e = .returned (.bool b)) ∧ Below w.heap.size w w' := by
  obtain ⟨s, n, l⟩ := x
  obtain ⟨q1, q2, rfl, ⟨a1, c1, rfl, hc1, -, he1⟩, q3, q4, rfl, ⟨a2, c2, rfl, hc2, -, he2⟩, ⟨a3, c3, rfl, hc3, -, he3⟩⟩ := hr
  simp only at hc1 hc2 hc3 he1 hl
  have hu : Upd (fun _ => False) w (w.alloc (.cells #[.slice a1 s.length c1, .slice a2 n.length c2, .slice a3 l.length c3] 68)) := Upd.new _ _
  have hv := three_cells (w := w.alloc (.cells #[.slice a1 s.length c1, .slice a2 n.length c2, .slice a3 l.length c3] 68)) (b := w.heap.size) (fun j v hj => by
    rw [Nat.zero_add, World.cell?_alloc_at _ _ _ _ rfl]; simpa using hj)
  have HBEL : Hid (Below w.heap.size w (w.alloc (.cells #[.slice a1 s.length c1, .slice a2 n.length c2, .slice a3 l.length c3] 68))) := hidden ((Below.refl _ _).alloc (Nat.le_refl _) _)
  have E0 := hidden (he1.upd hu (fun _ _ h => h))
  clear he1 he2 he3 hu
  obtain ⟨p0, p1, p2⟩ := hv
  simp only [List.cons_append, List.nil_append]
  go_enter Try.func46, Try.ntmps46
  go_wp2_with fail
  generalize w.alloc (.cells #[.slice a1 s.length c1, .slice a2 n.length c2, .slice a3 l.length c3] 68) = w1 at *
  go_wp2_with fail
  go_loopw [3, 16] (fun s3 s16 wr => ∃ (k : Nat) (m : Int), s3 = .int .i64 m ∧ s16 = .int .i64 k ∧ k ≤ s.length ∧ Below w1.heap.size w1 wr) (fun _ s16 _ => (s.length - intOf s16).toNat)
  case atStart => exact ⟨0, _, rfl, rfl, by omega, Below.refl _ _⟩
  case round =>
    obtain ⟨k, m, rfl, rfl, hk, hb⟩ := hrel
    have HB := hidden hb
    clear hb
    by_cases hlt : k < s.length
    · obtain ⟨b, o, us, rfl, hS, hrg, hrep⟩ := (E0.out.upd (Upd.ofNew (M := fun _ => False) HB.out) (fun _ _ h => h)) k hlt
      generalize s[k] = x at hrep
      obtain ⟨x0, x1⟩ := x
      obtain ⟨y1, y2, hus, hy, hel⟩ := sheet_vals hrep
      simp only at hus hy hel
      subst hus
      clear hel
      have HRG : Hid (wr.rangeAt b (o + k * 2) [.string (strOf x0), .slice y1 x1.length y2]) := hidden hrg
      obtain ⟨d, hu, hd, hi⟩ := row_of row128
      have HU := hidden hu
      have HDR := hidden hd
      have HI : Hid ((Try.prog.info? 128).map (·.size) = some ([.string (strOf x0), .slice y1 x1.length y2] : List Value).length) := hidden hi
      have HI2 : Hid ((Try.prog.info? 128).map (·.size) = some ([.string (strOf x0), .slice y1 x1.length y2] : List Value).toArray.size) := hidden hi
      have HONE := hidden (all_oneCell_toArray (tSheet.one hrep))
      have HTH : Hid (∀ (vs : Array Value) t, vs.size = 2 → (wr.alloc (.cells vs t)).there wr.heap.size 0 ([.string (strOf x0), .slice y1 x1.length y2] : List Value).toArray.size) := hidden (fun vs t h => by rw [show ([.string (strOf x0), .slice y1 x1.length y2] : List Value).toArray.size = vs.size from h.symm]; exact there_new wr vs t)
      have hmade := made_cells (w := wr) (vs := #[.string { data := #[] }, .slice none 0 0]) (t := 128) (us := [.string (strOf x0), .slice y1 x1.length y2]) rfl
      have HFR : Hid (Upd (fun _ => False) wr ((wr.alloc (.cells #[.string { data := #[] }, .slice none 0 0] 128)).setCells wr.heap.size 0 [.string (strOf x0), .slice y1 x1.length y2])) := hidden fresh_new
      obtain ⟨z0, z1⟩ := two_cells hmade.1
      clear hu hd hi hrg hrep hmade
      go_wp2_with (first
        | ((with_reducible refine wpList_load_mid (op := ⟨some 19, .load 128 (.tmp 18), _, _, _, _⟩) ?_ 128 (.tmp 18) ?_ b (o + k * 2) ?_ _ d HRG.out HU.out HDR.out HI.out ?_); rfl; rfl; rfl)
        | ((with_reducible refine wpList_store_mid (op := ⟨none, .store 128 (.tmp 5) (.tmp 19), _, _, _, _⟩) ?_ 128 (.tmp 5) (.tmp 19) ?_ wr.heap.size 0 (List.toArray [.string (strOf x0), .slice y1 x1.length y2]) ?_ ?_ (HTH.out _ _ ?_) HI2.out HONE.out ?_); rfl; rfl; rfl; rfl; rfl))
      exact ⟨⟨k + 1, _, rfl, by go_num, by omega, HB.out.trans (HFR.out.toBelow HB.out.size (fun _ _ h => h))⟩, by simp [intOf]; omega⟩
    · have hk' : k = s.length := by omega
      subst hk'
      go_wp2_with fail
      go_ret
      exact ⟨⟨_, rfl⟩, HBEL.out.trans (HB.out.mono HBEL.out.size)⟩

def Three (w : World) (b : Nat) (x y z : Value) : Prop := w.cell? ⟨b, 0, none⟩ = some x ∧ w.cell? ⟨b, 1, none⟩ = some y ∧ w.cell? ⟨b, 2, none⟩ = some z
theorem Three.on {w w' : World} {b : Nat} {x y z : Value} (h : Three w b x y z) (hb : Below w.heap.size w w') : Three w' b x y z :=
  ⟨(hb.cell (p := ⟨b, 0, none⟩) (World.block_lt_of_cell? w _ h.1)).trans h.1, (hb.cell (p := ⟨b, 1, none⟩) (World.block_lt_of_cell? w _ h.2.1)).trans h.2.1, (hb.cell (p := ⟨b, 2, none⟩) (World.block_lt_of_cell? w _ h.2.2)).trans h.2.2⟩

set_option maxRecDepth 100000 in
set_option maxHeartbeats 16000000 in
theorem book_law (vs : List Value) (x : BookD) (w : World) (hr : tBook.rep (· < w.heap.size) w vs x) (hok : tBook.cod.ok x) (hl : (tBook.cod.enc x).length ≤ 100000000000) :
    Calls Try.prog 10 #[.agg vs.toArray] w fun e w' => e = .returned (.bool true) ∧ Below w.heap.size w w' := by
  have hsl : x.1.length ≤ 100000000000 := by
    have h1 := encM_ge tSheet.cod x.1
    have e : tBook.cod.enc x = (encN x.1.length ++ encM tSheet.cod x.1) ++ ((encN x.2.1.length ++ encM tName.cod x.2.1) ++ (encN x.2.2.length ++ encM tLink.cod x.2.2)) := rfl
    rw [e] at hl
    simp only [List.length_append] at hl
    omega
  have HB0 : Hid (Below w.heap.size w (w.alloc (.cells vs.toArray 68))) := hidden ((Below.refl _ _).alloc (Nat.le_refl _) _)
  have HR := hidden (rep_on hr HB0.out)
  have HOK := hidden hok
  obtain ⟨a1, l1, c1, a2, l2, c2, a3, l3, c3, rfl⟩ := book_cells hr
  have T0 : Hid (Three (w.alloc (.cells #[.slice a1 l1 c1, .slice a2 l2 c2, .slice a3 l3 c3] 68)) w.heap.size (.slice a1 l1 c1) (.slice a2 l2 c2) (.slice a3 l3 c3)) := hidden (three_cells (fun j v hj => by
    rw [Nat.zero_add, World.cell?_alloc_at _ _ _ _ rfl]; simpa using hj))
  clear hr hok
  go_enter Try.func10, Try.ntmps10
  go_wp2_with fail
  generalize w.alloc (.cells #[.slice a1 l1 c1, .slice a2 l2 c2, .slice a3 l3 c3] 68) = w1 at *
  obtain ⟨p0, p1, p2⟩ := T0.out
  go_wp2_with fail
  with_reducible refine (small_any [.slice a1 l1 c1, .slice a2 l2 c2, .slice a3 l3 c3] x w1 HR.out hsl).mono ?_
  rintro e w2 ⟨⟨bo, rfl⟩, hb⟩
  have B2 := hidden hb
  clear p0 p1 p2 hb
  cases bo with
  | false =>
    go_wp2_with fail
    with_reducible refine (lives_02 w2).mono ?_
    rintro e w3 ⟨rfl, hb⟩
    have B3 := hidden (HB0.out.trans ((B2.out.trans (hb.mono B2.out.size)).mono HB0.out.size))
    clear hb
    go_wp2_with fail
    go_ret
    exact ⟨rfl, B3.out⟩
  | true =>
    obtain ⟨p0, p1, p2⟩ := T0.out.on B2.out
    go_wp2_with fail
    with_reducible refine (book_any [.slice a1 l1 c1, .slice a2 l2 c2, .slice a3 l3 c3] x w2 (rep_on HR.out B2.out) HOK.out (by omega)).mono ?_
    rintro e w3 ⟨hb, v1, rfl, ho⟩
    have B3 := hidden (B2.out.trans (hb.mono B2.out.size))
    have O1 := hidden ho
    obtain ⟨ax, cx, rfl, q1, hc1, hA1⟩ := ho.reads
    have Q1 := hidden q1
    have hm1 : (cx : Int) ≤ 9223372036854775807 := own_cap ho rfl
    have HA1 : Hid (∀ A, ax = some A → A.block < w3.heap.size) := hidden (fun A hA => (ho.lt _ (hA1 A hA).1).2)
    clear hb ho q1 hA1 p0 p1 p2
    have hl1 := hl
    generalize hfs : tBook.cod.enc x = fs at O1 Q1 hc1 hl1
    have HFS := hidden hfs
    clear hfs
    obtain ⟨p0, p1, p2⟩ := T0.out.on B3.out
    go_wp2_with fail
    with_reducible refine (refbook [.slice a1 l1 c1, .slice a2 l2 c2, .slice a3 l3 c3] x w3 (rep_on HR.out B3.out) HOK.out (by omega)).mono ?_
    rintro e w4 ⟨hb, v2, rfl, ho⟩
    rw [HFS.out] at ho
    have B4 := hidden (B3.out.trans (hb.mono B3.out.size))
    have Q2 := hidden (Q1.out.on' hb)
    have HA2 : Hid (∀ A, ax = some A → A.block < w4.heap.size) := hidden (fun A hA => Nat.lt_of_lt_of_le (HA1.out A hA) hb.size)
    obtain ⟨ay, cy, rfl, q2, -, -⟩ := ho.reads
    clear hb ho p0 p1 p2
    go_wp2_with fail
    with_reducible refine (same_eq _ _ _ _ _ _ fs w4 Q2.out q2 rfl rfl).mono ?_
    rintro e w5 ⟨rfl, rfl⟩
    clear q2
    go_wp2_with fail
    with_reducible refine (readbook_any ax _ cx fs w4 Q2.out rfl hc1 hm1 hl1 HA2.out).mono ?_
    rintro e w5 ⟨hb, ⟨y, ys, hw, rfl, ho⟩ | ⟨hw, rfl⟩⟩
    · rw [← HFS.out, whole_enc _ HOK.out] at hw
      cases hw
      have B5 := hidden (B4.out.trans (hb.mono B4.out.size))
      have R5 := hidden (tBook.mono ho (fun k hk => hk.2))
      have Q3 := hidden (Q2.out.on' hb)
      obtain ⟨e1, m1, d1, e2, m2, d2, e3, m3, d3, rfl⟩ := book_cells ho
      clear hb ho
      have n0 := three_cells (w := w5.alloc (.cells #[.slice none 0 0, .slice none 0 0, .slice none 0 0] 68)) (b := w5.heap.size) (x := .slice none 0 0) (y := .slice none 0 0) (z := .slice none 0 0) (fun j v hj => by
        rw [Nat.zero_add, World.cell?_alloc_at _ _ _ _ rfl]; simpa using hj)
      have hb6 : Below w5.heap.size w5 (w5.alloc (.cells #[.slice e1 m1 d1, .slice e2 m2 d2, .slice e3 m3 d3] 68)) := (Below.refl _ _).alloc (Nat.le_refl _) _
      have HCALL : Hid (Calls Try.prog 48 #[.agg #[.slice e1 m1 d1, .slice e2 m2 d2, .slice e3 m3 d3]] (w5.alloc (.cells #[.slice e1 m1 d1, .slice e2 m2 d2, .slice e3 m3 d3] 68)) fun e w' => Below (w5.alloc (.cells #[.slice e1 m1 d1, .slice e2 m2 d2, .slice e3 m3 d3] 68)).heap.size (w5.alloc (.cells #[.slice e1 m1 d1, .slice e2 m2 d2, .slice e3 m3 d3] 68)) w' ∧ ∃ v, e = .returned v ∧ OwnB (w5.alloc (.cells #[.slice e1 m1 d1, .slice e2 m2 d2, .slice e3 m3 d3] 68)).heap.size w' v (tBook.cod.enc x)) :=
        hidden (refbook [.slice e1 m1 d1, .slice e2 m2 d2, .slice e3 m3 d3] x _ (rep_on R5.out hb6) HOK.out (by omega))
      have B6 := hidden (B5.out.trans (hb6.mono B5.out.size))
      have Q4 := hidden (Q3.out.on' hb6)
      clear hb6
      go_wp2_with fail
      with_reducible refine HCALL.out.mono ?_
      clear HCALL
      generalize w5.alloc (.cells #[.slice e1 m1 d1, .slice e2 m2 d2, .slice e3 m3 d3] 68) = w6 at *
      rintro e w7 ⟨hb, v4, rfl, ho⟩
      rw [HFS.out] at ho
      have B7 := hidden (B6.out.trans (hb.mono B6.out.size))
      have Q5 := hidden (Q4.out.on' hb)
      obtain ⟨a4, c4, rfl, q4, -, -⟩ := ho.reads
      clear hb ho
      go_wp2_with fail
      with_reducible refine (same_eq _ _ _ _ _ _ fs w7 q4 Q5.out rfl rfl).mono ?_
      rintro e w8 ⟨rfl, rfl⟩
      clear q4
      go_wp2_with fail
      with_reducible refine (lives_02 w7).mono ?_
      rintro e w8 ⟨rfl, hb⟩
      have B8 := hidden (HB0.out.trans ((B7.out.trans (hb.mono B7.out.size)).mono HB0.out.size))
      clear hb
      go_wp2_with fail
      go_ret
      exact ⟨rfl, B8.out⟩
    · rw [← HFS.out, whole_enc _ HOK.out] at hw
      cases hw
end Go.Proofs.Ytekmjegeiminnaa
