/- The reference's writers: text, value, name, link, walked. -/
import Derived.Test.YtekmjegeiminnaaD12
import Derived.Deep.RegionHeld3
namespace Go.Proofs.Ytekmjegeiminnaa
open Go.RowKit
set_option linter.unusedVariables false
set_option linter.unusedSimpArgs false

/-- A row of the calls' own grows on; a range elsewhere is as it was. -/
theorem Grew.kept {B : Nat} {v v' : Value} {bs cs : List UInt8} {w w' : World} (ho : OwnB B w v bs) (h : Grew B v v' cs w w') (hB : B ≤ w.heap.size) {g : Nat} (hg : g < w.heap.size) (hne : some g ≠ v.ownBlock) {us : List Value} (hr : w.rangeAt g 0 us) :
    w'.rangeAt g 0 us ∧ B ≤ w'.heap.size ∧ g < w'.heap.size ∧ some g ≠ v'.ownBlock := by
  refine ⟨h.upd.range hr hne, Nat.le_trans hB h.upd.size, Nat.lt_of_lt_of_le hg h.upd.size, ?_⟩
  rcases h.at_ with e | ⟨q, e, hq⟩
  · rw [e]; exact hne
  · rw [e]; intro he; injection he with he; omega
set_option maxRecDepth 100000 in
set_option maxHeartbeats 8000000 in
theorem reftext (B : Nat) (v : Value) (bs t : List UInt8) (w : World) (ho : OwnB B w v bs) (hB : B ≤ w.heap.size) (hl : bs.length + (encT t).length ≤ 140737488354000) :
    Calls Try.prog 84 #[v, .string (strOf t)] w fun e w' => ∃ v', e = .returned v' ∧ Grew B v v' (bs ++ encT t) w w' := by
  have hle : (encN (t.length : Int)).length + t.length = (encT t).length := by unfold encT; rw [List.length_append]
  have HO := hidden ho
  have HL := hidden (And.intro hl hle)
  obtain ⟨a, cap, rfl, _, _, _⟩ := ho.reads
  clear ho hl hle
  go_enter Try.func84, Try.ntmps84
  go_wp2_with fail
  with_reducible refine (refnum B _ bs _ w (by have := HL.out; omega) HO.out hB (by have := HL.out; omega)).mono ?_
  rintro e w1 ⟨v1, rfl, g1⟩
  obtain ⟨E, HE⟩ : ∃ E, Hid (bs ++ encN (t.length : Int) = E) := ⟨_, rfl⟩
  have HEL : Hid (E.length + t.length ≤ 140737488355328) := hidden (by rw [← HE.out, List.length_append]; have := HL.out; omega)
  rw [HE.out] at g1
  have G1 := hidden g1
  obtain ⟨a1, cap1, rfl, _, _, _⟩ := g1.own.reads
  have HB1 : Hid (B ≤ w1.heap.size) := hidden (Nat.le_trans hB g1.upd.size)
  clear g1
  go_wp2_with (at_builtin; go_loud (refine wpList_append_S rfl (.tmp 8) (.tmp 9) rfl rfl G1.out.own rfl HEL.out HB1.out ?_); intro v2 w2 g2; have G2 := hidden g2; obtain ⟨a2, cap2, rfl, _, _, _⟩ := g2.own.reads; clear g2)
  go_ret
  have h1 := G1.out.trans G2.out
  have e1 : bs ++ encT t = E ++ t := by rw [← HE.out]; unfold encT; rw [List.append_assoc]
  rw [e1]
  refine ⟨_, ?_, h1⟩
  rw [List.length_append]
  rfl
end Go.Proofs.Ytekmjegeiminnaa

/- The reference's writers of structs, walked. Printed by gen_e.py. -/
namespace Go.Proofs.Ytekmjegeiminnaa
open Go.RowKit
set_option linter.unusedVariables false
set_option linter.unusedSimpArgs false

theorem cVal_len (a b : Int) (s : List UInt8) : (cVal.enc (a, b, s)).length = (encN a).length + (encN b).length + (encT s).length := by
  show (encN a ++ (encN b ++ encT s)).length = _
  simp only [List.length_append]; omega

theorem Grew.kept3 {B g : Nat} {v v' a0 a1 a2 : Value} {bs cs : List UInt8} {w w' : World} (ho : OwnB B w v bs) (h : Grew B v v' cs w w') (hB : B ≤ w.heap.size) (hg : g < w.heap.size) (hne : some g ≠ v.ownBlock) (hr : w.cell? ⟨g, 0, none⟩ = some a0 ∧ w.cell? ⟨g, 1, none⟩ = some a1 ∧ w.cell? ⟨g, 2, none⟩ = some a2) :
    (w'.cell? ⟨g, 0, none⟩ = some a0 ∧ w'.cell? ⟨g, 1, none⟩ = some a1 ∧ w'.cell? ⟨g, 2, none⟩ = some a2) ∧ B ≤ w'.heap.size ∧ g < w'.heap.size ∧ some g ≠ v'.ownBlock := by
  obtain ⟨h0, h1, h2⟩ := hr
  refine ⟨⟨h.upd.cell h0 hne, h.upd.cell h1 hne, h.upd.cell h2 hne⟩, Nat.le_trans hB h.upd.size, Nat.lt_of_lt_of_le hg h.upd.size, ?_⟩
  rcases h.at_ with e | ⟨q, e, hq⟩
  · rw [e]; exact hne
  · rw [e]; intro he; injection he with he; omega

set_option maxRecDepth 100000 in
set_option maxHeartbeats 16000000 in
theorem refvalue (B : Nat) (v : Value) (bs : List UInt8) (x0 : Int) (x1 : Int) (x2 : List UInt8) (w : World) (o0 : -9223372036854775808 ≤ x0 ∧ x0 ≤ 9223372036854775807) (o1 : -9223372036854775808 ≤ x1 ∧ x1 ≤ 9223372036854775807) (ho : OwnB B w v bs) (hB : B ≤ w.heap.size) (hl : bs.length + ((encN x0).length + (encN x1).length + (encT x2).length) ≤ 140737488354000) :
    Calls Try.prog 113 #[v, .agg #[.int .i64 x0, .int .i64 x1, .string (strOf x2)]] w fun e w' => ∃ v', e = .returned v' ∧ Grew B v v' (bs ++ encN x0 ++ encN x1 ++ encT x2) w w' := by
  have O0 : Hid (OwnB B (w.alloc (.cells #[.int .i64 x0, .int .i64 x1, .string (strOf x2)] 103)).drew v bs) := hidden (ho.on (ptrs_new w _ _) (fun _ _ h => h))
  have B0 : Hid (B ≤ (w.alloc (.cells #[.int .i64 x0, .int .i64 x1, .string (strOf x2)] 103)).drew.heap.size) := hidden (Nat.le_trans hB (ptrs_new w _ _).size)
  have L0 : Hid (w.heap.size < (w.alloc (.cells #[.int .i64 x0, .int .i64 x1, .string (strOf x2)] 103)).drew.heap.size) := hidden (ptrs_lt _ _ _)
  have N0 : Hid (some w.heap.size ≠ v.ownBlock) := hidden (fun h => by have := (ho.lt _ h.symm).2; omega)
  have C0 : Hid ((w.alloc (.cells #[.int .i64 x0, .int .i64 x1, .string (strOf x2)] 103)).drew.cell? ⟨w.heap.size, 0, none⟩ = some (.int .i64 x0) ∧ (w.alloc (.cells #[.int .i64 x0, .int .i64 x1, .string (strOf x2)] 103)).drew.cell? ⟨w.heap.size, 1, none⟩ = some (.int .i64 x1) ∧ (w.alloc (.cells #[.int .i64 x0, .int .i64 x1, .string (strOf x2)] 103)).drew.cell? ⟨w.heap.size, 2, none⟩ = some (.string (strOf x2))) := hidden (by
    have h := ptrs_at (w := w) (vs := #[.int .i64 x0, .int .i64 x1, .string (strOf x2)]) (t := 103) (Upd.refl _ _) rfl
    refine ⟨?_, ?_, ?_⟩
    all_goals (rw [World.cell?_drew]; rw [World.cell?_alloc_at _ _ _ _ rfl]; rfl))
  have HNEW : Hid (Below w.heap.size w (w.alloc (.cells #[.int .i64 x0, .int .i64 x1, .string (strOf x2)] 103)).drew) := hidden ((ptrs_new w _ _).toBelow (Nat.le_refl _) (fun _ _ h => h))
  have H0 : Hid ((bs).length ≤ 140737488355000) := hidden (by (try simp only [List.length_append]); omega)
  have H1 : Hid ((bs ++ encN x0).length ≤ 140737488355000) := hidden (by (try simp only [List.length_append]); omega)
  have H2 : Hid ((bs ++ encN x0 ++ encN x1).length + (encT x2).length ≤ 140737488354000) := hidden (by (try simp only [List.length_append]); omega)
  clear ho hl hB
  go_enter Try.func113, Try.ntmps113
  go_wp2_with fail
  go_region_held3 (fun w' => w'.cell? ⟨w.heap.size, 0, none⟩ = some (.int .i64 x0) ∧ w'.cell? ⟨w.heap.size, 1, none⟩ = some (.int .i64 x1) ∧ w'.cell? ⟨w.heap.size, 2, none⟩ = some (.string (strOf x2))) (first | exact C0.out | exact C1.out | exact C2.out | exact C3.out | go_keep)
    (first
      | (go_at_call 74; (with_reducible refine (refnum B v (bs) x0 _ o0 O0.out B0.out H0.out).mono ?_); rintro e w1 ⟨v1, rfl, g1⟩; have G1 : Hid (Grew B v v1 (bs ++ encN x0) _ w1) := hidden g1; obtain ⟨c1, b1, l1, n1⟩ := Grew.kept3 O0.out G1.out B0.out L0.out N0.out C0.out; have B1 := hidden b1; have L1 := hidden l1; have N1 := hidden n1; have C1 := hidden c1; clear b1 l1 n1 c1 g1)
      | (go_at_call 74; (with_reducible refine (refnum B v1 (bs ++ encN x0) x1 _ o1 G1.out.own B1.out H1.out).mono ?_); rintro e w2 ⟨v2, rfl, g2⟩; have G2 : Hid (Grew B v1 v2 (bs ++ encN x0 ++ encN x1) _ w2) := hidden g2; obtain ⟨c2, b2, l2, n2⟩ := Grew.kept3 G1.out.own G2.out B1.out L1.out N1.out C1.out; have B2 := hidden b2; have L2 := hidden l2; have N2 := hidden n2; have C2 := hidden c2; clear b2 l2 n2 c2 g2)
      | (go_at_call 84; (with_reducible refine (reftext B v2 (bs ++ encN x0 ++ encN x1) x2 _ G2.out.own B2.out H2.out).mono ?_); rintro e w3 ⟨v3, rfl, g3⟩; have G3 : Hid (Grew B v2 v3 (bs ++ encN x0 ++ encN x1 ++ encT x2) _ w3) := hidden g3; obtain ⟨c3, b3, l3, n3⟩ := Grew.kept3 G2.out.own G3.out B2.out L2.out N2.out C2.out; have B3 := hidden b3; have L3 := hidden l3; have N3 := hidden n3; have C3 := hidden c3; clear b3 l3 n3 c3 g3)
      | fail)
  go_wp2_with fail
  go_ret
  refine ⟨_, rfl, ?_⟩
  exact (((G1.out.ahead HNEW.out).trans G2.out).trans G3.out)

set_option maxRecDepth 100000 in
set_option maxHeartbeats 16000000 in
theorem refname (B : Nat) (v : Value) (bs : List UInt8) (x0 : List UInt8) (x1 : List UInt8) (x2 : List UInt8) (w : World)  (ho : OwnB B w v bs) (hB : B ≤ w.heap.size) (hl : bs.length + ((encT x0).length + (encT x1).length + (encT x2).length) ≤ 140737488354000) :
    Calls Try.prog 85 #[v, .agg #[.string (strOf x0), .string (strOf x1), .string (strOf x2)]] w fun e w' => ∃ v', e = .returned v' ∧ Grew B v v' (bs ++ encT x0 ++ encT x1 ++ encT x2) w w' := by
  have O0 : Hid (OwnB B (w.alloc (.cells #[.string (strOf x0), .string (strOf x1), .string (strOf x2)] 101)).drew v bs) := hidden (ho.on (ptrs_new w _ _) (fun _ _ h => h))
  have B0 : Hid (B ≤ (w.alloc (.cells #[.string (strOf x0), .string (strOf x1), .string (strOf x2)] 101)).drew.heap.size) := hidden (Nat.le_trans hB (ptrs_new w _ _).size)
  have L0 : Hid (w.heap.size < (w.alloc (.cells #[.string (strOf x0), .string (strOf x1), .string (strOf x2)] 101)).drew.heap.size) := hidden (ptrs_lt _ _ _)
  have N0 : Hid (some w.heap.size ≠ v.ownBlock) := hidden (fun h => by have := (ho.lt _ h.symm).2; omega)
  have C0 : Hid ((w.alloc (.cells #[.string (strOf x0), .string (strOf x1), .string (strOf x2)] 101)).drew.cell? ⟨w.heap.size, 0, none⟩ = some (.string (strOf x0)) ∧ (w.alloc (.cells #[.string (strOf x0), .string (strOf x1), .string (strOf x2)] 101)).drew.cell? ⟨w.heap.size, 1, none⟩ = some (.string (strOf x1)) ∧ (w.alloc (.cells #[.string (strOf x0), .string (strOf x1), .string (strOf x2)] 101)).drew.cell? ⟨w.heap.size, 2, none⟩ = some (.string (strOf x2))) := hidden (by
    have h := ptrs_at (w := w) (vs := #[.string (strOf x0), .string (strOf x1), .string (strOf x2)]) (t := 101) (Upd.refl _ _) rfl
    refine ⟨?_, ?_, ?_⟩
    all_goals (rw [World.cell?_drew]; rw [World.cell?_alloc_at _ _ _ _ rfl]; rfl))
  have HNEW : Hid (Below w.heap.size w (w.alloc (.cells #[.string (strOf x0), .string (strOf x1), .string (strOf x2)] 101)).drew) := hidden ((ptrs_new w _ _).toBelow (Nat.le_refl _) (fun _ _ h => h))
  have H0 : Hid ((bs).length + (encT x0).length ≤ 140737488354000) := hidden (by (try simp only [List.length_append]); omega)
  have H1 : Hid ((bs ++ encT x0).length + (encT x1).length ≤ 140737488354000) := hidden (by (try simp only [List.length_append]); omega)
  have H2 : Hid ((bs ++ encT x0 ++ encT x1).length + (encT x2).length ≤ 140737488354000) := hidden (by (try simp only [List.length_append]); omega)
  clear ho hl hB
  go_enter Try.func85, Try.ntmps85
  go_wp2_with fail
  go_region_held3 (fun w' => w'.cell? ⟨w.heap.size, 0, none⟩ = some (.string (strOf x0)) ∧ w'.cell? ⟨w.heap.size, 1, none⟩ = some (.string (strOf x1)) ∧ w'.cell? ⟨w.heap.size, 2, none⟩ = some (.string (strOf x2))) (first | exact C0.out | exact C1.out | exact C2.out | exact C3.out | go_keep)
    (first
      | (go_at_call 84; (with_reducible refine (reftext B v (bs) x0 _ O0.out B0.out H0.out).mono ?_); rintro e w1 ⟨v1, rfl, g1⟩; have G1 : Hid (Grew B v v1 (bs ++ encT x0) _ w1) := hidden g1; obtain ⟨c1, b1, l1, n1⟩ := Grew.kept3 O0.out G1.out B0.out L0.out N0.out C0.out; have B1 := hidden b1; have L1 := hidden l1; have N1 := hidden n1; have C1 := hidden c1; clear b1 l1 n1 c1 g1)
      | (go_at_call 84; (with_reducible refine (reftext B v1 (bs ++ encT x0) x1 _ G1.out.own B1.out H1.out).mono ?_); rintro e w2 ⟨v2, rfl, g2⟩; have G2 : Hid (Grew B v1 v2 (bs ++ encT x0 ++ encT x1) _ w2) := hidden g2; obtain ⟨c2, b2, l2, n2⟩ := Grew.kept3 G1.out.own G2.out B1.out L1.out N1.out C1.out; have B2 := hidden b2; have L2 := hidden l2; have N2 := hidden n2; have C2 := hidden c2; clear b2 l2 n2 c2 g2)
      | (go_at_call 84; (with_reducible refine (reftext B v2 (bs ++ encT x0 ++ encT x1) x2 _ G2.out.own B2.out H2.out).mono ?_); rintro e w3 ⟨v3, rfl, g3⟩; have G3 : Hid (Grew B v2 v3 (bs ++ encT x0 ++ encT x1 ++ encT x2) _ w3) := hidden g3; obtain ⟨c3, b3, l3, n3⟩ := Grew.kept3 G2.out.own G3.out B2.out L2.out N2.out C2.out; have B3 := hidden b3; have L3 := hidden l3; have N3 := hidden n3; have C3 := hidden c3; clear b3 l3 n3 c3 g3)
      | fail)
  go_wp2_with fail
  go_ret
  refine ⟨_, rfl, ?_⟩
  exact (((G1.out.ahead HNEW.out).trans G2.out).trans G3.out)

theorem Grew.kept7 {B g : Nat} {v v' a0 a1 a2 a3 a4 a5 a6 : Value} {bs cs : List UInt8} {w w' : World} (ho : OwnB B w v bs) (h : Grew B v v' cs w w') (hB : B ≤ w.heap.size) (hg : g < w.heap.size) (hne : some g ≠ v.ownBlock) (hr : w.cell? ⟨g, 0, none⟩ = some a0 ∧ w.cell? ⟨g, 1, none⟩ = some a1 ∧ w.cell? ⟨g, 2, none⟩ = some a2 ∧ w.cell? ⟨g, 3, none⟩ = some a3 ∧ w.cell? ⟨g, 4, none⟩ = some a4 ∧ w.cell? ⟨g, 5, none⟩ = some a5 ∧ w.cell? ⟨g, 6, none⟩ = some a6) :
    (w'.cell? ⟨g, 0, none⟩ = some a0 ∧ w'.cell? ⟨g, 1, none⟩ = some a1 ∧ w'.cell? ⟨g, 2, none⟩ = some a2 ∧ w'.cell? ⟨g, 3, none⟩ = some a3 ∧ w'.cell? ⟨g, 4, none⟩ = some a4 ∧ w'.cell? ⟨g, 5, none⟩ = some a5 ∧ w'.cell? ⟨g, 6, none⟩ = some a6) ∧ B ≤ w'.heap.size ∧ g < w'.heap.size ∧ some g ≠ v'.ownBlock := by
  obtain ⟨h0, h1, h2, h3, h4, h5, h6⟩ := hr
  refine ⟨⟨h.upd.cell h0 hne, h.upd.cell h1 hne, h.upd.cell h2 hne, h.upd.cell h3 hne, h.upd.cell h4 hne, h.upd.cell h5 hne, h.upd.cell h6 hne⟩, Nat.le_trans hB h.upd.size, Nat.lt_of_lt_of_le hg h.upd.size, ?_⟩
  rcases h.at_ with e | ⟨q, e, hq⟩
  · rw [e]; exact hne
  · rw [e]; intro he; injection he with he; omega

set_option maxRecDepth 100000 in
set_option maxHeartbeats 16000000 in
theorem reflink (B : Nat) (v : Value) (bs : List UInt8) (x0 : List UInt8) (x1 : List UInt8) (x2 : Int) (x3 : Int) (x4 : Int) (x5 : Int) (x6 : List UInt8) (w : World) (o2 : -9223372036854775808 ≤ x2 ∧ x2 ≤ 9223372036854775807) (o3 : -9223372036854775808 ≤ x3 ∧ x3 ≤ 9223372036854775807) (o4 : -9223372036854775808 ≤ x4 ∧ x4 ≤ 9223372036854775807) (o5 : -9223372036854775808 ≤ x5 ∧ x5 ≤ 9223372036854775807) (ho : OwnB B w v bs) (hB : B ≤ w.heap.size) (hl : bs.length + ((encT x0).length + (encT x1).length + (encN x2).length + (encN x3).length + (cVal.enc (x4, x5, x6)).length) ≤ 140737488354000) :
    Calls Try.prog 86 #[v, .agg #[.string (strOf x0), .string (strOf x1), .int .i64 x2, .int .i64 x3, .int .i64 x4, .int .i64 x5, .string (strOf x6)]] w fun e w' => ∃ v', e = .returned v' ∧ Grew B v v' (bs ++ encT x0 ++ encT x1 ++ encN x2 ++ encN x3 ++ cVal.enc (x4, x5, x6)) w w' := by
  have O0 : Hid (OwnB B (w.alloc (.cells #[.string (strOf x0), .string (strOf x1), .int .i64 x2, .int .i64 x3, .int .i64 x4, .int .i64 x5, .string (strOf x6)] 105)).drew v bs) := hidden (ho.on (ptrs_new w _ _) (fun _ _ h => h))
  have B0 : Hid (B ≤ (w.alloc (.cells #[.string (strOf x0), .string (strOf x1), .int .i64 x2, .int .i64 x3, .int .i64 x4, .int .i64 x5, .string (strOf x6)] 105)).drew.heap.size) := hidden (Nat.le_trans hB (ptrs_new w _ _).size)
  have L0 : Hid (w.heap.size < (w.alloc (.cells #[.string (strOf x0), .string (strOf x1), .int .i64 x2, .int .i64 x3, .int .i64 x4, .int .i64 x5, .string (strOf x6)] 105)).drew.heap.size) := hidden (ptrs_lt _ _ _)
  have N0 : Hid (some w.heap.size ≠ v.ownBlock) := hidden (fun h => by have := (ho.lt _ h.symm).2; omega)
  have C0 : Hid ((w.alloc (.cells #[.string (strOf x0), .string (strOf x1), .int .i64 x2, .int .i64 x3, .int .i64 x4, .int .i64 x5, .string (strOf x6)] 105)).drew.cell? ⟨w.heap.size, 0, none⟩ = some (.string (strOf x0)) ∧ (w.alloc (.cells #[.string (strOf x0), .string (strOf x1), .int .i64 x2, .int .i64 x3, .int .i64 x4, .int .i64 x5, .string (strOf x6)] 105)).drew.cell? ⟨w.heap.size, 1, none⟩ = some (.string (strOf x1)) ∧ (w.alloc (.cells #[.string (strOf x0), .string (strOf x1), .int .i64 x2, .int .i64 x3, .int .i64 x4, .int .i64 x5, .string (strOf x6)] 105)).drew.cell? ⟨w.heap.size, 2, none⟩ = some (.int .i64 x2) ∧ (w.alloc (.cells #[.string (strOf x0), .string (strOf x1), .int .i64 x2, .int .i64 x3, .int .i64 x4, .int .i64 x5, .string (strOf x6)] 105)).drew.cell? ⟨w.heap.size, 3, none⟩ = some (.int .i64 x3) ∧ (w.alloc (.cells #[.string (strOf x0), .string (strOf x1), .int .i64 x2, .int .i64 x3, .int .i64 x4, .int .i64 x5, .string (strOf x6)] 105)).drew.cell? ⟨w.heap.size, 4, none⟩ = some (.int .i64 x4) ∧ (w.alloc (.cells #[.string (strOf x0), .string (strOf x1), .int .i64 x2, .int .i64 x3, .int .i64 x4, .int .i64 x5, .string (strOf x6)] 105)).drew.cell? ⟨w.heap.size, 5, none⟩ = some (.int .i64 x5) ∧ (w.alloc (.cells #[.string (strOf x0), .string (strOf x1), .int .i64 x2, .int .i64 x3, .int .i64 x4, .int .i64 x5, .string (strOf x6)] 105)).drew.cell? ⟨w.heap.size, 6, none⟩ = some (.string (strOf x6))) := hidden (by
    have h := ptrs_at (w := w) (vs := #[.string (strOf x0), .string (strOf x1), .int .i64 x2, .int .i64 x3, .int .i64 x4, .int .i64 x5, .string (strOf x6)]) (t := 105) (Upd.refl _ _) rfl
    refine ⟨?_, ?_, ?_, ?_, ?_, ?_, ?_⟩
    all_goals (rw [World.cell?_drew]; rw [World.cell?_alloc_at _ _ _ _ rfl]; rfl))
  have HNEW : Hid (Below w.heap.size w (w.alloc (.cells #[.string (strOf x0), .string (strOf x1), .int .i64 x2, .int .i64 x3, .int .i64 x4, .int .i64 x5, .string (strOf x6)] 105)).drew) := hidden ((ptrs_new w _ _).toBelow (Nat.le_refl _) (fun _ _ h => h))
  have H0 : Hid ((bs).length + (encT x0).length ≤ 140737488354000) := hidden (by (try simp only [List.length_append]); omega)
  have H1 : Hid ((bs ++ encT x0).length + (encT x1).length ≤ 140737488354000) := hidden (by (try simp only [List.length_append]); omega)
  have H2 : Hid ((bs ++ encT x0 ++ encT x1).length ≤ 140737488355000) := hidden (by (try simp only [List.length_append]); omega)
  have H3 : Hid ((bs ++ encT x0 ++ encT x1 ++ encN x2).length ≤ 140737488355000) := hidden (by (try simp only [List.length_append]); omega)
  have H4 : Hid ((bs ++ encT x0 ++ encT x1 ++ encN x2 ++ encN x3).length + ((encN x4).length + (encN x5).length + (encT x6).length) ≤ 140737488354000) := hidden (by have e := cVal_len x4 x5 x6; (try simp only [List.length_append]); omega)
  clear ho hl hB
  go_enter Try.func86, Try.ntmps86
  go_wp2_with fail
  go_region_held3 (fun w' => w'.cell? ⟨w.heap.size, 0, none⟩ = some (.string (strOf x0)) ∧ w'.cell? ⟨w.heap.size, 1, none⟩ = some (.string (strOf x1)) ∧ w'.cell? ⟨w.heap.size, 2, none⟩ = some (.int .i64 x2) ∧ w'.cell? ⟨w.heap.size, 3, none⟩ = some (.int .i64 x3) ∧ w'.cell? ⟨w.heap.size, 4, none⟩ = some (.int .i64 x4) ∧ w'.cell? ⟨w.heap.size, 5, none⟩ = some (.int .i64 x5) ∧ w'.cell? ⟨w.heap.size, 6, none⟩ = some (.string (strOf x6))) (first | exact C0.out | exact C1.out | exact C2.out | exact C3.out | exact C4.out | exact C5.out | go_keep)
    (first
      | (go_at_call 84; (with_reducible refine (reftext B v (bs) x0 _ O0.out B0.out H0.out).mono ?_); rintro e w1 ⟨v1, rfl, g1⟩; have G1 : Hid (Grew B v v1 (bs ++ encT x0) _ w1) := hidden g1; obtain ⟨c1, b1, l1, n1⟩ := Grew.kept7 O0.out G1.out B0.out L0.out N0.out C0.out; have B1 := hidden b1; have L1 := hidden l1; have N1 := hidden n1; have C1 := hidden c1; clear b1 l1 n1 c1 g1)
      | (go_at_call 84; (with_reducible refine (reftext B v1 (bs ++ encT x0) x1 _ G1.out.own B1.out H1.out).mono ?_); rintro e w2 ⟨v2, rfl, g2⟩; have G2 : Hid (Grew B v1 v2 (bs ++ encT x0 ++ encT x1) _ w2) := hidden g2; obtain ⟨c2, b2, l2, n2⟩ := Grew.kept7 G1.out.own G2.out B1.out L1.out N1.out C1.out; have B2 := hidden b2; have L2 := hidden l2; have N2 := hidden n2; have C2 := hidden c2; clear b2 l2 n2 c2 g2)
      | (go_at_call 74; (with_reducible refine (refnum B v2 (bs ++ encT x0 ++ encT x1) x2 _ o2 G2.out.own B2.out H2.out).mono ?_); rintro e w3 ⟨v3, rfl, g3⟩; have G3 : Hid (Grew B v2 v3 (bs ++ encT x0 ++ encT x1 ++ encN x2) _ w3) := hidden g3; obtain ⟨c3, b3, l3, n3⟩ := Grew.kept7 G2.out.own G3.out B2.out L2.out N2.out C2.out; have B3 := hidden b3; have L3 := hidden l3; have N3 := hidden n3; have C3 := hidden c3; clear b3 l3 n3 c3 g3)
      | (go_at_call 74; (with_reducible refine (refnum B v3 (bs ++ encT x0 ++ encT x1 ++ encN x2) x3 _ o3 G3.out.own B3.out H3.out).mono ?_); rintro e w4 ⟨v4, rfl, g4⟩; have G4 : Hid (Grew B v3 v4 (bs ++ encT x0 ++ encT x1 ++ encN x2 ++ encN x3) _ w4) := hidden g4; obtain ⟨c4, b4, l4, n4⟩ := Grew.kept7 G3.out.own G4.out B3.out L3.out N3.out C3.out; have B4 := hidden b4; have L4 := hidden l4; have N4 := hidden n4; have C4 := hidden c4; clear b4 l4 n4 c4 g4)
      | (go_at_call 113; (with_reducible refine (refvalue B v4 (bs ++ encT x0 ++ encT x1 ++ encN x2 ++ encN x3) x4 x5 x6 _ o4 o5 G4.out.own B4.out H4.out).mono ?_); rintro e w5 ⟨v5, rfl, g5⟩; have G5 : Hid (Grew B v4 v5 (bs ++ encT x0 ++ encT x1 ++ encN x2 ++ encN x3 ++ cVal.enc (x4, x5, x6)) _ w5) := hidden (by rw [show bs ++ encT x0 ++ encT x1 ++ encN x2 ++ encN x3 ++ cVal.enc (x4, x5, x6) = bs ++ encT x0 ++ encT x1 ++ encN x2 ++ encN x3 ++ cVal.enc (x4, x5, x6) from rfl]; show Grew B v4 v5 (bs ++ encT x0 ++ encT x1 ++ encN x2 ++ encN x3 ++ (encN x4 ++ (encN x5 ++ encT x6))) _ _; rw [← List.append_assoc, ← List.append_assoc]; exact g5); obtain ⟨c5, b5, l5, n5⟩ := Grew.kept7 G4.out.own G5.out B4.out L4.out N4.out C4.out; have B5 := hidden b5; have L5 := hidden l5; have N5 := hidden n5; have C5 := hidden c5; clear b5 l5 n5 c5 g5)
      | fail)
  go_wp2_with fail
  go_ret
  refine ⟨_, rfl, ?_⟩
  exact (((((G1.out.ahead HNEW.out).trans G2.out).trans G3.out).trans G4.out).trans G5.out)

end Go.Proofs.Ytekmjegeiminnaa
