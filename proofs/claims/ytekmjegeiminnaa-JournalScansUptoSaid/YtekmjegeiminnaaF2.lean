/- The reference's Reader: value, name and link, walked. Printed by gen_f2.py. -/
import Derived.Test.YtekmjegeiminnaaF1
namespace Go.Proofs.Ytekmjegeiminnaa
open Go.RowKit
set_option linter.unusedVariables false
set_option linter.unusedSimpArgs false

theorem stored_cells {w : World} {b : Nat} {us : List Value} (h : w.there b 0 us.length) : (w.setCells b 0 us).rangeAt b 0 us ∧ Upd (fun k => k = b) w (w.setCells b 0 us) :=
  ⟨World.rangeAt_setCells_same _ _ _ _ h, Upd.setCells (M := fun k => k = b) rfl us 0 w⟩

/-- What value leaves. -/
def RdValue (r bb : Nat) (rs : List UInt8) (wr : Bool) (w : World) (e : Ending) (w' : World) : Prop :=
  ∃ (x0 : Int) (x1 : Int) (x2 : List UInt8) (rs' : List UInt8) (wr' : Bool), e = .returned (.agg #[.int .i64 x0, .int .i64 x1, .string (strOf x2)]) ∧ RdR w' r bb rs' wr' ∧ Upd (fun k => k = r) w w' ∧ Dec cVal.dec wr rs wr' rs' (x0, x1, x2)
set_option maxRecDepth 100000 in
set_option maxHeartbeats 8000000 in
theorem value_rd (r bb : Nat) (rs : List UInt8) (wr : Bool) (w : World) (h : RdR w r bb rs wr) (hl : rs.length ≤ 100000000000) (hb : bb < w.heap.size) :
    Calls Try.prog 118 #[vP r 0] w (RdValue r bb rs wr w) := by
  have hr := h.lt
  have hu : Upd (fun _ => False) w (w.alloc (.cells #[.int .i64 0, .int .i64 0, .string ⟨#[]⟩] 103)) := Upd.new _ _
  have HK : Hid ((w.alloc (.cells #[.int .i64 0, .int .i64 0, .string ⟨#[]⟩] 103)).heap[w.heap.size]? = some (.cells #[.int .i64 0, .int .i64 0, .string ⟨#[]⟩] 103 (0, 0))) := hidden (heap_alloc_new _ _)
  have H0 := hidden (h.upd hu (fun h => h) (fun h => h))
  have U0 := hidden hu
  clear h hu
  go_enter Try.func118, Try.ntmps118
  go_wp2_with fail
  generalize w.alloc (.cells #[.int .i64 0, .int .i64 0, .string ⟨#[]⟩] 103) = w0 at *
  with_reducible refine (num_rd r bb rs wr w0 H0.out).mono ?_
  rintro e w1 ⟨x0, rs1, wr1, rfl, h1, hu, hd, -, -⟩
  have H1 := hidden h1
  have D1 := hidden hd
  have U1 := hidden ((U0.out.mono (N := fun k => k = r) (fun _ _ h => h.elim)).trans hu (fun _ _ h => h))
  have HK1 : Hid (w1.heap[w.heap.size]? = some (.cells #[.int .i64 0, .int .i64 0, .string ⟨#[]⟩] 103 (0, 0))) := hidden ((hu.block w.heap.size (Array.getElem?_eq_some_iff.1 HK.out).1 (by omega)).trans HK.out)
  have hl1 : rs1.length ≤ 100000000000 := by have := hd.1; omega
  clear h1 hu hd
  go_wp2_with fail
  with_reducible refine (num_rd r bb rs1 wr1 w1 H1.out).mono ?_
  rintro e w2 ⟨x1, rs2, wr2, rfl, h1, hu, hd, -, -⟩
  have H2 := hidden h1
  have D2 := hidden hd
  have U2 := hidden (U1.out.trans hu (fun _ _ h => h))
  have HK2 : Hid (w2.heap[w.heap.size]? = some (.cells #[.int .i64 0, .int .i64 0, .string ⟨#[]⟩] 103 (0, 0))) := hidden ((hu.block w.heap.size (Array.getElem?_eq_some_iff.1 HK1.out).1 (by omega)).trans HK1.out)
  have hl2 : rs2.length ≤ 100000000000 := by have := hd.1; omega
  clear h1 hu hd
  go_wp2_with fail
  with_reducible refine (text_rd r bb rs2 wr2 w2 H2.out hl2).mono ?_
  rintro e w3 ⟨x2, rs3, wr3, rfl, h1, hu, hd⟩
  have H3 := hidden h1
  have D3 := hidden hd
  have U3 := hidden (U2.out.trans hu (fun _ _ h => h))
  have HK3 : Hid (w3.heap[w.heap.size]? = some (.cells #[.int .i64 0, .int .i64 0, .string ⟨#[]⟩] 103 (0, 0))) := hidden ((hu.block w.heap.size (Array.getElem?_eq_some_iff.1 HK2.out).1 (by omega)).trans HK2.out)
  have hl3 : rs3.length ≤ 100000000000 := by have := hd.1; omega
  clear h1 hu hd
  have c0 : w3.cell? ⟨w.heap.size, 0, none⟩ = some (.int .i64 0) := by simp [World.cell?, HK3.out]
  have c1 : w3.cell? ⟨w.heap.size, 1, none⟩ = some (.int .i64 0) := by simp [World.cell?, HK3.out]
  have c2 : w3.cell? ⟨w.heap.size, 2, none⟩ = some (.string ⟨#[]⟩) := by simp [World.cell?, HK3.out]
  have cf : ∀ i, w3.frozen? ⟨w.heap.size, i, none⟩ = false := fun i => by simp [World.frozen?, HK3.out]
  have HTH : Hid (w3.there w.heap.size 0 3) := hidden (fun j hj => ⟨by simp only [World.cell?, HK3.out]; have : j < 3 := hj; simp [this], cf _⟩)
  have HS := hidden (stored_cells (us := [.int .i64 x0, .int .i64 x1, .string (strOf x2)]) HTH.out)
  have hnr : w.heap.size ≠ r := by omega
  have hnb : bb ≠ w.heap.size := by omega
  go_wp2_with fail
  have HE : Hid (RdValue r bb rs wr w (.returned (.agg #[.int .i64 x0, .int .i64 x1, .string (strOf x2)])) (((w3.setCell ⟨w.heap.size, 0, none⟩ (.int .i64 x0)).setCell ⟨w.heap.size, 1, none⟩ (.int .i64 x1)).setCell ⟨w.heap.size, 2, none⟩ (.string (strOf x2)))) := hidden (by
    refine ⟨_, _, _, rs3, wr3, rfl, H3.out.upd HS.out.2 (by omega) (by omega), (U3.out.trans HS.out.2 (fun i hi h => by omega)), (D1.out.pair (D2.out.pair D3.out))⟩)
  have g0 : (((w3.setCell ⟨w.heap.size, 0, none⟩ (.int .i64 x0)).setCell ⟨w.heap.size, 1, none⟩ (.int .i64 x1)).setCell ⟨w.heap.size, 2, none⟩ (.string (strOf x2))).cell? ⟨w.heap.size, 0, none⟩ = some (.int .i64 x0) := HS.out.1 0 _ rfl
  have g1 : (((w3.setCell ⟨w.heap.size, 0, none⟩ (.int .i64 x0)).setCell ⟨w.heap.size, 1, none⟩ (.int .i64 x1)).setCell ⟨w.heap.size, 2, none⟩ (.string (strOf x2))).cell? ⟨w.heap.size, 1, none⟩ = some (.int .i64 x1) := HS.out.1 1 _ rfl
  have g2 : (((w3.setCell ⟨w.heap.size, 0, none⟩ (.int .i64 x0)).setCell ⟨w.heap.size, 1, none⟩ (.int .i64 x1)).setCell ⟨w.heap.size, 2, none⟩ (.string (strOf x2))).cell? ⟨w.heap.size, 2, none⟩ = some (.string (strOf x2)) := HS.out.1 2 _ rfl
  exact bodyPost_ret (v := .agg #[.int .i64 x0, .int .i64 x1, .string (strOf x2)]) (by simp [results, Try.results118, go_sem, g0, g1, g2]) rfl HE.out
/-- What name leaves. -/
def RdName (r bb : Nat) (rs : List UInt8) (wr : Bool) (w : World) (e : Ending) (w' : World) : Prop :=
  ∃ (x0 : List UInt8) (x1 : List UInt8) (x2 : List UInt8) (rs' : List UInt8) (wr' : Bool), e = .returned (.agg #[.string (strOf x0), .string (strOf x1), .string (strOf x2)]) ∧ RdR w' r bb rs' wr' ∧ Upd (fun k => k = r) w w' ∧ Dec cName.dec wr rs wr' rs' (x0, x1, x2)
set_option maxRecDepth 100000 in
set_option maxHeartbeats 8000000 in
theorem name_rd (r bb : Nat) (rs : List UInt8) (wr : Bool) (w : World) (h : RdR w r bb rs wr) (hl : rs.length ≤ 100000000000) (hb : bb < w.heap.size) :
    Calls Try.prog 94 #[vP r 0] w (RdName r bb rs wr w) := by
  have hr := h.lt
  have hu : Upd (fun _ => False) w (w.alloc (.cells #[.string ⟨#[]⟩, .string ⟨#[]⟩, .string ⟨#[]⟩] 101)) := Upd.new _ _
  have HK : Hid ((w.alloc (.cells #[.string ⟨#[]⟩, .string ⟨#[]⟩, .string ⟨#[]⟩] 101)).heap[w.heap.size]? = some (.cells #[.string ⟨#[]⟩, .string ⟨#[]⟩, .string ⟨#[]⟩] 101 (0, 0))) := hidden (heap_alloc_new _ _)
  have H0 := hidden (h.upd hu (fun h => h) (fun h => h))
  have U0 := hidden hu
  clear h hu
  go_enter Try.func94, Try.ntmps94
  go_wp2_with fail
  generalize w.alloc (.cells #[.string ⟨#[]⟩, .string ⟨#[]⟩, .string ⟨#[]⟩] 101) = w0 at *
  with_reducible refine (text_rd r bb rs wr w0 H0.out hl).mono ?_
  rintro e w1 ⟨x0, rs1, wr1, rfl, h1, hu, hd⟩
  have H1 := hidden h1
  have D1 := hidden hd
  have U1 := hidden ((U0.out.mono (N := fun k => k = r) (fun _ _ h => h.elim)).trans hu (fun _ _ h => h))
  have HK1 : Hid (w1.heap[w.heap.size]? = some (.cells #[.string ⟨#[]⟩, .string ⟨#[]⟩, .string ⟨#[]⟩] 101 (0, 0))) := hidden ((hu.block w.heap.size (Array.getElem?_eq_some_iff.1 HK.out).1 (by omega)).trans HK.out)
  have hl1 : rs1.length ≤ 100000000000 := by have := hd.1; omega
  clear h1 hu hd
  go_wp2_with fail
  with_reducible refine (text_rd r bb rs1 wr1 w1 H1.out hl1).mono ?_
  rintro e w2 ⟨x1, rs2, wr2, rfl, h1, hu, hd⟩
  have H2 := hidden h1
  have D2 := hidden hd
  have U2 := hidden (U1.out.trans hu (fun _ _ h => h))
  have HK2 : Hid (w2.heap[w.heap.size]? = some (.cells #[.string ⟨#[]⟩, .string ⟨#[]⟩, .string ⟨#[]⟩] 101 (0, 0))) := hidden ((hu.block w.heap.size (Array.getElem?_eq_some_iff.1 HK1.out).1 (by omega)).trans HK1.out)
  have hl2 : rs2.length ≤ 100000000000 := by have := hd.1; omega
  clear h1 hu hd
  go_wp2_with fail
  with_reducible refine (text_rd r bb rs2 wr2 w2 H2.out hl2).mono ?_
  rintro e w3 ⟨x2, rs3, wr3, rfl, h1, hu, hd⟩
  have H3 := hidden h1
  have D3 := hidden hd
  have U3 := hidden (U2.out.trans hu (fun _ _ h => h))
  have HK3 : Hid (w3.heap[w.heap.size]? = some (.cells #[.string ⟨#[]⟩, .string ⟨#[]⟩, .string ⟨#[]⟩] 101 (0, 0))) := hidden ((hu.block w.heap.size (Array.getElem?_eq_some_iff.1 HK2.out).1 (by omega)).trans HK2.out)
  have hl3 : rs3.length ≤ 100000000000 := by have := hd.1; omega
  clear h1 hu hd
  have c0 : w3.cell? ⟨w.heap.size, 0, none⟩ = some (.string ⟨#[]⟩) := by simp [World.cell?, HK3.out]
  have c1 : w3.cell? ⟨w.heap.size, 1, none⟩ = some (.string ⟨#[]⟩) := by simp [World.cell?, HK3.out]
  have c2 : w3.cell? ⟨w.heap.size, 2, none⟩ = some (.string ⟨#[]⟩) := by simp [World.cell?, HK3.out]
  have cf : ∀ i, w3.frozen? ⟨w.heap.size, i, none⟩ = false := fun i => by simp [World.frozen?, HK3.out]
  have HTH : Hid (w3.there w.heap.size 0 3) := hidden (fun j hj => ⟨by simp only [World.cell?, HK3.out]; have : j < 3 := hj; simp [this], cf _⟩)
  have HS := hidden (stored_cells (us := [.string (strOf x0), .string (strOf x1), .string (strOf x2)]) HTH.out)
  have hnr : w.heap.size ≠ r := by omega
  have hnb : bb ≠ w.heap.size := by omega
  go_wp2_with fail
  have HE : Hid (RdName r bb rs wr w (.returned (.agg #[.string (strOf x0), .string (strOf x1), .string (strOf x2)])) (((w3.setCell ⟨w.heap.size, 0, none⟩ (.string (strOf x0))).setCell ⟨w.heap.size, 1, none⟩ (.string (strOf x1))).setCell ⟨w.heap.size, 2, none⟩ (.string (strOf x2)))) := hidden (by
    refine ⟨_, _, _, rs3, wr3, rfl, H3.out.upd HS.out.2 (by omega) (by omega), (U3.out.trans HS.out.2 (fun i hi h => by omega)), (D1.out.pair (D2.out.pair D3.out))⟩)
  have g0 : (((w3.setCell ⟨w.heap.size, 0, none⟩ (.string (strOf x0))).setCell ⟨w.heap.size, 1, none⟩ (.string (strOf x1))).setCell ⟨w.heap.size, 2, none⟩ (.string (strOf x2))).cell? ⟨w.heap.size, 0, none⟩ = some (.string (strOf x0)) := HS.out.1 0 _ rfl
  have g1 : (((w3.setCell ⟨w.heap.size, 0, none⟩ (.string (strOf x0))).setCell ⟨w.heap.size, 1, none⟩ (.string (strOf x1))).setCell ⟨w.heap.size, 2, none⟩ (.string (strOf x2))).cell? ⟨w.heap.size, 1, none⟩ = some (.string (strOf x1)) := HS.out.1 1 _ rfl
  have g2 : (((w3.setCell ⟨w.heap.size, 0, none⟩ (.string (strOf x0))).setCell ⟨w.heap.size, 1, none⟩ (.string (strOf x1))).setCell ⟨w.heap.size, 2, none⟩ (.string (strOf x2))).cell? ⟨w.heap.size, 2, none⟩ = some (.string (strOf x2)) := HS.out.1 2 _ rfl
  exact bodyPost_ret (v := .agg #[.string (strOf x0), .string (strOf x1), .string (strOf x2)]) (by simp [results, Try.results94, go_sem, g0, g1, g2]) rfl HE.out
/-- What link leaves. -/
def RdLink (r bb : Nat) (rs : List UInt8) (wr : Bool) (w : World) (e : Ending) (w' : World) : Prop :=
  ∃ (x0 : List UInt8) (x1 : List UInt8) (x2 : Int) (x3 : Int) (x4a x4b : Int) (x4c : List UInt8) (rs' : List UInt8) (wr' : Bool), e = .returned (.agg #[.string (strOf x0), .string (strOf x1), .int .i64 x2, .int .i64 x3, .int .i64 x4a, .int .i64 x4b, .string (strOf x4c)]) ∧ RdR w' r bb rs' wr' ∧ Upd (fun k => k = r) w w' ∧ Dec cLink.dec wr rs wr' rs' (x0, x1, x2, x3, (x4a, x4b, x4c))
set_option maxRecDepth 100000 in
set_option maxHeartbeats 8000000 in
theorem link_rd (r bb : Nat) (rs : List UInt8) (wr : Bool) (w : World) (h : RdR w r bb rs wr) (hl : rs.length ≤ 100000000000) (hb : bb < w.heap.size) :
    Calls Try.prog 95 #[vP r 0] w (RdLink r bb rs wr w) := by
  have hr := h.lt
  have hu : Upd (fun _ => False) w (w.alloc (.cells #[.string ⟨#[]⟩, .string ⟨#[]⟩, .int .i64 0, .int .i64 0, .int .i64 0, .int .i64 0, .string ⟨#[]⟩] 105)) := Upd.new _ _
  have HK : Hid ((w.alloc (.cells #[.string ⟨#[]⟩, .string ⟨#[]⟩, .int .i64 0, .int .i64 0, .int .i64 0, .int .i64 0, .string ⟨#[]⟩] 105)).heap[w.heap.size]? = some (.cells #[.string ⟨#[]⟩, .string ⟨#[]⟩, .int .i64 0, .int .i64 0, .int .i64 0, .int .i64 0, .string ⟨#[]⟩] 105 (0, 0))) := hidden (heap_alloc_new _ _)
  have H0 := hidden (h.upd hu (fun h => h) (fun h => h))
  have U0 := hidden hu
  clear h hu
  go_enter Try.func95, Try.ntmps95
  go_wp2_with fail
  generalize w.alloc (.cells #[.string ⟨#[]⟩, .string ⟨#[]⟩, .int .i64 0, .int .i64 0, .int .i64 0, .int .i64 0, .string ⟨#[]⟩] 105) = w0 at *
  with_reducible refine (text_rd r bb rs wr w0 H0.out hl).mono ?_
  rintro e w1 ⟨x0, rs1, wr1, rfl, h1, hu, hd⟩
  have H1 := hidden h1
  have D1 := hidden hd
  have U1 := hidden ((U0.out.mono (N := fun k => k = r) (fun _ _ h => h.elim)).trans hu (fun _ _ h => h))
  have HK1 : Hid (w1.heap[w.heap.size]? = some (.cells #[.string ⟨#[]⟩, .string ⟨#[]⟩, .int .i64 0, .int .i64 0, .int .i64 0, .int .i64 0, .string ⟨#[]⟩] 105 (0, 0))) := hidden ((hu.block w.heap.size (Array.getElem?_eq_some_iff.1 HK.out).1 (by omega)).trans HK.out)
  have hl1 : rs1.length ≤ 100000000000 := by have := hd.1; omega
  clear h1 hu hd
  go_wp2_with fail
  with_reducible refine (text_rd r bb rs1 wr1 w1 H1.out hl1).mono ?_
  rintro e w2 ⟨x1, rs2, wr2, rfl, h1, hu, hd⟩
  have H2 := hidden h1
  have D2 := hidden hd
  have U2 := hidden (U1.out.trans hu (fun _ _ h => h))
  have HK2 : Hid (w2.heap[w.heap.size]? = some (.cells #[.string ⟨#[]⟩, .string ⟨#[]⟩, .int .i64 0, .int .i64 0, .int .i64 0, .int .i64 0, .string ⟨#[]⟩] 105 (0, 0))) := hidden ((hu.block w.heap.size (Array.getElem?_eq_some_iff.1 HK1.out).1 (by omega)).trans HK1.out)
  have hl2 : rs2.length ≤ 100000000000 := by have := hd.1; omega
  clear h1 hu hd
  go_wp2_with fail
  with_reducible refine (num_rd r bb rs2 wr2 w2 H2.out).mono ?_
  rintro e w3 ⟨x2, rs3, wr3, rfl, h1, hu, hd, -, -⟩
  have H3 := hidden h1
  have D3 := hidden hd
  have U3 := hidden (U2.out.trans hu (fun _ _ h => h))
  have HK3 : Hid (w3.heap[w.heap.size]? = some (.cells #[.string ⟨#[]⟩, .string ⟨#[]⟩, .int .i64 0, .int .i64 0, .int .i64 0, .int .i64 0, .string ⟨#[]⟩] 105 (0, 0))) := hidden ((hu.block w.heap.size (Array.getElem?_eq_some_iff.1 HK2.out).1 (by omega)).trans HK2.out)
  have hl3 : rs3.length ≤ 100000000000 := by have := hd.1; omega
  clear h1 hu hd
  go_wp2_with fail
  with_reducible refine (num_rd r bb rs3 wr3 w3 H3.out).mono ?_
  rintro e w4 ⟨x3, rs4, wr4, rfl, h1, hu, hd, -, -⟩
  have H4 := hidden h1
  have D4 := hidden hd
  have U4 := hidden (U3.out.trans hu (fun _ _ h => h))
  have HK4 : Hid (w4.heap[w.heap.size]? = some (.cells #[.string ⟨#[]⟩, .string ⟨#[]⟩, .int .i64 0, .int .i64 0, .int .i64 0, .int .i64 0, .string ⟨#[]⟩] 105 (0, 0))) := hidden ((hu.block w.heap.size (Array.getElem?_eq_some_iff.1 HK3.out).1 (by omega)).trans HK3.out)
  have hl4 : rs4.length ≤ 100000000000 := by have := hd.1; omega
  clear h1 hu hd
  go_wp2_with fail
  with_reducible refine (value_rd r bb rs4 wr4 w4 H4.out hl4 (by have := U4.out.size; omega)).mono ?_
  rintro e w5 ⟨x4a, x4b, x4c, rs5, wr5, rfl, h1, hu, hd⟩
  have H5 := hidden h1
  have D5 := hidden hd
  have U5 := hidden (U4.out.trans hu (fun _ _ h => h))
  have HK5 : Hid (w5.heap[w.heap.size]? = some (.cells #[.string ⟨#[]⟩, .string ⟨#[]⟩, .int .i64 0, .int .i64 0, .int .i64 0, .int .i64 0, .string ⟨#[]⟩] 105 (0, 0))) := hidden ((hu.block w.heap.size (Array.getElem?_eq_some_iff.1 HK4.out).1 (by omega)).trans HK4.out)
  have hl5 : rs5.length ≤ 100000000000 := by have := hd.1; omega
  clear h1 hu hd
  have c0 : w5.cell? ⟨w.heap.size, 0, none⟩ = some (.string ⟨#[]⟩) := by simp [World.cell?, HK5.out]
  have c1 : w5.cell? ⟨w.heap.size, 1, none⟩ = some (.string ⟨#[]⟩) := by simp [World.cell?, HK5.out]
  have c2 : w5.cell? ⟨w.heap.size, 2, none⟩ = some (.int .i64 0) := by simp [World.cell?, HK5.out]
  have c3 : w5.cell? ⟨w.heap.size, 3, none⟩ = some (.int .i64 0) := by simp [World.cell?, HK5.out]
  have c4 : w5.cell? ⟨w.heap.size, 4, none⟩ = some (.int .i64 0) := by simp [World.cell?, HK5.out]
  have c5 : w5.cell? ⟨w.heap.size, 5, none⟩ = some (.int .i64 0) := by simp [World.cell?, HK5.out]
  have c6 : w5.cell? ⟨w.heap.size, 6, none⟩ = some (.string ⟨#[]⟩) := by simp [World.cell?, HK5.out]
  have cf : ∀ i, w5.frozen? ⟨w.heap.size, i, none⟩ = false := fun i => by simp [World.frozen?, HK5.out]
  have HTH : Hid (w5.there w.heap.size 0 7) := hidden (fun j hj => ⟨by simp only [World.cell?, HK5.out]; have : j < 7 := hj; simp [this], cf _⟩)
  have HS := hidden (stored_cells (us := [.string (strOf x0), .string (strOf x1), .int .i64 x2, .int .i64 x3, .int .i64 x4a, .int .i64 x4b, .string (strOf x4c)]) HTH.out)
  have hnr : w.heap.size ≠ r := by omega
  have hnb : bb ≠ w.heap.size := by omega
  go_wp2_with fail
  have HE : Hid (RdLink r bb rs wr w (.returned (.agg #[.string (strOf x0), .string (strOf x1), .int .i64 x2, .int .i64 x3, .int .i64 x4a, .int .i64 x4b, .string (strOf x4c)])) (((((((w5.setCell ⟨w.heap.size, 0, none⟩ (.string (strOf x0))).setCell ⟨w.heap.size, 1, none⟩ (.string (strOf x1))).setCell ⟨w.heap.size, 2, none⟩ (.int .i64 x2)).setCell ⟨w.heap.size, 3, none⟩ (.int .i64 x3)).setCell ⟨w.heap.size, 4, none⟩ (.int .i64 x4a)).setCell ⟨w.heap.size, 5, none⟩ (.int .i64 x4b)).setCell ⟨w.heap.size, 6, none⟩ (.string (strOf x4c)))) := hidden (by
    refine ⟨_, _, _, _, _, _, _, rs5, wr5, rfl, H5.out.upd HS.out.2 (by omega) (by omega), (U5.out.trans HS.out.2 (fun i hi h => by omega)), (D1.out.pair (D2.out.pair (D3.out.pair (D4.out.pair D5.out))))⟩)
  have g0 : (((((((w5.setCell ⟨w.heap.size, 0, none⟩ (.string (strOf x0))).setCell ⟨w.heap.size, 1, none⟩ (.string (strOf x1))).setCell ⟨w.heap.size, 2, none⟩ (.int .i64 x2)).setCell ⟨w.heap.size, 3, none⟩ (.int .i64 x3)).setCell ⟨w.heap.size, 4, none⟩ (.int .i64 x4a)).setCell ⟨w.heap.size, 5, none⟩ (.int .i64 x4b)).setCell ⟨w.heap.size, 6, none⟩ (.string (strOf x4c))).cell? ⟨w.heap.size, 0, none⟩ = some (.string (strOf x0)) := HS.out.1 0 _ rfl
  have g1 : (((((((w5.setCell ⟨w.heap.size, 0, none⟩ (.string (strOf x0))).setCell ⟨w.heap.size, 1, none⟩ (.string (strOf x1))).setCell ⟨w.heap.size, 2, none⟩ (.int .i64 x2)).setCell ⟨w.heap.size, 3, none⟩ (.int .i64 x3)).setCell ⟨w.heap.size, 4, none⟩ (.int .i64 x4a)).setCell ⟨w.heap.size, 5, none⟩ (.int .i64 x4b)).setCell ⟨w.heap.size, 6, none⟩ (.string (strOf x4c))).cell? ⟨w.heap.size, 1, none⟩ = some (.string (strOf x1)) := HS.out.1 1 _ rfl
  have g2 : (((((((w5.setCell ⟨w.heap.size, 0, none⟩ (.string (strOf x0))).setCell ⟨w.heap.size, 1, none⟩ (.string (strOf x1))).setCell ⟨w.heap.size, 2, none⟩ (.int .i64 x2)).setCell ⟨w.heap.size, 3, none⟩ (.int .i64 x3)).setCell ⟨w.heap.size, 4, none⟩ (.int .i64 x4a)).setCell ⟨w.heap.size, 5, none⟩ (.int .i64 x4b)).setCell ⟨w.heap.size, 6, none⟩ (.string (strOf x4c))).cell? ⟨w.heap.size, 2, none⟩ = some (.int .i64 x2) := HS.out.1 2 _ rfl
  have g3 : (((((((w5.setCell ⟨w.heap.size, 0, none⟩ (.string (strOf x0))).setCell ⟨w.heap.size, 1, none⟩ (.string (strOf x1))).setCell ⟨w.heap.size, 2, none⟩ (.int .i64 x2)).setCell ⟨w.heap.size, 3, none⟩ (.int .i64 x3)).setCell ⟨w.heap.size, 4, none⟩ (.int .i64 x4a)).setCell ⟨w.heap.size, 5, none⟩ (.int .i64 x4b)).setCell ⟨w.heap.size, 6, none⟩ (.string (strOf x4c))).cell? ⟨w.heap.size, 3, none⟩ = some (.int .i64 x3) := HS.out.1 3 _ rfl
  have g4 : (((((((w5.setCell ⟨w.heap.size, 0, none⟩ (.string (strOf x0))).setCell ⟨w.heap.size, 1, none⟩ (.string (strOf x1))).setCell ⟨w.heap.size, 2, none⟩ (.int .i64 x2)).setCell ⟨w.heap.size, 3, none⟩ (.int .i64 x3)).setCell ⟨w.heap.size, 4, none⟩ (.int .i64 x4a)).setCell ⟨w.heap.size, 5, none⟩ (.int .i64 x4b)).setCell ⟨w.heap.size, 6, none⟩ (.string (strOf x4c))).cell? ⟨w.heap.size, 4, none⟩ = some (.int .i64 x4a) := HS.out.1 4 _ rfl
  have g5 : (((((((w5.setCell ⟨w.heap.size, 0, none⟩ (.string (strOf x0))).setCell ⟨w.heap.size, 1, none⟩ (.string (strOf x1))).setCell ⟨w.heap.size, 2, none⟩ (.int .i64 x2)).setCell ⟨w.heap.size, 3, none⟩ (.int .i64 x3)).setCell ⟨w.heap.size, 4, none⟩ (.int .i64 x4a)).setCell ⟨w.heap.size, 5, none⟩ (.int .i64 x4b)).setCell ⟨w.heap.size, 6, none⟩ (.string (strOf x4c))).cell? ⟨w.heap.size, 5, none⟩ = some (.int .i64 x4b) := HS.out.1 5 _ rfl
  have g6 : (((((((w5.setCell ⟨w.heap.size, 0, none⟩ (.string (strOf x0))).setCell ⟨w.heap.size, 1, none⟩ (.string (strOf x1))).setCell ⟨w.heap.size, 2, none⟩ (.int .i64 x2)).setCell ⟨w.heap.size, 3, none⟩ (.int .i64 x3)).setCell ⟨w.heap.size, 4, none⟩ (.int .i64 x4a)).setCell ⟨w.heap.size, 5, none⟩ (.int .i64 x4b)).setCell ⟨w.heap.size, 6, none⟩ (.string (strOf x4c))).cell? ⟨w.heap.size, 6, none⟩ = some (.string (strOf x4c)) := HS.out.1 6 _ rfl
  exact bodyPost_ret (v := .agg #[.string (strOf x0), .string (strOf x1), .int .i64 x2, .int .i64 x3, .int .i64 x4a, .int .i64 x4b, .string (strOf x4c)]) (by simp [results, Try.results95, go_sem, g0, g1, g2, g3, g4, g5, g6]) rfl HE.out
end Go.Proofs.Ytekmjegeiminnaa
