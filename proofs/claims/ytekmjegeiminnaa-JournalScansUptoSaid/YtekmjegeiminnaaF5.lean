/- The reference's ReadOps, walked. Printed by gen_f5.py. -/
import Derived.Test.YtekmjegeiminnaaF4
import Derived.Test.YtekmjegeiminnaaD15
namespace Go.Proofs.Ytekmjegeiminnaa
open Go.RowKit
set_option linter.unusedVariables false
set_option linter.unusedSimpArgs false

theorem built108 (x0 : Int) : Try.prog.built 108 [(0, .int .i64 x0)] = some #[.int .i64 x0, .string ⟨#[]⟩, .string ⟨#[]⟩, .int .i64 0, .int .i64 0, .int .i64 0, .int .i64 0, .string ⟨#[]⟩, .string ⟨#[]⟩, .string ⟨#[]⟩, .string ⟨#[]⟩, .string ⟨#[]⟩, .string ⟨#[]⟩, .int .i64 0, .int .i64 0, .int .i64 0, .int .i64 0, .string ⟨#[]⟩, .slice none 0 0] := by kernel_rfl
theorem wpList_built {ops : Array Oper} {rest : List Oper} {o : Oper} {a : Act} {w : World} {Q : Exit → Act → World → Prop} (hg : o.guard = none) (t : TypeId) (parts : Array (Nat × Operand)) (ho : o.op = .build t parts)
    (cells : Array Value) (hb : Try.prog.built t (parts.map fun (i, x) => (i, a.eval x)).toList = some cells) (h : wpList Try.prog ops Q rest (a.put o.dst (.agg cells)) w) : wpList Try.prog ops Q (o :: rest) a w :=
  wpList_build hg t parts ho (by rw [hb]; rfl) (by rw [hb]; exact h)

theorem setRow_new {w : World} {old cs : Array Value} {t : TypeId} : Upd (fun _ => False) w ((w.alloc (.cells old t)).setRow w.heap.size cs) ∧ ((w.alloc (.cells old t)).setRow w.heap.size cs).heap[w.heap.size]? = some (.cells cs t (0, 0)) ∧ w.heap.size < ((w.alloc (.cells old t)).setRow w.heap.size cs).heap.size := by
  have h := heap_alloc_new w (.cells old t)
  refine ⟨?_, setRow_heap _ _ _ _ _ _ h, by rw [size_setRow, World.size_alloc]; omega⟩
  have hu : Upd (fun _ => False) w (w.alloc (.cells old t)) := Upd.new _ _
  exact ⟨hu.os, hu.tape, hu.output, by rw [size_setRow, World.size_alloc]; omega, fun k hk _ => by rw [setRow_other _ _ _ _ (by omega)]; exact hu.block k hk (fun h => h)⟩

set_option maxRecDepth 100000 in
set_option maxHeartbeats 32000000 in
theorem readops_rd (a : Option Addr) (cap : Nat) (bs : List UInt8) (w : World) (h : BytesAt w a bs) (hcap : bs.length ≤ cap) (hc2 : (cap : Int) ≤ 9223372036854775807) (hl : bs.length ≤ 100000000000) (ha : ∀ A, a = some A → A.block < w.heap.size) (h0 : 0 < w.heap.size) :
    Calls Try.prog 54 #[.slice a bs.length cap] w (ReadO bs w) := by
  obtain ⟨bb, hb, hR⟩ := RdR.new h hcap hc2 ha h0
  have HR := hidden hR
  have HB0 : Hid (Below w.heap.size w (w.alloc (.cells #[.slice a bs.length cap, .bool false] 143))) := hidden ((Below.refl _ _).alloc (Nat.le_refl _) _)
  have hz : (w.alloc (.cells #[.slice a bs.length cap, .bool false] 143)).heap.size = w.heap.size + 1 := World.size_alloc _ _
  obtain ⟨i0, hi, hz0, hz1, hz2⟩ := info_parts Try.infoT108
  have HINF := hidden (And.intro hi (And.intro hz0 (And.intro hz1 hz2)))
  clear hi hz0 hz1 hz2 h ha hR
  go_enter Try.func54, Try.ntmps54
  go_wp2_with fail
  generalize w.alloc (.cells #[.slice a bs.length cap, .bool false] 143) = w0 at *
  have hr : w.heap.size < w0.heap.size := by omega
  have hbb : bb < w0.heap.size := by omega
  have HZ := hidden hz
  clear hz
  with_reducible refine (count_rd w.heap.size bb bs false w0 HR.out hl).mono ?_
  rintro e w1 ⟨n, r1, wr1, rfl, h1, hu, hd, hn⟩
  have hnl : n ≤ 100000000000 := by have := hd.1; omega
  have HS : Hid (ListD tOp 108 (fun k => k = w.heap.size) w0 w.heap.size bb false bs n [] r1 (.slice none 0 0) wr1 w1) := hidden ⟨h1, OwnT.nil _ _ _ _, hu, LoopD.start hd, by simp⟩
  clear h1 hu hd hn
  go_wp2_with fail
  go_loopw [5, 7] (fun s5 s7 wk => ∃ (k : Nat) (xs : List OpD) (cur : List UInt8) (wrk : Bool) (v : Value), s5 = v ∧ s7 = .int .i64 k ∧ k = xs.length ∧ ListD tOp 108 (fun k => k = w.heap.size) w0 w.heap.size bb false bs n xs cur v wrk wk) (fun _ s7 _ => (n - intOf s7).toNat)
  case atStart => exact ⟨0, [], r1, wr1, _, rfl, rfl, rfl, HS.out⟩
  case round =>
    obtain ⟨k, xs, cur, wrk, v, hs3, rfl, hk, hL⟩ := hrel
    obtain ⟨av, capv, hv⟩ := hL.own.is
    subst hv
    subst hs3
    have HL := hidden hL
    have hle := hL.le
    have hcl := hL.dec.1
    obtain ⟨ar, capr, c0, c1, cf, hfx⟩ := hL.rd.facts
    have HK := hidden hk
    have HBE : Hid (Below w.heap.size w wr) := hidden (HB0.out.trans (hL.upd.toBelow (by omega) (fun k hk e => by omega)))
    clear hL hk
    have fin : (wrk = true ∨ n ≤ xs.length) → Dec (cList tOp.cod).dec false bs wrk cur xs := fun h => HL.out.dec.done h HL.out.le
    have HFIN := hidden fin
    clear fin
    by_cases hlt : k < n ∧ wrk = false
    · obtain ⟨hlt, hw⟩ := hlt
      subst hw
      have hb0 : w0.heap.size ≤ wr.heap.size := HL.out.upd.size
      go_wp2_with fail
      with_reducible refine (num_rd w.heap.size bb cur false wr HL.out.rd).mono ?_
      rintro e w1 ⟨x0, rs1, wr1, rfl, h1, hu, hd, -, -⟩
      have D1 := hidden hd
      have hl1 : rs1.length ≤ 100000000000 := by have := hd.1; omega
      have hs1 := hu.size
      obtain ⟨hn0, hk0, hs0⟩ := setRow_new (w := w1) (old := #[.int .i64 0, .string ⟨#[]⟩, .string ⟨#[]⟩, .int .i64 0, .int .i64 0, .int .i64 0, .int .i64 0, .string ⟨#[]⟩, .string ⟨#[]⟩, .string ⟨#[]⟩, .string ⟨#[]⟩, .string ⟨#[]⟩, .string ⟨#[]⟩, .int .i64 0, .int .i64 0, .int .i64 0, .int .i64 0, .string ⟨#[]⟩, .slice none 0 0]) (cs := #[.int .i64 x0, .string ⟨#[]⟩, .string ⟨#[]⟩, .int .i64 0, .int .i64 0, .int .i64 0, .int .i64 0, .string ⟨#[]⟩, .string ⟨#[]⟩, .string ⟨#[]⟩, .string ⟨#[]⟩, .string ⟨#[]⟩, .string ⟨#[]⟩, .int .i64 0, .int .i64 0, .int .i64 0, .int .i64 0, .string ⟨#[]⟩, .slice none 0 0]) (t := 108)
      have H1 : Hid (RdR ((w1.alloc (.cells #[.int .i64 0, .string ⟨#[]⟩, .string ⟨#[]⟩, .int .i64 0, .int .i64 0, .int .i64 0, .int .i64 0, .string ⟨#[]⟩, .string ⟨#[]⟩, .string ⟨#[]⟩, .string ⟨#[]⟩, .string ⟨#[]⟩, .string ⟨#[]⟩, .int .i64 0, .int .i64 0, .int .i64 0, .int .i64 0, .string ⟨#[]⟩, .slice none 0 0] 108)).setRow w1.heap.size #[.int .i64 x0, .string ⟨#[]⟩, .string ⟨#[]⟩, .int .i64 0, .int .i64 0, .int .i64 0, .int .i64 0, .string ⟨#[]⟩, .string ⟨#[]⟩, .string ⟨#[]⟩, .string ⟨#[]⟩, .string ⟨#[]⟩, .string ⟨#[]⟩, .int .i64 0, .int .i64 0, .int .i64 0, .int .i64 0, .string ⟨#[]⟩, .slice none 0 0]) w.heap.size bb rs1 wr1) := hidden (h1.upd hn0 (fun h => h) (fun h => h))
      have U1 : Hid (Upd (fun k => k = w.heap.size) wr ((w1.alloc (.cells #[.int .i64 0, .string ⟨#[]⟩, .string ⟨#[]⟩, .int .i64 0, .int .i64 0, .int .i64 0, .int .i64 0, .string ⟨#[]⟩, .string ⟨#[]⟩, .string ⟨#[]⟩, .string ⟨#[]⟩, .string ⟨#[]⟩, .string ⟨#[]⟩, .int .i64 0, .int .i64 0, .int .i64 0, .int .i64 0, .string ⟨#[]⟩, .slice none 0 0] 108)).setRow w1.heap.size #[.int .i64 x0, .string ⟨#[]⟩, .string ⟨#[]⟩, .int .i64 0, .int .i64 0, .int .i64 0, .int .i64 0, .string ⟨#[]⟩, .string ⟨#[]⟩, .string ⟨#[]⟩, .string ⟨#[]⟩, .string ⟨#[]⟩, .string ⟨#[]⟩, .int .i64 0, .int .i64 0, .int .i64 0, .int .i64 0, .string ⟨#[]⟩, .slice none 0 0])) := hidden (hu.trans hn0 (fun _ _ h => h.elim))
      have HK1 : Hid (((w1.alloc (.cells #[.int .i64 0, .string ⟨#[]⟩, .string ⟨#[]⟩, .int .i64 0, .int .i64 0, .int .i64 0, .int .i64 0, .string ⟨#[]⟩, .string ⟨#[]⟩, .string ⟨#[]⟩, .string ⟨#[]⟩, .string ⟨#[]⟩, .string ⟨#[]⟩, .int .i64 0, .int .i64 0, .int .i64 0, .int .i64 0, .string ⟨#[]⟩, .slice none 0 0] 108)).setRow w1.heap.size #[.int .i64 x0, .string ⟨#[]⟩, .string ⟨#[]⟩, .int .i64 0, .int .i64 0, .int .i64 0, .int .i64 0, .string ⟨#[]⟩, .string ⟨#[]⟩, .string ⟨#[]⟩, .string ⟨#[]⟩, .string ⟨#[]⟩, .string ⟨#[]⟩, .int .i64 0, .int .i64 0, .int .i64 0, .int .i64 0, .string ⟨#[]⟩, .slice none 0 0]).heap[w1.heap.size]? = some (.cells #[.int .i64 x0, .string ⟨#[]⟩, .string ⟨#[]⟩, .int .i64 0, .int .i64 0, .int .i64 0, .int .i64 0, .string ⟨#[]⟩, .string ⟨#[]⟩, .string ⟨#[]⟩, .string ⟨#[]⟩, .string ⟨#[]⟩, .string ⟨#[]⟩, .int .i64 0, .int .i64 0, .int .i64 0, .int .i64 0, .string ⟨#[]⟩, .slice none 0 0] 108 (0, 0))) := hidden hk0
      have hsz1 : w1.heap.size < ((w1.alloc (.cells #[.int .i64 0, .string ⟨#[]⟩, .string ⟨#[]⟩, .int .i64 0, .int .i64 0, .int .i64 0, .int .i64 0, .string ⟨#[]⟩, .string ⟨#[]⟩, .string ⟨#[]⟩, .string ⟨#[]⟩, .string ⟨#[]⟩, .string ⟨#[]⟩, .int .i64 0, .int .i64 0, .int .i64 0, .int .i64 0, .string ⟨#[]⟩, .slice none 0 0] 108)).setRow w1.heap.size #[.int .i64 x0, .string ⟨#[]⟩, .string ⟨#[]⟩, .int .i64 0, .int .i64 0, .int .i64 0, .int .i64 0, .string ⟨#[]⟩, .string ⟨#[]⟩, .string ⟨#[]⟩, .string ⟨#[]⟩, .string ⟨#[]⟩, .string ⟨#[]⟩, .int .i64 0, .int .i64 0, .int .i64 0, .int .i64 0, .string ⟨#[]⟩, .slice none 0 0]).heap.size := hs0
      have HONE0 : Hid ((#[.int .i64 x0, .string ⟨#[]⟩, .string ⟨#[]⟩, .int .i64 0, .int .i64 0, .int .i64 0, .int .i64 0, .string ⟨#[]⟩, .string ⟨#[]⟩, .string ⟨#[]⟩, .string ⟨#[]⟩, .string ⟨#[]⟩, .string ⟨#[]⟩, .int .i64 0, .int .i64 0, .int .i64 0, .int .i64 0, .string ⟨#[]⟩, .slice none 0 0] : Array Value).all (·.oneCell') = true) := hidden (by rw [List.all_toArray]; rfl)
      have hwB : wr.heap.size ≤ w1.heap.size := by omega
      clear h1 hu hd c0 c1 cf hfx hn0 hk0 hs0 hs1
      have HBU := hidden (built108 x0)
      go_wp2_with (first | ((with_reducible refine wpList_built (o := ⟨some 28, .build 108 #[(0, .tmp 27)], _, _, _, _⟩) ?_ 108 #[(0, .tmp 27)] ?_ #[.int .i64 x0, .string ⟨#[]⟩, .string ⟨#[]⟩, .int .i64 0, .int .i64 0, .int .i64 0, .int .i64 0, .string ⟨#[]⟩, .string ⟨#[]⟩, .string ⟨#[]⟩, .string ⟨#[]⟩, .string ⟨#[]⟩, .string ⟨#[]⟩, .int .i64 0, .int .i64 0, .int .i64 0, .int .i64 0, .string ⟨#[]⟩, .slice none 0 0] ?_ ?_); rfl; rfl; exact HBU.out) | ((with_reducible refine wpList_store_row (o := ⟨none, .store 108 (.tmp 8) (.tmp 28), _, _, _, _⟩) ?_ 108 (.tmp 8) (.tmp 28) ?_ w1.heap.size _ ?_ ?_ 108 _ (heap_alloc_new _ _) ?_ ?_ HONE0.out ?_); rfl; rfl; rfl; rfl; exact sz108; rfl) | fail)
      generalize ((w1.alloc (.cells #[.int .i64 0, .string ⟨#[]⟩, .string ⟨#[]⟩, .int .i64 0, .int .i64 0, .int .i64 0, .int .i64 0, .string ⟨#[]⟩, .string ⟨#[]⟩, .string ⟨#[]⟩, .string ⟨#[]⟩, .string ⟨#[]⟩, .string ⟨#[]⟩, .int .i64 0, .int .i64 0, .int .i64 0, .int .i64 0, .string ⟨#[]⟩, .slice none 0 0] 108)).setRow w1.heap.size #[.int .i64 x0, .string ⟨#[]⟩, .string ⟨#[]⟩, .int .i64 0, .int .i64 0, .int .i64 0, .int .i64 0, .string ⟨#[]⟩, .string ⟨#[]⟩, .string ⟨#[]⟩, .string ⟨#[]⟩, .string ⟨#[]⟩, .string ⟨#[]⟩, .int .i64 0, .int .i64 0, .int .i64 0, .int .i64 0, .string ⟨#[]⟩, .slice none 0 0]) = v1 at *
      with_reducible refine (text_rd w.heap.size bb rs1 wr1 v1 H1.out hl1).mono ?_
      rintro e w2 ⟨x1, rs2, wr2, rfl, h1, hu, hd⟩
      have D2 := hidden hd
      have hl2 : rs2.length ≤ 100000000000 := by have := hd.1; omega
      have hk2 : w2.heap[w1.heap.size]? = some (.cells #[.int .i64 x0, .string ⟨#[]⟩, .string ⟨#[]⟩, .int .i64 0, .int .i64 0, .int .i64 0, .int .i64 0, .string ⟨#[]⟩, .string ⟨#[]⟩, .string ⟨#[]⟩, .string ⟨#[]⟩, .string ⟨#[]⟩, .string ⟨#[]⟩, .int .i64 0, .int .i64 0, .int .i64 0, .int .i64 0, .string ⟨#[]⟩, .slice none 0 0] 108 (0, 0)) := (hu.block w1.heap.size hsz1 (by omega)).trans HK1.out
      have ht2 : w2.there w1.heap.size 1 1 := fun j hj => ⟨by simp only [World.cell?, hk2]; have : j < 1 := hj; simp; omega, by simp [World.frozen?, hk2]⟩
      have c0 : w2.cell? ⟨w1.heap.size, 1, none⟩ = some (.string ⟨#[]⟩) := by simp [World.cell?, hk2]
      have cf : ∀ i, w2.frozen? ⟨w1.heap.size, i, none⟩ = false := fun i => by simp [World.frozen?, hk2]
      have hset : Upd (fun k => k = w1.heap.size) w2 (w2.setCell ⟨w1.heap.size, 1, none⟩ (.string (strOf x1))) := Upd.setCells (M := fun k => k = w1.heap.size) rfl [.string (strOf x1)] 1 w2
      have HK2 : Hid ((w2.setCell ⟨w1.heap.size, 1, none⟩ (.string (strOf x1))).heap[w1.heap.size]? = some (.cells #[.int .i64 x0, .string (strOf x1), .string ⟨#[]⟩, .int .i64 0, .int .i64 0, .int .i64 0, .int .i64 0, .string ⟨#[]⟩, .string ⟨#[]⟩, .string ⟨#[]⟩, .string ⟨#[]⟩, .string ⟨#[]⟩, .string ⟨#[]⟩, .int .i64 0, .int .i64 0, .int .i64 0, .int .i64 0, .string ⟨#[]⟩, .slice none 0 0] 108 (0, 0))) := hidden (by have h := setCell_heap (v := .string (strOf x1)) (o := 1) (hk2); simp only [List.setIfInBounds_toArray, List.set_cons_zero, List.set_cons_succ] at h; exact h)
      have H2 : Hid (RdR (w2.setCell ⟨w1.heap.size, 1, none⟩ (.string (strOf x1))) w.heap.size bb rs2 wr2) := hidden (h1.upd hset (by omega) (by omega))
      have U2 : Hid (Upd (fun k => k = w.heap.size) wr (w2.setCell ⟨w1.heap.size, 1, none⟩ (.string (strOf x1)))) := hidden ((U1.out.trans hu (fun _ _ h => h)).trans hset (fun k hk e => by omega))
      have hsz2 : w1.heap.size < (w2.setCell ⟨w1.heap.size, 1, none⟩ (.string (strOf x1))).heap.size := Nat.lt_of_lt_of_le hsz1 (Nat.le_trans hu.size hset.size)
      have hvz2 : v1.heap.size ≤ (w2.setCell ⟨w1.heap.size, 1, none⟩ (.string (strOf x1))).heap.size := Nat.le_trans hu.size hset.size
      clear h1 hu hd hset hk2 ht2
      go_wp2_with fail
      generalize (w2.setCell ⟨w1.heap.size, 1, none⟩ (.string (strOf x1))) = v2 at *
      clear cf c0
      with_reducible refine (text_rd w.heap.size bb rs2 wr2 v2 H2.out hl2).mono ?_
      rintro e w3 ⟨x2, rs3, wr3, rfl, h1, hu, hd⟩
      have D3 := hidden hd
      have hl3 : rs3.length ≤ 100000000000 := by have := hd.1; omega
      have hk3 : w3.heap[w1.heap.size]? = some (.cells #[.int .i64 x0, .string (strOf x1), .string ⟨#[]⟩, .int .i64 0, .int .i64 0, .int .i64 0, .int .i64 0, .string ⟨#[]⟩, .string ⟨#[]⟩, .string ⟨#[]⟩, .string ⟨#[]⟩, .string ⟨#[]⟩, .string ⟨#[]⟩, .int .i64 0, .int .i64 0, .int .i64 0, .int .i64 0, .string ⟨#[]⟩, .slice none 0 0] 108 (0, 0)) := (hu.block w1.heap.size hsz2 (by omega)).trans HK2.out
      have ht3 : w3.there w1.heap.size 2 1 := fun j hj => ⟨by simp only [World.cell?, hk3]; have : j < 1 := hj; simp; omega, by simp [World.frozen?, hk3]⟩
      have c0 : w3.cell? ⟨w1.heap.size, 2, none⟩ = some (.string ⟨#[]⟩) := by simp [World.cell?, hk3]
      have cf : ∀ i, w3.frozen? ⟨w1.heap.size, i, none⟩ = false := fun i => by simp [World.frozen?, hk3]
      have hset : Upd (fun k => k = w1.heap.size) w3 (w3.setCell ⟨w1.heap.size, 2, none⟩ (.string (strOf x2))) := Upd.setCells (M := fun k => k = w1.heap.size) rfl [.string (strOf x2)] 2 w3
      have HK3 : Hid ((w3.setCell ⟨w1.heap.size, 2, none⟩ (.string (strOf x2))).heap[w1.heap.size]? = some (.cells #[.int .i64 x0, .string (strOf x1), .string (strOf x2), .int .i64 0, .int .i64 0, .int .i64 0, .int .i64 0, .string ⟨#[]⟩, .string ⟨#[]⟩, .string ⟨#[]⟩, .string ⟨#[]⟩, .string ⟨#[]⟩, .string ⟨#[]⟩, .int .i64 0, .int .i64 0, .int .i64 0, .int .i64 0, .string ⟨#[]⟩, .slice none 0 0] 108 (0, 0))) := hidden (by have h := setCell_heap (v := .string (strOf x2)) (o := 2) (hk3); simp only [List.setIfInBounds_toArray, List.set_cons_zero, List.set_cons_succ] at h; exact h)
      have H3 : Hid (RdR (w3.setCell ⟨w1.heap.size, 2, none⟩ (.string (strOf x2))) w.heap.size bb rs3 wr3) := hidden (h1.upd hset (by omega) (by omega))
      have U3 : Hid (Upd (fun k => k = w.heap.size) wr (w3.setCell ⟨w1.heap.size, 2, none⟩ (.string (strOf x2)))) := hidden ((U2.out.trans hu (fun _ _ h => h)).trans hset (fun k hk e => by omega))
      have hsz3 : w1.heap.size < (w3.setCell ⟨w1.heap.size, 2, none⟩ (.string (strOf x2))).heap.size := Nat.lt_of_lt_of_le hsz2 (Nat.le_trans hu.size hset.size)
      have hvz3 : v2.heap.size ≤ (w3.setCell ⟨w1.heap.size, 2, none⟩ (.string (strOf x2))).heap.size := Nat.le_trans hu.size hset.size
      clear h1 hu hd hset hk3 ht3
      go_wp2_with fail
      generalize (w3.setCell ⟨w1.heap.size, 2, none⟩ (.string (strOf x2))) = v3 at *
      clear cf c0
      with_reducible refine (num_rd w.heap.size bb rs3 wr3 v3 H3.out).mono ?_
      rintro e w4 ⟨x3, rs4, wr4, rfl, h1, hu, hd, -, -⟩
      have D4 := hidden hd
      have hl4 : rs4.length ≤ 100000000000 := by have := hd.1; omega
      have hk4 : w4.heap[w1.heap.size]? = some (.cells #[.int .i64 x0, .string (strOf x1), .string (strOf x2), .int .i64 0, .int .i64 0, .int .i64 0, .int .i64 0, .string ⟨#[]⟩, .string ⟨#[]⟩, .string ⟨#[]⟩, .string ⟨#[]⟩, .string ⟨#[]⟩, .string ⟨#[]⟩, .int .i64 0, .int .i64 0, .int .i64 0, .int .i64 0, .string ⟨#[]⟩, .slice none 0 0] 108 (0, 0)) := (hu.block w1.heap.size hsz3 (by omega)).trans HK3.out
      have ht4 : w4.there w1.heap.size 3 1 := fun j hj => ⟨by simp only [World.cell?, hk4]; have : j < 1 := hj; simp; omega, by simp [World.frozen?, hk4]⟩
      have c0 : w4.cell? ⟨w1.heap.size, 3, none⟩ = some (.int .i64 0) := by simp [World.cell?, hk4]
      have cf : ∀ i, w4.frozen? ⟨w1.heap.size, i, none⟩ = false := fun i => by simp [World.frozen?, hk4]
      have hset : Upd (fun k => k = w1.heap.size) w4 (w4.setCell ⟨w1.heap.size, 3, none⟩ (.int .i64 x3)) := Upd.setCells (M := fun k => k = w1.heap.size) rfl [.int .i64 x3] 3 w4
      have HK4 : Hid ((w4.setCell ⟨w1.heap.size, 3, none⟩ (.int .i64 x3)).heap[w1.heap.size]? = some (.cells #[.int .i64 x0, .string (strOf x1), .string (strOf x2), .int .i64 x3, .int .i64 0, .int .i64 0, .int .i64 0, .string ⟨#[]⟩, .string ⟨#[]⟩, .string ⟨#[]⟩, .string ⟨#[]⟩, .string ⟨#[]⟩, .string ⟨#[]⟩, .int .i64 0, .int .i64 0, .int .i64 0, .int .i64 0, .string ⟨#[]⟩, .slice none 0 0] 108 (0, 0))) := hidden (by have h := setCell_heap (v := .int .i64 x3) (o := 3) (hk4); simp only [List.setIfInBounds_toArray, List.set_cons_zero, List.set_cons_succ] at h; exact h)
      have H4 : Hid (RdR (w4.setCell ⟨w1.heap.size, 3, none⟩ (.int .i64 x3)) w.heap.size bb rs4 wr4) := hidden (h1.upd hset (by omega) (by omega))
      have U4 : Hid (Upd (fun k => k = w.heap.size) wr (w4.setCell ⟨w1.heap.size, 3, none⟩ (.int .i64 x3))) := hidden ((U3.out.trans hu (fun _ _ h => h)).trans hset (fun k hk e => by omega))
      have hsz4 : w1.heap.size < (w4.setCell ⟨w1.heap.size, 3, none⟩ (.int .i64 x3)).heap.size := Nat.lt_of_lt_of_le hsz3 (Nat.le_trans hu.size hset.size)
      have hvz4 : v3.heap.size ≤ (w4.setCell ⟨w1.heap.size, 3, none⟩ (.int .i64 x3)).heap.size := Nat.le_trans hu.size hset.size
      clear h1 hu hd hset hk4 ht4
      go_wp2_with fail
      generalize (w4.setCell ⟨w1.heap.size, 3, none⟩ (.int .i64 x3)) = v4 at *
      clear cf c0
      with_reducible refine (num_rd w.heap.size bb rs4 wr4 v4 H4.out).mono ?_
      rintro e w5 ⟨x4, rs5, wr5, rfl, h1, hu, hd, -, -⟩
      have D5 := hidden hd
      have hl5 : rs5.length ≤ 100000000000 := by have := hd.1; omega
      have hk5 : w5.heap[w1.heap.size]? = some (.cells #[.int .i64 x0, .string (strOf x1), .string (strOf x2), .int .i64 x3, .int .i64 0, .int .i64 0, .int .i64 0, .string ⟨#[]⟩, .string ⟨#[]⟩, .string ⟨#[]⟩, .string ⟨#[]⟩, .string ⟨#[]⟩, .string ⟨#[]⟩, .int .i64 0, .int .i64 0, .int .i64 0, .int .i64 0, .string ⟨#[]⟩, .slice none 0 0] 108 (0, 0)) := (hu.block w1.heap.size hsz4 (by omega)).trans HK4.out
      have ht5 : w5.there w1.heap.size 4 1 := fun j hj => ⟨by simp only [World.cell?, hk5]; have : j < 1 := hj; simp; omega, by simp [World.frozen?, hk5]⟩
      have c0 : w5.cell? ⟨w1.heap.size, 4, none⟩ = some (.int .i64 0) := by simp [World.cell?, hk5]
      have cf : ∀ i, w5.frozen? ⟨w1.heap.size, i, none⟩ = false := fun i => by simp [World.frozen?, hk5]
      have hset : Upd (fun k => k = w1.heap.size) w5 (w5.setCell ⟨w1.heap.size, 4, none⟩ (.int .i64 x4)) := Upd.setCells (M := fun k => k = w1.heap.size) rfl [.int .i64 x4] 4 w5
      have HK5 : Hid ((w5.setCell ⟨w1.heap.size, 4, none⟩ (.int .i64 x4)).heap[w1.heap.size]? = some (.cells #[.int .i64 x0, .string (strOf x1), .string (strOf x2), .int .i64 x3, .int .i64 x4, .int .i64 0, .int .i64 0, .string ⟨#[]⟩, .string ⟨#[]⟩, .string ⟨#[]⟩, .string ⟨#[]⟩, .string ⟨#[]⟩, .string ⟨#[]⟩, .int .i64 0, .int .i64 0, .int .i64 0, .int .i64 0, .string ⟨#[]⟩, .slice none 0 0] 108 (0, 0))) := hidden (by have h := setCell_heap (v := .int .i64 x4) (o := 4) (hk5); simp only [List.setIfInBounds_toArray, List.set_cons_zero, List.set_cons_succ] at h; exact h)
      have H5 : Hid (RdR (w5.setCell ⟨w1.heap.size, 4, none⟩ (.int .i64 x4)) w.heap.size bb rs5 wr5) := hidden (h1.upd hset (by omega) (by omega))
      have U5 : Hid (Upd (fun k => k = w.heap.size) wr (w5.setCell ⟨w1.heap.size, 4, none⟩ (.int .i64 x4))) := hidden ((U4.out.trans hu (fun _ _ h => h)).trans hset (fun k hk e => by omega))
      have hsz5 : w1.heap.size < (w5.setCell ⟨w1.heap.size, 4, none⟩ (.int .i64 x4)).heap.size := Nat.lt_of_lt_of_le hsz4 (Nat.le_trans hu.size hset.size)
      have hvz5 : v4.heap.size ≤ (w5.setCell ⟨w1.heap.size, 4, none⟩ (.int .i64 x4)).heap.size := Nat.le_trans hu.size hset.size
      clear h1 hu hd hset hk5 ht5
      go_wp2_with fail
      generalize (w5.setCell ⟨w1.heap.size, 4, none⟩ (.int .i64 x4)) = v5 at *
      clear cf c0
      with_reducible refine (num_rd w.heap.size bb rs5 wr5 v5 H5.out).mono ?_
      rintro e w6 ⟨x5, rs6, wr6, rfl, h1, hu, hd, -, -⟩
      have D6 := hidden hd
      have hl6 : rs6.length ≤ 100000000000 := by have := hd.1; omega
      have hk6 : w6.heap[w1.heap.size]? = some (.cells #[.int .i64 x0, .string (strOf x1), .string (strOf x2), .int .i64 x3, .int .i64 x4, .int .i64 0, .int .i64 0, .string ⟨#[]⟩, .string ⟨#[]⟩, .string ⟨#[]⟩, .string ⟨#[]⟩, .string ⟨#[]⟩, .string ⟨#[]⟩, .int .i64 0, .int .i64 0, .int .i64 0, .int .i64 0, .string ⟨#[]⟩, .slice none 0 0] 108 (0, 0)) := (hu.block w1.heap.size hsz5 (by omega)).trans HK5.out
      have ht6 : w6.there w1.heap.size 5 1 := fun j hj => ⟨by simp only [World.cell?, hk6]; have : j < 1 := hj; simp; omega, by simp [World.frozen?, hk6]⟩
      have c0 : w6.cell? ⟨w1.heap.size, 5, none⟩ = some (.int .i64 0) := by simp [World.cell?, hk6]
      have cf : ∀ i, w6.frozen? ⟨w1.heap.size, i, none⟩ = false := fun i => by simp [World.frozen?, hk6]
      have hset : Upd (fun k => k = w1.heap.size) w6 (w6.setCell ⟨w1.heap.size, 5, none⟩ (.int .i64 x5)) := Upd.setCells (M := fun k => k = w1.heap.size) rfl [.int .i64 x5] 5 w6
      have HK6 : Hid ((w6.setCell ⟨w1.heap.size, 5, none⟩ (.int .i64 x5)).heap[w1.heap.size]? = some (.cells #[.int .i64 x0, .string (strOf x1), .string (strOf x2), .int .i64 x3, .int .i64 x4, .int .i64 x5, .int .i64 0, .string ⟨#[]⟩, .string ⟨#[]⟩, .string ⟨#[]⟩, .string ⟨#[]⟩, .string ⟨#[]⟩, .string ⟨#[]⟩, .int .i64 0, .int .i64 0, .int .i64 0, .int .i64 0, .string ⟨#[]⟩, .slice none 0 0] 108 (0, 0))) := hidden (by have h := setCell_heap (v := .int .i64 x5) (o := 5) (hk6); simp only [List.setIfInBounds_toArray, List.set_cons_zero, List.set_cons_succ] at h; exact h)
      have H6 : Hid (RdR (w6.setCell ⟨w1.heap.size, 5, none⟩ (.int .i64 x5)) w.heap.size bb rs6 wr6) := hidden (h1.upd hset (by omega) (by omega))
      have U6 : Hid (Upd (fun k => k = w.heap.size) wr (w6.setCell ⟨w1.heap.size, 5, none⟩ (.int .i64 x5))) := hidden ((U5.out.trans hu (fun _ _ h => h)).trans hset (fun k hk e => by omega))
      have hsz6 : w1.heap.size < (w6.setCell ⟨w1.heap.size, 5, none⟩ (.int .i64 x5)).heap.size := Nat.lt_of_lt_of_le hsz5 (Nat.le_trans hu.size hset.size)
      have hvz6 : v5.heap.size ≤ (w6.setCell ⟨w1.heap.size, 5, none⟩ (.int .i64 x5)).heap.size := Nat.le_trans hu.size hset.size
      clear h1 hu hd hset hk6 ht6
      go_wp2_with fail
      generalize (w6.setCell ⟨w1.heap.size, 5, none⟩ (.int .i64 x5)) = v6 at *
      clear cf c0
      with_reducible refine (num_rd w.heap.size bb rs6 wr6 v6 H6.out).mono ?_
      rintro e w7 ⟨x6, rs7, wr7, rfl, h1, hu, hd, -, -⟩
      have D7 := hidden hd
      have hl7 : rs7.length ≤ 100000000000 := by have := hd.1; omega
      have hk7 : w7.heap[w1.heap.size]? = some (.cells #[.int .i64 x0, .string (strOf x1), .string (strOf x2), .int .i64 x3, .int .i64 x4, .int .i64 x5, .int .i64 0, .string ⟨#[]⟩, .string ⟨#[]⟩, .string ⟨#[]⟩, .string ⟨#[]⟩, .string ⟨#[]⟩, .string ⟨#[]⟩, .int .i64 0, .int .i64 0, .int .i64 0, .int .i64 0, .string ⟨#[]⟩, .slice none 0 0] 108 (0, 0)) := (hu.block w1.heap.size hsz6 (by omega)).trans HK6.out
      have ht7 : w7.there w1.heap.size 6 1 := fun j hj => ⟨by simp only [World.cell?, hk7]; have : j < 1 := hj; simp; omega, by simp [World.frozen?, hk7]⟩
      have c0 : w7.cell? ⟨w1.heap.size, 6, none⟩ = some (.int .i64 0) := by simp [World.cell?, hk7]
      have cf : ∀ i, w7.frozen? ⟨w1.heap.size, i, none⟩ = false := fun i => by simp [World.frozen?, hk7]
      have hset : Upd (fun k => k = w1.heap.size) w7 (w7.setCell ⟨w1.heap.size, 6, none⟩ (.int .i64 x6)) := Upd.setCells (M := fun k => k = w1.heap.size) rfl [.int .i64 x6] 6 w7
      have HK7 : Hid ((w7.setCell ⟨w1.heap.size, 6, none⟩ (.int .i64 x6)).heap[w1.heap.size]? = some (.cells #[.int .i64 x0, .string (strOf x1), .string (strOf x2), .int .i64 x3, .int .i64 x4, .int .i64 x5, .int .i64 x6, .string ⟨#[]⟩, .string ⟨#[]⟩, .string ⟨#[]⟩, .string ⟨#[]⟩, .string ⟨#[]⟩, .string ⟨#[]⟩, .int .i64 0, .int .i64 0, .int .i64 0, .int .i64 0, .string ⟨#[]⟩, .slice none 0 0] 108 (0, 0))) := hidden (by have h := setCell_heap (v := .int .i64 x6) (o := 6) (hk7); simp only [List.setIfInBounds_toArray, List.set_cons_zero, List.set_cons_succ] at h; exact h)
      have H7 : Hid (RdR (w7.setCell ⟨w1.heap.size, 6, none⟩ (.int .i64 x6)) w.heap.size bb rs7 wr7) := hidden (h1.upd hset (by omega) (by omega))
      have U7 : Hid (Upd (fun k => k = w.heap.size) wr (w7.setCell ⟨w1.heap.size, 6, none⟩ (.int .i64 x6))) := hidden ((U6.out.trans hu (fun _ _ h => h)).trans hset (fun k hk e => by omega))
      have hsz7 : w1.heap.size < (w7.setCell ⟨w1.heap.size, 6, none⟩ (.int .i64 x6)).heap.size := Nat.lt_of_lt_of_le hsz6 (Nat.le_trans hu.size hset.size)
      have hvz7 : v6.heap.size ≤ (w7.setCell ⟨w1.heap.size, 6, none⟩ (.int .i64 x6)).heap.size := Nat.le_trans hu.size hset.size
      clear h1 hu hd hset hk7 ht7
      go_wp2_with fail
      generalize (w7.setCell ⟨w1.heap.size, 6, none⟩ (.int .i64 x6)) = v7 at *
      clear cf c0
      with_reducible refine (text_rd w.heap.size bb rs7 wr7 v7 H7.out hl7).mono ?_
      rintro e w8 ⟨x7, rs8, wr8, rfl, h1, hu, hd⟩
      have D8 := hidden hd
      have hl8 : rs8.length ≤ 100000000000 := by have := hd.1; omega
      have hk8 : w8.heap[w1.heap.size]? = some (.cells #[.int .i64 x0, .string (strOf x1), .string (strOf x2), .int .i64 x3, .int .i64 x4, .int .i64 x5, .int .i64 x6, .string ⟨#[]⟩, .string ⟨#[]⟩, .string ⟨#[]⟩, .string ⟨#[]⟩, .string ⟨#[]⟩, .string ⟨#[]⟩, .int .i64 0, .int .i64 0, .int .i64 0, .int .i64 0, .string ⟨#[]⟩, .slice none 0 0] 108 (0, 0)) := (hu.block w1.heap.size hsz7 (by omega)).trans HK7.out
      have ht8 : w8.there w1.heap.size 7 1 := fun j hj => ⟨by simp only [World.cell?, hk8]; have : j < 1 := hj; simp; omega, by simp [World.frozen?, hk8]⟩
      have c0 : w8.cell? ⟨w1.heap.size, 7, none⟩ = some (.string ⟨#[]⟩) := by simp [World.cell?, hk8]
      have cf : ∀ i, w8.frozen? ⟨w1.heap.size, i, none⟩ = false := fun i => by simp [World.frozen?, hk8]
      have hset : Upd (fun k => k = w1.heap.size) w8 (w8.setCell ⟨w1.heap.size, 7, none⟩ (.string (strOf x7))) := Upd.setCells (M := fun k => k = w1.heap.size) rfl [.string (strOf x7)] 7 w8
      have HK8 : Hid ((w8.setCell ⟨w1.heap.size, 7, none⟩ (.string (strOf x7))).heap[w1.heap.size]? = some (.cells #[.int .i64 x0, .string (strOf x1), .string (strOf x2), .int .i64 x3, .int .i64 x4, .int .i64 x5, .int .i64 x6, .string (strOf x7), .string ⟨#[]⟩, .string ⟨#[]⟩, .string ⟨#[]⟩, .string ⟨#[]⟩, .string ⟨#[]⟩, .int .i64 0, .int .i64 0, .int .i64 0, .int .i64 0, .string ⟨#[]⟩, .slice none 0 0] 108 (0, 0))) := hidden (by have h := setCell_heap (v := .string (strOf x7)) (o := 7) (hk8); simp only [List.setIfInBounds_toArray, List.set_cons_zero, List.set_cons_succ] at h; exact h)
      have H8 : Hid (RdR (w8.setCell ⟨w1.heap.size, 7, none⟩ (.string (strOf x7))) w.heap.size bb rs8 wr8) := hidden (h1.upd hset (by omega) (by omega))
      have U8 : Hid (Upd (fun k => k = w.heap.size) wr (w8.setCell ⟨w1.heap.size, 7, none⟩ (.string (strOf x7)))) := hidden ((U7.out.trans hu (fun _ _ h => h)).trans hset (fun k hk e => by omega))
      have hsz8 : w1.heap.size < (w8.setCell ⟨w1.heap.size, 7, none⟩ (.string (strOf x7))).heap.size := Nat.lt_of_lt_of_le hsz7 (Nat.le_trans hu.size hset.size)
      have hvz8 : v7.heap.size ≤ (w8.setCell ⟨w1.heap.size, 7, none⟩ (.string (strOf x7))).heap.size := Nat.le_trans hu.size hset.size
      clear h1 hu hd hset hk8 ht8
      go_wp2_with fail
      generalize (w8.setCell ⟨w1.heap.size, 7, none⟩ (.string (strOf x7))) = v8 at *
      clear cf c0
      with_reducible refine (name_rd w.heap.size bb rs8 wr8 v8 H8.out hl8 (by have := hsz8; omega)).mono ?_
      rintro e w9 ⟨x8a, x8b, x8c, rs9, wr9, rfl, h1, hu, hd⟩
      have D9 := hidden hd
      have hl9 : rs9.length ≤ 100000000000 := by have := hd.1; omega
      have hk9 : w9.heap[w1.heap.size]? = some (.cells #[.int .i64 x0, .string (strOf x1), .string (strOf x2), .int .i64 x3, .int .i64 x4, .int .i64 x5, .int .i64 x6, .string (strOf x7), .string ⟨#[]⟩, .string ⟨#[]⟩, .string ⟨#[]⟩, .string ⟨#[]⟩, .string ⟨#[]⟩, .int .i64 0, .int .i64 0, .int .i64 0, .int .i64 0, .string ⟨#[]⟩, .slice none 0 0] 108 (0, 0)) := (hu.block w1.heap.size hsz8 (by omega)).trans HK8.out
      have ht9 : w9.there w1.heap.size 8 3 := fun j hj => ⟨by simp only [World.cell?, hk9]; have : j < 3 := hj; simp; omega, by simp [World.frozen?, hk9]⟩
      have c0 : w9.cell? ⟨w1.heap.size, 8, none⟩ = some (.string ⟨#[]⟩) := by simp [World.cell?, hk9]
      have c1 : w9.cell? ⟨w1.heap.size, 9, none⟩ = some (.string ⟨#[]⟩) := by simp [World.cell?, hk9]
      have c2 : w9.cell? ⟨w1.heap.size, 10, none⟩ = some (.string ⟨#[]⟩) := by simp [World.cell?, hk9]
      have cf : ∀ i, w9.frozen? ⟨w1.heap.size, i, none⟩ = false := fun i => by simp [World.frozen?, hk9]
      have hset : Upd (fun k => k = w1.heap.size) w9 (((w9.setCell ⟨w1.heap.size, 8, none⟩ (.string (strOf x8a))).setCell ⟨w1.heap.size, 9, none⟩ (.string (strOf x8b))).setCell ⟨w1.heap.size, 10, none⟩ (.string (strOf x8c))) := Upd.setCells (M := fun k => k = w1.heap.size) rfl [.string (strOf x8a), .string (strOf x8b), .string (strOf x8c)] 8 w9
      have HK9 : Hid ((((w9.setCell ⟨w1.heap.size, 8, none⟩ (.string (strOf x8a))).setCell ⟨w1.heap.size, 9, none⟩ (.string (strOf x8b))).setCell ⟨w1.heap.size, 10, none⟩ (.string (strOf x8c))).heap[w1.heap.size]? = some (.cells #[.int .i64 x0, .string (strOf x1), .string (strOf x2), .int .i64 x3, .int .i64 x4, .int .i64 x5, .int .i64 x6, .string (strOf x7), .string (strOf x8a), .string (strOf x8b), .string (strOf x8c), .string ⟨#[]⟩, .string ⟨#[]⟩, .int .i64 0, .int .i64 0, .int .i64 0, .int .i64 0, .string ⟨#[]⟩, .slice none 0 0] 108 (0, 0))) := hidden (by have h := setCell_heap (v := .string (strOf x8c)) (o := 10) (setCell_heap (v := .string (strOf x8b)) (o := 9) (setCell_heap (v := .string (strOf x8a)) (o := 8) (hk9))); simp only [List.setIfInBounds_toArray, List.set_cons_zero, List.set_cons_succ] at h; exact h)
      have H9 : Hid (RdR (((w9.setCell ⟨w1.heap.size, 8, none⟩ (.string (strOf x8a))).setCell ⟨w1.heap.size, 9, none⟩ (.string (strOf x8b))).setCell ⟨w1.heap.size, 10, none⟩ (.string (strOf x8c))) w.heap.size bb rs9 wr9) := hidden (h1.upd hset (by omega) (by omega))
      have U9 : Hid (Upd (fun k => k = w.heap.size) wr (((w9.setCell ⟨w1.heap.size, 8, none⟩ (.string (strOf x8a))).setCell ⟨w1.heap.size, 9, none⟩ (.string (strOf x8b))).setCell ⟨w1.heap.size, 10, none⟩ (.string (strOf x8c)))) := hidden ((U8.out.trans hu (fun _ _ h => h)).trans hset (fun k hk e => by omega))
      have hsz9 : w1.heap.size < (((w9.setCell ⟨w1.heap.size, 8, none⟩ (.string (strOf x8a))).setCell ⟨w1.heap.size, 9, none⟩ (.string (strOf x8b))).setCell ⟨w1.heap.size, 10, none⟩ (.string (strOf x8c))).heap.size := Nat.lt_of_lt_of_le hsz8 (Nat.le_trans hu.size hset.size)
      have hvz9 : v8.heap.size ≤ (((w9.setCell ⟨w1.heap.size, 8, none⟩ (.string (strOf x8a))).setCell ⟨w1.heap.size, 9, none⟩ (.string (strOf x8b))).setCell ⟨w1.heap.size, 10, none⟩ (.string (strOf x8c))).heap.size := Nat.le_trans hu.size hset.size
      clear h1 hu hd hset hk9 ht9
      go_wp2_with fail
      generalize (((w9.setCell ⟨w1.heap.size, 8, none⟩ (.string (strOf x8a))).setCell ⟨w1.heap.size, 9, none⟩ (.string (strOf x8b))).setCell ⟨w1.heap.size, 10, none⟩ (.string (strOf x8c))) = v9 at *
      clear cf c0 c1 c2
      with_reducible refine (link_rd w.heap.size bb rs9 wr9 v9 H9.out hl9 (by have := hsz9; omega)).mono ?_
      rintro e w10 ⟨x9a, x9b, x9c, x9d, x9e, x9f, x9g, rs10, wr10, rfl, h1, hu, hd⟩
      have D10 := hidden hd
      have hl10 : rs10.length ≤ 100000000000 := by have := hd.1; omega
      have hk10 : w10.heap[w1.heap.size]? = some (.cells #[.int .i64 x0, .string (strOf x1), .string (strOf x2), .int .i64 x3, .int .i64 x4, .int .i64 x5, .int .i64 x6, .string (strOf x7), .string (strOf x8a), .string (strOf x8b), .string (strOf x8c), .string ⟨#[]⟩, .string ⟨#[]⟩, .int .i64 0, .int .i64 0, .int .i64 0, .int .i64 0, .string ⟨#[]⟩, .slice none 0 0] 108 (0, 0)) := (hu.block w1.heap.size hsz9 (by omega)).trans HK9.out
      have ht10 : w10.there w1.heap.size 11 7 := fun j hj => ⟨by simp only [World.cell?, hk10]; have : j < 7 := hj; simp; omega, by simp [World.frozen?, hk10]⟩
      have c0 : w10.cell? ⟨w1.heap.size, 11, none⟩ = some (.string ⟨#[]⟩) := by simp [World.cell?, hk10]
      have c1 : w10.cell? ⟨w1.heap.size, 12, none⟩ = some (.string ⟨#[]⟩) := by simp [World.cell?, hk10]
      have c2 : w10.cell? ⟨w1.heap.size, 13, none⟩ = some (.int .i64 0) := by simp [World.cell?, hk10]
      have c3 : w10.cell? ⟨w1.heap.size, 14, none⟩ = some (.int .i64 0) := by simp [World.cell?, hk10]
      have c4 : w10.cell? ⟨w1.heap.size, 15, none⟩ = some (.int .i64 0) := by simp [World.cell?, hk10]
      have c5 : w10.cell? ⟨w1.heap.size, 16, none⟩ = some (.int .i64 0) := by simp [World.cell?, hk10]
      have c6 : w10.cell? ⟨w1.heap.size, 17, none⟩ = some (.string ⟨#[]⟩) := by simp [World.cell?, hk10]
      have cf : ∀ i, w10.frozen? ⟨w1.heap.size, i, none⟩ = false := fun i => by simp [World.frozen?, hk10]
      have hset : Upd (fun k => k = w1.heap.size) w10 (((((((w10.setCell ⟨w1.heap.size, 11, none⟩ (.string (strOf x9a))).setCell ⟨w1.heap.size, 12, none⟩ (.string (strOf x9b))).setCell ⟨w1.heap.size, 13, none⟩ (.int .i64 x9c)).setCell ⟨w1.heap.size, 14, none⟩ (.int .i64 x9d)).setCell ⟨w1.heap.size, 15, none⟩ (.int .i64 x9e)).setCell ⟨w1.heap.size, 16, none⟩ (.int .i64 x9f)).setCell ⟨w1.heap.size, 17, none⟩ (.string (strOf x9g))) := Upd.setCells (M := fun k => k = w1.heap.size) rfl [.string (strOf x9a), .string (strOf x9b), .int .i64 x9c, .int .i64 x9d, .int .i64 x9e, .int .i64 x9f, .string (strOf x9g)] 11 w10
      have HK10 : Hid ((((((((w10.setCell ⟨w1.heap.size, 11, none⟩ (.string (strOf x9a))).setCell ⟨w1.heap.size, 12, none⟩ (.string (strOf x9b))).setCell ⟨w1.heap.size, 13, none⟩ (.int .i64 x9c)).setCell ⟨w1.heap.size, 14, none⟩ (.int .i64 x9d)).setCell ⟨w1.heap.size, 15, none⟩ (.int .i64 x9e)).setCell ⟨w1.heap.size, 16, none⟩ (.int .i64 x9f)).setCell ⟨w1.heap.size, 17, none⟩ (.string (strOf x9g))).heap[w1.heap.size]? = some (.cells #[.int .i64 x0, .string (strOf x1), .string (strOf x2), .int .i64 x3, .int .i64 x4, .int .i64 x5, .int .i64 x6, .string (strOf x7), .string (strOf x8a), .string (strOf x8b), .string (strOf x8c), .string (strOf x9a), .string (strOf x9b), .int .i64 x9c, .int .i64 x9d, .int .i64 x9e, .int .i64 x9f, .string (strOf x9g), .slice none 0 0] 108 (0, 0))) := hidden (by have h := setCell_heap (v := .string (strOf x9g)) (o := 17) (setCell_heap (v := .int .i64 x9f) (o := 16) (setCell_heap (v := .int .i64 x9e) (o := 15) (setCell_heap (v := .int .i64 x9d) (o := 14) (setCell_heap (v := .int .i64 x9c) (o := 13) (setCell_heap (v := .string (strOf x9b)) (o := 12) (setCell_heap (v := .string (strOf x9a)) (o := 11) (hk10))))))); simp only [List.setIfInBounds_toArray, List.set_cons_zero, List.set_cons_succ] at h; exact h)
      have H10 : Hid (RdR (((((((w10.setCell ⟨w1.heap.size, 11, none⟩ (.string (strOf x9a))).setCell ⟨w1.heap.size, 12, none⟩ (.string (strOf x9b))).setCell ⟨w1.heap.size, 13, none⟩ (.int .i64 x9c)).setCell ⟨w1.heap.size, 14, none⟩ (.int .i64 x9d)).setCell ⟨w1.heap.size, 15, none⟩ (.int .i64 x9e)).setCell ⟨w1.heap.size, 16, none⟩ (.int .i64 x9f)).setCell ⟨w1.heap.size, 17, none⟩ (.string (strOf x9g))) w.heap.size bb rs10 wr10) := hidden (h1.upd hset (by omega) (by omega))
      have U10 : Hid (Upd (fun k => k = w.heap.size) wr (((((((w10.setCell ⟨w1.heap.size, 11, none⟩ (.string (strOf x9a))).setCell ⟨w1.heap.size, 12, none⟩ (.string (strOf x9b))).setCell ⟨w1.heap.size, 13, none⟩ (.int .i64 x9c)).setCell ⟨w1.heap.size, 14, none⟩ (.int .i64 x9d)).setCell ⟨w1.heap.size, 15, none⟩ (.int .i64 x9e)).setCell ⟨w1.heap.size, 16, none⟩ (.int .i64 x9f)).setCell ⟨w1.heap.size, 17, none⟩ (.string (strOf x9g)))) := hidden ((U9.out.trans hu (fun _ _ h => h)).trans hset (fun k hk e => by omega))
      have hsz10 : w1.heap.size < (((((((w10.setCell ⟨w1.heap.size, 11, none⟩ (.string (strOf x9a))).setCell ⟨w1.heap.size, 12, none⟩ (.string (strOf x9b))).setCell ⟨w1.heap.size, 13, none⟩ (.int .i64 x9c)).setCell ⟨w1.heap.size, 14, none⟩ (.int .i64 x9d)).setCell ⟨w1.heap.size, 15, none⟩ (.int .i64 x9e)).setCell ⟨w1.heap.size, 16, none⟩ (.int .i64 x9f)).setCell ⟨w1.heap.size, 17, none⟩ (.string (strOf x9g))).heap.size := Nat.lt_of_lt_of_le hsz9 (Nat.le_trans hu.size hset.size)
      have hvz10 : v9.heap.size ≤ (((((((w10.setCell ⟨w1.heap.size, 11, none⟩ (.string (strOf x9a))).setCell ⟨w1.heap.size, 12, none⟩ (.string (strOf x9b))).setCell ⟨w1.heap.size, 13, none⟩ (.int .i64 x9c)).setCell ⟨w1.heap.size, 14, none⟩ (.int .i64 x9d)).setCell ⟨w1.heap.size, 15, none⟩ (.int .i64 x9e)).setCell ⟨w1.heap.size, 16, none⟩ (.int .i64 x9f)).setCell ⟨w1.heap.size, 17, none⟩ (.string (strOf x9g))).heap.size := Nat.le_trans hu.size hset.size
      clear h1 hu hd hset hk10 ht10
      go_wp2_with fail
      generalize (((((((w10.setCell ⟨w1.heap.size, 11, none⟩ (.string (strOf x9a))).setCell ⟨w1.heap.size, 12, none⟩ (.string (strOf x9b))).setCell ⟨w1.heap.size, 13, none⟩ (.int .i64 x9c)).setCell ⟨w1.heap.size, 14, none⟩ (.int .i64 x9d)).setCell ⟨w1.heap.size, 15, none⟩ (.int .i64 x9e)).setCell ⟨w1.heap.size, 16, none⟩ (.int .i64 x9f)).setCell ⟨w1.heap.size, 17, none⟩ (.string (strOf x9g))) = v10 at *
      clear cf c0 c1 c2 c3 c4 c5 c6
      with_reducible refine (cells_rd w.heap.size bb rs10 wr10 v10 H10.out hl10 (by have := hsz10; omega)).mono ?_
      rintro e w11 ⟨x10, cv, rs11, wr11, rfl, ho, h1, hu, hd⟩
      obtain ⟨ca, cc, rfl⟩ := ho.is
      have D11 := hidden hd
      have hl11 : rs11.length ≤ 100000000000 := by have := hd.1; omega
      have hk11 : w11.heap[w1.heap.size]? = some (.cells #[.int .i64 x0, .string (strOf x1), .string (strOf x2), .int .i64 x3, .int .i64 x4, .int .i64 x5, .int .i64 x6, .string (strOf x7), .string (strOf x8a), .string (strOf x8b), .string (strOf x8c), .string (strOf x9a), .string (strOf x9b), .int .i64 x9c, .int .i64 x9d, .int .i64 x9e, .int .i64 x9f, .string (strOf x9g), .slice none 0 0] 108 (0, 0)) := (hu.block w1.heap.size hsz10 (by omega)).trans HK10.out
      have ht11 : w11.there w1.heap.size 18 1 := fun j hj => ⟨by simp only [World.cell?, hk11]; have : j < 1 := hj; simp; omega, by simp [World.frozen?, hk11]⟩
      have c0 : w11.cell? ⟨w1.heap.size, 18, none⟩ = some (.slice none 0 0) := by simp [World.cell?, hk11]
      have cf : ∀ i, w11.frozen? ⟨w1.heap.size, i, none⟩ = false := fun i => by simp [World.frozen?, hk11]
      have hset : Upd (fun k => k = w1.heap.size) w11 (w11.setCell ⟨w1.heap.size, 18, none⟩ (.slice ca x10.length cc)) := Upd.setCells (M := fun k => k = w1.heap.size) rfl [.slice ca x10.length cc] 18 w11
      have HK11 : Hid ((w11.setCell ⟨w1.heap.size, 18, none⟩ (.slice ca x10.length cc)).heap[w1.heap.size]? = some (.cells #[.int .i64 x0, .string (strOf x1), .string (strOf x2), .int .i64 x3, .int .i64 x4, .int .i64 x5, .int .i64 x6, .string (strOf x7), .string (strOf x8a), .string (strOf x8b), .string (strOf x8c), .string (strOf x9a), .string (strOf x9b), .int .i64 x9c, .int .i64 x9d, .int .i64 x9e, .int .i64 x9f, .string (strOf x9g), .slice ca x10.length cc] 108 (0, 0))) := hidden (by have h := setCell_heap (v := .slice ca x10.length cc) (o := 18) (hk11); simp only [List.setIfInBounds_toArray, List.set_cons_zero, List.set_cons_succ] at h; exact h)
      have H11 : Hid (RdR (w11.setCell ⟨w1.heap.size, 18, none⟩ (.slice ca x10.length cc)) w.heap.size bb rs11 wr11) := hidden (h1.upd hset (by omega) (by omega))
      have HCE : Hid ((tList tCell).rep (fun k => v10.heap.size ≤ k ∧ k < (w11.setCell ⟨w1.heap.size, 18, none⟩ (.slice ca x10.length cc)).heap.size) (w11.setCell ⟨w1.heap.size, 18, none⟩ (.slice ca x10.length cc)) [.slice ca x10.length cc] x10) := hidden ((tList tCell).mono ((tList tCell).upd ho.rep hset (fun k hk e => by have := hk.1; omega)) (fun k hk => ⟨hk.1, Nat.lt_of_lt_of_le hk.2 hset.size⟩))
      have U11 : Hid (Upd (fun k => k = w.heap.size) wr (w11.setCell ⟨w1.heap.size, 18, none⟩ (.slice ca x10.length cc))) := hidden ((U10.out.trans hu (fun _ _ h => h)).trans hset (fun k hk e => by omega))
      have hsz11 : w1.heap.size < (w11.setCell ⟨w1.heap.size, 18, none⟩ (.slice ca x10.length cc)).heap.size := Nat.lt_of_lt_of_le hsz10 (Nat.le_trans hu.size hset.size)
      have hvz11 : v10.heap.size ≤ (w11.setCell ⟨w1.heap.size, 18, none⟩ (.slice ca x10.length cc)).heap.size := Nat.le_trans hu.size hset.size
      clear h1 hu hd hset hk11 ht11 ho
      have HD : Hid (Dec tOp.cod.dec false cur wr11 rs11 (x0, x1, x2, x3, x4, x5, x6, x7, (x8a, x8b, x8c), (x9a, x9b, x9c, x9d, (x9e, x9f, x9g)), x10)) := hidden (D1.out.pair (D2.out.pair (D3.out.pair (D4.out.pair (D5.out.pair (D6.out.pair (D7.out.pair (D8.out.pair (D9.out.pair (D10.out.pair (D11.out)))))))))))
      have hlv : ∀ k, (Value.slice av xs.length capv).ownBlock = some k → k < wr.heap.size := fun k hk => (HL.out.own.lt k hk).2
      have hsum : w1.heap.size ≤ v10.heap.size := by omega
      have hv11 : wr.heap.size ≤ (w11.setCell ⟨w1.heap.size, 18, none⟩ (.slice ca x10.length cc)).heap.size := U11.out.size
      have HREP : Hid (tOp.rep (fun k => w0.heap.size ≤ k ∧ k < (w11.setCell ⟨w1.heap.size, 18, none⟩ (.slice ca x10.length cc)).heap.size ∧ some k ≠ (Value.slice av xs.length capv).ownBlock) (w11.setCell ⟨w1.heap.size, 18, none⟩ (.slice ca x10.length cc)) [.int .i64 x0, .string (strOf x1), .string (strOf x2), .int .i64 x3, .int .i64 x4, .int .i64 x5, .int .i64 x6, .string (strOf x7), .string (strOf x8a), .string (strOf x8b), .string (strOf x8c), .string (strOf x9a), .string (strOf x9b), .int .i64 x9c, .int .i64 x9d, .int .i64 x9e, .int .i64 x9f, .string (strOf x9g), .slice ca x10.length cc] (x0, x1, x2, x3, x4, x5, x6, x7, (x8a, x8b, x8c), (x9a, x9b, x9c, x9d, (x9e, x9f, x9g)), x10)) := hidden (by
        have HCE2 := (tList tCell).mono HCE.out (S' := fun k => w0.heap.size ≤ k ∧ k < (w11.setCell ⟨w1.heap.size, 18, none⟩ (.slice ca x10.length cc)).heap.size ∧ some k ≠ (Value.slice av xs.length capv).ownBlock) (fun k hk => ⟨by have := hk.1; omega, hk.2, fun e => by have := hlv k e.symm; have := hk.1; omega⟩)
        exact ⟨[.int .i64 x0], _, rfl, rfl, ⟨[.string (strOf x1)], _, rfl, rfl, ⟨[.string (strOf x2)], _, rfl, rfl, ⟨[.int .i64 x3], _, rfl, rfl, ⟨[.int .i64 x4], _, rfl, rfl, ⟨[.int .i64 x5], _, rfl, rfl, ⟨[.int .i64 x6], _, rfl, rfl, ⟨[.string (strOf x7)], _, rfl, rfl, ⟨[.string (strOf x8a), .string (strOf x8b), .string (strOf x8c)], _, rfl, ⟨[.string (strOf x8a)], _, rfl, rfl, [.string (strOf x8b)], _, rfl, rfl, rfl⟩, ⟨[.string (strOf x9a), .string (strOf x9b), .int .i64 x9c, .int .i64 x9d, .int .i64 x9e, .int .i64 x9f, .string (strOf x9g)], _, rfl, ⟨[.string (strOf x9a)], _, rfl, rfl, [.string (strOf x9b)], _, rfl, rfl, [.int .i64 x9c], _, rfl, rfl, [.int .i64 x9d], _, rfl, rfl, [.int .i64 x9e], _, rfl, rfl, [.int .i64 x9f], _, rfl, rfl, rfl⟩, HCE2⟩⟩⟩⟩⟩⟩⟩⟩⟩⟩)
      have HRG0 : Hid ((w11.setCell ⟨w1.heap.size, 18, none⟩ (.slice ca x10.length cc)).rangeAt w1.heap.size 0 [.int .i64 x0, .string (strOf x1), .string (strOf x2), .int .i64 x3, .int .i64 x4, .int .i64 x5, .int .i64 x6, .string (strOf x7), .string (strOf x8a), .string (strOf x8b), .string (strOf x8c), .string (strOf x9a), .string (strOf x9b), .int .i64 x9c, .int .i64 x9d, .int .i64 x9e, .int .i64 x9f, .string (strOf x9g), .slice ca x10.length cc]) := hidden (range_block HK11.out)
      clear HK11 HCE
      generalize hus : ([.int .i64 x0, .string (strOf x1), .string (strOf x2), .int .i64 x3, .int .i64 x4, .int .i64 x5, .int .i64 x6, .string (strOf x7), .string (strOf x8a), .string (strOf x8b), .string (strOf x8c), .string (strOf x9a), .string (strOf x9b), .int .i64 x9c, .int .i64 x9d, .int .i64 x9e, .int .i64 x9f, .string (strOf x9g), .slice ca x10.length cc] : List Value) = us at HREP HRG0
      have hul19 : us.length = 19 := by rw [← hus]; rfl
      clear hus
      generalize (x0, x1, x2, x3, x4, x5, x6, x7, (x8a, x8b, x8c), (x9a, x9b, x9c, x9d, (x9e, x9f, x9g)), x10) = x at HD HREP
      obtain ⟨FS, hFS⟩ := str108
      have HSTR := hidden hFS
      have HSZ : Hid ((Try.prog.info? 108).map (·.size) = some us.length) := hidden (by rw [hul19]; exact sz108)
      have hfold := fold_cells us #[Value.int IntKind.i64 0, Value.string { data := #[] }, Value.string { data := #[] }, Value.int IntKind.i64 0, Value.int IntKind.i64 0, Value.int IntKind.i64 0, Value.int IntKind.i64 0, Value.string { data := #[] }, Value.string { data := #[] }, Value.string { data := #[] }, Value.string { data := #[] }, Value.string { data := #[] }, Value.string { data := #[] }, Value.int IntKind.i64 0, Value.int IntKind.i64 0, Value.int IntKind.i64 0, Value.int IntKind.i64 0, Value.string { data := #[] }, Value.slice none 0 0] hul19
      have HUA : Hid (Upd (fun _ => False) (w11.setCell ⟨w1.heap.size, 18, none⟩ (.slice ca x10.length cc)) ((w11.setCell ⟨w1.heap.size, 18, none⟩ (.slice ca x10.length cc)).alloc (.cells us.toArray 108))) := hidden (Upd.new _ _)
      have HO := hidden (HL.out.carry hr U11.out (.cells us.toArray 108))
      have HRN : Hid (((w11.setCell ⟨w1.heap.size, 18, none⟩ (.slice ca x10.length cc)).alloc (.cells us.toArray 108)).rangeAt w11.heap.size 0 us) := hidden (by have h := new_range (w11.setCell ⟨w1.heap.size, 18, none⟩ (.slice ca x10.length cc)) us 108; rw [World.size_setCell] at h; exact h)
      have HRP : Hid (tOp.rep (fun k => w0.heap.size ≤ k ∧ k < ((w11.setCell ⟨w1.heap.size, 18, none⟩ (.slice ca x10.length cc)).alloc (.cells us.toArray 108)).heap.size ∧ some k ≠ (Value.slice av xs.length capv).ownBlock) ((w11.setCell ⟨w1.heap.size, 18, none⟩ (.slice ca x10.length cc)).alloc (.cells us.toArray 108)) us x) := hidden (tOp.mono (tOp.upd HREP.out HUA.out (fun _ _ h => h)) (fun k hk => ⟨hk.1, Nat.lt_of_lt_of_le hk.2.1 HUA.out.size, hk.2.2⟩))
      have HXL : Hid (xs.length ≤ 1000000000000) := hidden (by omega)
      have HXB : Hid ((xs.length + 1) * 240 ≤ 140737488355328) := hidden (by omega)
      have HB : Hid (w0.heap.size ≤ ((w11.setCell ⟨w1.heap.size, 18, none⟩ (.slice ca x10.length cc)).alloc (.cells us.toArray 108)).heap.size) := hidden (by have := HUA.out.size; omega)
      clear hlv HREP
      go_wp2_with (first
        | ((with_reducible refine wpList_load_mid (op := ⟨some 60, .load 108 (.tmp 8), _, _, _, _⟩) ?_ 108 (.tmp 8) ?_ w1.heap.size 0 ?_ us _ HRG0.out HSTR.out ?_ HSZ.out ?_); rfl; rfl; rfl; rfl)
        | (at_builtin; go_loud (refine wpList_append_T (A := tOp) rfl (.tmp 59) (.tmp 61) 73 rfl und73 HINF.out.1 HINF.out.2.1 HINF.out.2.2.1 HINF.out.2.2.2 rfl (by decide) (B := w0.heap.size) (v := .slice av xs.length capv) (xs := xs) (x := x) rfl HO.out (b := w11.heap.size) (c := 1) rfl HRN.out HRP.out HXL.out HXB.out HB.out ?_); intro v2 w12 g; have G := hidden g; clear g)
        | fail)
      exact ⟨⟨k + 1, xs ++ [x], rs11, wr11, v2, rfl, by go_num, by rw [HK.out]; simp, HL.out.next rfl hr hbb U11.out H11.out HD.out (by have := HK.out; omega) G.out⟩, by simp [intOf]; omega⟩
    · have HE : Hid (wrk = true ∨ n ≤ xs.length) := hidden (by
        have := HK.out
        cases wrk
        · exact .inr (by have : ¬ k < n := fun h => hlt ⟨h, rfl⟩; omega)
        · exact .inl rfl)
      cases wrk with
      | true =>
        have HN : Hid (whole tOps.cod bs = none) := hidden (by
          have := (HFIN.out HE.out).bad rfl rfl
          unfold whole; rw [show tOps.cod.dec bs = none from this]; rfl)
        clear hlt
        by_cases hkn : k < n
        all_goals
          go_wp2_with fail
          go_ret2
          exact ⟨HBE.out, .inr ⟨HN.out, rfl⟩⟩
      | false =>
        have hkn : ¬ k < n := fun h => hlt ⟨h, rfl⟩
        have HD : Hid (tOps.cod.dec bs = some (xs, cur)) := hidden (((HFIN.out HE.out).good rfl).2)
        clear hlt
        by_cases hc0 : cur.length = 0
        · have hc0' : ¬ (0 : Int) < (cur.length : Int) := by omega
          have HN : Hid (whole tOps.cod bs = some xs) := hidden (by unfold whole; rw [HD.out]; exact if_pos hc0)
          clear hc0
          go_wp2_with fail
          go_ret2
          exact ⟨HBE.out, .inl ⟨xs, _, HN.out, rfl, (tList tOp).mono HL.out.own.rep (fun k hk => ⟨by omega, hk.2⟩)⟩⟩
        · have hc0' : (0 : Int) < (cur.length : Int) := by omega
          have HN : Hid (whole tOps.cod bs = none) := hidden (by unfold whole; rw [HD.out]; exact if_neg hc0)
          clear hc0
          go_wp2_with fail
          go_ret2
          exact ⟨HBE.out, .inr ⟨HN.out, rfl⟩⟩

end Go.Proofs.Ytekmjegeiminnaa
