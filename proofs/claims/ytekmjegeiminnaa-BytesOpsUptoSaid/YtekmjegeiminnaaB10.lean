/- count of both codecs, walked. -/
import Derived.Test.YtekmjegeiminnaaB9
namespace Go.Proofs.Ytekmjegeiminnaa
open Go.RowKit
set_option linter.unusedVariables false
set_option linter.unusedSimpArgs false

set_option maxRecDepth 100000 in
set_option maxHeartbeats 8000000 in
theorem count_w (c : Nat) (v : Value) (bs : List UInt8) (n : Int) (w : World) (hn : -9223372036854775808 ≤ n ∧ n ≤ 9223372036854775807) (hc : CodW w c v) (ho : OwnB (c + 1) w v bs)
    (hl : bs.length ≤ 140737488355000) :
    Calls Try.prog 120 #[.pointer (some ⟨c, 0, none⟩), .int .i64 n] w fun e w' => e = .returned (.int .i64 n) ∧ ∃ v', Wrote c v v' (bs ++ encN n) w w' := by
  have hlt := hc.lt
  have hown := ho.lt
  have HOWN := hidden hown
  have h1 : Hid (CodW (w.alloc (.cells #[.int .i64 n] 3)) c v) := hidden (hc.upd (Upd.new (M := fun _ => False) _ _) (fun h => h))
  have h2 : Hid (OwnB (c + 1) (w.alloc (.cells #[.int .i64 n] 3)) v bs) := hidden (ho.on (Upd.new (M := fun _ => False) _ _) (fun _ _ h => h))
  have H0 : Hid (Wrote c v v bs w (w.alloc (.cells #[.int .i64 n] 3))) := hidden ((Wrote.refl hc ho).new ((Below.refl _ _).alloc (Nat.le_refl _) _))
  clear hown hc ho
  go_enter Try.func120, Try.ntmps120
  go_wp2_with fail
  with_reducible refine (num_w c w.heap.size 0 v bs n _ hn h1.out h2.out (by rw [World.cell?_alloc_at _ _ _ _ rfl]; simp) hl).mono ?_
  rintro e w1 ⟨rfl, v', hw⟩
  have HW := hidden hw
  obtain ⟨c0, c1, c2, cf⟩ := hw.cod.facts
  have hbx : w1.cell? ⟨w.heap.size, 0, none⟩ = some (.int .i64 n) := hw.upd.cell (by rw [World.cell?_alloc_at _ _ _ _ rfl]; simp) (fun h => by
    rcases h with h | h
    · simp at h; omega
    · have := (HOWN.out _ h.symm).2; simp at this)
  clear hw hn
  go_wp2_with fail
  go_quiet (fail)
  go_wp2_with fail
  go_ret
  exact ⟨rfl, v', (H0.out.trans HW.out).new (below_dn (Below.refl _ _) _)⟩
theorem frozen_new (w : World) (vs : Array Value) (t : TypeId) (i : Nat) : (w.alloc (.cells vs t)).frozen? ⟨w.heap.size, i, none⟩ = false := by
  simp only [World.frozen?, World.alloc, Array.getElem?_push_size]
  simp
/-- A count that is read: a number that is not below 0 nor above what is left. -/
def decC (rs : List UInt8) : Option (Nat × List UInt8) := (decN rs).bind fun p => if 0 ≤ p.1 ∧ p.1 ≤ p.2.length then some (p.1.toNat, p.2) else none

set_option maxRecDepth 100000 in
set_option maxHeartbeats 8000000 in
theorem count_r (c bb : Nat) (rs : List UInt8) (n : Int) (w : World) (hc : CodR w c bb rs) (hb : bb < w.heap.size) :
    Calls Try.prog 120 #[.pointer (some ⟨c, 0, none⟩), .int .i64 n] w fun e w' =>
      (∃ n r, decC rs = some (n, r) ∧ e = .returned (.int .i64 (n : Nat)) ∧ Upd (fun k => k = c) w w' ∧ CodR w' c bb r)
      ∨ (decC rs = none ∧ e = .panicked wrongP ∧ Upd (fun k => k = c) w w') := by
  have hlt := hc.lt
  have hu0 : Upd (fun k => k = c) w (w.alloc (.cells #[.int .i64 n] 3)) := Upd.new _ _
  have hu1 : Upd (fun _ => False) w (w.alloc (.cells #[.int .i64 n] 3)) := Upd.new _ _
  have H0 := hidden hu0
  have h1 : Hid (CodR (w.alloc (.cells #[.int .i64 n] 3)) c bb rs) := hidden (hc.upd hu1 (fun h => h) (fun h => h))
  clear hc hu0 hu1
  go_enter Try.func120, Try.ntmps120
  go_wp2_with fail
  with_reducible refine (num_r c w.heap.size 0 bb rs n _ h1.out (by rw [World.cell?_alloc_at _ _ _ _ rfl]; simp) (frozen_new _ _ _ _) (by omega)).mono ?_
  rintro e w1 (⟨m, r, hm, rfl, w0, hu, hc, rfl⟩ | ⟨hm, rfl, hu⟩)
  · have HU := hidden hu
    have HM := hidden hm
    have hu2 : Upd (fun k => k = w.heap.size) w0 (w0.setCell ⟨w.heap.size, 0, none⟩ (.int .i64 m)) := Upd.set rfl
    have hc2 := hc.upd hu2 (by omega) (by omega)
    have HU2 := hidden hu2
    have HC2 := hidden hc2
    have hz := hu.size
    rw [World.size_alloc] at hz
    have hcell : (w0.setCell ⟨w.heap.size, 0, none⟩ (.int .i64 m)).cell? ⟨w.heap.size, 0, none⟩ = some (.int .i64 m) := by
      have : w0.cell? ⟨w.heap.size, 0, none⟩ = some (.int .i64 n) := hu.cell (by rw [World.cell?_alloc_at _ _ _ _ rfl]; simp) (by simp; omega)
      exact World.cell?_setCell_same _ _ _ this
    have HEND : Hid (Upd (fun k => k = c) w (w0.setCell ⟨w.heap.size, 0, none⟩ (.int .i64 m))) := hidden ((H0.out.trans hu (fun _ _ h => h)).trans hu2 (fun i hi h => by omega))
    have HZ := hidden hz
    clear hu hm hu2 hc hc2 hz HU H0 h1
    generalize w0.setCell ⟨w.heap.size, 0, none⟩ (.int .i64 m) = w1 at HU2 HC2 hcell HEND
    obtain ⟨a, cap, c0, c1, c2, cf, hcap, hby, haa, hbc, hcap2⟩ := HC2.out.facts
    clear hby haa
    clear HU2
    by_cases ht : 0 ≤ m ∧ m ≤ r.length
    · obtain ⟨m, rfl⟩ : ∃ k : Nat, m = k := ⟨m.toNat, by omega⟩
      have h0 : Hid (decC rs = some (m, r)) := by show _ = _; unfold decC; rw [HM.out]; simp only [Option.bind_some, if_pos ht]; simp
      have t2 : ¬ (m : Int) < 0 := by omega
      have t3 : ¬ (r.length : Int) < m := by omega
      go_wp2_with fail
      go_quiet (fail)
      go_wp2_with fail
      go_ret
      exact .inl ⟨m, r, h0.out, rfl, HEND.out.trans (Upd.drewN _ _) (fun _ _ h => h), HC2.out.upd (Upd.drewN (M := fun _ => False) _ _) (fun h => h) (fun h => h)⟩
    · have h0 : Hid (decC rs = none) := by show _ = _; unfold decC; rw [HM.out]; simp only [Option.bind_some, if_neg ht]
      go_wp2_with fail
      by_cases t2 : m < 0
      · go_quiet (fail)
        go_wp2_with fail
        exact bodyPost_panic (.inr ⟨h0.out, rfl, HEND.out.trans (Upd.drewN _ _) (fun _ _ h => h)⟩) rfl
      · have t3 : (r.length : Int) < m := by omega
        go_quiet (fail)
        go_wp2_with fail
        exact bodyPost_panic (.inr ⟨h0.out, rfl, HEND.out.trans (Upd.drewN _ _) (fun _ _ h => h)⟩) rfl
  · have h0 : Hid (decC rs = none) := by show _ = _; unfold decC; rw [hm]; rfl
    have HU := hidden hu
    clear hu hm
    go_wp2_with fail
    exact bodyPost_panic (.inr ⟨h0.out, rfl, H0.out.trans HU.out (fun _ _ h => h)⟩) rfl
end Go.Proofs.Ytekmjegeiminnaa
