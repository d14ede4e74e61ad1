/- ShiftTwice walked. -/
import Derived.Test.YtbaejlmpoflogaaS7
namespace Go.Proofs.Ytbaejlmpoflogaa
open Go.RowKit

theorem goodB_ins {k n : Int} (h1 : 1 ≤ k ∧ k ≤ 50) (h2 : 1 ≤ n ∧ n ≤ 10) : goodB k n 64 = true := by
  unfold goodB; rw [decide_eq_true_eq]; omega
theorem posO_ins {k n q : Int} (h1 : 1 ≤ k ∧ k ≤ 50) (h2 : 1 ≤ n ∧ n ≤ 10) : posO k n 64 q = decide (1 ≤ q ∧ q ≤ 64 ∧ (q < k ∨ q + n ≤ 64)) := by
  have hg := goodB_ins h1 h2
  show decide (posP k n 64 q) = _
  rw [decide_eq_decide]
  constructor
  · rintro ⟨_, a, b, c⟩; omega
  · intro h; exact ⟨hg, by omega, by omega, by omega⟩
theorem posV_ins {k n q : Int} (h1 : 1 ≤ k ∧ k ≤ 50) (h2 : 1 ≤ n ∧ n ≤ 10) (h : posO k n 64 q = true) : posV k n 64 q = if q < k then q else q + n := by
  have hp : posP k n 64 q := by simpa [posO] using h
  rw [posV, if_pos hp]

/-- Lines inserted twice: the three ways. -/
theorem twice_plain {k n m q : Int} (hk : 1 ≤ k ∧ k ≤ 50) (hn : 1 ≤ n ∧ n ≤ 5) (hm : 1 ≤ m ∧ m ≤ 5) (hq : 1 ≤ q ∧ q ≤ 64) :
    (posO k (n + m) 64 q = true → posO k n 64 q = true ∧ posO k m 64 (posV k n 64 q) = true ∧ posV k m 64 (posV k n 64 q) = posV k (n + m) 64 q) ∧
    (posO k (n + m) 64 q = false → posO k n 64 q = true → posO k m 64 (posV k n 64 q) = false) := by
  have h1 := posO_ins (k := k) (n := n + m) (q := q) hk (by omega)
  have h2 := posO_ins (k := k) (n := n) (q := q) hk (by omega)
  have h3 : ∀ y, posO k m 64 y = decide (1 ≤ y ∧ y ≤ 64 ∧ (y < k ∨ y + m ≤ 64)) := fun y => posO_ins (k := k) (n := m) (q := y) hk (by omega)
  constructor
  · intro h
    have a1 := h
    rw [h1, decide_eq_true_eq] at a1
    have b : posO k n 64 q = true := by rw [h2, decide_eq_true_eq]; omega
    have c := posV_ins hk (by omega) b
    have d : posO k m 64 (posV k n 64 q) = true := by rw [h3, decide_eq_true_eq, c]; split <;> omega
    refine ⟨b, d, ?_⟩
    rw [posV_ins hk (by omega) d, c, posV_ins hk (by omega) h]
    split <;> (repeat' split) <;> omega
  · intro h b
    rw [h1, decide_eq_false_iff_not] at h
    have c := posV_ins hk (by omega) b
    rw [h2, decide_eq_true_eq] at b
    rw [h3, decide_eq_false_iff_not, c]; split <;> omega

set_option maxHeartbeats 8000000 in
theorem twice_walk (at_ p t0 t1 : Int) (h1 : 0 ≤ at_) (h2 : 0 ≤ p) (h3 : 0 ≤ t0) (h4 : 0 ≤ t1) (w : World) :
    Calls Try.prog 3 #[.int .u64 at_, .int .u64 p, .agg #[.int .u64 t0, .int .u64 t1]] w fun e w' => e = .returned (.bool true) ∧ Below w.heap.size w w' := by
  obtain ⟨k, ek⟩ : ∃ k, 1 + at_ % 50 = k := ⟨_, rfl⟩
  obtain ⟨q, eq⟩ : ∃ q, 1 + p % 64 = q := ⟨_, rfl⟩
  obtain ⟨n, en⟩ : ∃ n, 1 + t0 % 5 = n := ⟨_, rfl⟩
  obtain ⟨m, em⟩ : ∃ m, 1 + t1 % 5 = m := ⟨_, rfl⟩
  have hk : 1 ≤ k ∧ k ≤ 50 := by omega
  have hq : 1 ≤ q ∧ q ≤ 64 := by omega
  have hn : 1 ≤ n ∧ n ≤ 5 := by omega
  have hm : 1 ≤ m ∧ m ≤ 5 := by omega
  have HP := hidden (twice_plain hk hn hm hq)
  have HE := hidden (And.intro ek (And.intro eq (And.intro en em)))
  clear ek eq en em
  go_enter Try.func3, Try.ntmps3
  go_wp2_with fail
  go_quiet (fail)
  go_wp2_with fail
  obtain ⟨ek, eq, en, em⟩ := HE.out
  rw [ek, eq, en, em]
  clear ek eq en em HE
  have b0 : Below w.heap.size w ((w.alloc (Obj.cells #[Value.int IntKind.u64 t0, Value.int IntKind.u64 t1] 23)).drewN nq) := below_dn ((Below.refl _ _).alloc (Nat.le_refl _) _) _
  refine (pos_any k (n + m) 64 q ⟨by omega, by omega⟩ ⟨by omega, by omega⟩ ⟨by omega, by omega⟩ ⟨by omega, by omega⟩ _).mono ?_
  rintro e w1 ⟨rfl, hb⟩
  have B1 := hidden (b0.trans (hb.mono (by simp)))
  clear hb b0
  go_wp2_with fail
  refine (pos_any k n 64 q ⟨by omega, by omega⟩ ⟨by omega, by omega⟩ ⟨by omega, by omega⟩ ⟨by omega, by omega⟩ _).mono ?_
  rintro e w2 ⟨rfl, hb⟩
  have B2 := hidden (B1.out.trans (hb.mono B1.out.size))
  clear hb
  by_cases ha : posO k n 64 q = true
  · have hy : posV k n 64 q = if q < k then q else q + n := posV_ins hk (by omega) ha
    have hyb : 1 ≤ posV k n 64 q ∧ posV k n 64 q ≤ 74 := by rw [hy]; split <;> omega
    have HA := hidden ha
    rw [ha]
    clear hy ha
    go_wp2_with fail
    refine (pos_any k m 64 (posV k n 64 q) ⟨by omega, by omega⟩ ⟨by omega, by omega⟩ ⟨by omega, by omega⟩ ⟨by omega, by omega⟩ _).mono ?_
    rintro e w3 ⟨rfl, hb⟩
    have B3 := hidden (B2.out.trans (hb.mono B2.out.size))
    clear hb
    by_cases hx : posO k (n + m) 64 q = true
    · obtain ⟨_, c2, c3⟩ := HP.out.1 hx
      rw [hx, c2, c3]
      clear hx c2 c3
      generalize posV k (n + m) 64 q = x
      generalize posV k n 64 q = y at hyb
      clear hyb HA
      go_wp2_with fail
      refine (lives_any _).mono ?_
      rintro e w4 ⟨rfl, hb⟩
      have B4 := hidden (B3.out.trans (hb.mono B3.out.size))
      clear hb
      go_wp2
      go_ret
      exact ⟨rfl, B4.out⟩
    · have hx' : posO k (n + m) 64 q = false := by simpa using hx
      have c2 := HP.out.2 hx' HA.out
      rw [hx', c2]
      clear hx hx' c2 HP HA
      generalize posV k m 64 (posV k n 64 q) = z
      generalize posV k (n + m) 64 q = x
      generalize posV k n 64 q = y at hyb
      clear hyb
      go_wp2_with fail
      refine (lives_any _).mono ?_
      rintro e w4 ⟨rfl, hb⟩
      have B4 := hidden (B3.out.trans (hb.mono B3.out.size))
      clear hb
      go_wp2
      go_ret
      exact ⟨rfl, B4.out⟩
  · have ha' : posO k n 64 q = false := by simpa using ha
    have hx' : posO k (n + m) 64 q = false := by
      cases hx : posO k (n + m) 64 q with
      | false => rfl
      | true => exact absurd (HP.out.1 hx).1 ha
    rw [ha', hx']
    clear ha ha' hx' HP
    generalize posV k (n + m) 64 q = x
    generalize posV k n 64 q = y
    go_wp2_with fail
    refine (lives_any _).mono ?_
    rintro e w4 ⟨rfl, hb⟩
    have B4 := hidden (B2.out.trans (hb.mono B2.out.size))
    clear hb
    go_wp2
    go_ret
    exact ⟨rfl, B4.out⟩
end Go.Proofs.Ytbaejlmpoflogaa
