/- Plain laws on numbers in bytes: seven bits a byte, the sign in the lowest bit; what is written is read, what is read was so written. No program in sight. -/
namespace Go.Proofs.Ytekmjegeiminnaa

def encU (u : Nat) : List UInt8 := if h : u < 128 then [UInt8.ofNat u] else UInt8.ofNat (u % 128 + 128) :: encU (u / 128)
termination_by u
decreasing_by omega
theorem encU_small {u : Nat} (h : u < 128) : encU u = [UInt8.ofNat u] := by rw [encU, dif_pos h]
theorem encU_big {u : Nat} (h : ¬ u < 128) : encU u = UInt8.ofNat (u % 128 + 128) :: encU (u / 128) := by rw [encU, dif_neg h]

def decU (i acc : Nat) : List UInt8 → Option (Nat × List UInt8)
  | [] => none
  | x :: r => if (i = 9 ∧ 1 < x.toNat) ∨ (0 < i ∧ x.toNat = 0) then none else if x.toNat < 128 then some (acc + x.toNat % 128 * 128 ^ i, r) else decU (i + 1) (acc + x.toNat % 128 * 128 ^ i) r

theorem ofNat_small {n : Nat} (h : n < 256) : (UInt8.ofNat n).toNat = n := by simp [UInt8.toNat_ofNat']; omega

theorem decU_encU (r : List UInt8) : ∀ (u i acc : Nat), i ≤ 9 → u < 2 ^ (64 - 7 * i) → (0 < i → 0 < u) → decU i acc (encU u ++ r) = some (acc + u * 128 ^ i, r) := by
  intro u
  induction u using Nat.strongRecOn with
  | _ u ih =>
    intro i acc hi hu hp
    have h9 : i = 9 → u ≤ 1 := fun e => by subst e; simp at hu; omega
    by_cases h : u < 128
    · rw [encU_small h]
      have hx := ofNat_small (n := u) (by omega)
      simp only [List.cons_append, List.nil_append, decU, hx]
      rw [if_neg (by rintro (⟨a, b⟩ | ⟨a, b⟩); have := h9 a; omega; have := hp a; omega), if_pos h, Nat.mod_eq_of_lt h]
    · rw [encU_big h]
      have hx := ofNat_small (n := u % 128 + 128) (by omega)
      simp only [List.cons_append, decU, hx]
      have hi9 : i ≠ 9 := fun e => by have := h9 e; omega
      rw [if_neg (by rintro (⟨a, b⟩ | ⟨a, b⟩); exact hi9 a; omega), if_neg (by omega), show (u % 128 + 128) % 128 = u % 128 by omega]
      have hpow : 2 ^ (64 - 7 * i) = 2 ^ (64 - 7 * (i + 1)) * 128 := by
        rw [show (128 : Nat) = 2 ^ 7 from rfl, ← Nat.pow_add]; congr 1; omega
      rw [ih (u / 128) (by omega) (i + 1) _ (by omega) (by rw [hpow] at hu; exact Nat.div_lt_of_lt_mul (by rw [Nat.mul_comm]; exact hu)) (fun _ => by omega)]
      congr 2
      rw [Nat.pow_succ, Nat.mul_comm (128 ^ i) 128, ← Nat.mul_assoc, Nat.add_assoc, ← Nat.add_mul]
      congr 2; omega

theorem encU_decU : ∀ (bs : List UInt8) (i acc t : Nat) (rest : List UInt8), i ≤ 9 → decU i acc bs = some (t, rest) →
    ∃ u, t = acc + u * 128 ^ i ∧ bs = encU u ++ rest ∧ (0 < i → 0 < u) ∧ u < 2 ^ (64 - 7 * i)
  | [], _, _, _, _, _, h => by simp [decU] at h
  | x :: r, i, acc, t, rest, hi, h => by
    simp only [decU] at h
    by_cases hbad : (i = 9 ∧ 1 < x.toNat) ∨ (0 < i ∧ x.toNat = 0)
    · rw [if_pos hbad] at h; cases h
    · rw [if_neg hbad] at h
      have hx := x.toNat_lt
      have hpw : i = 9 ∨ 2 ^ 8 ≤ 2 ^ (64 - 7 * i) := by
        rcases Nat.lt_or_ge i 9 with h9 | h9
        · exact .inr (Nat.pow_le_pow_right (by decide) (by omega))
        · exact .inl (by omega)
      by_cases hs : x.toNat < 128
      · rw [if_pos hs] at h
        simp only [Option.some.injEq, Prod.mk.injEq] at h
        obtain ⟨rfl, rfl⟩ := h
        refine ⟨x.toNat, by rw [Nat.mod_eq_of_lt hs], by rw [encU_small hs]; simp, fun hp => by omega, ?_⟩
        rcases hpw with rfl | hpw
        · simp; omega
        · omega
      · rw [if_neg hs] at h
        have hi9 : i ≠ 9 := fun e => hbad (.inl ⟨e, by omega⟩)
        obtain ⟨u, e1, e2, e3, e4⟩ := encU_decU r (i + 1) _ t rest (by omega) h
        have hu := e3 (by omega)
        refine ⟨x.toNat % 128 + 128 * u, ?_, ?_, fun _ => by omega, ?_⟩
        · rw [e1, Nat.pow_succ, Nat.add_mul, Nat.add_assoc]; congr 2
          rw [Nat.mul_comm (128 ^ i) 128, ← Nat.mul_assoc, Nat.mul_comm u 128]
        · rw [encU_big (by omega), show (x.toNat % 128 + 128 * u) / 128 = u by omega, show (x.toNat % 128 + 128 * u) % 128 + 128 = x.toNat by omega, e2]
          simp
        · have hpow : 2 ^ (64 - 7 * i) = 2 ^ (64 - 7 * (i + 1)) * 128 := by
            rw [show (128 : Nat) = 2 ^ 7 from rfl, ← Nat.pow_add]; congr 1; omega
          rw [hpow]
          have : x.toNat % 128 < 128 := Nat.mod_lt _ (by decide)
          generalize 2 ^ (64 - 7 * (i + 1)) = y at e4
          omega

/-- The sign in the lowest bit. -/
def zig (n : Int) : Nat := if 0 ≤ n then (2 * n).toNat else (-2 * n - 1).toNat
def unzig (u : Nat) : Int := if u % 2 = 0 then ((u / 2 : Nat) : Int) else -((u / 2 : Nat) : Int) - 1
theorem unzig_zig (n : Int) : unzig (zig n) = n := by unfold unzig zig; split <;> split <;> omega
theorem zig_unzig (u : Nat) : zig (unzig u) = u := by unfold unzig zig; split <;> split <;> omega
theorem zig_lt {n : Int} (h : -9223372036854775808 ≤ n ∧ n ≤ 9223372036854775807) : zig n < 2 ^ 64 := by unfold zig; split <;> simp <;> omega
theorem unzig_bd {u : Nat} (h : u < 2 ^ 64) : -9223372036854775808 ≤ unzig u ∧ unzig u ≤ 9223372036854775807 := by unfold unzig; simp at h; split <;> omega

def encN (n : Int) : List UInt8 := encU (zig n)
def decN (bs : List UInt8) : Option (Int × List UInt8) := (decU 0 0 bs).map fun p => (unzig p.1, p.2)
theorem decN_encN {n : Int} (h : -9223372036854775808 ≤ n ∧ n ≤ 9223372036854775807) (r : List UInt8) : decN (encN n ++ r) = some (n, r) := by
  unfold decN encN
  rw [decU_encU r (zig n) 0 0 (by decide) (by simpa using zig_lt h) (fun h => by omega)]
  simp [unzig_zig]
theorem encN_decN {bs rest : List UInt8} {n : Int} (h : decN bs = some (n, rest)) : bs = encN n ++ rest ∧ -9223372036854775808 ≤ n ∧ n ≤ 9223372036854775807 := by
  unfold decN at h
  cases hd : decU 0 0 bs with
  | none => rw [hd] at h; cases h
  | some p =>
    obtain ⟨t, r⟩ := p
    rw [hd] at h
    simp only [Option.map_some, Option.some.injEq, Prod.mk.injEq] at h
    obtain ⟨rfl, rfl⟩ := h
    obtain ⟨u, e1, e2, _, e4⟩ := encU_decU bs 0 0 t r (by decide) hd
    simp at e1
    subst e1
    refine ⟨by rw [encN, zig_unzig]; exact e2, unzig_bd (by simpa using e4)⟩
theorem encU_ne (u : Nat) : encU u ≠ [] := by
  by_cases h : u < 128
  · rw [encU_small h]; simp
  · rw [encU_big h]; simp
theorem encU_length : ∀ (k u : Nat), u < 128 ^ k → 0 < k → (encU u).length ≤ k := by
  intro k
  induction k with
  | zero => intro u _ h; omega
  | succ k ih =>
    intro u hu _
    by_cases h : u < 128
    · rw [encU_small h]; simp
    · rw [encU_big h]
      have : 0 < k := by
        rcases Nat.eq_zero_or_pos k with e | e
        · subst e; simp at hu; omega
        · exact e
      have := ih (u / 128) (by rw [Nat.pow_succ] at hu; exact Nat.div_lt_of_lt_mul (by rw [Nat.mul_comm]; exact hu)) this
      simp; omega
theorem encN_length {n : Int} (h : -9223372036854775808 ≤ n ∧ n ≤ 9223372036854775807) : (encN n).length ≤ 10 :=
  encU_length 10 _ (Nat.lt_of_lt_of_le (zig_lt h) (by decide)) (by decide)
theorem decN_shorter {bs rest : List UInt8} {n : Int} (h : decN bs = some (n, rest)) : rest.length < bs.length := by
  obtain ⟨e, _⟩ := encN_decN h
  have : 0 < (encN n).length := List.length_pos_iff.2 (encU_ne _)
  rw [e, List.length_append]; omega
end Go.Proofs.Ytekmjegeiminnaa
