/- Plain laws on the CRC-32 of bytes: the program's step by eight bits and the reference's bit by bit are one; a bit that is turned turns the sum. No program in sight. -/

namespace Go.Proofs.Ytekmjegeiminnaa

/-- One bit of the sum. -/
def crc1 (c : Nat) : Nat := (c / 2) ^^^ (if c % 2 = 1 then 3988292384 else 0)
def crc1n : Nat → Nat → Nat
  | 0, c => c
  | k + 1, c => crc1 (crc1n k c)
def crcByte (c : Nat) (x : UInt8) : Nat := crc1n 8 (c ^^^ x.toNat)
def crcAll (c : Nat) (bs : List UInt8) : Nat := bs.foldl crcByte c
def crc32 (bs : List UInt8) : Nat := crcAll 4294967295 bs ^^^ 4294967295

theorem xor_lt32 {a b : Nat} (ha : a < 4294967296) (hb : b < 4294967296) : a ^^^ b < 4294967296 := Nat.xor_lt_two_pow (n := 32) ha hb
theorem crc1_lt {c : Nat} (h : c < 4294967296) : crc1 c < 4294967296 := by
  unfold crc1
  refine xor_lt32 (by omega) ?_
  split <;> omega
theorem crc1n_lt {c : Nat} (h : c < 4294967296) : ∀ k, crc1n k c < 4294967296
  | 0 => h
  | k + 1 => crc1_lt (crc1n_lt h k)
theorem crcByte_lt {c : Nat} (h : c < 4294967296) (x : UInt8) : crcByte c x < 4294967296 :=
  crc1n_lt (xor_lt32 h (by have := x.toNat_lt; omega)) 8
theorem crcAll_lt : ∀ (bs : List UInt8) {c : Nat}, c < 4294967296 → crcAll c bs < 4294967296
  | [], _, h => h
  | x :: bs, _, h => crcAll_lt bs (crcByte_lt h x)
theorem crc32_lt (bs : List UInt8) : crc32 bs < 4294967296 := xor_lt32 (crcAll_lt bs (by omega)) (by omega)
theorem crcAll_snoc (c : Nat) (bs : List UInt8) (x : UInt8) : crcAll c (bs ++ [x]) = crcByte (crcAll c bs) x := by
  simp [crcAll, List.foldl_append]
theorem crcAll_append (c : Nat) (bs cs : List UInt8) : crcAll c (bs ++ cs) = crcAll (crcAll c bs) cs := by
  simp [crcAll, List.foldl_append]

/-- The reference's step: the bit of the sum and the bit of the byte together. -/
def ref1 (c : Nat) (bit : Nat) : Nat := if (c ^^^ bit) % 2 = 1 then (c / 2) ^^^ 3988292384 else c / 2
/-- k bits of the byte x. -/
def refn : Nat → Nat → Nat → Nat
  | 0, c, _ => c
  | k + 1, c, x => ref1 (refn k c x) (x / 2 ^ k)

theorem xor_mod2 (a b : Nat) : (a ^^^ b) % 2 = (a % 2 + b % 2) % 2 := by
  have h := Nat.xor_mod_two_pow (a := a) (b := b) (n := 1)
  simp only [Nat.pow_one] at h
  rw [h]
  rcases Nat.mod_two_eq_zero_or_one a with ha | ha <;> rcases Nat.mod_two_eq_zero_or_one b with hb | hb <;> rw [ha, hb] <;> rfl
theorem xor_div2 (a b : Nat) : (a ^^^ b) / 2 = (a / 2) ^^^ (b / 2) := by
  have h := Nat.shiftRight_xor_distrib (a := a) (b := b) (i := 1)
  simpa [Nat.shiftRight_eq_div_pow] using h
theorem ref_step (c x : Nat) : crc1 (c ^^^ x) = ref1 c x ^^^ (x / 2) := by
  unfold crc1 ref1
  rw [xor_div2]
  split
  · rw [Nat.xor_assoc, Nat.xor_assoc, Nat.xor_comm (x / 2)]
  · rw [Nat.xor_zero]
theorem refn_crc (c x : Nat) : ∀ k, crc1n k (c ^^^ x) = refn k c x ^^^ (x / 2 ^ k)
  | 0 => by simp [crc1n, refn]
  | k + 1 => by
    rw [crc1n, refn_crc c x k, ref_step, refn, Nat.div_div_eq_div_mul, ← Nat.pow_succ]
theorem refn_byte (c : Nat) (x : UInt8) : refn 8 c x.toNat = crcByte c x := by
  have h := refn_crc c x.toNat 8
  have hx := x.toNat_lt
  rw [show x.toNat / 2 ^ 8 = 0 by omega, Nat.xor_zero] at h
  exact h.symm
theorem ref1_lt {c b : Nat} (h : c < 4294967296) : ref1 c b < 4294967296 := by
  unfold ref1; split
  · exact xor_lt32 (by omega) (by omega)
  · omega
theorem refn_lt {c x : Nat} (h : c < 4294967296) : ∀ k, refn k c x < 4294967296
  | 0 => h
  | k + 1 => ref1_lt (refn_lt h k)

/-! ### A turned bit turns the sum: each step is one to one -/
theorem crc1_inj {c d : Nat} (hc : c < 4294967296) (hd : d < 4294967296) (h : crc1 c = crc1 d) : c = d := by
  unfold crc1 at h
  have key : ∀ u v : Nat, u < 2147483648 → v < 2147483648 → u ^^^ 3988292384 ≠ v := by
    intro u v hu hv he
    have h1 := congrArg (fun z => z / 2147483648) he
    have h2 : (u ^^^ 3988292384) / 2147483648 = (u / 2147483648) ^^^ (3988292384 / 2147483648) := by
      have := Nat.shiftRight_xor_distrib (a := u) (b := 3988292384) (i := 31)
      simpa [Nat.shiftRight_eq_div_pow] using this
    simp only [h2] at h1
    rw [Nat.div_eq_of_lt hu, Nat.div_eq_of_lt hv] at h1
    exact absurd h1 (by decide)
  rcases Nat.mod_two_eq_zero_or_one c with c0 | c0 <;> rcases Nat.mod_two_eq_zero_or_one d with d0 | d0
  · rw [c0, d0] at h; simp at h; omega
  · rw [c0, d0] at h; simp at h
    exact absurd h.symm (key _ _ (by omega) (by omega))
  · rw [c0, d0] at h; simp at h
    exact absurd h (key _ _ (by omega) (by omega))
  · rw [c0, d0] at h
    simp only [if_true] at h
    have h' := congrArg (fun z => z ^^^ 3988292384) h
    simp only [Nat.xor_assoc, Nat.xor_self, Nat.xor_zero] at h'
    omega
theorem crc1n_inj : ∀ (k : Nat) {c d : Nat}, c < 4294967296 → d < 4294967296 → crc1n k c = crc1n k d → c = d
  | 0, _, _, _, _, h => h
  | k + 1, _, _, hc, hd, h => crc1n_inj k hc hd (crc1_inj (crc1n_lt hc k) (crc1n_lt hd k) h)
theorem xor_right_inj' {a b c : Nat} (h : a ^^^ c = b ^^^ c) : a = b := by
  have h' := congrArg (fun z => z ^^^ c) h
  simpa [Nat.xor_assoc] using h'
theorem xor_left_inj' {a b c : Nat} (h : c ^^^ a = c ^^^ b) : a = b := by
  rw [Nat.xor_comm c a, Nat.xor_comm c b] at h; exact xor_right_inj' h
theorem crcByte_inj {c d : Nat} {x : UInt8} (hc : c < 4294967296) (hd : d < 4294967296) (h : crcByte c x = crcByte d x) : c = d :=
  xor_right_inj' (crc1n_inj 8 (xor_lt32 hc (by have := x.toNat_lt; omega)) (xor_lt32 hd (by have := x.toNat_lt; omega)) h)
theorem crcByte_inj' {c : Nat} {x y : UInt8} (hc : c < 4294967296) (h : crcByte c x = crcByte c y) : x = y := by
  have := xor_left_inj' (crc1n_inj 8 (xor_lt32 hc (by have := x.toNat_lt; omega)) (xor_lt32 hc (by have := y.toNat_lt; omega)) h)
  exact UInt8.toNat_inj.1 this
theorem crcAll_inj : ∀ (bs : List UInt8) {c d : Nat}, c < 4294967296 → d < 4294967296 → crcAll c bs = crcAll d bs → c = d
  | [], _, _, _, _, h => h
  | x :: bs, _, _, hc, hd, h => crcByte_inj hc hd (crcAll_inj bs (crcByte_lt hc x) (crcByte_lt hd x) h)
/-- Bytes that differ in one place have two sums. -/
theorem crc32_one (pre post : List UInt8) {x y : UInt8} (h : crc32 (pre ++ x :: post) = crc32 (pre ++ y :: post)) : x = y := by
  unfold crc32 at h
  have h1 := xor_right_inj' h
  rw [crcAll_append, crcAll_append] at h1
  have hp : crcAll 4294967295 pre < 4294967296 := crcAll_lt pre (by omega)
  exact crcByte_inj' hp (crcAll_inj post (crcByte_lt hp x) (crcByte_lt hp y) h1)
end Go.Proofs.Ytekmjegeiminnaa

/- Plain laws on numbers in bytes: seven bits a byte, the sign in the lowest bit; what is written is read, what is read was so written. No program in sight. -/
namespace Go.Proofs.Ytekmjegeiminnaa

def encU (u : Nat) : List UInt8 := if h : u < 128 then [UInt8.ofNat u] else UInt8.ofNat (u % 128 + 128) :: encU (u / 128)
termination_by u
decreasing_by omega
theorem encU_small {u : Nat} (h : u < 128) : encU u = [UInt8.ofNat u] := by rw [encU, dif_pos h]
theorem encU_big {u : Nat} (h : ¬ u < 128) : encU u = UInt8.ofNat (u % 128 + 128) :: encU (u / 128) := by rw [encU, dif_neg h]

def decU (i acc : Nat) : List UInt8 → Option (Nat × List UInt8)
  | [] => none
  | x :: r => if (i = 9 ∧ 1 < x.toNat) ∨ (0 < i ∧ x.toNat = 0) then none else if x.toNat < 128 then some (acc + x.toNat % 128 * 128 ^ i, r) else decU (i + 1) (acc + x.toNat % 128 * 128 ^ i) r

theorem ofNat_small {n : Nat} (h : n < 256) : (UInt8.ofNat n).toNat = n := by simp [UInt8.toNat_ofNat']; omega

theorem decU_encU (r : List UInt8) : ∀ (u i acc : Nat), i ≤ 9 → u < 2 ^ (64 - 7 * i) → (0 < i → 0 < u) → decU i acc (encU u ++ r) = some (acc + u * 128 ^ i, r) := by
  intro u
  induction u using Nat.strongRecOn with
  | _ u ih =>
    intro i acc hi hu hp
    have h9 : i = 9 → u ≤ 1 := fun e => by subst e; simp at hu; omega
    by_cases h : u < 128
    · rw [encU_small h]
      have hx := ofNat_small (n := u) (by omega)
      simp only [List.cons_append, List.nil_append, decU, hx]
      rw [if_neg (by rintro (⟨a, b⟩ | ⟨a, b⟩); have := h9 a; omega; have := hp a; omega), if_pos h, Nat.mod_eq_of_lt h]
    · rw [encU_big h]
      have hx := ofNat_small (n := u % 128 + 128) (by omega)
      simp only [List.cons_append, decU, hx]
      have hi9 : i ≠ 9 := fun e => by have := h9 e; omega
      rw [if_neg (by rintro (⟨a, b⟩ | ⟨a, b⟩); exact hi9 a; omega), if_neg (by omega), show (u % 128 + 128) % 128 = u % 128 by omega]
      have hpow : 2 ^ (64 - 7 * i) = 2 ^ (64 - 7 * (i + 1)) * 128 := by
        rw [show (128 : Nat) = 2 ^ 7 from rfl, ← Nat.pow_add]; congr 1; omega
      rw [ih (u / 128) (by omega) (i + 1) _ (by omega) (by rw [hpow] at hu; exact Nat.div_lt_of_lt_mul (by rw [Nat.mul_comm]; exact hu)) (fun _ => by omega)]
      congr 2
      rw [Nat.pow_succ, Nat.mul_comm (128 ^ i) 128, ← Nat.mul_assoc, Nat.add_assoc, ← Nat.add_mul]
      congr 2; omega

theorem encU_decU : ∀ (bs : List UInt8) (i acc t : Nat) (rest : List UInt8), i ≤ 9 → decU i acc bs = some (t, rest) →
    ∃ u, t = acc + u * 128 ^ i ∧ bs = encU u ++ rest ∧ (0 < i → 0 < u) ∧ u < 2 ^ (64 - 7 * i)
  | [], _, _, _, _, _, h => by simp [decU] at h
  | x :: r, i, acc, t, rest, hi, h => by
    simp only [decU] at h
    by_cases hbad : (i = 9 ∧ 1 < x.toNat) ∨ (0 < i ∧ x.toNat = 0)
    · rw [if_pos hbad] at h; cases h
    · rw [if_neg hbad] at h
      have hx := x.toNat_lt
      have hpw : i = 9 ∨ 2 ^ 8 ≤ 2 ^ (64 - 7 * i) := by
        rcases Nat.lt_or_ge i 9 with h9 | h9
        · exact .inr (Nat.pow_le_pow_right (by decide) (by omega))
        · exact .inl (by omega)
      by_cases hs : x.toNat < 128
      · rw [if_pos hs] at h
        simp only [Option.some.injEq, Prod.mk.injEq] at h
        obtain ⟨rfl, rfl⟩ := h
        refine ⟨x.toNat, by rw [Nat.mod_eq_of_lt hs], by rw [encU_small hs]; simp, fun hp => by omega, ?_⟩
        rcases hpw with rfl | hpw
        · simp; omega
        · omega
      · rw [if_neg hs] at h
        have hi9 : i ≠ 9 := fun e => hbad (.inl ⟨e, by omega⟩)
        obtain ⟨u, e1, e2, e3, e4⟩ := encU_decU r (i + 1) _ t rest (by omega) h
        have hu := e3 (by omega)
        refine ⟨x.toNat % 128 + 128 * u, ?_, ?_, fun _ => by omega, ?_⟩
        · rw [e1, Nat.pow_succ, Nat.add_mul, Nat.add_assoc]; congr 2
          rw [Nat.mul_comm (128 ^ i) 128, ← Nat.mul_assoc, Nat.mul_comm u 128]
        · rw [encU_big (by omega), show (x.toNat % 128 + 128 * u) / 128 = u by omega, show (x.toNat % 128 + 128 * u) % 128 + 128 = x.toNat by omega, e2]
          simp
        · have hpow : 2 ^ (64 - 7 * i) = 2 ^ (64 - 7 * (i + 1)) * 128 := by
            rw [show (128 : Nat) = 2 ^ 7 from rfl, ← Nat.pow_add]; congr 1; omega
          rw [hpow]
          have : x.toNat % 128 < 128 := Nat.mod_lt _ (by decide)
          generalize 2 ^ (64 - 7 * (i + 1)) = y at e4
          omega

/-- The sign in the lowest bit. -/
def zig (n : Int) : Nat := if 0 ≤ n then (2 * n).toNat else (-2 * n - 1).toNat
def unzig (u : Nat) : Int := if u % 2 = 0 then ((u / 2 : Nat) : Int) else -((u / 2 : Nat) : Int) - 1
theorem unzig_zig (n : Int) : unzig (zig n) = n := by unfold unzig zig; split <;> split <;> omega
theorem zig_unzig (u : Nat) : zig (unzig u) = u := by unfold unzig zig; split <;> split <;> omega
theorem zig_lt {n : Int} (h : -9223372036854775808 ≤ n ∧ n ≤ 9223372036854775807) : zig n < 2 ^ 64 := by unfold zig; split <;> simp <;> omega
theorem unzig_bd {u : Nat} (h : u < 2 ^ 64) : -9223372036854775808 ≤ unzig u ∧ unzig u ≤ 9223372036854775807 := by unfold unzig; simp at h; split <;> omega

def encN (n : Int) : List UInt8 := encU (zig n)
def decN (bs : List UInt8) : Option (Int × List UInt8) := (decU 0 0 bs).map fun p => (unzig p.1, p.2)
theorem decN_encN {n : Int} (h : -9223372036854775808 ≤ n ∧ n ≤ 9223372036854775807) (r : List UInt8) : decN (encN n ++ r) = some (n, r) := by
  unfold decN encN
  rw [decU_encU r (zig n) 0 0 (by decide) (by simpa using zig_lt h) (fun h => by omega)]
  simp [unzig_zig]
theorem encN_decN {bs rest : List UInt8} {n : Int} (h : decN bs = some (n, rest)) : bs = encN n ++ rest ∧ -9223372036854775808 ≤ n ∧ n ≤ 9223372036854775807 := by
  unfold decN at h
  cases hd : decU 0 0 bs with
  | none => rw [hd] at h; cases h
  | some p =>
    obtain ⟨t, r⟩ := p
    rw [hd] at h
    simp only [Option.map_some, Option.some.injEq, Prod.mk.injEq] at h
    obtain ⟨rfl, rfl⟩ := h
    obtain ⟨u, e1, e2, _, e4⟩ := encU_decU bs 0 0 t r (by decide) hd
    simp at e1
    subst e1
    refine ⟨by rw [encN, zig_unzig]; exact e2, unzig_bd (by simpa using e4)⟩
theorem encU_ne (u : Nat) : encU u ≠ [] := by
  by_cases h : u < 128
  · rw [encU_small h]; simp
  · rw [encU_big h]; simp
theorem encU_length : ∀ (k u : Nat), u < 128 ^ k → 0 < k → (encU u).length ≤ k := by
  intro k
  induction k with
  | zero => intro u _ h; omega
  | succ k ih =>
    intro u hu _
    by_cases h : u < 128
    · rw [encU_small h]; simp
    · rw [encU_big h]
      have : 0 < k := by
        rcases Nat.eq_zero_or_pos k with e | e
        · subst e; simp at hu; omega
        · exact e
      have := ih (u / 128) (by rw [Nat.pow_succ] at hu; exact Nat.div_lt_of_lt_mul (by rw [Nat.mul_comm]; exact hu)) this
      simp; omega
theorem encN_length {n : Int} (h : -9223372036854775808 ≤ n ∧ n ≤ 9223372036854775807) : (encN n).length ≤ 10 :=
  encU_length 10 _ (Nat.lt_of_lt_of_le (zig_lt h) (by decide)) (by decide)
theorem decN_shorter {bs rest : List UInt8} {n : Int} (h : decN bs = some (n, rest)) : rest.length < bs.length := by
  obtain ⟨e, _⟩ := encN_decN h
  have : 0 < (encN n).length := List.length_pos_iff.2 (encU_ne _)
  rw [e, List.length_append]; omega
end Go.Proofs.Ytekmjegeiminnaa
