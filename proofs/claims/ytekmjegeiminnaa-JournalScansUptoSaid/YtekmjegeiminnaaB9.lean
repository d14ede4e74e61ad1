/- The codec that reads: its state in memory; num, walked. -/
import Derived.Test.YtekmjegeiminnaaB8
import Derived.WalkSmall
import Derived.Laws.Bits64b
namespace Go.Proofs.Ytekmjegeiminnaa
open Go.RowKit
set_option linter.unusedVariables false
set_option linter.unusedSimpArgs false

/-- Block c is a codec that reads; these bytes, in block bb, are left. -/
def CodR (w : World) (c bb : Nat) (rs : List UInt8) : Prop :=
  ∃ a cap, w.heap[c]? = some (.cells #[.slice none 0 0, .slice a rs.length cap, .bool true] 165 (0, 0)) ∧ BytesAt w a rs ∧ rs.length ≤ cap ∧ (cap : Int) ≤ 9223372036854775807 ∧ (∀ A, a = some A → A.block = bb) ∧ bb ≠ c
theorem CodR.lt {w : World} {c bb : Nat} {rs : List UInt8} (h : CodR w c bb rs) : c < w.heap.size := by
  obtain ⟨a, cap, h, -⟩ := h; exact (Array.getElem?_eq_some_iff.1 h).1
theorem CodR.ne {w : World} {c bb : Nat} {rs : List UInt8} (h : CodR w c bb rs) : bb ≠ c := by obtain ⟨a, cap, -, -, -, -, -, h⟩ := h; exact h
theorem CodR.upd {M : Nat → Prop} {w w' : World} {c bb : Nat} {rs : List UInt8} (h : CodR w c bb rs) (hu : Upd M w w') (hm : ¬ M c) (hb : ¬ M bb) : CodR w' c bb rs := by
  have hl := h.lt
  obtain ⟨a, cap, h, hb', h3, h4, h5, h6⟩ := h
  exact ⟨a, cap, by rw [hu.block c hl hm]; exact h, hb'.upd hu (fun A hA => by rw [h5 A hA]; exact hb), h3, h4, h5, h6⟩
theorem CodR.facts {w : World} {c bb : Nat} {rs : List UInt8} (h : CodR w c bb rs) :
    ∃ a cap, w.cell? ⟨c, 0, none⟩ = some (.slice none 0 0) ∧ w.cell? ⟨c, 1, none⟩ = some (.slice a rs.length cap) ∧ w.cell? ⟨c, 2, none⟩ = some (.bool true) ∧ (∀ i, w.frozen? ⟨c, i, none⟩ = false) ∧ rs.length ≤ cap ∧ BytesAt w a rs ∧ (∀ A, a = some A → A.block = bb) ∧ bb ≠ c ∧ (cap : Int) ≤ 9223372036854775807 := by
  obtain ⟨a, cap, h, hb', h3, h4, h5, h6⟩ := h
  refine ⟨a, cap, by simp [World.cell?, h], by simp [World.cell?, h], by simp [World.cell?, h], fun i => ?_, h3, hb', h5, h6, h4⟩
  simp [World.frozen?, h]
/-- Behind the store of what is left. -/
theorem CodR.step {w : World} {c bb : Nat} {rs : List UInt8} (h : CodR w c bb rs) {rs' : List UInt8} {a : Option Addr} {cap : Nat} (hb : BytesAt w a rs') (hc : rs'.length ≤ cap) (hc2 : (cap : Int) ≤ 9223372036854775807) (ha : ∀ A, a = some A → A.block = bb) :
    CodR (w.setCell ⟨c, 1, none⟩ (.slice a rs'.length cap)) c bb rs' := by
  obtain ⟨_, _, h, _, _, _, _, h6⟩ := h
  refine ⟨a, cap, ?_, hb.upd (Upd.set (M := fun k => k = c) rfl) (fun A hA e => h6 (by rw [← ha A hA]; exact e)), hc, hc2, ha, h6⟩
  simp only [World.setCell, Array.getElem?_modify, if_true, h]
  rfl

theorem Upd.frozen {M : Nat → Prop} {w w' : World} (h : Upd M w w') {b o : Nat} (hb : b < w.heap.size) (hf : w.frozen? ⟨b, o, none⟩ = false) (hm : ¬ M b) : w'.frozen? ⟨b, o, none⟩ = false := by
  have := h.block b hb hm
  rw [← hf]
  simp only [World.frozen?, this]
theorem or_step {acc i xn : Nat} (hacc : acc < 128 ^ i) (hx : xn < 256) (h9 : i ≤ 9) (hx9 : i = 9 → xn ≤ 1) :
    bits .or .u64 acc (IntKind.u64.wrap (IntKind.u64.wrap (bits .and .u8 xn 127) * 2 ^ (7 * i))) = ((acc + xn % 128 * 128 ^ i : Nat) : Int) ∧ acc + xn % 128 * 128 ^ i < 18446744073709551616 := by
  have e1 : bits .and .u8 (xn : Int) 127 = ((xn % 128 : Nat) : Int) := by
    have := u8_and_nat xn 127 hx (by decide)
    rw [show ((127 : Nat) : Int) = 127 from rfl] at this
    rw [this, show (127 : Nat) = 2 ^ 7 - 1 from rfl, Nat.and_two_pow_sub_one_eq_mod]
  have e2 : (2 : Nat) ^ (7 * i) = 128 ^ i := by rw [Nat.pow_mul]
  have e3 : ((2 : Int) ^ (7 * i)) = ((128 ^ i : Nat) : Int) := by rw [← e2]; simp
  have hm : xn % 128 * 128 ^ i ≤ 18446744073709551616 - 128 ^ i := by
    rcases Nat.lt_or_ge i 9 with h | h
    · have h8 : 128 ^ i ≤ 128 ^ 8 := Nat.pow_le_pow_right (by decide) (by omega)
      have : xn % 128 * 128 ^ i ≤ 127 * 128 ^ 8 := Nat.mul_le_mul (by omega) h8
      have e8 : (128 : Nat) ^ 8 = 72057594037927936 := by decide
      rw [e8] at this h8
      omega
    · have : i = 9 := by omega
      subst this
      have := hx9 rfl
      have e9 : (128 : Nat) ^ 9 = 9223372036854775808 := by decide
      rw [e9]
      omega
  have hle : 128 ^ i ≤ 18446744073709551616 := by
    have : (128 : Nat) ^ i ≤ 128 ^ 9 := Nat.pow_le_pow_right (by decide) h9
    have e9 : (128 : Nat) ^ 9 = 9223372036854775808 := by decide
    omega
  rw [e1, e3, IntKind.wrap_u64, IntKind.wrap_u64]
  have e4 : ((xn % 128 : Nat) : Int) % 18446744073709551616 = ((xn % 128 : Nat) : Int) := by omega
  rw [e4, ← Int.natCast_mul]
  generalize hy : xn % 128 * 128 ^ i = y at hm
  have e5 : (y : Int) % 18446744073709551616 = (y : Int) := by omega
  refine ⟨?_, by omega⟩
  rw [e5, bits_or_u64_nat _ _ (by omega) (by omega)]
  congr 1
  rw [Nat.or_comm, ← hy, ← e2, Nat.mul_comm]
  have := Nat.two_pow_add_eq_or_of_lt (i := 7 * i) (b := acc) (by rw [e2]; exact hacc) (xn % 128)
  omega
theorem unz_walk {U : Nat} (h : U < 18446744073709551616) :
    bits .xor .i64 ((U : Int) / 2) (wrap64 (-wrap64 (bits .and .u64 U 1))) = unzig U := by
  have e1 : bits .and .u64 (U : Int) 1 = ((U % 2 : Nat) : Int) := by
    have := bits_and_u64_nat U 1 h (by decide)
    rw [show ((1 : Nat) : Int) = 1 from rfl] at this
    rw [this, show (1 : Nat) = 2 ^ 1 - 1 from rfl, Nat.and_two_pow_sub_one_eq_mod]
  have e2 : (U : Int) / 2 = ((U / 2 : Nat) : Int) := by omega
  rw [e1, e2]
  have hU : U / 2 < 2 ^ 63 := by omega
  have key : ∀ n : Nat, n < 2 ^ 63 → bits .xor .i64 (n : Int) 0 = n ∧ bits .xor .i64 (n : Int) (-1) = -n - 1 := by
    intro n hn
    have h1 : (BitVec.ofInt 64 (n : Int)).toNat = n := by
      rw [BitVec.ofInt_natCast, BitVec.toNat_ofNat]; exact Nat.mod_eq_of_lt (by omega)
    constructor
    · show IntKind.i64.wrap ((BitVec.ofInt 64 (n : Int) ^^^ BitVec.ofInt 64 0).toNat : Int) = _
      rw [BitVec.toNat_xor, h1, show (BitVec.ofInt 64 0).toNat = 0 from rfl, Nat.xor_zero]
      simp [IntKind.wrap, IntKind.bits, IntKind.signed]; omega
    · show IntKind.i64.wrap ((BitVec.ofInt 64 (n : Int) ^^^ BitVec.ofInt 64 (-1)).toNat : Int) = _
      rw [BitVec.toNat_xor, h1, show (BitVec.ofInt 64 (-1)).toNat = 2 ^ 64 - 1 from rfl, xor_ones _ (by omega)]
      simp [IntKind.wrap, IntKind.bits, IntKind.signed]; omega
  unfold unzig
  rcases Nat.mod_two_eq_zero_or_one U with h0 | h1
  · rw [h0, if_pos rfl, show wrap64 (-wrap64 ((0 : Nat) : Int)) = 0 from by simp [wrap64]]; exact (key _ hU).1
  · rw [h1, if_neg (by decide), show wrap64 (-wrap64 ((1 : Nat) : Int)) = -1 from by simp [wrap64]]; exact (key _ hU).2
theorem bodyPost_panic {P : Program} {f : Func} {Q : Ending → World → Prop} {c : List PanicEntry} {a : Act} {w : World} (h : Q (.panicked c) w) (hd : a.defers = []) : bodyPost P f Q (.panic c) a w := ⟨hd, h⟩
def wrongP : List PanicEntry := [{ v := .iface 170 (.agg #[]), recovered := false }]

set_option maxRecDepth 100000 in
set_option maxHeartbeats 8000000 in
theorem num_r (c pb po bb : Nat) (rs : List UInt8) (old : Int) (w : World) (hc : CodR w c bb rs)
    (hp : w.cell? ⟨pb, po, none⟩ = some (.int .i64 old)) (hpf : w.frozen? ⟨pb, po, none⟩ = false) (hpc : pb ≠ c) :
    Calls Try.prog 103 #[.pointer (some ⟨c, 0, none⟩), .pointer (some ⟨pb, po, none⟩)] w fun e w' =>
      (∃ n r, decN rs = some (n, r) ∧ e = .returned (.tuple #[]) ∧ ∃ w0, Upd (fun k => k = c) w w0 ∧ CodR w0 c bb r ∧ w' = w0.setCell ⟨pb, po, none⟩ (.int .i64 n))
      ∨ (decN rs = none ∧ e = .panicked wrongP ∧ Upd (fun k => k = c) w w') := by
  obtain ⟨a, cap, c0, c1, c2, cf, -⟩ := hc.facts
  have HC := hidden hc
  clear hc
  go_enter Try.func103, Try.ntmps103
  go_wp2_with fail
  go_loopw [5, 6] (fun s5 s6 wr => ∃ (i acc : Nat) (cur : List UInt8), s5 = .int .u64 acc ∧ s6 = .int .i64 i ∧ i ≤ 9 ∧ acc < 128 ^ i ∧ decU 0 0 rs = decU i acc cur ∧ CodR wr c bb cur ∧ Upd (fun k => k = c) w wr) (fun _ s6 _ => (9 - intOf s6).toNat)
  case atStart => exact ⟨0, 0, rs, rfl, rfl, by omega, by simp, rfl, HC.out, Upd.refl _ _⟩
  case round =>
    clear c0 c1 c2 cf
    obtain ⟨i, acc, cur, rfl, rfl, hi, hacc, hdec, hR, hU⟩ := hrel
    obtain ⟨a', cap', c0, c1, c2, cf, hcap, hby, haa, hbc, hcap2⟩ := hR.facts
    have HD := hidden hdec
    have HR := hidden hR
    have hp' := hU.cell hp hpc
    have hpf' := hU.frozen (World.block_lt_of_cell? w _ hp) hpf hpc
    have HU := hidden hU
    have HB := hidden hby
    have HA := hidden haa
    have HACC := hidden hacc
    clear hdec hR hU hby haa hacc
    cases cur with
    | nil =>
      have h0 : Hid (decN rs = none) := by show _ = _; unfold decN; rw [HD.out]; rfl
      go_wp2
      exact bodyPost_panic (.inr ⟨h0.out, rfl, HU.out⟩) rfl
    | cons x cur =>
      obtain ⟨b, o, rfl, hx⟩ := HB.out 0 (by simp)
      simp only [Nat.add_zero, List.getElem_cons_zero] at hx
      have hL : 0 < (x :: cur).length := by simp
      have HL : Hid ((x :: cur).length = cur.length + 1) := by show _ = _; simp
      generalize (x :: cur).length = L at c1 hcap hL HL
      have HX := hidden hx
      have HSTEP : Hid (∀ A k cap2, (k = o + 1 ∨ L = 1) → A = some ⟨b, k, none⟩ → cap2 = cap' - 1 → CodR (wr.setCell ⟨c, 1, none⟩ (.slice A (L - 1) cap2)) c bb cur) := by
        rintro A k cap2 hk rfl rfl
        have e : L - 1 = cur.length := by have := HL.out; omega
        rw [e]
        refine HR.out.step ?_ (by omega) (by omega) (fun A hA => by cases hA; exact HA.out ⟨b, o, none⟩ rfl)
        rcases hk with rfl | rfl
        · exact HB.out.drop 1
        · have : cur = [] := List.eq_nil_of_length_eq_zero (by omega)
          subst this
          exact fun i hi => by simp at hi
      by_cases hbad : (i = 9 ∧ 1 < x.toNat) ∨ (0 < i ∧ x.toNat = 0)
      · have h0 : Hid (decN rs = none) := by show _ = _; unfold decN; rw [HD.out]; simp only [decU, if_pos hbad]; rfl
        rcases hbad with ⟨rfl, hx1⟩ | ⟨hi0, hx0⟩
        · go_wp2
          exact bodyPost_panic (.inr ⟨h0.out, rfl, HU.out⟩) rfl
        · have h9 : ¬ 1 < x.toNat := by omega
          by_cases hi9 : i = 9
          · subst hi9
            go_wp2
            exact bodyPost_panic (.inr ⟨h0.out, rfl, HU.out⟩) rfl
          · go_wp2
            exact bodyPost_panic (.inr ⟨h0.out, rfl, HU.out⟩) rfl
      · have hx9 : i = 9 → x.toNat ≤ 1 := fun h => Nat.not_lt.1 fun k => hbad (.inl ⟨h, k⟩)
        have hx0 : 0 < i → x.toNat ≠ 0 := fun h k => hbad (.inr ⟨h, k⟩)
        have HS : Hid (decU i acc (x :: cur) = if x.toNat < 128 then some (acc + x.toNat % 128 * 128 ^ i, cur) else decU (i + 1) (acc + x.toNat % 128 * 128 ^ i) cur) := by
          show _ = _; rw [decU, if_neg hbad]
        obtain ⟨hor, hU64⟩ := or_step HACC.out x.toNat_lt hi hx9
        have HPOW : Hid (acc + x.toNat % 128 * 128 ^ i < 128 ^ (i + 1)) := by
          show _ < _
          have h1 : x.toNat % 128 * 128 ^ i ≤ 127 * 128 ^ i := Nat.mul_le_mul_right _ (by omega)
          have h2 : 128 ^ (i + 1) = 128 * 128 ^ i := by rw [Nat.pow_succ, Nat.mul_comm]
          have := HACC.out
          omega
        generalize acc + x.toNat % 128 * 128 ^ i = U at hor hU64 HS HPOW
        have hunz := unz_walk hU64
        have HIF : Hid (CodR (wr.setCell ⟨c, 1, none⟩ (.slice (if cap' = 1 then some ⟨b, o, none⟩ else some ⟨b, o + 1, none⟩) (L - 1) (cap' - 1))) c bb cur) := by
          by_cases h : cap' = 1
          · rw [if_pos h]; exact HSTEP.out _ o _ (.inr (by omega)) rfl rfl
          · rw [if_neg h]; exact HSTEP.out _ (o + 1) _ (.inl rfl) rfl rfl
        clear hbad
        have t1 : ((L : Int) == 0) = false := by simp; omega
        have HEXIT : Hid (x.toNat < 128 → decN rs = some (unzig U, cur)) := by
          intro h
          unfold decN
          rw [HD.out, HS.out, if_pos h]; rfl
        have HNEXT : Hid (¬ x.toNat < 128 → decU 0 0 rs = decU (i + 1) U cur) := by
          intro h
          rw [HD.out, HS.out, if_neg h]
        by_cases hi9 : i = 9
        · have t2 : ((i : Int) == 9) = true := by simp; omega
          have t3 : decide ((1 : Int) < x.toNat) = false := by have := hx9 hi9; simp; omega
          have t4 : 0 < i := by omega
          have t5 : ((x.toNat : Int) == 0) = false := by have := hx0 (by omega); simp; omega
          have t6 : x.toNat < 128 := by have := hx9 hi9; omega
          clear hi9 hx9 hx0
          go_wp2
          · refine ⟨rfl, .tuple #[], by simp [results, Try.results103, go_sem], ?_⟩; exact Or.inl ⟨unzig U, cur, HEXIT.out t6, rfl, _, HU.out.trans (Upd.set (M := fun k => k = c) rfl) (fun _ _ h => h), HSTEP.out (some ⟨b, o, none⟩) o 0 (.inr (by omega)) rfl (by omega), rfl⟩
          · refine ⟨rfl, .tuple #[], by simp [results, Try.results103, go_sem], ?_⟩; exact Or.inl ⟨unzig U, cur, HEXIT.out t6, rfl, _, HU.out.trans (Upd.set (M := fun k => k = c) rfl) (fun _ _ h => h), HSTEP.out _ (o + 1) _ (.inl rfl) rfl rfl, rfl⟩
        · have t2 : ((i : Int) == 9) = false := by simp; omega
          by_cases t4 : 0 < i
          · have t5 : ((x.toNat : Int) == 0) = false := by have := hx0 (by omega); simp; omega
            clear hx9 hx0
            by_cases t6 : x.toNat < 128
            · skip
              go_wp2
              · refine ⟨rfl, .tuple #[], by simp [results, Try.results103, go_sem], ?_⟩; exact Or.inl ⟨unzig U, cur, HEXIT.out t6, rfl, _, HU.out.trans (Upd.set (M := fun k => k = c) rfl) (fun _ _ h => h), HSTEP.out (some ⟨b, o, none⟩) o 0 (.inr (by omega)) rfl (by omega), rfl⟩
              · refine ⟨rfl, .tuple #[], by simp [results, Try.results103, go_sem], ?_⟩; exact Or.inl ⟨unzig U, cur, HEXIT.out t6, rfl, _, HU.out.trans (Upd.set (M := fun k => k = c) rfl) (fun _ _ h => h), HSTEP.out _ (o + 1) _ (.inl rfl) rfl rfl, rfl⟩
            · skip
              go_wp2
              exact ⟨⟨i + 1, U, cur, rfl, by go_num, by omega, HPOW.out, HNEXT.out t6, HIF.out, HU.out.trans (Upd.set (M := fun k => k = c) rfl) (fun _ _ h => h)⟩, by simp [intOf]; omega⟩
          · clear hx9 hx0
            by_cases t6 : x.toNat < 128
            · skip
              go_wp2
              · refine ⟨rfl, .tuple #[], by simp [results, Try.results103, go_sem], ?_⟩; exact Or.inl ⟨unzig U, cur, HEXIT.out t6, rfl, _, HU.out.trans (Upd.set (M := fun k => k = c) rfl) (fun _ _ h => h), HSTEP.out (some ⟨b, o, none⟩) o 0 (.inr (by omega)) rfl (by omega), rfl⟩
              · refine ⟨rfl, .tuple #[], by simp [results, Try.results103, go_sem], ?_⟩; exact Or.inl ⟨unzig U, cur, HEXIT.out t6, rfl, _, HU.out.trans (Upd.set (M := fun k => k = c) rfl) (fun _ _ h => h), HSTEP.out _ (o + 1) _ (.inl rfl) rfl rfl, rfl⟩
            · skip
              go_wp2
              exact ⟨⟨i + 1, U, cur, rfl, by go_num, by omega, HPOW.out, HNEXT.out t6, HIF.out, HU.out.trans (Upd.set (M := fun k => k = c) rfl) (fun _ _ h => h)⟩, by simp [intOf]; omega⟩
end Go.Proofs.Ytekmjegeiminnaa
