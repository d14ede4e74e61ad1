/- The reference's Reader: its state in memory; num, count and text, walked. -/
import Derived.Test.YtekmjegeiminnaaD5
namespace Go.Proofs.Ytekmjegeiminnaa
open Go.RowKit
set_option linter.unusedVariables false
set_option linter.unusedSimpArgs false

/-- Block r is a Reader: these bytes, in block bb, are left; wr: they are none. -/
def RdR (w : World) (r bb : Nat) (rs : List UInt8) (wr : Bool) : Prop :=
  ∃ a cap, w.heap[r]? = some (.cells #[.slice a rs.length cap, .bool wr] 143 (0, 0)) ∧ BytesAt w a rs ∧ rs.length ≤ cap ∧ (cap : Int) ≤ 9223372036854775807 ∧ (∀ A, a = some A → A.block = bb) ∧ bb ≠ r
theorem RdR.lt {w : World} {r bb : Nat} {rs : List UInt8} {wr : Bool} (h : RdR w r bb rs wr) : r < w.heap.size := by
  obtain ⟨a, cap, h, -⟩ := h; exact (Array.getElem?_eq_some_iff.1 h).1
theorem RdR.upd {M : Nat → Prop} {w w' : World} {r bb : Nat} {rs : List UInt8} {wr : Bool} (h : RdR w r bb rs wr) (hu : Upd M w w') (hm : ¬ M r) (hb : ¬ M bb) : RdR w' r bb rs wr := by
  have hl := h.lt
  obtain ⟨a, cap, h, hb', h3, h4, h5, h6⟩ := h
  exact ⟨a, cap, by rw [hu.block r hl hm]; exact h, hb'.upd hu (fun A hA => by rw [h5 A hA]; exact hb), h3, h4, h5, h6⟩
theorem RdR.facts {w : World} {r bb : Nat} {rs : List UInt8} {wr : Bool} (h : RdR w r bb rs wr) :
    ∃ a cap, w.cell? ⟨r, 0, none⟩ = some (.slice a rs.length cap) ∧ w.cell? ⟨r, 1, none⟩ = some (.bool wr) ∧ (∀ i, w.frozen? ⟨r, i, none⟩ = false) ∧ rs.length ≤ cap ∧ BytesAt w a rs ∧ (∀ A, a = some A → A.block = bb) ∧ bb ≠ r ∧ (cap : Int) ≤ 9223372036854775807 := by
  obtain ⟨a, cap, h, hb', h3, h4, h5, h6⟩ := h
  refine ⟨a, cap, by simp [World.cell?, h], by simp [World.cell?, h], fun i => ?_, h3, hb', h5, h6, h4⟩
  simp [World.frozen?, h]
theorem RdR.step {w : World} {r bb : Nat} {rs : List UInt8} {wr : Bool} (h : RdR w r bb rs wr) {rs' : List UInt8} {a : Option Addr} {cap : Nat} (hb : BytesAt w a rs') (hc : rs'.length ≤ cap) (hc2 : (cap : Int) ≤ 9223372036854775807) (ha : ∀ A, a = some A → A.block = bb) :
    RdR (w.setCell ⟨r, 0, none⟩ (.slice a rs'.length cap)) r bb rs' wr := by
  obtain ⟨_, _, h, _, _, _, _, h6⟩ := h
  refine ⟨a, cap, ?_, hb.upd (Upd.set (M := fun k => k = r) rfl) (fun A hA e => h6 (by rw [← ha A hA]; exact e)), hc, hc2, ha, h6⟩
  simp only [World.setCell, Array.getElem?_modify, if_true, h]
  rfl
theorem RdR.wrong {w : World} {r bb : Nat} {rs : List UInt8} {wr : Bool} (h : RdR w r bb rs wr) : RdR (w.setCell ⟨r, 1, none⟩ (.bool true)) r bb rs true := by
  obtain ⟨a, cap, h, hb, h3, h4, h5, h6⟩ := h
  refine ⟨a, cap, ?_, hb.upd (Upd.set (M := fun k => k = r) rfl) (fun A hA e => h6 (by rw [← h5 A hA]; exact e)), h3, h4, h5, h6⟩
  simp only [World.setCell, Array.getElem?_modify, if_true, h]
  rfl

/-- What a reading call of the reference makes of the bytes that are left. -/
def Dec {α : Type} (dec : List UInt8 → Option (α × List UInt8)) (wr : Bool) (cur : List UInt8) (wr' : Bool) (cur' : List UInt8) (x : α) : Prop :=
  cur'.length ≤ cur.length ∧ (wr = true → wr' = true) ∧ (wr = false → (wr' = false ∧ dec cur = some (x, cur')) ∨ (wr' = true ∧ dec cur = none))
theorem Dec.good {α : Type} {dec : List UInt8 → Option (α × List UInt8)} {wr wr' : Bool} {cur cur' : List UInt8} {x : α} (h : Dec dec wr cur wr' cur' x) (hw : wr' = false) : wr = false ∧ dec cur = some (x, cur') := by
  obtain ⟨h1, h2, h3⟩ := h
  cases wr with
  | true => rw [h2 rfl] at hw; cases hw
  | false => rcases h3 rfl with ⟨-, h⟩ | ⟨h, -⟩
             · exact ⟨rfl, h⟩
             · rw [h] at hw; cases hw
theorem Dec.bad {α : Type} {dec : List UInt8 → Option (α × List UInt8)} {wr wr' : Bool} {cur cur' : List UInt8} {x : α} (h : Dec dec wr cur wr' cur' x) (hw : wr' = true) (hw0 : wr = false) : dec cur = none := by
  rcases h.2.2 hw0 with ⟨h, -⟩ | ⟨-, h⟩
  · rw [h] at hw; cases hw
  · exact h
theorem Dec.pair {α β : Type} {A : Cod α} {B : Cod β} {wr wr1 wr2 : Bool} {c c1 c2 : List UInt8} {x : α} {y : β} (h : Dec A.dec wr c wr1 c1 x) (k : Dec B.dec wr1 c1 wr2 c2 y) : Dec (cPair A B).dec wr c wr2 c2 (x, y) := by
  refine ⟨Nat.le_trans k.1 h.1, fun e => k.2.1 (h.2.1 e), fun e => ?_⟩
  have hd : (cPair A B).dec c = (A.dec c).bind fun p => (B.dec p.2).map fun q => ((p.1, q.1), q.2) := rfl
  rcases h.2.2 e with ⟨rfl, h1⟩ | ⟨rfl, h1⟩
  · rcases k.2.2 rfl with ⟨rfl, k1⟩ | ⟨rfl, k1⟩
    · exact .inl ⟨rfl, by rw [hd, h1]; simp [k1]⟩
    · exact .inr ⟨rfl, by rw [hd, h1]; simp [k1]⟩
  · exact .inr ⟨k.2.1 rfl, by rw [hd, h1]; rfl⟩

theorem unz_odd {U : Nat} (h : U < 18446744073709551616) (ho : U % 2 = 1) : wrap64 (bits .xor .u64 ((U : Int) / 2) 18446744073709551615) = unzig U := by
  have e2 : (U : Int) / 2 = ((U / 2 : Nat) : Int) := by omega
  have e3 : (18446744073709551615 : Int) = ((18446744073709551615 : Nat) : Int) := rfl
  rw [e2, e3, bits_xor_u64_nat _ _ (by omega) (by decide), xor_ones64 (by omega)]
  unfold unzig
  rw [if_neg (by omega)]
  unfold wrap64; omega
where xor_ones64 {n : Nat} (h : n < 2 ^ 63) : n ^^^ 18446744073709551615 = 18446744073709551615 - n := xor_ones n (by omega)
theorem unz_even {U : Nat} (h : U < 18446744073709551616) (ho : U % 2 = 0) : (U : Int) / 2 = unzig U := by
  unfold unzig
  rw [if_pos ho]
  omega
theorem and_one {U : Nat} (h : U < 18446744073709551616) : bits .and .u64 (U : Int) 1 = ((U % 2 : Nat) : Int) := by
  have := bits_and_u64_nat U 1 h (by decide)
  rw [show ((1 : Nat) : Int) = 1 from rfl] at this
  rw [this, show (1 : Nat) = 2 ^ 1 - 1 from rfl, Nat.and_two_pow_sub_one_eq_mod]

/-- What num leaves. -/
def RdN (r bb : Nat) (rs : List UInt8) (wr : Bool) (w : World) (e : Ending) (w' : World) : Prop :=
  ∃ (n : Int) (rs' : List UInt8) (wr' : Bool), e = .returned (.int .i64 n) ∧ RdR w' r bb rs' wr' ∧ Upd (fun k => k = r) w w' ∧ Dec decN wr rs wr' rs' n ∧ -9223372036854775808 ≤ n ∧ n ≤ 9223372036854775807
theorem RdN.bad {r bb : Nat} {rs : List UInt8} {wr : Bool} {w : World} (h : RdR w r bb rs wr) (hd : decN rs = none) : RdN r bb rs wr w (.returned (.int .i64 0)) ((w.setCell ⟨r, 1, none⟩ (.bool true)).setCell ⟨r, 0, none⟩ (.slice none 0 0)) := by
  refine ⟨0, [], true, rfl, RdR.step h.wrong (rs' := []) (fun i hi => by simp at hi) (by simp) (by decide) (fun A hA => by cases hA), (Upd.set (M := fun k => k = r) rfl).trans (Upd.set (M := fun k => k = r) rfl) (fun _ _ h => h), ⟨by simp, fun _ => rfl, fun _ => .inr ⟨rfl, hd⟩⟩, by decide, by decide⟩
theorem RdN.good {r bb : Nat} {rs rs' : List UInt8} {wr : Bool} {w : World} {n : Int} (h : RdR w r bb rs wr) (hd : decN rs = some (n, rs')) {a : Option Addr} {len cap : Nat} (hl : len = rs'.length) (hb : BytesAt w a rs') (hc : rs'.length ≤ cap) (hc2 : (cap : Int) ≤ 9223372036854775807) (ha : ∀ A, a = some A → A.block = bb) {m : Int} (hm : m = n) :
    RdN r bb rs wr w (.returned (.int .i64 m)) (w.setCell ⟨r, 0, none⟩ (.slice a len cap)) := by
  subst hl
  subst hm
  have h1 := encN_decN hd
  refine ⟨m, rs', wr, rfl, h.step hb hc hc2 ha, Upd.set rfl, ⟨Nat.le_of_lt (decN_shorter hd), fun e => e, fun e => .inl ⟨e, hd⟩⟩, h1.2.1, h1.2.2⟩

set_option maxRecDepth 100000 in
set_option maxHeartbeats 8000000 in
theorem num_rd (r bb : Nat) (rs : List UInt8) (wr : Bool) (w : World) (h : RdR w r bb rs wr) :
    Calls Try.prog 96 #[vP r 0] w (RdN r bb rs wr w) := by
  obtain ⟨a, cap, c0, c1, cf, hcap, hby, haa, hbc, hcap2⟩ := h.facts
  have HC := hidden h
  have HB := hidden hby
  have HA := hidden haa
  clear h hby haa
  go_enter Try.func96, Try.ntmps96
  go_wp2_with fail
  go_loop [3, 4, 12] (fun s3 s4 s12 => ∃ (i acc sh : Nat), s3 = .int .u64 acc ∧ s4 = .int .i64 sh ∧ s12 = .int .i64 i ∧ sh = 7 * i ∧ i ≤ rs.length ∧ i ≤ 9 ∧ acc < 128 ^ i ∧ decU 0 0 rs = decU i acc (rs.drop i)) (fun _ _ s12 => rs.length - (intOf s12).toNat)
  case atStart => exact ⟨0, 0, 0, rfl, rfl, rfl, rfl, by omega, by omega, by simp, rfl⟩
  case round =>
    obtain ⟨i, acc, sh, rfl, rfl, rfl, hsh, hi, hi9, hacc, hdec⟩ := hrel
    have HD := hidden hdec
    have HACC := hidden hacc
    have HSH := hidden hsh
    clear hdec hacc
    by_cases hlt : i < rs.length
    · obtain ⟨b, o, rfl, hx⟩ := HB.out i hlt
      have hdr : rs.drop i = rs[i] :: rs.drop (i + 1) := List.drop_eq_getElem_cons hlt
      have hdl : (rs.drop (i + 1)).length = rs.length - (i + 1) := List.length_drop
      generalize rs[i] = x at hx hdr
      rw [hdr] at HD
      generalize hcur : rs.drop (i + 1) = cur at hdr hdl HD
      have HCUR := hidden hcur
      clear hdr hcur
      by_cases hbad : (i = 9 ∧ 1 < x.toNat) ∨ (0 < i ∧ x.toNat = 0)
      · have h0 : Hid (decN rs = none) := by show _ = _; unfold decN; rw [HD.out]; simp only [decU, if_pos hbad]; rfl
        clear hsh
        rcases hbad with ⟨hi9', hx1⟩ | ⟨hi0, hx0⟩
        · have hsh : sh = 63 := by have := HSH.out; omega
          subst hsh
          subst hi9'
          go_wp2_with fail
          go_ret
          exact RdN.bad HC.out h0.out
        · have h9 : ¬ 1 < x.toNat := by omega
          have t2 : 0 < i := hi0
          have t5 : ((x.toNat : Int) == 0) = true := by simp; omega
          by_cases h63 : sh = 63
          · subst h63
            go_wp2_with fail
            go_ret
            exact RdN.bad HC.out h0.out
          · have t1 : ((sh : Int) == 63) = false := by simp; omega
            go_wp2_with fail
            go_ret
            exact RdN.bad HC.out h0.out
      · have hx9 : i = 9 → x.toNat ≤ 1 := fun h => Nat.not_lt.1 fun k => hbad (.inl ⟨h, k⟩)
        have hx0 : 0 < i → x.toNat ≠ 0 := fun h k => hbad (.inr ⟨h, k⟩)
        have HS : Hid (decU i acc (x :: cur) = if x.toNat < 128 then some (acc + x.toNat % 128 * 128 ^ i, cur) else decU (i + 1) (acc + x.toNat % 128 * 128 ^ i) cur) := by
          show _ = _; rw [decU, if_neg hbad]
        obtain ⟨hor, hU64⟩ := or_step HACC.out x.toNat_lt hi9 hx9
        rw [← hsh] at hor
        have HPOW : Hid (acc + x.toNat % 128 * 128 ^ i < 128 ^ (i + 1)) := by
          show _ < _
          have h1 : x.toNat % 128 * 128 ^ i ≤ 127 * 128 ^ i := Nat.mul_le_mul_right _ (by omega)
          have h2 : 128 ^ (i + 1) = 128 * 128 ^ i := by rw [Nat.pow_succ, Nat.mul_comm]
          have := HACC.out
          omega
        generalize acc + x.toNat % 128 * 128 ^ i = U at hor hU64 HS HPOW
        have hao := and_one hU64
        have HEXIT : Hid (x.toNat < 128 → decN rs = some (unzig U, cur)) := by
          intro h
          unfold decN
          rw [HD.out, HS.out, if_pos h]; rfl
        have HNEXT : Hid (¬ x.toNat < 128 → decU 0 0 rs = decU (i + 1) U (rs.drop (i + 1))) := by
          intro h
          rw [HD.out, HS.out, if_neg h, HCUR.out]
        have HEV : Hid (U % 2 = 0 → (U : Int) / 2 = unzig U) := hidden (unz_even hU64)
        have HOD : Hid (U % 2 = 1 → wrap64 (bits .xor .u64 ((U : Int) / 2) 18446744073709551615) = unzig U) := hidden (unz_odd hU64)
        have HBD : Hid (BytesAt w (some ⟨b, o + (i + 1), none⟩) cur) := hidden (by rw [← HCUR.out]; exact HB.out.drop (i + 1))
        have HDL : Hid (cur.length = rs.length - (i + 1)) := hidden hdl
        have HNIL : Hid (cap ≤ i + 1 → BytesAt w (some ⟨b, o, none⟩) cur) := hidden (fun h j hj => by rw [HDL.out] at hj; omega)
        have hsh63 : sh ≤ 63 := by omega
        have hsh9 : sh < 63 ∨ sh = 63 := by omega
        clear hbad hsh hdl
        have HX := hidden hcap
        have key : ∀ (m : Int), m = unzig U → x.toNat < 128 → ∀ (A : Option Addr) (len c2 : Nat), len = cur.length → (A = some ⟨b, o + (i + 1), none⟩ ∨ (A = some ⟨b, o, none⟩ ∧ cap ≤ i + 1)) → c2 = cap - (i + 1) → RdN r bb rs wr w (.returned (.int .i64 m)) (w.setCell ⟨r, 0, none⟩ (.slice A len c2)) := by
          intro m hm h128 A len c2 hl hA hc2
          refine RdN.good HC.out (HEXIT.out h128) hl ?_ (by rw [HDL.out]; omega) (by omega) (fun A' hA' => ?_) hm
          · rcases hA with rfl | ⟨rfl, h⟩
            · exact HBD.out
            · exact HNIL.out h
          · have := HA.out ⟨b, o, none⟩ rfl
            rcases hA with rfl | ⟨rfl, h⟩ <;> (cases hA'; exact this)
        have KEY := hidden key
        clear key
        have t7 : U % 2 = 0 ∨ U % 2 = 1 := by omega
        by_cases h63 : sh = 63
        · have t0 : ((sh : Int) == 63) = true := by simp; omega
          have h9 : i = 9 := by have := HSH.out; omega
          have t3 : ¬ 1 < x.toNat := by have := hx9 h9; omega
          have t4 : 0 < i := by omega
          have t5 : ((x.toNat : Int) == 0) = false := by have := hx0 t4; simp; omega
          have t6 : x.toNat < 128 := by omega
          clear h63 hsh9 h9 hx9 hx0
          rcases t7 with t7 | t7
          · have t8 : (bits .and .u64 (U : Int) 1 == 1) = false := by rw [hao, t7]; rfl
            have HEV2 := hidden (HEV.out t7)
            clear t7 hao
            go_wp2_with fail
            · go_ret
              exact KEY.out _ HEV2.out t6 _ _ _ HDL.out.symm (.inr ⟨rfl, by omega⟩) (by omega)
            · go_ret
              exact KEY.out _ HEV2.out t6 _ _ _ HDL.out.symm (.inl rfl) rfl
          · have t8 : (bits .and .u64 (U : Int) 1 == 1) = true := by rw [hao, t7]; rfl
            have HOD2 := hidden (HOD.out t7)
            clear t7 hao
            go_wp2_with fail
            · go_ret
              exact KEY.out _ HOD2.out t6 _ _ _ HDL.out.symm (.inr ⟨rfl, by omega⟩) (by omega)
            · go_ret
              exact KEY.out _ HOD2.out t6 _ _ _ HDL.out.symm (.inl rfl) rfl
        · have t0 : ((sh : Int) == 63) = false := by simp; omega
          have hi8 : i ≤ 8 := by have := HSH.out; omega
          clear h63 hsh9 hx9
          by_cases t6 : x.toNat < 128
          · by_cases t4 : 0 < i
            · have t5 : ((x.toNat : Int) == 0) = false := by have := hx0 t4; simp; omega
              clear hx0
              rcases t7 with t7 | t7
              · have t8 : (bits .and .u64 (U : Int) 1 == 1) = false := by rw [hao, t7]; rfl
                have HEV2 := hidden (HEV.out t7)
                clear t7 hao
                go_wp2_with fail
                · go_ret
                  exact KEY.out _ HEV2.out t6 _ _ _ HDL.out.symm (.inr ⟨rfl, by omega⟩) (by omega)
                · go_ret
                  exact KEY.out _ HEV2.out t6 _ _ _ HDL.out.symm (.inl rfl) rfl
              · have t8 : (bits .and .u64 (U : Int) 1 == 1) = true := by rw [hao, t7]; rfl
                have HOD2 := hidden (HOD.out t7)
                clear t7 hao
                go_wp2_with fail
                · go_ret
                  exact KEY.out _ HOD2.out t6 _ _ _ HDL.out.symm (.inr ⟨rfl, by omega⟩) (by omega)
                · go_ret
                  exact KEY.out _ HOD2.out t6 _ _ _ HDL.out.symm (.inl rfl) rfl
            · clear hx0
              rcases t7 with t7 | t7
              · have t8 : (bits .and .u64 (U : Int) 1 == 1) = false := by rw [hao, t7]; rfl
                have HEV2 := hidden (HEV.out t7)
                clear t7 hao
                go_wp2_with fail
                · go_ret
                  exact KEY.out _ HEV2.out t6 _ _ _ HDL.out.symm (.inr ⟨rfl, by omega⟩) (by omega)
                · go_ret
                  exact KEY.out _ HEV2.out t6 _ _ _ HDL.out.symm (.inl rfl) rfl
              · have t8 : (bits .and .u64 (U : Int) 1 == 1) = true := by rw [hao, t7]; rfl
                have HOD2 := hidden (HOD.out t7)
                clear t7 hao
                go_wp2_with fail
                · go_ret
                  exact KEY.out _ HOD2.out t6 _ _ _ HDL.out.symm (.inr ⟨rfl, by omega⟩) (by omega)
                · go_ret
                  exact KEY.out _ HOD2.out t6 _ _ _ HDL.out.symm (.inl rfl) rfl
          · have HN := hidden (HNEXT.out t6)
            have t5 : ((x.toNat : Int) == 0) = false := by simp; omega
            have HSH7 : Hid (sh + 7 = 7 * (i + 1)) := hidden (by have := HSH.out; omega)
            clear hx0 hao
            by_cases t4 : 0 < i
            · go_wp2_with fail
              exact ⟨⟨i + 1, U, sh + 7, rfl, by go_num, by go_num, HSH7.out, by omega, by omega, HPOW.out, HN.out⟩, by simp [intOf]; omega⟩
            · go_wp2_with fail
              exact ⟨⟨i + 1, U, sh + 7, rfl, by go_num, by go_num, HSH7.out, by omega, by omega, HPOW.out, HN.out⟩, by simp [intOf]; omega⟩
    · have h0 : Hid (decN rs = none) := by
        show _ = _; unfold decN; rw [HD.out, List.drop_eq_nil_of_le (by omega)]; rfl
      clear hsh
      go_wp2_with fail
      go_ret
      exact RdN.bad HC.out h0.out

/-- What count leaves. -/
def RdC (r bb : Nat) (rs : List UInt8) (wr : Bool) (w : World) (e : Ending) (w' : World) : Prop :=
  ∃ (n : Nat) (rs' : List UInt8) (wr' : Bool), e = .returned (.int .i64 n) ∧ RdR w' r bb rs' wr' ∧ Upd (fun k => k = r) w w' ∧ Dec decC wr rs wr' rs' n ∧ n ≤ rs'.length
theorem Dec.count {wr wr1 : Bool} {c c1 : List UInt8} {m : Int} (h : Dec decN wr c wr1 c1 m) (hc : 0 ≤ m ∧ m ≤ c1.length) : Dec decC wr c wr1 c1 m.toNat := by
  refine ⟨h.1, h.2.1, fun e => ?_⟩
  rcases h.2.2 e with ⟨h1, h2⟩ | ⟨h1, h2⟩
  · exact .inl ⟨h1, by unfold decC; rw [h2]; simp [hc]⟩
  · exact .inr ⟨h1, by unfold decC; rw [h2]; rfl⟩
theorem Dec.nocount {wr wr1 : Bool} {c c1 : List UInt8} {m : Int} (h : Dec decN wr c wr1 c1 m) (hc : ¬ (0 ≤ m ∧ m ≤ c1.length)) : Dec decC wr c true c1 0 := by
  refine ⟨h.1, fun _ => rfl, fun e => .inr ⟨rfl, ?_⟩⟩
  rcases h.2.2 e with ⟨h1, h2⟩ | ⟨h1, h2⟩
  · unfold decC; rw [h2]; simp only [Option.bind_some, if_neg hc]
  · unfold decC; rw [h2]; rfl

set_option maxRecDepth 100000 in
set_option maxHeartbeats 8000000 in
theorem count_rd (r bb : Nat) (rs : List UInt8) (wr : Bool) (w : World) (h : RdR w r bb rs wr) (hl : rs.length ≤ 100000000000) :
    Calls Try.prog 91 #[vP r 0] w (RdC r bb rs wr w) := by
  have HC := hidden h
  clear h
  go_enter Try.func91, Try.ntmps91
  go_wp2_with fail
  with_reducible refine (num_rd r bb rs wr w HC.out).mono ?_
  rintro e w1 ⟨m, rs1, wr1, rfl, h1, hu, hd, hm1, hm2⟩
  have H1 := hidden h1
  have HU := hidden hu
  have HD := hidden hd
  have hl1 : rs1.length ≤ 100000000000 := by have := hd.1; omega
  obtain ⟨a, cap, c0, c1, cf, hcap, -⟩ := h1.facts
  clear h1 hu hd
  by_cases hc : 0 ≤ m ∧ m ≤ rs1.length
  · obtain ⟨m, rfl⟩ : ∃ k : Nat, m = k := ⟨m.toNat, by omega⟩
    have HD2 := hidden (HD.out.count hc)
    have t2 : ¬ (m : Int) < 0 := by omega
    have t3 : ¬ (rs1.length : Int) < m := by omega
    go_wp2_with fail
    go_ret
    exact ⟨m, rs1, wr1, rfl, H1.out, HU.out, HD2.out, by omega⟩
  · have HD2 := hidden (HD.out.nocount hc)
    have HW := hidden H1.out.wrong
    have HUW : Hid (Upd (fun k => k = r) w (w1.setCell ⟨r, 1, none⟩ (.bool true))) := hidden (HU.out.trans (Upd.set (M := fun k => k = r) rfl) (fun _ _ h => h))
    by_cases t2 : m < 0
    · go_wp2_with fail
      go_ret
      exact ⟨0, rs1, true, rfl, HW.out, HUW.out, HD2.out, by omega⟩
    · have t3 : (rs1.length : Int) < m := by omega
      go_wp2_with fail
      go_ret
      exact ⟨0, rs1, true, rfl, HW.out, HUW.out, HD2.out, by omega⟩

/-- What text leaves. -/
def RdT (r bb : Nat) (rs : List UInt8) (wr : Bool) (w : World) (e : Ending) (w' : World) : Prop :=
  ∃ (s : List UInt8) (rs' : List UInt8) (wr' : Bool), e = .returned (.string (strOf s)) ∧ RdR w' r bb rs' wr' ∧ Upd (fun k => k = r) w w' ∧ Dec decT wr rs wr' rs' s
theorem RdT.good {r bb : Nat} {rs r1 : List UInt8} {n : Nat} {w w1 : World} (h : RdR w1 r bb r1 false) (hu : Upd (fun k => k = r) w w1) {wr : Bool} (hd : Dec decC wr rs false r1 n) (hn : n ≤ r1.length) {A : Option Addr} {len cap : Nat} (hl : len = r1.length - n) (hb : BytesAt w1 A (r1.drop n)) (hc : r1.length - n ≤ cap) (hc2 : (cap : Int) ≤ 9223372036854775807) (ha : ∀ B, A = some B → B.block = bb) :
    RdT r bb rs wr w (.returned (.string (strOf (r1.take n)))) (w1.setCell ⟨r, 0, none⟩ (.slice A len cap)) := by
  subst hl
  have e : r1.length - n = (r1.drop n).length := by rw [List.length_drop]
  obtain ⟨rfl, hdc⟩ := hd.good rfl
  refine ⟨_, r1.drop n, false, rfl, ?_, hu.trans (Upd.set (M := fun k => k = r) rfl) (fun _ _ h => h), ⟨?_, fun e => e, fun _ => .inl ⟨rfl, by unfold decT; rw [hdc]; rfl⟩⟩⟩
  · rw [e]; exact h.step hb (by rw [← e]; exact hc) hc2 ha
  · have := hd.1; rw [List.length_drop]; omega
theorem Dec.notext {wr : Bool} {c c1 : List UInt8} {n : Nat} {s : List UInt8} (h : Dec decC wr c true c1 n) : Dec decT wr c true c1 s :=
  ⟨h.1, fun _ => rfl, fun e => .inr ⟨rfl, by unfold decT; rw [h.bad rfl e]; rfl⟩⟩

set_option maxRecDepth 100000 in
set_option maxHeartbeats 8000000 in
theorem text_rd (r bb : Nat) (rs : List UInt8) (wr : Bool) (w : World) (h : RdR w r bb rs wr) (hl : rs.length ≤ 100000000000) :
    Calls Try.prog 92 #[vP r 0] w (RdT r bb rs wr w) := by
  have HC := hidden h
  clear h
  go_enter Try.func92, Try.ntmps92
  go_wp2_with fail
  with_reducible refine (count_rd r bb rs wr w HC.out hl).mono ?_
  rintro e w1 ⟨n, r1, wr1, rfl, h1, hu, hd, hn⟩
  have H1 := hidden h1
  have HU := hidden hu
  have HD := hidden hd
  have hl1 : r1.length ≤ 100000000000 := by have := hd.1; omega
  obtain ⟨a, cap, c0, c1, cf, hcap, hby, haa, hbc, hcap2⟩ := h1.facts
  have HB := hidden hby
  clear h1 hu hd hby
  cases wr1 with
  | true =>
    go_wp2_with fail
    go_ret
    exact ⟨[], r1, true, rfl, H1.out, HU.out, HD.out.notext⟩
  | false =>
    have HT : Hid (BytesAt w1 a (r1.take n)) := hidden (HB.out.take n)
    have hlt : (r1.take n).length = n := by rw [List.length_take]; omega
    have hcv := run_str HT.out n cap hlt.symm
    clear hlt
    cases a with
    | none =>
      have hr0 : r1 = [] := by
        cases r1 with
        | nil => rfl
        | cons x r => obtain ⟨b, o, e, _⟩ := HB.out 0 (by simp); cases e
      subst hr0
      have hn0 : n = 0 := by simpa using hn
      subst hn0
      go_wp2_with fail
      all_goals
        go_ret
        exact RdT.good H1.out HU.out HD.out hn rfl (fun i hi => by simp at hi) (by simp) (by omega) (by intro A hA; cases hA)
    | some A =>
      obtain ⟨ab, ao, sp⟩ := A
      have hab := haa _ rfl
      simp only at hab
      subst hab
      have HBD := hidden (HB.out.drop_add n)
      clear haa
      go_wp2_with fail
      · go_ret
        exact RdT.good H1.out HU.out HD.out hn rfl (fun i hi => by rw [List.length_drop] at hi; omega) (by omega) (by omega) (by intro A hA; cases hA; rfl)
      · go_ret
        exact RdT.good H1.out HU.out HD.out hn rfl HBD.out (by omega) (by omega) (by intro A hA; cases hA; unfold Addr.add; split <;> rfl)
end Go.Proofs.Ytekmjegeiminnaa
