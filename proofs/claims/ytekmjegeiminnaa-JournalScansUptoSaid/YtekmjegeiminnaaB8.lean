/- The codec that writes: its state in memory; num, walked. -/
import Derived.Test.YtekmjegeiminnaaB4
import Derived.Test.YtekmjegeiminnaaP1
import Derived.Deep.RegionHeld3
namespace Go.Proofs.Ytekmjegeiminnaa
open Go.RowKit
set_option linter.unusedVariables false
set_option linter.unusedSimpArgs false

/-- Block c is a codec that writes; what it has written is the slice v. -/
def CodW (w : World) (c : Nat) (v : Value) : Prop := w.heap[c]? = some (.cells #[v, .slice none 0 0, .bool false] 165 (0, 0))
theorem CodW.facts {w : World} {c : Nat} {v : Value} (h : CodW w c v) : w.cell? ⟨c, 0, none⟩ = some v ∧ w.cell? ⟨c, 1, none⟩ = some (.slice none 0 0) ∧ w.cell? ⟨c, 2, none⟩ = some (.bool false) ∧ (∀ i, w.frozen? ⟨c, i, none⟩ = false) := by
  unfold CodW at h
  refine ⟨by simp [World.cell?, h], by simp [World.cell?, h], by simp [World.cell?, h], fun i => ?_⟩
  simp [World.frozen?, h]
theorem CodW.lt {w : World} {c : Nat} {v : Value} (h : CodW w c v) : c < w.heap.size := (Array.getElem?_eq_some_iff.1 h).1
theorem CodW.upd {M : Nat → Prop} {w w' : World} {c : Nat} {v : Value} (h : CodW w c v) (hu : Upd M w w') (hm : ¬ M c) : CodW w' c v := by
  unfold CodW; rw [hu.block c h.lt hm]; exact h
theorem CodW.set {w : World} {c : Nat} {v : Value} (h : CodW w c v) (v' : Value) : CodW (w.setCell ⟨c, 0, none⟩ v') c v' := by
  unfold CodW at *
  simp only [World.setCell, Array.getElem?_modify, if_true, h]
  rfl

/-- What a writing call leaves. -/
structure Wrote (c : Nat) (v v' : Value) (bs : List UInt8) (w w' : World) : Prop where
  cod : CodW w' c v'
  own : OwnB (c + 1) w' v' bs
  upd : Upd (fun k => k = c ∨ some k = v.ownBlock) w w'
  at_ : v'.ownBlock = v.ownBlock ∨ ∃ g, v'.ownBlock = some g ∧ w.heap.size ≤ g
theorem Wrote.refl {c : Nat} {v : Value} {bs : List UInt8} {w : World} (h1 : CodW w c v) (h2 : OwnB (c + 1) w v bs) : Wrote c v v bs w w := ⟨h1, h2, Upd.refl _ _, .inl rfl⟩
theorem Wrote.trans {c : Nat} {v v' v'' : Value} {bs cs : List UInt8} {w w' w'' : World} (h : Wrote c v v' bs w w') (k : Wrote c v' v'' cs w' w'') : Wrote c v v'' cs w w'' := by
  refine ⟨k.cod, k.own, h.upd.trans k.upd (fun i hi hk => ?_), ?_⟩
  · rcases hk with hk | hk
    · exact .inl hk
    · rcases h.at_ with e | ⟨g, e, hg⟩
      · exact .inr (hk.trans e)
      · rw [e] at hk; cases hk; omega
  · rcases k.at_ with e | ⟨g, e, hg⟩
    · rw [e]; exact h.at_
    · exact .inr ⟨g, e, Nat.le_trans h.upd.size hg⟩
/-- Other memory: new blocks alone. -/
theorem Wrote.new {c : Nat} {v v' : Value} {bs : List UInt8} {w w' w'' : World} (h : Wrote c v v' bs w w') (hb : Below w'.heap.size w' w'') : Wrote c v v' bs w w'' := by
  have hu : Upd (fun _ => False) w' w'' := Upd.ofNew hb
  exact ⟨h.cod.upd hu (fun h => h), h.own.on hu (fun _ _ h => h), h.upd.trans hu (fun _ _ h => h.elim), h.at_⟩

theorem xor_ones (a : Nat) (h : a < 2 ^ 64) : a ^^^ (2 ^ 64 - 1) = 2 ^ 64 - 1 - a := by
  apply Nat.eq_of_testBit_eq
  intro i
  rw [Nat.testBit_xor, Nat.testBit_two_pow_sub_one, show 2 ^ 64 - 1 - a = 2 ^ 64 - (a + 1) by omega, Nat.testBit_two_pow_sub_succ h]
  by_cases hi : i < 64
  · simp [hi]
  · have : a.testBit i = false := Nat.testBit_lt_two_pow (Nat.lt_of_lt_of_le h (Nat.pow_le_pow_right (by decide) (by omega)))
    simp [hi, this]
/-- The number with its sign in the lowest bit, in the walk's own spelling. -/
theorem zig_walk {n : Int} (h : -9223372036854775808 ≤ n ∧ n ≤ 9223372036854775807) :
    bits .xor .u64 (IntKind.u64.wrap (wrap64 (n * 2))) (IntKind.u64.wrap (n / 9223372036854775808)) = (zig n : Int) := by
  rw [IntKind.wrap_u64, IntKind.wrap_u64]
  by_cases h0 : 0 ≤ n
  · have e1 : n / 9223372036854775808 % 18446744073709551616 = ((0 : Nat) : Int) := by omega
    have e2 : wrap64 (n * 2) % 18446744073709551616 = ((2 * n).toNat : Int) := by unfold wrap64; omega
    rw [e1, e2, u64_xor_nat _ _ (by omega) (by omega), zig, if_pos h0, Nat.xor_zero]
  · have e1 : n / 9223372036854775808 % 18446744073709551616 = ((2 ^ 64 - 1 : Nat) : Int) := by
      have : n / 9223372036854775808 = -1 := by omega
      rw [this]; rfl
    have e2 : wrap64 (n * 2) % 18446744073709551616 = ((18446744073709551616 + 2 * n).toNat : Int) := by unfold wrap64; omega
    rw [e1, e2, u64_xor_nat _ _ (by omega) (by decide), xor_ones _ (by simp; omega), zig, if_neg h0]
    simp; omega
theorem or128 (u : Nat) : bits .or .u8 ((u : Int) % 256) 128 = ((UInt8.ofNat (u % 128 + 128)).toNat : Int) := by
  rw [ofNat_small (by omega)]
  have e : (u : Int) % 256 = ((u % 256 : Nat) : Int) := by omega
  rw [e]
  have := u8_or_nat (u % 256) 128 (by omega) (by omega)
  rw [show ((128 : Nat) : Int) = 128 from rfl] at this
  rw [this]
  congr 1
  have h := Nat.two_pow_add_eq_or_of_lt (i := 7) (b := u % 128) (by omega) 1
  rcases Nat.lt_or_ge (u % 256) 128 with hl | hl
  · have e3 : u % 256 = u % 128 := by omega
    rw [e3, Nat.or_comm]; simpa [Nat.add_comm] using h.symm
  · have e3 : u % 256 = 128 ||| u % 128 := by simpa using (show u % 256 = 2 ^ 7 * 1 + u % 128 by omega).trans h
    rw [e3, Nat.or_comm, ← Nat.or_assoc, Nat.or_self]; simpa [Nat.add_comm] using h.symm

/-- Behind an append and the store of its slice into the codec. -/
theorem Wrote.store {c : Nat} {v v2 : Value} {bs : List UInt8} {w w1 w2 : World} (hc : CodW w c v) (hlt : ∀ k, v.ownBlock = some k → c + 1 ≤ k) (hb : Below w.heap.size w w1) (hg : Grew (c + 1) v v2 bs w1 w2) :
    Wrote c v v2 bs w (w2.setCell ⟨c, 0, none⟩ v2) := by
  have hu1 : Upd (fun k => k = c ∨ some k = v.ownBlock) w w1 := Upd.ofNew hb
  have hc1 : CodW w1 c v := hc.upd (Upd.ofNew (M := fun _ => False) hb) (fun h => h)
  have hc2 : CodW w2 c v := hc1.upd hg.upd (fun e => by have := hlt c e.symm; omega)
  have hs : Upd (fun k => k = c) w2 (w2.setCell ⟨c, 0, none⟩ v2) := Upd.set rfl
  refine ⟨hc2.set v2, hg.own.on hs (fun k hk e => by have := (hg.own.lt k hk).1; omega), (hu1.trans hg.upd (fun i _ h => .inr h)).trans hs (fun i _ h => .inl h), ?_⟩
  rcases hg.at_ with e | ⟨g, e, hg'⟩
  · exact .inl e
  · exact .inr ⟨g, e, Nat.le_trans hb.size hg'⟩
theorem CodW.grew {c : Nat} {v v2 : Value} {bs : List UInt8} {w w1 w2 : World} (hc : CodW w c v) (hlt : ∀ k, v.ownBlock = some k → c + 1 ≤ k) (hb : Below w.heap.size w w1) (hg : Grew (c + 1) v v2 bs w1 w2) : CodW w2 c v :=
  (hc.upd (Upd.ofNew (M := fun _ => False) hb) (fun h => h)).upd hg.upd (fun e => by have := hlt c e.symm; omega)
theorem one_byte {w : World} {x : UInt8} {B : Nat} (hB : B = w.heap.size) : BytesAt (w.alloc (.cells #[bV x] 5)) (some ⟨B, 0, none⟩) [x] := fun i hi => by
  have : i = 0 := by simp at hi; exact hi
  subst this
  exact ⟨B, 0, rfl, by rw [World.cell?_alloc_at _ _ _ _ hB]; rfl⟩

set_option maxRecDepth 100000 in
set_option maxHeartbeats 8000000 in
theorem num_w (c pb po : Nat) (v : Value) (bs : List UInt8) (n : Int) (w : World) (hn : -9223372036854775808 ≤ n ∧ n ≤ 9223372036854775807) (hc : CodW w c v) (ho : OwnB (c + 1) w v bs)
    (hp : w.cell? ⟨pb, po, none⟩ = some (.int .i64 n)) (hl : bs.length ≤ 140737488355000) :
    Calls Try.prog 103 #[.pointer (some ⟨c, 0, none⟩), .pointer (some ⟨pb, po, none⟩)] w fun e w' => e = .returned (.tuple #[]) ∧ ∃ v', Wrote c v v' (bs ++ encN n) w w' := by
  obtain ⟨c0, c1, c2, cf⟩ := hc.facts
  have HC := hidden hc
  have HO := hidden ho
  have ZW := hidden (zig_walk hn)
  have ZL := zig_lt hn
  have HE := hidden (encN_length hn)
  clear hc ho
  go_enter Try.func103, Try.ntmps103
  go_wp2_with fail
  go_quiet (fail)
  rw [ZW.out]
  clear hn ZW hp cf
  have hzz : (2 : Nat) ^ 64 = 18446744073709551616 := by decide
  rw [hzz] at ZL
  clear hzz
  go_wp2_with fail
  go_loopw [4] (fun s wr => ∃ (u : Nat) (pre : List UInt8) (v' : Value), s = .int .u64 u ∧ u ≤ zig n ∧ encN n = pre ++ encU u ∧ Wrote c v v' (bs ++ pre) w wr) (fun s _ => (intOf s).toNat)
  case atStart => exact ⟨zig n, [], v, rfl, Nat.le_refl _, rfl, by rw [List.append_nil]; exact (Wrote.refl HC.out HO.out).new (below_dn (Below.refl _ _) _)⟩
  case round =>
    clear c0 c1 c2
    obtain ⟨u, pre, v', rfl, hu, hpre, hw⟩ := hrel
    have HW := hidden hw
    have HP := hidden hpre
    obtain ⟨c0, c1, c2, cf⟩ := hw.cod.facts
    have hlp : pre.length ≤ 10 := by have := HE.out; rw [HP.out, List.length_append] at this; omega
    clear hw hpre
    by_cases hbig : 127 < u
    · have hor := or128 u
      generalize hx : UInt8.ofNat (u % 128 + 128) = x at hor
      have HX := hidden hx
      clear hx
      have hlt := fun k hk => (HW.out.own.lt k hk).1
      have HLT := hidden hlt
      clear hlt
      go_wp2_with (at_builtin; go_loud (refine wpList_append_B rfl (.tmp 32) (.tmp 36) rfl rfl (v := v') (HW.out.own.on (M := fun _ => False) (Upd.new _ _) (fun _ _ h => h)) (cs := [x]) rfl rfl (one_byte rfl) (by simp; omega) (by have := HW.out.cod.lt; rw [World.size_alloc]; omega) ?_); intro v2 w2 g2; have G2 := hidden g2; have HC2 := hidden (HW.out.cod.grew HLT.out ((Below.refl _ _).alloc (Nat.le_refl _) _) g2); obtain ⟨a2, cap2, rfl, _, _, _⟩ := g2.own.reads; clear g2; obtain ⟨d0, d1, d2, df⟩ := HC2.out.facts)
      go_ways
      have hout := HW.out.trans (Wrote.store HW.out.cod HLT.out ((Below.refl _ _).alloc (Nat.le_refl _) _) G2.out)
      rw [show (bs ++ pre ++ [x]).length = bs.length + (pre.length + 1) by simp] at hout
      refine ⟨⟨u / 128, pre ++ [x], _, by simp, by omega, ?_, by rw [← List.append_assoc]; exact hout⟩, by simp [intOf]; omega⟩
      rw [HP.out, encU_big (by omega), HX.out]; simp [Nat.add_comm]
    · obtain ⟨x, rfl⟩ : ∃ x : UInt8, u = x.toNat := ⟨UInt8.ofNat u, (ofNat_small (by omega)).symm⟩
      have hlt := fun k hk => (HW.out.own.lt k hk).1
      have HLT := hidden hlt
      clear hlt
      go_wp2_with (at_builtin; go_loud (refine wpList_append_B rfl (.tmp 44) (.tmp 47) rfl rfl (v := v') (HW.out.own.on (M := fun _ => False) (Upd.new _ _) (fun _ _ h => h)) (cs := [x]) rfl rfl (one_byte rfl) (by simp; omega) (by have := HW.out.cod.lt; rw [World.size_alloc]; omega) ?_); intro v2 w2 g2; have G2 := hidden g2; have HC2 := hidden (HW.out.cod.grew HLT.out ((Below.refl _ _).alloc (Nat.le_refl _) _) g2); obtain ⟨a2, cap2, rfl, _, _, _⟩ := g2.own.reads; clear g2; obtain ⟨d0, d1, d2, df⟩ := HC2.out.facts)
      go_ways
      have hout := HW.out.trans (Wrote.store HW.out.cod HLT.out ((Below.refl _ _).alloc (Nat.le_refl _) _) G2.out)
      rw [show (bs ++ pre ++ [x]).length = bs.length + (pre.length + 1) by simp, List.append_assoc, show pre ++ [x] = encN n by rw [HP.out, encU_small (by omega)]; simp] at hout
      exact bodyPost_ret (v := .tuple #[]) (by simp [results, Try.results103, go_sem]) rfl ⟨rfl, _, hout⟩
end Go.Proofs.Ytekmjegeiminnaa
