/- The reference's numbers: num and Ints, walked; two slices of ints that read alike. -/
import Derived.Test.YtekmjegeiminnaaB15
namespace Go.Proofs.Ytekmjegeiminnaa
open Go.RowKit
set_option linter.unusedVariables false
set_option linter.unusedSimpArgs false

theorem Grew.refl {B : Nat} {v : Value} {bs : List UInt8} {w : World} (h : OwnB B w v bs) : Grew B v v bs w w := ⟨h, Upd.refl _ _, .inl rfl⟩
theorem Grew.trans {B : Nat} {v v' v'' : Value} {bs cs : List UInt8} {w w' w'' : World} (h : Grew B v v' bs w w') (k : Grew B v' v'' cs w' w'') : Grew B v v'' cs w w'' := by
  refine ⟨k.own, h.upd.trans k.upd (fun i hi e => ?_), ?_⟩
  · rcases h.at_ with e' | ⟨g, e', hg⟩
    · exact e.trans e'
    · rw [e'] at e; cases e; omega
  · rcases k.at_ with e | ⟨g, e, hg⟩
    · rw [e]; exact h.at_
    · exact .inr ⟨g, e, Nat.le_trans h.upd.size hg⟩
/-- New blocks ahead of an append. -/
theorem Grew.ahead {B : Nat} {v v' : Value} {bs : List UInt8} {w w1 w' : World} (hb : Below w.heap.size w w1) (h : Grew B v v' bs w1 w') : Grew B v v' bs w w' :=
  ⟨h.own, (Upd.ofNew hb).trans h.upd (fun _ _ h => h), by
    rcases h.at_ with e | ⟨g, e, hg⟩
    · exact .inl e
    · exact .inr ⟨g, e, Nat.le_trans hb.size hg⟩⟩

/-- A slice of the calls' own: its capacity is one of an int. -/
theorem own_cap {B : Nat} {w : World} {e : TypeId} {sz n m : Nat} {a : Option Addr} {cap : Nat} {xs : List Value} {v : Value} (h : w.ownsRow B e sz v n xs) (hv : v = .slice a m cap) : (cap : Int) ≤ 9223372036854775807 := by
  rcases h.2 with ⟨rfl, _⟩ | ⟨g, c, cur, rfl, _, _, _, hm, _⟩
  · cases hv; decide
  · cases hv; unfold maxLen at hm; omega
/-- The reference's spelling of a number below 0. -/
theorem zig_ref {n : Int} (h : -9223372036854775808 ≤ n ∧ n ≤ 9223372036854775807) (h0 : n < 0) :
    bits .xor .u64 (IntKind.u64.wrap (IntKind.u64.wrap n * 2)) 18446744073709551615 = (zig n : Int) := by
  rw [IntKind.wrap_u64, IntKind.wrap_u64]
  have e1 : n % 18446744073709551616 * 2 % 18446744073709551616 = ((18446744073709551616 + 2 * n).toNat : Int) := by omega
  have := u64_xor_nat (18446744073709551616 + 2 * n).toNat (2 ^ 64 - 1) (by omega) (by decide)
  rw [show ((2 ^ 64 - 1 : Nat) : Int) = 18446744073709551615 from rfl] at this
  rw [e1, this, xor_ones _ (by simp; omega), zig, if_neg (by omega)]
  simp; omega

set_option maxRecDepth 100000 in
set_option maxHeartbeats 8000000 in
theorem refnum (B : Nat) (v : Value) (bs : List UInt8) (n : Int) (w : World) (hn : -9223372036854775808 ≤ n ∧ n ≤ 9223372036854775807) (ho : OwnB B w v bs) (hB : B ≤ w.heap.size) (hl : bs.length ≤ 140737488355000) :
    Calls Try.prog 74 #[v, .int .i64 n] w fun e w' => ∃ v', e = .returned v' ∧ Grew B v v' (bs ++ encN n) w w' := by
  have HG := hidden (Grew.refl ho)
  have HE := hidden (encN_length hn)
  clear ho
  have ZL := zig_lt hn
  have hzz : (2 : Nat) ^ 64 = 18446744073709551616 := by decide
  rw [hzz] at ZL
  clear hzz
  by_cases h0 : n < 0
  · have ZR := zig_ref hn h0
    go_enter Try.func74, Try.ntmps74
    go_wp2_with fail
    go_loopw [0, 5] (fun s0 s5 wr => ∃ (u : Nat) (pre : List UInt8), s5 = .int .u64 u ∧ u ≤ zig n ∧ encN n = pre ++ encU u ∧ Grew B v s0 (bs ++ pre) w wr) (fun _ s5 _ => (intOf s5).toNat)
    case atStart => exact ⟨zig n, [], rfl, Nat.le_refl _, rfl, by rw [List.append_nil]; exact HG.out⟩
    case round =>
      rename_i v0 v5 _
      obtain ⟨u, pre, rfl, hu, hpre, hg⟩ := hrel
      have HGR := hidden hg
      have HP := hidden hpre
      have hlp : pre.length ≤ 10 := by have := HE.out; rw [HP.out, List.length_append] at this; omega
      have hBr := Nat.le_trans hB hg.upd.size
      clear hg hpre
      by_cases hbig : 127 < u
      · have hor := or128 u
        generalize hx : UInt8.ofNat (u % 128 + 128) = x at hor
        have HX := hidden hx
        clear hx
        go_wp2_with (at_builtin; go_loud (refine wpList_append_B rfl (.tmp 15) (.tmp 19) rfl rfl (HGR.out.own.on (M := fun _ => False) (Upd.new _ _) (fun _ _ h => h)) (cs := [x]) rfl rfl (one_byte rfl) (by simp; omega) (by rw [World.size_alloc]; omega) ?_); intro v2 w2 g2; have G2 := hidden (g2.ahead ((Below.refl _ _).alloc (Nat.le_refl _) _)); clear g2)
        refine ⟨⟨u / 128, pre ++ [x], by simp, by omega, ?_, by rw [← List.append_assoc]; exact HGR.out.trans G2.out⟩, by simp [intOf]; omega⟩
        rw [HP.out, encU_big (by omega), HX.out]; simp [Nat.add_comm]
      · obtain ⟨x, rfl⟩ : ∃ x : UInt8, u = x.toNat := ⟨UInt8.ofNat u, (ofNat_small (by omega)).symm⟩
        go_wp2_with (at_builtin; go_loud (refine wpList_append_B rfl (.tmp 23) (.tmp 26) rfl rfl (HGR.out.own.on (M := fun _ => False) (Upd.new _ _) (fun _ _ h => h)) (cs := [x]) rfl rfl (one_byte rfl) (by simp; omega) (by rw [World.size_alloc]; omega) ?_); intro v2 w2 g2; have G2 := hidden (g2.ahead ((Below.refl _ _).alloc (Nat.le_refl _) _)); clear g2)
        go_ret
        have hout := HGR.out.trans G2.out
        rw [List.append_assoc, show pre ++ [x] = encN n by rw [HP.out, encU_small (by omega)]; simp] at hout
        exact ⟨_, rfl, hout⟩
  · go_enter Try.func74, Try.ntmps74
    go_wp2_with fail
    go_loopw [0, 5] (fun s0 s5 wr => ∃ (u : Nat) (pre : List UInt8), s5 = .int .u64 u ∧ u ≤ zig n ∧ encN n = pre ++ encU u ∧ Grew B v s0 (bs ++ pre) w wr) (fun _ s5 _ => (intOf s5).toNat)
    case atStart => exact ⟨zig n, [], (by congr 1; unfold zig; rw [if_pos (by omega)]; omega), Nat.le_refl _, rfl, by rw [List.append_nil]; exact HG.out⟩
    case round =>
      rename_i v0 v5 _
      obtain ⟨u, pre, rfl, hu, hpre, hg⟩ := hrel
      have HGR := hidden hg
      have HP := hidden hpre
      have hlp : pre.length ≤ 10 := by have := HE.out; rw [HP.out, List.length_append] at this; omega
      have hBr := Nat.le_trans hB hg.upd.size
      clear hg hpre
      by_cases hbig : 127 < u
      · have hor := or128 u
        generalize hx : UInt8.ofNat (u % 128 + 128) = x at hor
        have HX := hidden hx
        clear hx
        go_wp2_with (at_builtin; go_loud (refine wpList_append_B rfl (.tmp 15) (.tmp 19) rfl rfl (HGR.out.own.on (M := fun _ => False) (Upd.new _ _) (fun _ _ h => h)) (cs := [x]) rfl rfl (one_byte rfl) (by simp; omega) (by rw [World.size_alloc]; omega) ?_); intro v2 w2 g2; have G2 := hidden (g2.ahead ((Below.refl _ _).alloc (Nat.le_refl _) _)); clear g2)
        refine ⟨⟨u / 128, pre ++ [x], by simp, by omega, ?_, by rw [← List.append_assoc]; exact HGR.out.trans G2.out⟩, by simp [intOf]; omega⟩
        rw [HP.out, encU_big (by omega), HX.out]; simp [Nat.add_comm]
      · obtain ⟨x, rfl⟩ : ∃ x : UInt8, u = x.toNat := ⟨UInt8.ofNat u, (ofNat_small (by omega)).symm⟩
        go_wp2_with (at_builtin; go_loud (refine wpList_append_B rfl (.tmp 23) (.tmp 26) rfl rfl (HGR.out.own.on (M := fun _ => False) (Upd.new _ _) (fun _ _ h => h)) (cs := [x]) rfl rfl (one_byte rfl) (by simp; omega) (by rw [World.size_alloc]; omega) ?_); intro v2 w2 g2; have G2 := hidden (g2.ahead ((Below.refl _ _).alloc (Nat.le_refl _) _)); clear g2)
        go_ret
        have hout := HGR.out.trans G2.out
        rw [List.append_assoc, show pre ++ [x] = encN n by rw [HP.out, encU_small (by omega)]; simp] at hout
        exact ⟨_, rfl, hout⟩
end Go.Proofs.Ytekmjegeiminnaa
