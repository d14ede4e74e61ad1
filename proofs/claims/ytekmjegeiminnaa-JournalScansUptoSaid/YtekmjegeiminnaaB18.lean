/- The reference's numbers: num and Ints, walked; two slices of ints that read alike. -/
import Derived.Test.YtekmjegeiminnaaB15
namespace Go.Proofs.Ytekmjegeiminnaa
open Go.RowKit
set_option linter.unusedVariables false
set_option linter.unusedSimpArgs false

theorem Grew.refl {B : Nat} {v : Value} {bs : List UInt8} {w : World} (h : OwnB B w v bs) : Grew B v v bs w w := ⟨h, Upd.refl _ _, .inl rfl⟩
theorem Grew.trans {B : Nat} {v v' v'' : Value} {bs cs : List UInt8} {w w' w'' : World} (h : Grew B v v' bs w w') (k : Grew B v' v'' cs w' w'') : Grew B v v'' cs w w'' := by
  refine ⟨k.own, h.upd.trans k.upd (fun i hi e => ?_), ?_⟩
  · rcases h.at_ with e' | ⟨g, e', hg⟩
    · exact e.trans e'
    · rw [e'] at e; cases e; omega
  · rcases k.at_ with e | ⟨g, e, hg⟩
    · rw [e]; exact h.at_
    · exact .inr ⟨g, e, Nat.le_trans h.upd.size hg⟩
/-- New blocks ahead of an append. -/
theorem Grew.ahead {B : Nat} {v v' : Value} {bs : List UInt8} {w w1 w' : World} (hb : Below w.heap.size w w1) (h : Grew B v v' bs w1 w') : Grew B v v' bs w w' :=
  ⟨h.own, (Upd.ofNew hb).trans h.upd (fun _ _ h => h), by
    rcases h.at_ with e | ⟨g, e, hg⟩
    · exact .inl e
    · exact .inr ⟨g, e, Nat.le_trans hb.size hg⟩⟩

/-- A slice of the calls' own: its capacity is one of an int. -/
theorem own_cap {B : Nat} {w : World} {e : TypeId} {sz n m : Nat} {a : Option Addr} {cap : Nat} {xs : List Value} {v : Value} (h : w.ownsRow B e sz v n xs) (hv : v = .slice a m cap) : (cap : Int) ≤ 9223372036854775807 := by
  rcases h.2 with ⟨rfl, _⟩ | ⟨g, c, cur, rfl, _, _, _, hm, _⟩
  · cases hv; decide
  · cases hv; unfold maxLen at hm; omega
/-- The reference's spelling of a number below 0. -/
theorem zig_ref {n : Int} (h : -9223372036854775808 ≤ n ∧ n ≤ 9223372036854775807) (h0 : n < 0) :
    bits .xor .u64 (IntKind.u64.wrap (IntKind.u64.wrap n * 2)) 18446744073709551615 = (zig n : Int) := by
  rw [IntKind.wrap_u64, IntKind.wrap_u64]
  have e1 : n % 18446744073709551616 * 2 % 18446744073709551616 = ((18446744073709551616 + 2 * n).toNat : Int) := by omega
  have := u64_xor_nat (18446744073709551616 + 2 * n).toNat (2 ^ 64 - 1) (by omega) (by decide)
  rw [show ((2 ^ 64 - 1 : Nat) : Int) = 18446744073709551615 from rfl] at this
  rw [e1, this, xor_ones _ (by simp; omega), zig, if_neg (by omega)]
  simp; omega

set_option maxRecDepth 100000 in
set_option maxHeartbeats 8000000 in
theorem refnum (B : Nat) (v : Value) (bs : List UInt8) (n : Int) (w : World) (hn : -9223372036854775808 ≤ n ∧ n ≤ 9223372036854775807) (ho : OwnB B w v bs) (hB : B ≤ w.heap.size) (hl : bs.length ≤ 140737488355000) :
    Calls Try.prog 74 #[v, .int .i64 n] w fun e w' => ∃ v', e = .returned v' ∧ Grew B v v' (bs ++ encN n) w w' := by
  have HG := hidden (Grew.refl ho)
  have HE := hidden (encN_length hn)
  clear ho
  have ZL := zig_lt hn
  have hzz : (2 : Nat) ^ 64 = 18446744073709551616 := by decide
  rw [hzz] at ZL
  clear hzz
  by_cases h0 : n < 0
  · have ZR := zig_ref hn h0
    go_enter Try.func74, Try.ntmps74
    go_wp2_with fail
    go_loopw [0, 5] (fun s0 s5 wr => ∃ (u : Nat) (pre : List UInt8), s5 = .int .u64 u ∧ u ≤ zig n ∧ encN n = pre ++ encU u ∧ Grew B v s0 (bs ++ pre) w wr) (fun _ s5 _ => (intOf s5).toNat)
    case atStart => exact ⟨zig n, [], rfl, Nat.le_refl _, rfl, by rw [List.append_nil]; exact HG.out⟩
    case round =>
      rename_i v0 v5 _
      obtain ⟨u, pre, rfl, hu, hpre, hg⟩ := hrel
      have HGR := hidden hg
      have HP := hidden hpre
      have hlp : pre.length ≤ 10 := by have := HE.out; rw [HP.out, List.length_append] at this; omega
      have hBr := Nat.le_trans hB hg.upd.size
      clear hg hpre
      by_cases hbig : 127 < u
      · have hor := or128 u
        generalize hx : UInt8.ofNat (u % 128 + 128) = x at hor
        have HX := hidden hx
        clear hx
        go_wp2_with (at_builtin; go_loud (refine wpList_append_B rfl (.tmp 15) (.tmp 19) rfl rfl (HGR.out.own.on (M := fun _ => False) (Upd.new _ _) (fun _ _ h => h)) (cs := [x]) rfl rfl (one_byte rfl) (by simp; omega) (by rw [World.size_alloc]; omega) ?_); intro v2 w2 g2; have G2 := hidden (g2.ahead ((Below.refl _ _).alloc (Nat.le_refl _) _)); clear g2)
        refine ⟨⟨u / 128, pre ++ [x], by simp, by omega, ?_, by rw [← List.append_assoc]; exact HGR.out.trans G2.out⟩, by simp [intOf]; omega⟩
        rw [HP.out, encU_big (by omega), HX.out]; simp [Nat.add_comm]
      · obtain ⟨x, rfl⟩ : ∃ x : UInt8, u = x.toNat := ⟨UInt8.ofNat u, (ofNat_small (by omega)).symm⟩
        go_wp2_with (at_builtin; go_loud (refine wpList_append_B rfl (.tmp 23) (.tmp 26) rfl rfl (HGR.out.own.on (M := fun _ => False) (Upd.new _ _) (fun _ _ h => h)) (cs := [x]) rfl rfl (one_byte rfl) (by simp; omega) (by rw [World.size_alloc]; omega) ?_); intro v2 w2 g2; have G2 := hidden (g2.ahead ((Below.refl _ _).alloc (Nat.le_refl _) _)); clear g2)
        go_ret
        have hout := HGR.out.trans G2.out
        rw [List.append_assoc, show pre ++ [x] = encN n by rw [HP.out, encU_small (by omega)]; simp] at hout
        exact ⟨_, rfl, hout⟩
  · go_enter Try.func74, Try.ntmps74
    go_wp2_with fail
    go_loopw [0, 5] (fun s0 s5 wr => ∃ (u : Nat) (pre : List UInt8), s5 = .int .u64 u ∧ u ≤ zig n ∧ encN n = pre ++ encU u ∧ Grew B v s0 (bs ++ pre) w wr) (fun _ s5 _ => (intOf s5).toNat)
    case atStart => exact ⟨zig n, [], (by congr 1; unfold zig; rw [if_pos (by omega)]; omega), Nat.le_refl _, rfl, by rw [List.append_nil]; exact HG.out⟩
    case round =>
      rename_i v0 v5 _
      obtain ⟨u, pre, rfl, hu, hpre, hg⟩ := hrel
      have HGR := hidden hg
      have HP := hidden hpre
      have hlp : pre.length ≤ 10 := by have := HE.out; rw [HP.out, List.length_append] at this; omega
      have hBr := Nat.le_trans hB hg.upd.size
      clear hg hpre
      by_cases hbig : 127 < u
      · have hor := or128 u
        generalize hx : UInt8.ofNat (u % 128 + 128) = x at hor
        have HX := hidden hx
        clear hx
        go_wp2_with (at_builtin; go_loud (refine wpList_append_B rfl (.tmp 15) (.tmp 19) rfl rfl (HGR.out.own.on (M := fun _ => False) (Upd.new _ _) (fun _ _ h => h)) (cs := [x]) rfl rfl (one_byte rfl) (by simp; omega) (by rw [World.size_alloc]; omega) ?_); intro v2 w2 g2; have G2 := hidden (g2.ahead ((Below.refl _ _).alloc (Nat.le_refl _) _)); clear g2)
        refine ⟨⟨u / 128, pre ++ [x], by simp, by omega, ?_, by rw [← List.append_assoc]; exact HGR.out.trans G2.out⟩, by simp [intOf]; omega⟩
        rw [HP.out, encU_big (by omega), HX.out]; simp [Nat.add_comm]
      · obtain ⟨x, rfl⟩ : ∃ x : UInt8, u = x.toNat := ⟨UInt8.ofNat u, (ofNat_small (by omega)).symm⟩
        go_wp2_with (at_builtin; go_loud (refine wpList_append_B rfl (.tmp 23) (.tmp 26) rfl rfl (HGR.out.own.on (M := fun _ => False) (Upd.new _ _) (fun _ _ h => h)) (cs := [x]) rfl rfl (one_byte rfl) (by simp; omega) (by rw [World.size_alloc]; omega) ?_); intro v2 w2 g2; have G2 := hidden (g2.ahead ((Below.refl _ _).alloc (Nat.le_refl _) _)); clear g2)
        go_ret
        have hout := HGR.out.trans G2.out
        rw [List.append_assoc, show pre ++ [x] = encN n by rw [HP.out, encU_small (by omega)]; simp] at hout
        exact ⟨_, rfl, hout⟩
end Go.Proofs.Ytekmjegeiminnaa

/- The reference's list of ints, walked; two slices of ints that read alike. -/
namespace Go.Proofs.Ytekmjegeiminnaa
open Go.RowKit
set_option linter.unusedVariables false
set_option linter.unusedSimpArgs false

theorem IntsAt.on' {w w' : World} {a : Option Addr} {xs : List Int} (h : IntsAt w a xs) (hb : Below w.heap.size w w') : IntsAt w' a xs :=
  h.upd (Upd.ofNew (M := fun _ => False) hb) (fun _ _ h => h)

set_option maxRecDepth 100000 in
set_option maxHeartbeats 8000000 in
theorem refints (a : Option Addr) (len cap : Nat) (xs : List Int) (w : World) (hx : ∀ x ∈ xs, I64 x) (hi : IntsAt w a xs) (hlen : len = xs.length) (hcap : len ≤ cap) (hl : 10 * xs.length ≤ 140737488354000) :
    Calls Try.prog 30 #[.slice a len cap] w fun e w' => Below w.heap.size w w' ∧ ∃ v, e = .returned v ∧ OwnB w.heap.size w' v (encI xs) := by
  subst hlen
  have HX := hidden hx
  have HI := hidden hi
  have hlen : (xs.length : Int) ≤ 9223372036854775807 := by omega
  clear hx hi
  go_enter Try.func30, Try.ntmps30
  go_wp2_with fail
  with_reducible refine (refnum w.heap.size (.slice none 0 0) [] _ w ⟨by omega, by omega⟩ (OwnB.nil _ _) (Nat.le_refl _) (by simp)).mono ?_
  rintro e w1 ⟨v1, rfl, hg⟩
  rw [List.nil_append] at hg
  have HG := hidden hg
  clear hg
  go_wp2_with fail
  go_loopw [3, 11] (fun s3 s11 wr => ∃ (k : Nat), s11 = .int .i64 k ∧ k ≤ xs.length ∧ Grew w.heap.size (.slice none 0 0) s3 (encN xs.length ++ encS (xs.take k)) w wr) (fun _ s11 _ => (xs.length - intOf s11).toNat)
  case atStart => exact ⟨0, rfl, by omega, by simpa [encS] using HG.out⟩
  case round =>
    obtain ⟨k, rfl, hk, hg⟩ := hrel
    have HR := hidden hg
    have HB : Hid (Below w.heap.size w wr) := hidden (hg.upd.toBelow (Nat.le_refl _) (fun k hk e => by simp [Value.ownBlock] at e))
    clear hg
    by_cases hlt : k < xs.length
    · obtain ⟨b, o, rfl, hcell⟩ := (HI.out.on' HB.out) k hlt
      have hxk : -9223372036854775808 ≤ xs[k] ∧ xs[k] ≤ 9223372036854775807 := HX.out _ (List.getElem_mem hlt)
      have HXK : Hid (xs.take (k + 1) = xs.take k ++ [xs[k]]) := by show _ = _; rw [List.take_succ_eq_append_getElem hlt]
      generalize xs[k] = x at hcell hxk HXK
      have HLN : Hid ((encN xs.length ++ encS (xs.take k)).length ≤ 140737488355000) := by
        show _ ≤ _
        have h1 := encS_length (xs.take k) (fun y hy => HX.out y (List.mem_of_mem_take hy))
        have h2 : (encN (xs.length : Int)).length ≤ 10 := encN_length ⟨by omega, by omega⟩
        have h3 : (xs.take k).length ≤ xs.length := by simp; omega
        simp only [List.length_append]; omega
      go_wp2_with fail
      with_reducible refine (refnum w.heap.size _ _ x wr hxk HR.out.own HB.out.size HLN.out).mono ?_
      rintro e w2 ⟨v2, rfl, hg2⟩
      have HW2 := hidden (HR.out.trans hg2)
      clear hg2
      go_wp2_with fail
      exact ⟨⟨k + 1, by go_num, by omega, by rw [HXK.out, encS_append, encS_one, ← List.append_assoc]; exact HW2.out⟩, by simp [intOf]; omega⟩
    · have hk' : k = xs.length := by omega
      subst hk'
      go_wp2_with fail
      have hout := HR.out
      rw [List.take_length] at hout
      go_ret
      exact ⟨HB.out, _, rfl, hout.own⟩

set_option maxRecDepth 100000 in
set_option maxHeartbeats 8000000 in
theorem ints_same (a1 a2 : Option Addr) (l1 l2 c1 c2 : Nat) (xs : List Int) (w : World) (h1 : IntsAt w a1 xs) (h2 : IntsAt w a2 xs) (e1 : l1 = xs.length) (e2 : l2 = xs.length) (hl : xs.length ≤ 140737488354000) :
    Calls Try.prog 31 #[.slice a1 l1 c1, .slice a2 l2 c2] w fun e w' => e = .returned (.bool true) ∧ Below w.heap.size w w' := by
  subst e1; subst e2
  have H1 := hidden h1
  have H2 := hidden h2
  clear h1 h2
  go_enter Try.func31, Try.ntmps31
  go_wp2_with fail
  go_loopw [13] (fun s wr => ∃ (k : Nat), s = .int .i64 k ∧ k ≤ xs.length ∧ Below w.heap.size w wr) (fun s _ => (xs.length - intOf s).toNat)
  case atStart => exact ⟨0, rfl, by omega, Below.refl _ _⟩
  case round =>
    obtain ⟨k, rfl, hk, hb⟩ := hrel
    have HB := hidden hb
    clear hb
    by_cases hlt : k < xs.length
    · obtain ⟨b, o, rfl, hc1⟩ := H1.out.on' HB.out k hlt
      obtain ⟨b', o', rfl, hc2⟩ := H2.out.on' HB.out k hlt
      have i1 : (0 : Int) ≤ (k : Int) := by omega
      have i2 : (k : Int) < (xs.length : Int) := by omega
      generalize xs[k] = x at hc1 hc2
      go_wp2_with fail
      go_quiet (fail)
      go_wp2_with fail
      exact ⟨⟨k + 1, by go_num, by omega, below_dn HB.out _⟩, by simp [intOf]; omega⟩
    · go_wp2_with fail
      go_ret
      exact ⟨rfl, HB.out⟩
end Go.Proofs.Ytekmjegeiminnaa

/- BytesInts, walked. -/
namespace Go.Proofs.Ytekmjegeiminnaa
open Go.RowKit
set_option linter.unusedVariables false
set_option linter.unusedSimpArgs false

theorem decS_encS : ∀ (xs : List Int) (r : List UInt8), (∀ x ∈ xs, I64 x) → decS xs.length (encS xs ++ r) = some (xs, r)
  | [], r, _ => by simp [encS, decS]
  | x :: xs, r, h => by
    have e : encS (x :: xs) ++ r = encN x ++ (encS xs ++ r) := by simp [encS]
    rw [e, List.length_cons, decS, decN_encN (h x (List.mem_cons_self ..))]
    simp [decS_encS xs r (fun y hy => h y (List.mem_cons_of_mem _ hy))]
theorem encN_pos (n : Int) : 0 < (encN n).length := List.length_pos_iff.2 (encU_ne _)
theorem encS_ge : ∀ (xs : List Int), xs.length ≤ (encS xs).length
  | [] => by simp
  | x :: xs => by
    have e : encS (x :: xs) = encN x ++ encS xs := by simp [encS]
    have := encS_ge xs
    have := encN_pos x
    rw [e, List.length_append, List.length_cons]; omega
theorem decC_encN {n : Nat} {r : List UInt8} (h : n ≤ r.length) (hn : n ≤ 9223372036854775807) : decC (encN n ++ r) = some (n, r) := by
  unfold decC
  rw [decN_encN ⟨by omega, by omega⟩]
  simp only [Option.bind_some]
  rw [if_pos ⟨by omega, by omega⟩]; simp
theorem decI_encI (xs : List Int) (r : List UInt8) (h : ∀ x ∈ xs, I64 x) (hl : xs.length ≤ 9223372036854775807) : decI (encI xs ++ r) = some (xs, r) := by
  unfold decI encI
  rw [List.append_assoc, decC_encN (by have := encS_ge xs; simp; omega) hl]
  exact decS_encS xs r h
theorem readI_encI (xs : List Int) (h : ∀ x ∈ xs, I64 x) (hl : xs.length ≤ 9223372036854775807) : readI (encI xs) = some xs := by
  unfold readI
  have := decI_encI xs [] h hl
  rw [List.append_nil] at this
  rw [this]; rfl

set_option maxRecDepth 100000 in
set_option maxHeartbeats 8000000 in
theorem bytesints_law (a : Option Addr) (len cap : Nat) (xs : List Int) (w : World) (hx : ∀ x ∈ xs, I64 x) (h : IntsAt w a xs) (hlen : len = xs.length) (hcap : len ≤ cap) :
    Calls Try.prog 5 #[.slice a len cap] w fun e w' => e = .returned (.bool true) ∧ Below w.heap.size w w' := by
  subst hlen
  have H := hidden h
  have HX := hidden hx
  clear h hx
  by_cases hbig : 10000 < xs.length
  · go_enter Try.func5, Try.ntmps5
    go_wp2_with fail
    with_reducible refine (lives_02 w).mono ?_
    rintro e w1 ⟨rfl, hb⟩
    have B := hidden hb
    clear hb
    go_wp2_with fail
    go_ret
    exact ⟨rfl, B.out⟩
  · have hle : xs.length ≤ 10000 := by omega
    have hel : Hid ((encI xs).length ≤ 100010) := by
      show _ ≤ _
      have h1 := encS_length xs HX.out
      have h2 : (encN (xs.length : Int)).length ≤ 10 := encN_length ⟨by omega, by omega⟩
      unfold encI; rw [List.length_append]; omega
    go_enter Try.func5, Try.ntmps5
    go_wp2_with fail
    with_reducible refine (ints_any a _ cap xs w HX.out H.out rfl hcap (by omega)).mono ?_
    rintro e w1 ⟨hb, v1, rfl, ho⟩
    have B1 := hidden hb
    have O1 := hidden ho
    obtain ⟨a1, c1, rfl, q1, hc1, hA1⟩ := ho.reads
    have Q1 := hidden q1
    have hm1 : (c1 : Int) ≤ 9223372036854775807 := own_cap ho rfl
    have HA1 : Hid (∀ A, a1 = some A → A.block < w1.heap.size) := hidden (fun A hA => (ho.lt _ (hA1 A hA).1).2)
    clear hb ho q1 hA1
    have hl1 := hel.out
    generalize hfs : encI xs = fs at O1 Q1 hc1 hl1
    have HFS := hidden hfs
    clear hfs
    go_wp2_with fail
    with_reducible refine (readints_any a1 _ c1 fs w1 Q1.out rfl hc1 hm1 (by omega) HA1.out).mono ?_
    rintro e w2 ⟨hb, ⟨ys, v2, hr, rfl, ho⟩ | ⟨hr, rfl⟩⟩
    · rw [← HFS.out, readI_encI xs HX.out (by omega)] at hr
      cases hr
      have B2 := hidden (B1.out.trans (hb.mono B1.out.size))
      have O2 := hidden (O1.out.on (Upd.ofNew (M := fun _ => False) hb) (fun _ _ h => h))
      have OI := hidden ho
      clear hb ho
      go_wp2_with fail
      with_reducible refine (refints a _ cap xs w2 HX.out (H.out.on' B2.out) rfl hcap (by omega)).mono ?_
      rintro e w3 ⟨hb, v3, rfl, ho⟩
      have B3 := hidden (B2.out.trans (hb.mono B2.out.size))
      have O3 := hidden (O2.out.on (Upd.ofNew (M := fun _ => False) hb) (fun _ _ h => h))
      have OI3 := hidden (OI.out.on (Upd.ofNew (M := fun _ => False) hb) (fun _ _ h => h))
      rw [HFS.out] at ho
      obtain ⟨a3, c3, rfl, q3, -, -⟩ := ho.reads
      obtain ⟨a1', c1', e1, q1, -, -⟩ := O3.out.reads
      injection e1 with e1 _ e1'
      subst e1; subst e1'
      obtain ⟨a2, c2, rfl, q2, -, -⟩ := OI3.out.reads
      clear hb ho
      go_wp2_with fail
      with_reducible refine (same_eq _ _ _ _ _ _ fs w3 q1 q3 rfl rfl).mono ?_
      rintro e w4 ⟨rfl, rfl⟩
      clear q1 q3
      go_wp2_with fail
      with_reducible refine (ints_same _ _ _ _ _ _ xs w3 q2 (H.out.on' B3.out) rfl rfl (by omega)).mono ?_
      rintro e w4 ⟨rfl, hb⟩
      have B4 := hidden (B3.out.trans (hb.mono B3.out.size))
      clear hb q2
      go_wp2_with fail
      with_reducible refine (lives_02 w4).mono ?_
      rintro e w5 ⟨rfl, hb⟩
      have B5 := hidden (B4.out.trans (hb.mono B4.out.size))
      clear hb
      go_wp2_with fail
      go_ret
      exact ⟨rfl, B5.out⟩
    · rw [← HFS.out, readI_encI xs HX.out (by omega)] at hr
      cases hr
end Go.Proofs.Ytekmjegeiminnaa
