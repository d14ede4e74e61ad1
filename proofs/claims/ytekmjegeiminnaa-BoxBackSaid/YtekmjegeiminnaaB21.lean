/- BytesTells, walked. -/
import Derived.Test.YtekmjegeiminnaaB15
import Derived.Test.YtekmjegeiminnaaP3
import Derived.Test.YtekmjegeiminnaaP2
namespace Go.Proofs.Ytekmjegeiminnaa
open Go.RowKit
set_option linter.unusedVariables false
set_option linter.unusedSimpArgs false

/-- A slice of the calls' own: its capacity is one of an int. -/
theorem ownB_cap {B : Nat} {w : World} {v : Value} {bs : List UInt8} (h : OwnB B w v bs) {a : Option Addr} {m cap : Nat} (hv : v = .slice a m cap) : (cap : Int) ≤ 9223372036854775807 := by
  rcases h.2 with ⟨rfl, _⟩ | ⟨g, c, cur, rfl, _, _, _, hm, _⟩
  · cases hv; decide
  · cases hv; unfold maxLen at hm; omega

set_option maxRecDepth 100000 in
set_option maxHeartbeats 8000000 in
theorem tells_big (a : Option Addr) (len cap : Nat) (bs : List UInt8) (cut bit : Nat) (w : World) (h : BytesAt w a bs) (hlen : len = bs.length) (hl2 : len ≤ 140737488351232) (hbig : 131072 < len) :
    Calls Try.prog 6 #[.slice a len cap, .int .u64 cut, .int .u64 bit] w fun e w' => e = .returned (.bool true) ∧ Below w.heap.size w w' := by
  subst hlen
  have H := hidden h
  clear h
  by_cases h15 : 150000 < bs.length
  all_goals
    go_enter Try.func6, Try.ntmps6
    go_wp2_with fail
    with_reducible refine (frame_any a _ cap bs w H.out rfl (by omega)).mono ?_
    rintro e w1 ⟨hb, v1, rfl, ho⟩
    rw [if_neg (by omega)] at ho
    obtain ⟨a1, c1, rfl, -, -, -⟩ := ho.reads
    have B1 := hidden hb
    clear hb ho
    have ht : ((0 : Int) != (bs.length : Int) + 8) = true := by rw [bne_iff_ne]; omega
    go_wp2_with fail
    with_reducible refine (lives_02 w1).mono ?_
    rintro e w2 ⟨rfl, hb⟩
    have B2 := hidden (B1.out.trans (hb.mono B1.out.size))
    clear hb
    go_wp2_with fail
    go_ret
    exact ⟨rfl, B2.out⟩

theorem BytesAt.setc {w : World} {g : Nat} {bs : List UInt8} (h : BytesAt w (some ⟨g, 0, none⟩) bs) {i : Nat} (hi : i < bs.length) (y : UInt8) : BytesAt (w.setCell ⟨g, i, none⟩ (bV y)) (some ⟨g, 0, none⟩) (bs.set i y) := fun j hj => by
  have hj' : j < bs.length := by simpa using hj
  obtain ⟨b, o, e, hc⟩ := h j hj'
  obtain ⟨b2, o2, e2, hc2⟩ := h i hi
  cases e; cases e2
  refine ⟨g, 0, rfl, ?_⟩
  rw [Nat.zero_add] at hc hc2 ⊢
  by_cases he : i = j
  · subst he
    rw [World.cell?_setCell_same _ _ _ hc2]; simp
  · rw [World.cell?_setCell_other _ _ _ _ (by intro h; injection h with _ h; exact he h), hc, List.getElem_set_ne he]
theorem xor_pow (x : UInt8) (k : Nat) (hk : k < 8) : ∃ y : UInt8, bits .xor .u8 (x.toNat : Int) (2 ^ k % 256) = (y.toNat : Int) ∧ y ≠ x := by
  have hp : 2 ^ k < 256 := Nat.lt_of_lt_of_le (Nat.pow_lt_pow_right (by decide) hk) (by decide)
  have hp0 : 0 < 2 ^ k := Nat.two_pow_pos k
  have e : (2 : Int) ^ k % 256 = ((2 ^ k : Nat) : Int) := by
    have e1 : (2 : Int) ^ k = ((2 ^ k : Nat) : Int) := by simp
    rw [e1]; generalize 2 ^ k = z at hp; omega
  have hlt : x.toNat ^^^ 2 ^ k < 2 ^ 8 := Nat.xor_lt_two_pow x.toNat_lt hp
  refine ⟨UInt8.ofNat (x.toNat ^^^ 2 ^ k), ?_, fun h => ?_⟩
  · rw [e, u8_xor_nat _ _ x.toNat_lt hp, ofNat_small hlt]
  · have h1 := congrArg UInt8.toNat h
    rw [ofNat_small hlt] at h1
    have h2 : x.toNat ^^^ 2 ^ k = x.toNat ^^^ 0 := by rw [Nat.xor_zero]; exact h1
    have := xor_left_inj' h2
    omega
theorem frameL_at {bs : List UInt8} {i : Nat} (hi : i < bs.length) : (frameL bs)[4 + i]'(by rw [frameL_length]; omega) = bs[i] := by
  have e : frameL bs = le4 bs.length ++ (bs ++ le4 (crc32 (le4 bs.length ++ bs))) := by simp [frameL]
  simp only [e]
  rw [List.getElem_append_right (by simp [le4_length]), List.getElem_append_left (by rw [le4_length]; omega)]
  congr 1; rw [le4_length]; omega
set_option maxRecDepth 100000 in
set_option maxHeartbeats 8000000 in
theorem tells_law (a : Option Addr) (len cap : Nat) (bs : List UInt8) (cut bit : Nat) (w : World) (h : BytesAt w a bs) (hlen : len = bs.length) (hl2 : len ≤ 131072) :
    Calls Try.prog 6 #[.slice a len cap, .int .u64 cut, .int .u64 bit] w fun e w' => e = .returned (.bool true) ∧ Below w.heap.size w w' := by
  subst hlen
  have H := hidden h
  clear h
  go_enter Try.func6, Try.ntmps6
  go_wp2_with fail
  with_reducible refine (frame_any a _ cap bs w H.out rfl (by omega)).mono ?_
  rintro e w1 ⟨hb, v1, rfl, ho⟩
  rw [if_pos hl2] at ho
  obtain ⟨a1, c1, rfl, q1, hc1, hA1⟩ := ho.reads
  have hm1 := ownB_cap ho rfl
  have B1 := hidden hb
  have O1 := hidden ho
  rw [frameL_length] at hc1 ⊢
  obtain ⟨g, o, rfl, -⟩ := q1 0 (by rw [frameL_length]; omega)
  obtain ⟨hg1, hg2, -⟩ := hA1 _ rfl
  simp only at hg2
  subst hg2
  have hgl := (ho.lt _ hg1)
  have Q1 := hidden q1
  clear hb ho q1 hA1 hg1
  have t1 : ((bs.length : Int) + 8 != (bs.length : Int) + 8) = false := by simp
  have t2 : ¬ 150000 < (bs.length : Int) := by omega
  have t3 : 0 ≤ (cut : Int) % ((bs.length : Int) + 8) := Int.emod_nonneg _ (by omega)
  have t4 : (cut : Int) % ((bs.length : Int) + 8) < (bs.length : Int) + 8 := Int.emod_lt_of_pos _ (by omega)
  have t5 : (cut : Int) % ((bs.length : Int) + 8) ≤ (c1 : Int) := by omega
  go_wp2_with fail
  generalize hj : cut % (bs.length + 8) = j
  have hjl : j < bs.length + 8 := by subst hj; exact Nat.mod_lt _ (by omega)
  clear hj t3 t4 t5
  with_reducible refine (unframe_any (some ⟨g, 0, none⟩) j c1 ((frameL bs).take j) w1 (Q1.out.take j) (by rw [List.length_take, frameL_length]; omega) (by omega) hm1 (by omega)).mono ?_
  rintro e w2 ⟨hb, v2, rfl, ho⟩
  rw [frameL_cut hl2 hjl]
  generalize unfN ((frameL bs).take j) = nn
  have B2 := hidden (B1.out.trans (hb.mono B1.out.size))
  have O2 := hidden (O1.out.on (Upd.ofNew (M := fun _ => False) hb) (fun _ _ h => h))
  have Q2 : Hid (BytesAt w2 (some ⟨g, 0, none⟩) (frameL bs)) := hidden (Q1.out.on' hb)
  obtain ⟨a2, c2, rfl, -, -, -⟩ := ho.reads
  generalize (unfC ((frameL bs).take j)).length = n2
  clear hb ho O1 Q1 B1
  have OE : ∀ W : World, OwnB W.heap.size (W.alloc (.cells #[] 5)) (.slice (some ⟨W.heap.size, 0, none⟩) 0 0) [] := fun W => World.ownsRow_lit W #[] 0 (Nat.le_refl _) (by decide) rfl
  have HOE := hidden OE
  clear OE
  have hfl := frameL_length bs
  have hfl2 : (frameL bs).length ≤ 131080 := by omega
  have HFL := hidden hfl
  clear hfl
  go_wp2_with (first
    | (at_builtin; refine wpList_append_B rfl (.tmp 57) (.tmp 58) rfl rfl (HOE.out _) rfl HFL.out.symm (Q2.out.on' ((Below.refl _ _).alloc (Nat.le_refl _) _)) (by simp; omega) (by rw [World.size_alloc]; exact Nat.le_succ _) ?_; intro v3 w3 g3)
    | (at_builtin; refine wpList_append_B rfl (.tmp 59) (.tmp 60) rfl rfl (g3.own.on (M := fun _ => False) (Upd.new _ _) (fun _ _ h => h)) rfl (cs := [1, 2]) rfl (bytes_new rfl _ rfl) (by simp; omega) (by rw [World.size_alloc]; have := g3.upd.size; rw [World.size_alloc] at this; omega) ?_; intro v4 w4 g4))
  have hb3 : Below w2.heap.size w2 w3 := ((Below.refl _ _).alloc (Nat.le_refl _) _).trans (g3.below (by rw [World.size_alloc]; exact Nat.le_succ _) (fun k hk => by cases hk; exact Nat.le_refl _))
  have hb4 : Below w2.heap.size w2 w4 := (hb3.alloc hb3.size _).trans (g4.below (by rw [World.size_alloc]; exact Nat.le_succ_of_le hb3.size) (fun k hk => (g3.own.lt k hk).1))
  have ho4 := g4.own
  rw [List.nil_append] at ho4
  obtain ⟨a4, c4, rfl, q4, hc4, -⟩ := ho4.reads
  have hm4 := ownB_cap ho4 rfl
  have B4 := hidden (B2.out.trans (hb4.mono B2.out.size))
  have Q4 : Hid (BytesAt w4 (some ⟨g, 0, none⟩) (frameL bs)) := hidden (Q2.out.on' hb4)
  have O4 := hidden (O2.out.on (Upd.ofNew (M := fun _ => False) hb4) (fun _ _ h => h))
  clear g3 g4 hb3 hb4 ho4 Q2 O2 B2 HOE
  with_reducible refine (unframe_any a4 _ c4 (frameL bs ++ [1, 2]) w4 q4 rfl hc4 hm4 (by simp; omega)).mono ?_
  rintro e w5 ⟨hb, v5, rfl, ho⟩
  obtain ⟨e0, eC, eN⟩ := frameL_more hl2 [1, 2]
  rw [eC] at ho
  rw [eN, e0, show ((bs.length + 8 : Nat) : Int) = (bs.length : Int) + 8 by omega]
  obtain ⟨a5, c5, rfl, q5, -, -⟩ := ho.reads
  have B5 := hidden (B4.out.trans (hb.mono B4.out.size))
  have Q5 : Hid (BytesAt w5 (some ⟨g, 0, none⟩) (frameL bs)) := hidden (Q4.out.on' hb)
  have O5 := hidden (O4.out.on (Upd.ofNew (M := fun _ => False) hb) (fun _ _ h => h))
  clear hb ho q4 e0 eC eN B4 Q4 O4
  go_wp2_with fail
  with_reducible refine (same_eq _ _ _ _ _ _ bs w5 q5 (H.out.on' B5.out) rfl rfl).mono ?_
  rintro e w6 ⟨rfl, rfl⟩
  clear q5
  by_cases hz : bs.length = 0
  · have tz : ((bs.length : Int) == 0) = true := by rw [beq_iff_eq]; omega
    have HZ := hidden hz
    clear hz
    go_wp2_with fail
    with_reducible refine (lives_02 w5).mono ?_
    rintro e w6 ⟨rfl, hb⟩
    have B6 := hidden (B5.out.trans (hb.mono B5.out.size))
    clear hb
    go_wp2_with fail
    go_ret
    exact ⟨rfl, B6.out⟩
  · have tz : ((bs.length : Int) == 0) = false := by rw [beq_eq_false_iff_ne]; omega
    have hz' : 0 < bs.length := by omega
    clear hz
    have k1 : 0 ≤ (bit : Int) % (8 * (bs.length : Int)) := Int.emod_nonneg _ (by omega)
    have k2 : (bit : Int) % (8 * (bs.length : Int)) < 8 * (bs.length : Int) := Int.emod_lt_of_pos _ (by omega)
    have hi : bit % (8 * bs.length) / 8 < bs.length := by
      have := Nat.mod_lt bit (show 8 * bs.length > 0 by omega); omega
    have hil : 4 + bit % (8 * bs.length) / 8 < (frameL bs).length := by rw [HFL.out]; omega
    obtain ⟨g', o', e, hcell⟩ := Q5.out (4 + bit % (8 * bs.length) / 8) hil
    cases e
    rw [Nat.zero_add] at hcell
    have hfz := World.ownsRow.frozenAt O5.out (4 + bit % (8 * bs.length) / 8)
    have hx : (frameL bs)[4 + bit % (8 * bs.length) / 8] = bs[bit % (8 * bs.length) / 8] := by
      exact frameL_at hi
    rw [hx] at hcell
    clear hx
    obtain ⟨x, ex⟩ : ∃ x, bs[bit % (8 * bs.length) / 8] = x := ⟨_, rfl⟩
    rw [ex] at hcell
    have EX := hidden ex
    clear ex
    have hxl : (x.toNat : Int) < 256 := by have := x.toNat_lt; omega
    go_wp2_with fail
    have hy := xor_pow x (bit % 8) (Nat.mod_lt _ (by decide))
    obtain ⟨y, hy1, hy2⟩ := hy
    rw [hy1]
    have q6 : BytesAt (w5.setCell ⟨g, 4 + bit % (8 * bs.length) / 8, none⟩ (bV y)) (some ⟨g, 0, none⟩) ((frameL bs).set (4 + bit % (8 * bs.length) / 8) y) := Q5.out.setc hil y
    have ht : unfE ((frameL bs).set (4 + bit % (8 * bs.length) / 8) y) = 12 := frameL_turned hl2 hi (by rw [EX.out]; exact hy2)
    have HT := hidden ht
    have B6 : Hid (Below w.heap.size w (w5.setCell ⟨g, 4 + bit % (8 * bs.length) / 8, none⟩ (bV y))) := hidden (B5.out.setCell (by exact hgl.1) _)
    have hl6 : ((frameL bs).set (4 + bit % (8 * bs.length) / 8) y).length = bs.length + 8 := by rw [List.length_set, HFL.out]
    generalize (frameL bs).set (4 + bit % (8 * bs.length) / 8) y = fs at q6 HT hl6
    generalize w5.setCell ⟨g, 4 + bit % (8 * bs.length) / 8, none⟩ (bV y) = w6 at q6 B6
    clear hcell hfz Q5 O5 hil hi k1 k2 hy1 hy2 EX ht
    with_reducible refine (unframe_any (some ⟨g, 0, none⟩) _ c1 fs w6 q6 hl6.symm (by omega) hm1 (by omega)).mono ?_
    rintro e w7 ⟨hb, v7, rfl, ho⟩
    rw [HT.out]
    generalize unfN fs = n7
    obtain ⟨a7, c7, rfl, -, -, -⟩ := ho.reads
    generalize (unfC fs).length = m7
    have B7 := hidden (B6.out.trans (hb.mono B6.out.size))
    clear hb ho q6 hl6
    go_wp2_with fail
    with_reducible refine (lives_02 w7).mono ?_
    rintro e w8 ⟨rfl, hb⟩
    have B8 := hidden (B7.out.trans (hb.mono B7.out.size))
    clear hb
    go_wp2_with fail
    go_ret
    exact ⟨rfl, B8.out⟩
end Go.Proofs.Ytekmjegeiminnaa
