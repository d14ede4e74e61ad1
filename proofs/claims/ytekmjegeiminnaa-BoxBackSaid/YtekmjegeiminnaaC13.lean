/- BoxBack, walked. -/
import Derived.Test.YtekmjegeiminnaaC12
import Derived.Test.YtekmjegeiminnaaB21
namespace Go.Proofs.Ytekmjegeiminnaa
open Go.RowKit
set_option linter.unusedVariables false
set_option linter.unusedSimpArgs false

theorem readRes_none {b : List UInt8} (h : readL b = none) : readRes b = ([], 12) := by unfold readRes; rw [h]
theorem readRes_some {b : List UInt8} {l : List Chk} (h : readL b = some l) : readRes b = (l, 0) := by unfold readRes; rw [h]

set_option maxRecDepth 100000 in
set_option maxHeartbeats 16000000 in
theorem boxback_law (a : Option Addr) (len cap : Nat) (l : List Chk) (bit cut : Nat) (w : World) (h : ChunksAt (· < w.heap.size) w a l) (hs : Sized l) (hlen : len = l.length) :
    Calls Try.prog 7 #[.slice a len cap, .int .u64 bit, .int .u64 cut] w fun e w' => e = .returned (.bool true) ∧ Below w.heap.size w w' := by
  subst hlen
  have H := hidden h
  have HS := hidden hs
  clear h hs
  go_enter Try.func7, Try.ntmps7
  go_wp2_with fail
  with_reducible refine (great_any a _ cap l w H.out HS.out rfl).mono ?_
  rintro e w0 ⟨g, rfl, hg, hb⟩
  have B0 := hidden hb
  have HG := hidden hg
  clear hb hg
  cases g
  · have HT := HG.out rfl
    have C0' := hidden (H.out.up B0.out)
    clear HG
    go_wp2_with fail
    with_reducible refine (write_any a _ cap l w0 C0'.out HS.out rfl).mono ?_
    rintro e w1 ⟨hb, v1, rfl, ho⟩
    have B1 := hidden (B0.out.trans (hb.mono B0.out.size))
    have C1 := hidden (C0'.out.up hb)
    by_cases h0 : mayE l = 0
    · rw [h0]
      rw [if_pos h0] at ho
      have H0 := hidden h0
      have hwl : (writeL l).length = total l + (dirL l).length + 20 := writeL_length l
      have hdl := dirL_small h0
      obtain ⟨N, eN⟩ : ∃ N, (writeL l).length = N := ⟨_, rfl⟩
      rw [eN] at hwl
      have HN := hidden eN
      have hN1 : 20 ≤ N := by omega
      have hN2 : N ≤ 1000000 := by omega
      obtain ⟨a1, c1, e1, q1, hc1, hA1⟩ := ho.reads
      have hm1 := own_cap ho e1
      subst e1
      obtain ⟨g, o, rfl, -⟩ := q1 0 (by omega)
      obtain ⟨hg1, hg2, -⟩ := hA1 _ rfl
      simp only at hg2
      subst hg2
      have hgl := hidden ((ho.lt _ hg1).1)
      have O1 := hidden ho
      have Q1 := hidden q1
      rw [eN] at hc1
      have HG2 : Hid (w.heap.size ≤ g) := hidden (Nat.le_trans B0.out.size hgl.out)
      clear hb ho q1 hA1 hg1 h0 eN C0' hgl hwl
      rw [HN.out]
      go_wp2_with fail
      with_reducible refine (readc_any (some ⟨g, 0, none⟩) N c1 (writeL l) w1 Q1.out HN.out.symm hc1 hm1 (by omega)).mono ?_
      intro e w2 hr
      obtain ⟨hb, a2, c2, e2, q2⟩ := hr.uni
      rw [readRes_some (read_write H0.out)] at e2 q2
      subst e2
      have B2 := hidden (B1.out.trans (hb.mono B1.out.size))
      have C2 := hidden (C1.out.up hb)
      have O2 := hidden (O1.out.on (Upd.ofNew (M := fun _ => False) hb) (fun _ _ h => h))
      have Q2 := hidden q2
      clear hr hb q2 C1 O1 Q1
      go_wp2_with fail
      with_reducible refine (plain_any a _ cap l w2 C2.out (by omega) rfl).mono ?_
      rintro e w3 ⟨hb, a3, c3, rfl, q3⟩
      have B3 := hidden (B2.out.trans (hb.mono B2.out.size))
      have O3 := hidden (O2.out.on (Upd.ofNew (M := fun _ => False) hb) (fun _ _ h => h))
      have Q23 := hidden (Q2.out.up hb)
      have Q3 := hidden q3
      clear hb q3 O2 Q2 C2
      go_wp2_with fail
      with_reducible refine (samec_any _ _ _ _ _ _ l w3 Q23.out Q3.out (by omega) rfl rfl).mono ?_
      rintro e w4 ⟨rfl, hb⟩
      have B4 := hidden (B3.out.trans (hb.mono B3.out.size))
      have O4 := hidden (O3.out.on (Upd.ofNew (M := fun _ => False) hb) (fun _ _ h => h))
      obtain ⟨a4, c4, e4, q4, -, -⟩ := O4.out.reads
      rw [HN.out] at e4
      cases e4
      have Q4 := hidden q4
      clear hb O3 Q23 Q3 q4
      have Q5 := hidden (Q4.out.on' (w' := w4.alloc (.cells #[] 5)) ((Below.refl _ _).alloc (Nat.le_refl _) _))
      have HOE := hidden (own_empty (g := w4.heap.size) w4 (Nat.le_refl _) rfl)
      have BX := hidden (B4.out.alloc B4.out.size (.cells #[] 5))
      go_wp2_with (first
        | (at_builtin; refine wpList_append_B rfl (.tmp 49) (.tmp 50) rfl rfl HOE.out rfl HN.out.symm Q5.out (by rw [HN.out]; simp; omega) (by rw [World.size_alloc]; exact Nat.le_succ _) ?_; intro v5 w5 g5)
        | (at_builtin; refine wpList_append_B rfl (.tmp 51) (.tmp 52) rfl rfl (g5.own.on (M := fun _ => False) (Upd.new _ _) (fun _ _ h => h)) rfl (cs := [0]) rfl (bytes_new rfl _ rfl) (by rw [List.length_append, HN.out]; simp; omega) (by rw [World.size_alloc]; have := g5.upd.size; rw [World.size_alloc] at this; omega) ?_; intro v6 w6 g6))
      have hb5 : Below w4.heap.size w4 w5 := ((Below.refl _ _).alloc (Nat.le_refl _) _).trans (g5.below (by rw [World.size_alloc]; exact Nat.le_succ _) (fun k hk => (HOE.out.lt k hk).1))
      have hb6 : Below w4.heap.size w4 w6 := (hb5.alloc hb5.size _).trans (g6.below (by rw [World.size_alloc]; exact Nat.le_succ_of_le hb5.size) (fun k hk => (g5.own.lt k hk).1))
      have ho6 := g6.own
      rw [List.nil_append] at ho6
      obtain ⟨a6, c6, e6, q6, hc6, -⟩ := ho6.reads
      have hm6 := own_cap ho6 e6
      subst e6
      have B6 := hidden (B4.out.trans (hb6.mono B4.out.size))
      have O6 := hidden (O4.out.on (Upd.ofNew (M := fun _ => False) hb6) (fun _ _ h => h))
      have HL6 : Hid ((writeL l ++ [0]).length = N + 1) := hidden (by rw [List.length_append, HN.out]; rfl)
      have Q6 := hidden q6
      clear g5 g6 hb5 hb6 ho6 q6 O4 Q4 Q5 HOE BX
      rw [HL6.out] at hc6 ⊢
      with_reducible refine (readc_any a6 (N + 1) c6 (writeL l ++ [0]) w6 Q6.out HL6.out.symm hc6 hm6 (by omega)).mono ?_
      intro e w7 hr
      obtain ⟨hb, a7, c7, e7, q7⟩ := hr.uni
      rw [readRes_none (read_more H0.out)] at e7
      subst e7
      have B7 := hidden (B6.out.trans (hb.mono B6.out.size))
      have O7 := hidden (O6.out.on (Upd.ofNew (M := fun _ => False) hb) (fun _ _ h => h))
      clear hr hb q7 O6 Q6
      go_wp2_with fail
      with_reducible refine (readc_any (some ⟨g, 0, none⟩) 0 c1 [] w7 (bytes_nil _ _) rfl (Nat.zero_le _) hm1 (by decide)).mono ?_
      intro e w8 hr
      obtain ⟨hb, a8, c8, e8, q8⟩ := hr.uni
      rw [readRes_none (readL_short (b := []) (by decide))] at e8
      subst e8
      have B8 := hidden (B7.out.trans (hb.mono B7.out.size))
      have O8 := hidden (O7.out.on (Upd.ofNew (M := fun _ => False) hb) (fun _ _ h => h))
      obtain ⟨a9, c9, e9, q9, -, -⟩ := O8.out.reads
      rw [HN.out] at e9
      cases e9
      have Q8 := hidden q9
      clear hr hb q8 O7 q9
      have k0 : (0 : Int) < 8 * ((N : Int) - 4) := by omega
      have k1 : 0 ≤ (bit : Int) % (8 * ((N : Int) - 4)) := Int.emod_nonneg _ (by omega)
      have k2 : (bit : Int) % (8 * ((N : Int) - 4)) < 8 * ((N : Int) - 4) := Int.emod_lt_of_pos _ (by omega)
      have hi : bit % (8 * (N - 4)) / 8 + 4 < N := by
        have := Nat.mod_lt bit (show 8 * (N - 4) > 0 by omega)
        have := Nat.div_lt_of_lt_mul this
        omega
      have hil : bit % (8 * (N - 4)) / 8 < (writeL l).length := by rw [HN.out]; omega
      obtain ⟨g', o', e, hcell⟩ := Q8.out (bit % (8 * (N - 4)) / 8) hil
      cases e
      rw [Nat.zero_add] at hcell
      have hfz := World.ownsRow.frozenAt O8.out (bit % (8 * (N - 4)) / 8)
      obtain ⟨x, ex⟩ : ∃ x, (writeL l)[bit % (8 * (N - 4)) / 8] = x := ⟨_, rfl⟩
      rw [ex] at hcell
      have EX := hidden ex
      clear ex
      have hxl : (x.toNat : Int) < 256 := by have := x.toNat_lt; omega
      go_wp2_with fail
      obtain ⟨y, hy1, hy2⟩ := xor_pow x (bit % 8) (Nat.mod_lt _ (by decide))
      rw [hy1]
      have q9 : BytesAt (w8.setCell ⟨g, bit % (8 * (N - 4)) / 8, none⟩ (bV y)) (some ⟨g, 0, none⟩) ((writeL l).set (bit % (8 * (N - 4)) / 8) y) := Q8.out.setc hil y
      have ht : readL ((writeL l).set (bit % (8 * (N - 4)) / 8) y) = none := read_turned H0.out (by rw [HN.out]; exact hi) (by rw [EX.out]; exact hy2)
      have HTN := hidden (readRes_none ht)
      have B9 : Hid (Below w.heap.size w (w8.setCell ⟨g, bit % (8 * (N - 4)) / 8, none⟩ (bV y))) := hidden (B8.out.setCell (by exact HG2.out) _)
      have hl9 : ((writeL l).set (bit % (8 * (N - 4)) / 8) y).length = N := by rw [List.length_set, HN.out]
      generalize (writeL l).set (bit % (8 * (N - 4)) / 8) y = fs at q9 HTN hl9 ht
      generalize w8.setCell ⟨g, bit % (8 * (N - 4)) / 8, none⟩ (bV y) = w9 at q9 B9
      clear hcell hfz Q8 O8 hil hi k0 k1 k2 hy1 hy2 EX ht
      with_reducible refine (readc_any (some ⟨g, 0, none⟩) N c1 fs w9 q9 hl9.symm hc1 hm1 (by omega)).mono ?_
      intro e w10 hr
      obtain ⟨hb, a10, c10, e10, q10⟩ := hr.uni
      rw [HTN.out] at e10
      subst e10
      have B10 := hidden (B9.out.trans (hb.mono B9.out.size))
      clear hr hb q10 q9 hl9
      go_wp2_with fail
      with_reducible refine (lives_03 w10).mono ?_
      rintro e w11 ⟨rfl, hb⟩
      have B11 := hidden (B10.out.trans (hb.mono B10.out.size))
      clear hb
      go_wp2_with fail
      go_ret
      exact ⟨rfl, B11.out⟩
    · rw [if_neg h0] at ho
      obtain ⟨a1, c1, rfl, -, -, -⟩ := ho.reads
      have t1 : (((mayE l : Nat) : Int) != 0) = true := by rw [bne_iff_ne]; omega
      clear hb ho h0 C1 C0'
      go_wp2_with fail
      with_reducible refine (lives_03 w1).mono ?_
      rintro e w2 ⟨rfl, hb⟩
      have B := hidden (B1.out.trans (hb.mono B1.out.size))
      clear hb
      go_wp2_with fail
      go_ret
      exact ⟨rfl, B.out⟩
  · go_wp2_with fail
    with_reducible refine (lives_03 w0).mono ?_
    rintro e w1 ⟨rfl, hb⟩
    have B := hidden (B0.out.trans (hb.mono B0.out.size))
    clear hb
    go_wp2_with fail
    go_ret
    exact ⟨rfl, B.out⟩
end Go.Proofs.Ytekmjegeiminnaa
