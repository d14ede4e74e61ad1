/- ShiftCells walked: the law itself. -/
import Derived.Test.YtbaejlmpoflogaaW5
namespace Go.Proofs.Ytbaejlmpoflogaa
open Go.RowKit
set_option linter.unusedVariables false
set_option linter.unusedSimpArgs false

/-- What ShiftCells is told of its slice: nil, or cells that lie somewhere. -/
def SliceIn (w : World) (a : Option Addr) (l : List CellV) (cap : Nat) : Prop :=
  (a = none ∧ l = [] ∧ cap = 0) ∨ (∃ A : Addr, a = some A ∧ ∀ j u, (flatC l)[j]? = some u → A.block < w.heap.size ∧ w.cell? (A.add j) = some u)

theorem same_nil (a1 a2 : Option Addr) (c1 c2 : Nat) (w : World) :
    Calls Try.prog 19 #[.slice a1 0 c1, .slice a2 0 c2] w fun e w' => e = .returned (.bool true) ∧ ∃ n, w' = w.drewN n :=
  same_eq a1 a2 c1 c2 [] w (fun i h => by simp at h) (fun i h => by simp at h) (by simp)

set_option maxHeartbeats 16000000 in
theorem shiftcells_walk (a n m : Int) (cols : Bool) (ad : Option Addr) (cap : Nat) (l : List CellV) (w : World) (ha : I64 a) (hn : I64 n) (hm : I64 m) (hl : l.length * 32 ≤ 140737488351232) (hc : CellsAt w ad l)
    (hs : SliceIn w ad l cap) (hr : ∀ i (h : i < l.length), I64 l[i].row ∧ I64 l[i].col) :
    Calls Try.prog 6 #[S3 a n m, .bool cols, .slice ad l.length cap] w fun e w' => e = .returned (.bool true) ∧ Below w.heap.size w w' := by
  have HC := hidden hc
  have HR := hidden hr
  obtain ⟨i0, hi, hz0, hz1, hz2⟩ := info_parts Try.info49
  have PR : Hid (∀ W, Below w.heap.size w W → Calls Try.prog 17 #[S3 a n m, .bool cols, .slice ad l.length cap] W (CellsR a n m cols l W)) := fun W hb => by
    cases hg : goodB a n m with
    | true => exact cells_prog a n m cols ad cap l hg W hl (hc.on hb) hr
    | false => exact cells_bad_p a n m cols ad _ cap l hg ha hn hm W
  have RR : Hid (∀ W, Below w.heap.size w W → Calls Try.prog 18 #[S3 a n m, .bool cols, .slice ad l.length cap] W (CellsR a n m cols l W)) := fun W hb => by
    cases hg : goodB a n m with
    | true => exact cells_ref a n m cols ad cap l hg W hl (hc.on hb) hr
    | false => exact cells_bad a n m cols ad _ cap l hg ha hn hm W
  clear hc hr ha hn hm
  have HL := hidden hl
  have hll : (l.length : Int) ≤ 140737488351232 := by omega
  rcases hs with ⟨rfl, rfl, rfl⟩ | ⟨A, rfl, hnew⟩
  · clear hl hll
    go_enter Try.func6, Try.ntmps6
    go_wp2_with fail
    have bel1 : Hid (Below w.heap.size w ((w.alloc (.cells #[.int .i64 a, .int .i64 n, .int .i64 m] 27)).alloc (.cells #[] 49))) := ((Below.refl _ _).alloc (Nat.le_refl _) _).alloc (by simp) _
    have S1 : Hid (Cells3 w.heap.size a n m ((w.alloc (.cells #[.int .i64 a, .int .i64 n, .int .i64 m] 27)).alloc (.cells #[] 49))) := ⟨by go_simp, by go_simp, by go_simp⟩
    have hz1 : w.heap.size < ((w.alloc (.cells #[.int .i64 a, .int .i64 n, .int .i64 m] 27)).alloc (.cells #[] 49)).heap.size := by simp; omega
    have K1 : Hid (CellsAt ((w.alloc (.cells #[.int .i64 a, .int .i64 n, .int .i64 m] 27)).alloc (.cells #[] 49)) (some ⟨w.heap.size + 1, 0, none⟩) []) := fun i h => by simp at h
    have L1 : Hid (CellsAt ((w.alloc (.cells #[.int .i64 a, .int .i64 n, .int .i64 m] 27)).alloc (.cells #[] 49)) none []) := fun i h => by simp at h
    obtain ⟨c0, c1, c2⟩ := S1.out
    generalize (w.alloc (.cells #[.int .i64 a, .int .i64 n, .int .i64 m] 27)).alloc (.cells #[] 49) = w1 at *
    obtain ⟨ak, hak⟩ : ∃ ak : Option Addr, (some ⟨w.heap.size + 1, 0, none⟩ : Option Addr) = ak := ⟨_, rfl⟩
    rw [hak] at K1 ⊢
    clear hak
    go_wp2_with fail
    refine (PR.out _ bel1.out).mono ?_
    rintro e w2 ⟨hb2, hres⟩
    clear c0 c1 c2
    generalize hG : (if goodB a n m = true then goC a n m cols [] [] [] else none) = G at hres
    have HG := hidden hG
    clear hG
    cases G with
    | none =>
      simp only at hres
      subst hres
      have R2 := hidden hb2
      obtain ⟨c0, c1, c2⟩ := S1.out.on R2.out hz1
      go_wp2_with fail
      refine (plain_any a n m _).mono ?_
      rintro e w3 ⟨rfl, hb3⟩
      have R3 := hidden (R2.out.trans (hb3.mono R2.out.size))
      have HB3 := hidden hb3
      clear hb2 hb3 c0 c1 c2
      obtain ⟨c0, c1, c2⟩ := S1.out.on R3.out hz1
      go_wp2_with fail
      refine (RR.out _ (bel1.out.trans (R3.out.mono bel1.out.size))).mono ?_
      rintro e w4 ⟨hb4, hres4⟩
      rw [HG.out] at hres4
      have R4 := hidden (R3.out.trans (hb4.mono R3.out.size))
      have HB4 := hidden hb4
      clear hb4
      simp only at hres4
      subst hres4
      go_wp2_with fail
      refine (same_nil none none 0 0 _).mono ?_
      rintro e w5 ⟨rfl, n5, rfl⟩
      have R5 := hidden (below_dn R4.out n5)
      go_wp2_with fail
      refine (same_nil none none 0 0 _).mono ?_
      rintro e w6 ⟨rfl, n6, rfl⟩
      have R7 := hidden (below_dn R4.out (n5 + n6))
      go_wp2_with fail
      refine wp_loop_rounds 1 ?_
      rw [rounds_succ]
      go_wp2_with fail
      refine (same_nil none ak 0 0 _).mono ?_
      rintro e w8 ⟨rfl, n8, rfl⟩
      have R8 := hidden (below_dn R4.out (n5 + n6 + n8))
      go_wp2_with fail
      refine (lives_any _).mono ?_
      rintro e w9 ⟨rfl, hb9⟩
      have R9 := hidden (R8.out.trans (hb9.mono R8.out.size))
      clear hb9
      go_wp2
      go_ret
      exact ⟨rfl, bel1.out.trans (R9.out.mono bel1.out.size)⟩
    | some G =>
      obtain ⟨st, go⟩ := G
      simp only at hres
      obtain ⟨hsz, v1, v2, rfl, two⟩ := hres
      have hsz2 : st.length ≤ 140737488351232 ∧ go.length ≤ 140737488351232 := by have := HL.out; omega
      have Z2 := two.own1
      obtain ⟨a1, q1, rfl, r1⟩ := owned_reads two.own1
      obtain ⟨a2, q2, rfl, r2⟩ := owned_reads two.own2
      have Z3 := hidden Z2
      have r1' := hidden r1
      have r2' := hidden r2
      clear Z2 r1 r2 two
      have R2 := hidden hb2
      obtain ⟨c0, c1, c2⟩ := S1.out.on R2.out hz1
      go_wp2_with fail
      refine (plain_any a n m _).mono ?_
      rintro e w3 ⟨rfl, hb3⟩
      have R3 := hidden (R2.out.trans (hb3.mono R2.out.size))
      have HB3 := hidden hb3
      clear hb2 hb3 c0 c1 c2
      obtain ⟨c0, c1, c2⟩ := S1.out.on R3.out hz1
      go_wp2_with fail
      refine (RR.out _ (bel1.out.trans (R3.out.mono bel1.out.size))).mono ?_
      rintro e w4 ⟨hb4, hres4⟩
      rw [HG.out] at hres4
      have R4 := hidden (R3.out.trans (hb4.mono R3.out.size))
      have HB4 := hidden hb4
      clear hb4
      simp only at hres4
      obtain ⟨-, u1, u2, rfl, two4⟩ := hres4
      obtain ⟨b1, p1, rfl, s1⟩ := owned_reads two4.own1
      obtain ⟨b2, p2, rfl, s2⟩ := owned_reads two4.own2
      have s1' := hidden s1
      have s2' := hidden s2
      clear s1 s2 two4
      have hsz3 := hsz2.1
      have hsz4 := hsz2.2
      have r14 := hidden ((r1'.out.on HB3.out).on HB4.out)
      have r24 := hidden ((r2'.out.on HB3.out).on HB4.out)
      have Z4 := hidden ((Z3.out.kept (below_grown HB3.out none) (by cases hv : (Value.slice a1 st.length q1).ownBlock <;> simp)).kept (below_grown HB4.out none) (by cases hv : (Value.slice a1 st.length q1).ownBlock <;> simp))
      go_wp2_with fail
      refine (same_eq a1 b1 q1 p1 st _ r14.out s1'.out hsz3).mono ?_
      rintro e w5 ⟨rfl, n5, rfl⟩
      have R5 := hidden (below_dn R4.out n5)
      go_wp2_with fail
      refine (same_eq a2 b2 q2 p2 go _ (r24.out.on (below_dn (Below.refl _ _) _)) (s2'.out.on (below_dn (Below.refl _ _) _)) hsz4).mono ?_
      rintro e w6 ⟨rfl, n6, rfl⟩
      have R6 := hidden (below_dn R4.out (n5 + n6))
      have Z6 : Hid (Zap w1.heap.size a1 st.length (w4.drewN (n5 + n6))) := Zap.start (Z4.out.kept (below_grown (below_dn (Below.refl _ _) (n5 + n6)) none) (by cases hv : (Value.slice a1 st.length q1).ownBlock <;> simp))
      go_wp2_with fail
      go_loopw [52] (fun i wr => ∃ k : Nat, i = .int .i64 k ∧ k ≤ st.length ∧ Below w1.heap.size w1 wr ∧ Zap w1.heap.size a1 st.length wr) (fun i _ => st.length - (intOf i).toNat)
      case atStart => exact ⟨0, rfl, Nat.zero_le _, R6.out, Z6.out⟩
      case round =>
        obtain ⟨k, rfl, hk, rbel, zap⟩ := hrel
        have RB := hidden rbel
        have ZP := hidden zap
        clear rbel zap
        by_cases hlt : k < st.length
        · obtain ⟨g, rfl, hg, ⟨x0, h0⟩, f0⟩ := ZP.out (k * 3) (by omega)
          obtain ⟨g', e1, _, ⟨x1, h1⟩, f1⟩ := ZP.out (k * 3 + 1) (by omega)
          obtain ⟨g'', e2, _, ⟨x2, h2⟩, f2⟩ := ZP.out (k * 3 + 2) (by omega)
          simp only [Option.some.injEq, Addr.mk.injEq, and_true] at e1 e2
          subst e1 e2
          have hk1 : (0 : Int) ≤ (k : Int) := by omega
          have hk2 : (k : Int) < (st.length : Int) := by omega
          go_wp2
          exact ⟨⟨k + 1, by go_num, by omega, ((RB.out.setCell hg _).setCell hg _).setCell hg _, ((ZP.out.set _).set _).set _⟩, by simp [intOf]; omega⟩
        · have hk1 : ¬ (k : Int) < (st.length : Int) := by omega
          have R7 := RB
          go_wp2_with fail
          refine (same_nil none ak 0 0 _).mono ?_
          rintro e w8 ⟨rfl, n8, rfl⟩
          have R8 := hidden (below_dn R7.out n8)
          go_wp2_with fail
          refine (lives_any _).mono ?_
          rintro e w9 ⟨rfl, hb9⟩
          have R9 := hidden (R8.out.trans (hb9.mono R8.out.size))
          clear hb9
          go_wp2
          go_ret
          exact ⟨rfl, bel1.out.trans (R9.out.mono bel1.out.size)⟩
  · go_enter Try.func6, Try.ntmps6
    have HNEW := hidden hnew
    clear hnew
    have S0 : Hid (Cells3 w.heap.size a n m ((w.alloc (.cells #[.int .i64 a, .int .i64 n, .int .i64 m] 27)).alloc (.cells #[] 49))) := ⟨by go_simp, by go_simp, by go_simp⟩
    have OWN : ((w.alloc (.cells #[.int .i64 a, .int .i64 n, .int .i64 m] 27)).alloc (.cells #[] 49)).ownsRow (w.heap.size + 1) 49 3 (.slice (some ⟨w.heap.size + 1, 0, none⟩) 0 0) 0 [] := by
      have := World.ownsRow_lit (base := w.heap.size + 1) (e := 49) (size := 3) (w.alloc (.cells #[.int .i64 a, .int .i64 n, .int .i64 m] 27)) #[] 0 (by rw [World.size_alloc]; exact Nat.le_refl _) (by decide) rfl
      rw [World.size_alloc] at this
      exact this
    have NEWS : ∀ j u, (flatC l)[j]? = some u → ((w.alloc (.cells #[.int .i64 a, .int .i64 n, .int .i64 m] 27)).alloc (.cells #[] 49)).cell? (A.add j) = some u := by
      intro j u hu
      obtain ⟨hb0, h0⟩ := HNEW.out j u hu
      have e : (A.add j).block = A.block := by unfold Addr.add; split <;> rfl
      rw [World.cell?_alloc_lt _ _ _ (by rw [e, World.size_alloc]; omega), World.cell?_alloc_lt _ _ _ (by rw [e]; exact hb0)]; exact h0
    have HOWN := hidden OWN
    have HNEWS := hidden NEWS
    clear OWN NEWS
    go_wp2_with (at_builtin; go_loud (refine wpList_append_own_at _ rfl (.tmp 15) (.tmp 16) 43 rfl (w.heap.size + 1) 49 i0 zeroCell 3 32 Try.underlying43 hi hz0 hz1 hz2 rfl (by decide) (.slice (some ⟨w.heap.size + 1, 0, none⟩) 0 0) 0 [] rfl HOWN.out A l.length cap (flatC l) rfl (flatC_length l) HNEWS.out (flat_one l) (by unfold maxLen; omega) (by omega) (by simp) ?_); intro v' w1 hown' hgrow hnil hblk; have S1 := hidden (Cells3.grown S0.out hgrow (fun k hk => by have hk' : some (w.heap.size + 1) = some k := hk; simp at hk'; omega)); obtain ⟨c0, c1, c2⟩ := S1.out)
    simp only [Nat.zero_add, List.nil_append] at hown'
    have bel1 : Hid (Below w.heap.size w w1) := (((Below.refl _ _).alloc (Nat.le_refl _) _).alloc (by simp) _).grown hgrow (by simp; omega) (fun k hk => by have hk' : some (w.heap.size + 1) = some k := hk; simp at hk'; omega)
    have hz1 : w.heap.size < w1.heap.size := Nat.lt_of_lt_of_le (by simp; omega) hgrow.size
    obtain ⟨ak, ck, rfl, K⟩ := owned_reads hown'
    have K1 := hidden K
    have L1 := hidden (HC.out.on bel1.out)
    clear hown' hgrow hnil hblk K
    go_wp2_with fail
    refine (PR.out _ bel1.out).mono ?_
    rintro e w2 ⟨hb2, hres⟩
    clear c0 c1 c2
    generalize hG : (if goodB a n m = true then goC a n m cols l [] [] else none) = G at hres
    have HG := hidden hG
    clear hG
    cases G with
    | none =>
      simp only at hres
      subst hres
      have R2 := hidden hb2
      obtain ⟨c0, c1, c2⟩ := S1.out.on R2.out hz1
      go_wp2_with fail
      refine (plain_any a n m _).mono ?_
      rintro e w3 ⟨rfl, hb3⟩
      have R3 := hidden (R2.out.trans (hb3.mono R2.out.size))
      have HB3 := hidden hb3
      clear hb2 hb3 c0 c1 c2
      obtain ⟨c0, c1, c2⟩ := S1.out.on R3.out hz1
      go_wp2_with fail
      refine (RR.out _ (bel1.out.trans (R3.out.mono bel1.out.size))).mono ?_
      rintro e w4 ⟨hb4, hres4⟩
      rw [HG.out] at hres4
      have R4 := hidden (R3.out.trans (hb4.mono R3.out.size))
      have HB4 := hidden hb4
      clear hb4
      simp only at hres4
      subst hres4
      go_wp2_with fail
      refine (same_nil none none 0 0 _).mono ?_
      rintro e w5 ⟨rfl, n5, rfl⟩
      have R5 := hidden (below_dn R4.out n5)
      go_wp2_with fail
      refine (same_nil none none 0 0 _).mono ?_
      rintro e w6 ⟨rfl, n6, rfl⟩
      have R7 := hidden (below_dn R4.out (n5 + n6))
      go_wp2_with fail
      refine wp_loop_rounds 1 ?_
      rw [rounds_succ]
      go_wp2_with fail
      refine (same_eq (some A) ak cap ck l _ (L1.out.on R7.out) (K1.out.on R7.out) (by have := HL.out; omega)).mono ?_
      rintro e w8 ⟨rfl, n8, rfl⟩
      have R8 := hidden (below_dn R4.out (n5 + n6 + n8))
      go_wp2_with fail
      refine (lives_any _).mono ?_
      rintro e w9 ⟨rfl, hb9⟩
      have R9 := hidden (R8.out.trans (hb9.mono R8.out.size))
      clear hb9
      go_wp2
      go_ret
      exact ⟨rfl, bel1.out.trans (R9.out.mono bel1.out.size)⟩
    | some G =>
      obtain ⟨st, go⟩ := G
      simp only at hres
      obtain ⟨hsz, v1, v2, rfl, two⟩ := hres
      have hsz2 : st.length ≤ 140737488351232 ∧ go.length ≤ 140737488351232 := by have := HL.out; omega
      have Z2 := two.own1
      obtain ⟨a1, q1, rfl, r1⟩ := owned_reads two.own1
      obtain ⟨a2, q2, rfl, r2⟩ := owned_reads two.own2
      have Z3 := hidden Z2
      have r1' := hidden r1
      have r2' := hidden r2
      clear Z2 r1 r2 two
      have R2 := hidden hb2
      obtain ⟨c0, c1, c2⟩ := S1.out.on R2.out hz1
      go_wp2_with fail
      refine (plain_any a n m _).mono ?_
      rintro e w3 ⟨rfl, hb3⟩
      have R3 := hidden (R2.out.trans (hb3.mono R2.out.size))
      have HB3 := hidden hb3
      clear hb2 hb3 c0 c1 c2
      obtain ⟨c0, c1, c2⟩ := S1.out.on R3.out hz1
      go_wp2_with fail
      refine (RR.out _ (bel1.out.trans (R3.out.mono bel1.out.size))).mono ?_
      rintro e w4 ⟨hb4, hres4⟩
      rw [HG.out] at hres4
      have R4 := hidden (R3.out.trans (hb4.mono R3.out.size))
      have HB4 := hidden hb4
      clear hb4
      simp only at hres4
      obtain ⟨-, u1, u2, rfl, two4⟩ := hres4
      obtain ⟨b1, p1, rfl, s1⟩ := owned_reads two4.own1
      obtain ⟨b2, p2, rfl, s2⟩ := owned_reads two4.own2
      have s1' := hidden s1
      have s2' := hidden s2
      clear s1 s2 two4
      have hsz3 := hsz2.1
      have hsz4 := hsz2.2
      have r14 := hidden ((r1'.out.on HB3.out).on HB4.out)
      have r24 := hidden ((r2'.out.on HB3.out).on HB4.out)
      have Z4 := hidden ((Z3.out.kept (below_grown HB3.out none) (by cases hv : (Value.slice a1 st.length q1).ownBlock <;> simp)).kept (below_grown HB4.out none) (by cases hv : (Value.slice a1 st.length q1).ownBlock <;> simp))
      go_wp2_with fail
      refine (same_eq a1 b1 q1 p1 st _ r14.out s1'.out hsz3).mono ?_
      rintro e w5 ⟨rfl, n5, rfl⟩
      have R5 := hidden (below_dn R4.out n5)
      go_wp2_with fail
      refine (same_eq a2 b2 q2 p2 go _ (r24.out.on (below_dn (Below.refl _ _) _)) (s2'.out.on (below_dn (Below.refl _ _) _)) hsz4).mono ?_
      rintro e w6 ⟨rfl, n6, rfl⟩
      have R6 := hidden (below_dn R4.out (n5 + n6))
      have Z6 : Hid (Zap w1.heap.size a1 st.length (w4.drewN (n5 + n6))) := Zap.start (Z4.out.kept (below_grown (below_dn (Below.refl _ _) (n5 + n6)) none) (by cases hv : (Value.slice a1 st.length q1).ownBlock <;> simp))
      go_wp2_with fail
      go_loopw [52] (fun i wr => ∃ k : Nat, i = .int .i64 k ∧ k ≤ st.length ∧ Below w1.heap.size w1 wr ∧ Zap w1.heap.size a1 st.length wr) (fun i _ => st.length - (intOf i).toNat)
      case atStart => exact ⟨0, rfl, Nat.zero_le _, R6.out, Z6.out⟩
      case round =>
        obtain ⟨k, rfl, hk, rbel, zap⟩ := hrel
        have RB := hidden rbel
        have ZP := hidden zap
        clear rbel zap
        by_cases hlt : k < st.length
        · obtain ⟨g, rfl, hg, ⟨x0, h0⟩, f0⟩ := ZP.out (k * 3) (by omega)
          obtain ⟨g', e1, _, ⟨x1, h1⟩, f1⟩ := ZP.out (k * 3 + 1) (by omega)
          obtain ⟨g'', e2, _, ⟨x2, h2⟩, f2⟩ := ZP.out (k * 3 + 2) (by omega)
          simp only [Option.some.injEq, Addr.mk.injEq, and_true] at e1 e2
          subst e1 e2
          have hk1 : (0 : Int) ≤ (k : Int) := by omega
          have hk2 : (k : Int) < (st.length : Int) := by omega
          go_wp2
          exact ⟨⟨k + 1, by go_num, by omega, ((RB.out.setCell hg _).setCell hg _).setCell hg _, ((ZP.out.set _).set _).set _⟩, by simp [intOf]; omega⟩
        · have hk1 : ¬ (k : Int) < (st.length : Int) := by omega
          have R7 := RB
          go_wp2_with fail
          refine (same_eq (some A) ak cap ck l _ (L1.out.on R7.out) (K1.out.on R7.out) (by have := HL.out; omega)).mono ?_
          rintro e w8 ⟨rfl, n8, rfl⟩
          have R8 := hidden (below_dn R7.out n8)
          go_wp2_with fail
          refine (lives_any _).mono ?_
          rintro e w9 ⟨rfl, hb9⟩
          have R9 := hidden (R8.out.trans (hb9.mono R8.out.size))
          clear hb9
          go_wp2
          go_ret
          exact ⟨rfl, bel1.out.trans (R9.out.mono bel1.out.size)⟩
end Go.Proofs.Ytbaejlmpoflogaa
