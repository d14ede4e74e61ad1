/- The container's Write, walked. -/
import Derived.Test.YtekmjegeiminnaaC1
import Derived.Test.YtekmjegeiminnaaB18
import Derived.Deep.RegionHeld3
import Derived.Deep.RegionLaw
namespace Go.Proofs.Ytekmjegeiminnaa
open Go.RowKit
set_option linter.unusedVariables false
set_option linter.unusedSimpArgs false

theorem below_drew (w : World) : Below w.heap.size w w.drew := ⟨rfl, rfl, rfl, Nat.le_refl _, fun _ _ => rfl⟩
/-- A variable of two cells, behind an append onto another row. -/
theorem var_kept {w : World} {g : Nat} {x y v v' : Value} {bs cs : List UInt8} {W W' : World} (ho : OwnB w.heap.size W v bs) (hg : Grew w.heap.size v v' cs W W') (hb : Below w.heap.size w W) (hz : g < W.heap.size)
    (e0 : W.cell? ⟨g, 0, none⟩ = some x) (e1 : W.cell? ⟨g, 1, none⟩ = some y) (hne : some g ≠ v.ownBlock) :
    (W'.cell? ⟨g, 0, none⟩ = some x ∧ W'.cell? ⟨g, 1, none⟩ = some y) ∧ Below w.heap.size w W' ∧ some g ≠ v'.ownBlock ∧ g < W'.heap.size := by
  refine ⟨⟨hg.upd.cell e0 hne, hg.upd.cell e1 hne⟩, hb.trans (hg.below hb.size (fun k hk => (ho.lt k hk).1)), ?_, Nat.lt_of_lt_of_le hz hg.upd.size⟩
  rcases hg.at_ with e | ⟨q, e, hq⟩
  · rw [e]; exact hne
  · rw [e]; intro he; injection he with he; omega

theorem sep_step {B : Nat} {x v v' : Value} {cs : List UInt8} {W W' : World} (hx : ∀ i, x.ownBlock = some i → i < W.heap.size) (hs : ∀ i j, x.ownBlock = some i → v.ownBlock = some j → i ≠ j) (hg : Grew B v v' cs W W') :
    ∀ i j, x.ownBlock = some i → v'.ownBlock = some j → i ≠ j := fun i j hi hj => by
  rcases hg.at_ with e | ⟨g, e, h⟩
  · exact hs i j hi (e ▸ hj)
  · rw [e] at hj; cases hj
    have := hx i hi; omega

set_option maxRecDepth 100000 in
set_option maxHeartbeats 8000000 in
theorem write_any (a : Option Addr) (len cap : Nat) (l : List Chk) (w : World) (h : ChunksAt (· < w.heap.size) w a l) (hs : Sized l) (hlen : len = l.length) :
    Calls Try.prog 34 #[.slice a len cap] w (WriteA l w) := by
  subst hlen
  have H := hidden h
  have HS := hidden hs
  have hl := hs.1
  clear h hs
  go_enter Try.func34, Try.ntmps34
  go_wp2_with fail
  with_reducible refine (may_any a _ cap l w H.out HS.out rfl).mono ?_
  rintro e w1 ⟨rfl, hb⟩
  have B1 := hidden hb
  clear hb
  by_cases h0 : mayE l = 0
  · obtain ⟨hg, hd, h32, ht⟩ := may_zero h0
    rw [h0]
    have HG : Hid (∀ c ∈ l, c.1.length = 4) := hidden (fun c hc => good_len hg hc)
    have H0 := hidden h0
    clear hg hd h0
    have hcv := Lib.run_convert_bytes_const (P := Try.prog) w1 22 5 #[.int .u8 79, .int .u8 67, .int .u8 84, .int .u8 65, .int .u8 86, .int .u8 79, .int .u8 49, .int .u8 10] 8 8 Try.underlying22 Try.underlying5
    have hsz : (#[.int .u8 79, .int .u8 67, .int .u8 84, .int .u8 65, .int .u8 86, .int .u8 79, .int .u8 49, .int .u8 10] : Array Value).size = 8 := rfl
    rw [hsz] at hcv
    clear hsz
    go_wp2_with fail
    have HO5 : Hid (MOwn w.heap.size (w1.alloc (.cells #[.int .u8 79, .int .u8 67, .int .u8 84, .int .u8 65, .int .u8 86, .int .u8 79, .int .u8 49, .int .u8 10] 5 (8, 9))) (.slice (some ⟨w1.heap.size, 0, none⟩) 8 8) magicL) := hidden (.inr ⟨rfl, _, rfl, B1.out.size, heap_alloc_new _ _⟩)
    have HB5 : Hid (Below w.heap.size w (w1.alloc (.cells #[.int .u8 79, .int .u8 67, .int .u8 84, .int .u8 65, .int .u8 86, .int .u8 79, .int .u8 49, .int .u8 10] 5 (8, 9)))) := hidden (B1.out.alloc B1.out.size _)
    clear hcv
    go_loopw [5, 6, 19] (fun s5 s6 s19 wr => ∃ k : Nat, s19 = .int .i64 k ∧ k ≤ l.length ∧ MOwn w.heap.size wr s5 (magicL ++ dataL (l.take k)) ∧ OwnB w.heap.size wr s6 (dirL (l.take k)) ∧ (∀ i j, s5.ownBlock = some i → s6.ownBlock = some j → i ≠ j) ∧ Below w.heap.size w wr) (fun _ _ s19 _ => l.length - (intOf s19).toNat)
    case atStart => exact ⟨0, rfl, by omega, by simpa [dataL] using HO5.out, OwnB.nil _ _, (fun i j _ hj => by cases hj), HB5.out⟩
    case round =>
      obtain ⟨k, rfl, hk, ho5, ho6, hne, hb⟩ := hrel
      have O5 := hidden ho5
      have O6 := hidden ho6
      have NE := hidden hne
      have HB := hidden hb
      clear ho5 ho6 hne hb HO5 HB5
      by_cases hlt : k < l.length
      · obtain ⟨b, o, d, cap', rfl, c0, c1, h1, h2, h3, h4, h5⟩ := H.out.below HB.out k hlt
        have HT := hidden (take_snoc' l hlt)
        have hc12 := HS.out.2 _ (List.getElem_mem hlt)
        have hg4 := HG.out _ (List.getElem_mem hlt)
        have h384 : (dirL (l.take k)).length ≤ 384 := by
          rw [dirL_length (fun c hc => HG.out c (List.mem_of_mem_take hc)), List.length_take]; omega
        have htot : total (l.take (k + 1)) ≤ 131072 := Nat.le_trans (total_take_le l (k + 1)) ht
        rw [HT.out, total_snoc] at htot
        have hdat := dataL_length (l.take k)
        have hML : (magicL ++ dataL (l.take k)).length + l[k].2.length ≤ 131080 := by
          rw [List.length_append, hdat]; simp [magicL]; omega
        clear hdat
        generalize l[k] = c at c0 c1 h1 h3 h5 HT hc12 hg4 htot hML
        have HG4 := hidden hg4
        obtain ⟨hc1, hc2⟩ := hc12
        have h12 : c.2.length < 4294967296 := by omega
        have BA : Hid (Below wr.heap.size wr (wr.alloc (.cells #[.string (strOf c.1), .slice d c.2.length cap'] 121))) := hidden ((Below.refl _ _).alloc (Nat.le_refl _) _)
        have Q0 := hidden (h3.on' BA.out)
        have OA := hidden (O5.out.on (Upd.ofNew (M := fun _ => False) BA.out) (fun _ _ h => h))
        have PA := hidden (O6.out.on (Upd.ofNew (M := fun _ => False) BA.out) (fun _ _ h => h))
        have BW := hidden (HB.out.trans (BA.out.mono HB.out.size))
        have v0 : (wr.alloc (.cells #[.string (strOf c.1), .slice d c.2.length cap'] 121)).cell? ⟨wr.heap.size, 0, none⟩ = some (.string (strOf c.1)) := by rw [World.cell?_alloc_at _ _ _ _ rfl]; rfl
        have v1 : (wr.alloc (.cells #[.string (strOf c.1), .slice d c.2.length cap'] 121)).cell? ⟨wr.heap.size, 1, none⟩ = some (.slice d c.2.length cap') := by rw [World.cell?_alloc_at _ _ _ _ rfl]; rfl
        have HAN : Hid (∀ A, d = some A → 0 < c.2.length → A.block < w.heap.size) := hidden h5
        clear h3 h5 hg4 htot
        go_wp2_with (at_builtin; refine wpList_append_M rfl (.tmp 23) (.tmp 25) rfl rfl OA.out rfl rfl Q0.out (by omega) (BW.out.size) ?_; intro x5 w2 g2; have G2 := hidden g2; have y0 := g2.upd.cell v0 (fun e => by have := (O5.out.lt _ e.symm).2; simp only at this; omega); have y1 := g2.upd.cell v1 (fun e => by have := (O5.out.lt _ e.symm).2; simp only at this; omega); clear g2)
        have B2 : Hid (Below w.heap.size w w2) := hidden (BW.out.trans (G2.out.upd.toBelow BW.out.size (fun i hi e => by have := (OA.out.lt i e.symm).1; omega)))
        have P2 : Hid (OwnB w.heap.size w2 u6 (dirL (l.take k))) := hidden (PA.out.on G2.out.upd (fun i hi e => NE.out i i e.symm hi rfl))
        have QW : Hid (BytesAt w d c.2) := hidden (by
          intro i hi
          obtain ⟨b', o', e, hc⟩ := Q0.out i hi
          refine ⟨b', o', e, ?_⟩
          rw [← hc]
          exact (BW.out.cell (p := ⟨b', o' + i, none⟩) (by exact HAN.out ⟨b', o', none⟩ e (by omega))).symm)
        clear v0 v1
        have Z2 : wr.heap.size < w2.heap.size := by have := G2.out.upd.size; simp at this; omega
        have N2 : Hid (some wr.heap.size ≠ u6.ownBlock) := hidden (fun e => by have := (O6.out.lt _ e.symm).2; omega)
        have P2D : Hid (OwnB w.heap.size w2.drew u6 (dirL (l.take k))) := hidden P2.out
        have B2D : Hid (w.heap.size ≤ w2.drew.heap.size) := hidden B2.out.size
        have HL3 : Hid ((dirL (l.take k) ++ c.1).length ≤ 1000000000) := hidden (by rw [List.length_append, HG4.out]; omega)
        have HL4 : Hid ((dirL (l.take k) ++ c.1 ++ le4 c.2.length).length ≤ 1000000000) := hidden (by rw [List.length_append, List.length_append, HG4.out, le4_length]; omega)
        have HWR : Hid (IntKind.i64.wrap ((crc32 c.2 : Nat) : Int) = ((crc32 c.2 : Nat) : Int)) := hidden (IntWalk.i64_in _ (by have := crc32_lt c.2; omega))
        have HLD : Hid ((dirL (l.take k)).length + c.1.length ≤ 140737488355328) := hidden (by omega)
        go_region_held3 (fun w' => w'.cell? ⟨wr.heap.size, 0, none⟩ = some (.string (strOf c.1)) ∧ w'.cell? ⟨wr.heap.size, 1, none⟩ = some (.slice d c.2.length cap')) (first | (refine ⟨?_, ?_⟩ <;> assumption) | go_keep)
          (first
            | (go_at_call 20; with_reducible refine (sum_any d c.2.length cap' c.2 _ (QW.out.on0 B4.out HAN.out) rfl hc2).mono ?_; rintro e w' ⟨rfl, rfl⟩)
            | (go_at_call 76; with_reducible refine (four_box w.heap.size x6 (dirL (l.take k) ++ c.1) c.2.length _ h12 G3.out.own B3.out.size HL3.out).mono ?_; rintro e w4 ⟨x7, rfl, g4⟩; have G4 := hidden g4; obtain ⟨⟨q0, q1⟩, b4, n4, z4⟩ := var_kept G3.out.own g4 B3.out Z3 p0 p1 N3.out; have B4 := hidden b4; have N4 := hidden n4; clear g4 b4 n4)
            | (go_at_call 76; rw [HWR.out]; with_reducible refine (four_box w.heap.size x7 (dirL (l.take k) ++ c.1 ++ le4 c.2.length) (crc32 c.2) _ (crc32_lt c.2) G4.out.own B4.out.size HL4.out).mono ?_; rintro e w5 ⟨x8, rfl, g5⟩; have G5 := hidden g5; obtain ⟨⟨t0, t1⟩, b5, n5, z5⟩ := var_kept G4.out.own g5 B4.out z4 q0 q1 N4.out; have B5 := hidden b5; have N5 := hidden n5; clear g5 b5 n5)
            | (refine step_append_S ?_ (.tmp 27) (.tmp 29) ?_ (B := w.heap.size) (v := u6) (bs := dirL (l.take k)) (t := c.1) ?_ P2D.out ?_ HLD.out B2D.out ?_; rfl; rfl; rfl; rfl; intro x6 w3 g3; have g3 := g3.ahead (below_drew w2); have G3 := hidden g3; obtain ⟨⟨p0, p1⟩, b3, n3, Z3⟩ := var_kept P2.out g3 B2.out Z2 y0 y1 N2.out; have B3 := hidden b3; have N3 := hidden n3; clear g3 b3 n3))
        have X2 : ∀ i, x5.ownBlock = some i → i < w2.heap.size := fun i hi => (G2.out.own.lt i hi).2
        have S2 : ∀ i j, x5.ownBlock = some i → u6.ownBlock = some j → i ≠ j := fun i j hi hj => by
          rcases G2.out.at_ with e | ⟨g, e, hg⟩
          · exact NE.out i j (e ▸ hi) hj
          · have h1 := (PA.out.lt j hj).2
            rw [e] at hi; cases hi; omega
        have S3 := sep_step X2 S2 G3.out
        have X3 : ∀ i, x5.ownBlock = some i → i < w3.heap.size := fun i hi => Nat.lt_of_lt_of_le (X2 i hi) G3.out.upd.size
        have S4 := sep_step X3 S3 G4.out
        have X4 : ∀ i, x5.ownBlock = some i → i < w4.heap.size := fun i hi => Nat.lt_of_lt_of_le (X3 i hi) G4.out.upd.size
        have S5 := hidden (sep_step X4 S4 G5.out)
        have O5E : Hid (MOwn w.heap.size w5 x5 (magicL ++ dataL (l.take (k + 1)))) := hidden (by
          rw [HT.out, dataL_snoc, ← List.append_assoc]
          exact ((G2.out.own.on G3.out.upd (fun k hk e => S2 k k hk e.symm rfl)).on G4.out.upd (fun k hk e => S3 k k hk e.symm rfl)).on G5.out.upd (fun k hk e => S4 k k hk e.symm rfl))
        have O6E : Hid (OwnB w.heap.size w5 x8 (dirL (l.take (k + 1)))) := hidden (by
          rw [HT.out, dirL_snoc]
          have := G5.out.own
          simpa [dirOne] using this)
        clear X2 S2 S3 X3 S4 X4
        go_wp2_with fail
        exact ⟨⟨k + 1, by go_num, by omega, O5E.out, O6E.out, S5.out, B5.out⟩, by simp [intOf]; omega⟩
      · have hk' : k = l.length := by omega
        subst hk'
        have h384 : (dirL l).length ≤ 384 := by rw [dirL_length HG.out]; omega
        have O5E : Hid (MOwn w.heap.size wr u5 (magicL ++ dataL l)) := hidden (by have := O5.out; rw [List.take_length] at this; exact this)
        have o6 : OwnB w.heap.size wr u6 (dirL l) := by have := O6.out; rw [List.take_length] at this; exact this
        obtain ⟨a6, c6, e6, q6, hc6, -⟩ := o6.reads
        subst e6
        have hdl : (dataL l).length ≤ 131072 := by rw [dataL_length]; exact ht
        clear o6 O5 O6
        have hw0 := HB.out.size
        go_wp2_with fail
        with_reducible refine (frame_any a6 _ c6 (dirL l) wr q6 rfl (by omega)).mono ?_
        rintro e w2 ⟨hb, v2, rfl, ho⟩
        rw [if_pos (by omega)] at ho
        have B2 := hidden (HB.out.trans (hb.mono HB.out.size))
        have O52 := hidden (O5E.out.on (Upd.ofNew (M := fun _ => False) hb) (fun _ _ h => h))
        have hfl := frameL_length (dirL l)
        obtain ⟨a2, c2, rfl, q2, -, -⟩ := ho.reads
        have Q2 := hidden q2
        have hfz : (frameL (dirL l)).length ≤ 392 := by omega
        have hfn : frameL (dirL l) ≠ [] := fun e => by rw [e] at hfl; simp at hfl
        clear hb ho q2 q6 hfl
        have HW : Hid (writeL l = magicL ++ dataL l ++ frameL (dirL l) ++ le4 (frameL (dirL l)).length) := hidden rfl
        generalize frameL (dirL l) = fr at Q2 hfz hfn HW
        have HFN := hidden hfn
        clear hfn
        go_wp2_with (at_builtin; refine wpList_append_M rfl (.tmp 43) (.tmp 44) rfl rfl O52.out rfl rfl Q2.out (by simp [magicL]; omega) (B2.out.size) ?_; intro v3 w3 g3)
        have G3 := hidden g3
        have B3 : Hid (Below w.heap.size w w3) := hidden (B2.out.trans (g3.upd.toBelow B2.out.size (fun k hk e => by have := (O52.out.lt k e.symm).1; omega)))
        clear g3
        with_reducible refine (four_box w.heap.size v3 (magicL ++ dataL l ++ fr) fr.length w3 (by omega) (G3.out.own' HFN.out) B3.out.size (by simp [magicL]; omega)).mono ?_
        rintro e w4 ⟨v4, rfl, g4⟩
        have B4 := hidden (B3.out.trans (g4.below B3.out.size (fun k hk => ((G3.out.own' HFN.out).lt k hk).1)))
        have G4 := hidden g4.own
        clear g4
        go_wp2_with fail
        go_ret2
        exact ⟨B4.out, v4, by rw [H0.out]; rfl, by rw [if_pos H0.out, HW.out]; exact G4.out⟩
  · have hne : ((mayE l : Nat) : Int) ≠ 0 := by omega
    have hb : (((mayE l : Nat) : Int) != 0) = true := by rw [bne_iff_ne]; exact hne
    have H0 := hidden h0
    clear hne h0
    go_wp2_with fail
    go_ret2
    exact ⟨B1.out, _, rfl, by rw [if_neg H0.out]; exact OwnB.nil _ _⟩
end Go.Proofs.Ytekmjegeiminnaa
