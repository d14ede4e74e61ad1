/- The container's Read, walked. -/
import Derived.Test.YtekmjegeiminnaaC7
import Derived.Test.YtekmjegeiminnaaP4
import Derived.WalkMore
import Derived.Test.YtekmjegeiminnaaB18
namespace Go.Proofs.Ytekmjegeiminnaa
open Go.RowKit
set_option linter.unusedVariables false
set_option linter.unusedSimpArgs false

theorem step_append_B {ops : Array Oper} {o : Oper} {a : Act} {K : Act → World → Prop} {Q : Exit → Act → World → Prop} {E : Prop} {w : World} (hgd : o.guard = none) (s x : Operand)
    (hop : o.op = .call { callee := .builtin .append, args := #[s, x], argTypes := #[22, 22] })
    {B : Nat} {v : Value} {bs cs : List UInt8} (hs : a.eval s = v) (ho : OwnB B w v bs) {A : Option Addr} {m c : Nat} (hx : a.eval x = .slice A m c) (hm : m = cs.length) (hr : BytesAt w A cs)
    (hl : bs.length + cs.length ≤ 140737488355328) (hB : B ≤ w.heap.size) (h : ∀ v' w', Grew B v v' (bs ++ cs) w w' → K (a.put o.dst v') w') :
    if Region.wanted o (yielded ops a.tmps) = true then Oper.wp Try.prog o a w K Q else E := by
  have hw : Region.wanted o (yielded ops a.tmps) = true := by simp [Region.wanted, hgd]
  rw [if_pos hw]
  exact wp_append_B s x hop hs ho hx hm hr hl hB h
/-- A slice's tail, where Go keeps the old address if nothing is behind it. -/
theorem BytesAt.tail {w : World} {b o cap : Nat} {bs : List UInt8} (h : BytesAt w (some ⟨b, o, none⟩) bs) (hc : bs.length ≤ cap) (k : Nat) : BytesAt w (if cap = k then some ⟨b, o, none⟩ else some ⟨b, o + k, none⟩) (bs.drop k) := by
  by_cases e : cap = k
  · rw [if_pos e, List.drop_of_length_le (by omega)]
    exact fun i hi => by simp at hi
  · rw [if_neg e]; exact h.drop k
theorem unfC_le (bs : List UInt8) : (unfC bs).length ≤ bs.length := by
  unfold unfC
  split
  · simp only [List.length_take, List.length_drop]; omega
  · simp
theorem bytes_nil (w : World) (a : Option Addr) : BytesAt w a [] := fun i hi => by simp at hi
theorem sized_small {l : List Chk} (h1 : l.length ≤ 1000000000) (h2 : ∀ c ∈ l, c.1.length ≤ 4 ∧ c.2.length ≤ 1000000000) : Sized l :=
  ⟨by omega, fun c hc => by have := h2 c hc; omega⟩
/-- What Read answers. -/
def ReadA (b : List UInt8) (w : World) (e : Ending) (w' : World) : Prop :=
  Below w.heap.size w w' ∧ ((readL b = none ∧ e = .returned (.tuple #[.slice none 0 0, .int .i64 12])) ∨ ∃ l a cap, readL b = some l ∧ e = .returned (.tuple #[.slice a l.length cap, .int .i64 0]) ∧ ChunksAt (· < w'.heap.size) w' a l)
theorem ReadA.bad {b : List UInt8} {w w' : World} (hb : Below w.heap.size w w') (h : readL b = none) : ReadA b w (.returned (.tuple #[.slice none 0 0, .int .i64 12])) w' := ⟨hb, .inl ⟨h, rfl⟩⟩

/-- Behind the copy of a chunk's data. -/
theorem data_copied {w1 wr wq w3 : World} {x5 : Value} {ds : List UInt8} {sz : Nat} (hs : sz = ds.length) (hb : Below w1.heap.size w1 wq) (hu : Upd (fun _ => False) wr wq) (g : Grew w1.heap.size (.slice none 0 0) x5 ([] ++ ds) wq w3) :
    ∃ a c, x5 = .slice a sz c ∧ Below w1.heap.size w1 w3 ∧ Upd (fun _ => False) wr w3 ∧ (BytesAt w3 a ds ∧ ds.length ≤ c ∧ (c : Int) ≤ 9223372036854775807 ∧ (∀ A, a = some A → wr.heap.size ≤ A.block ∧ A.block < w3.heap.size)) ∧ wr.heap.size ≤ w3.heap.size := by
  have ho := g.own
  rw [List.nil_append] at ho
  obtain ⟨a, c, e, r, hc, hA⟩ := ho.reads
  have hu3 : Upd (fun _ => False) wq w3 := g.upd.mono (fun i _ h => by simp [Value.ownBlock] at h)
  refine ⟨a, c, by rw [e, hs], hb.trans (hu3.toBelow hb.size (fun _ _ h => h)), hu.trans hu3 (fun _ _ h => h), ⟨r, hc, own_cap ho e, fun A hA' => ?_⟩, Nat.le_trans hu.size hu3.size⟩
  have h1 := (hA A hA').1
  refine ⟨?_, (ho.lt _ h1).2⟩
  rcases g.at_ with h2 | ⟨q, h2, h3⟩
  · rw [h1] at h2; cases h2
  · rw [h1] at h2; cases h2; exact Nat.le_trans hu.size h3
theorem cell_pair0 (w : World) (x y : Value) (t : TypeId) : (w.alloc (.cells #[x, y] t)).cell? ⟨w.heap.size, 0, none⟩ = some x := by rw [World.cell?_alloc_at _ _ _ _ rfl]; rfl
theorem cell_pair1 (w : World) (x y : Value) (t : TypeId) : (w.alloc (.cells #[x, y] t)).cell? ⟨w.heap.size, 0 + 1, none⟩ = some y := by rw [World.cell?_alloc_at _ _ _ _ rfl]; rfl
theorem row_grown {e : TypeId} {w1 wr wa w4 : World} {v v' : Value} {ps qs : List (Value × Value)} (ho : OwnP e w1.heap.size wr v ps) (hu : Upd (fun _ => False) wr wa) (hb : Below w1.heap.size w1 wa) (g : GrewP e w1.heap.size v v' qs wa w4) :
    Below w1.heap.size w1 w4 := hb.trans (g.upd.toBelow hb.size (fun k hk h => by have := (ho.lt k h.symm).1; omega))

/-- One chunk more. -/
theorem chunk_added {e : TypeId} {B sz c5 : Nat} {wr w3 w4 : World} {v v' : Value} {ps : List (Value × Value)} {l : List Chk} {c : Chk} {a5 : Option Addr} {o : Obj} (ho : OwnP e B wr v ps) (hv : AllV (fun k => k < wr.heap.size ∧ some k ≠ v.ownBlock) wr ps l) (hu : Upd (fun _ => False) wr w3)
    (hr : BytesAt w3 a5 c.2 ∧ c.2.length ≤ c5 ∧ (c5 : Int) ≤ 9223372036854775807 ∧ (∀ A, a5 = some A → wr.heap.size ≤ A.block ∧ A.block < w3.heap.size)) (hp : Value.slice a5 sz c5 = .slice a5 c.2.length c5)
    (g : GrewP e B v v' (ps ++ [(.string (strOf c.1), .slice a5 sz c5)]) (w3.alloc o) w4) : AllV (fun k => k < w4.heap.size ∧ some k ≠ v'.ownBlock) w4 (ps ++ [(.string (strOf c.1), .slice a5 sz c5)]) (l ++ [c]) := by
  obtain ⟨r1, r2, r3, r4⟩ := hr
  have hz : w3.heap.size + 1 ≤ w4.heap.size := by have := g.upd.size; rwa [World.size_alloc] at this
  have hz3 := hu.size
  have hua : Upd (fun k => some k = v.ownBlock) wr w4 := ((hu.mono (fun _ _ h => h.elim)).trans (Upd.new _ _) (fun _ _ h => h)).trans g.upd (fun _ _ h => h)
  have hsep : ∀ k, k < w3.heap.size → some k ≠ v.ownBlock → some k ≠ v'.ownBlock := fun k hk hn => by
    rcases g.at_ with e | ⟨q, e, hq⟩
    · rw [e]; exact hn
    · rw [e]; intro h; cases h; rw [World.size_alloc] at hq; omega
  refine ((hv.upd hua (fun k hk h => hk.2 h)).mono (fun k hk => ⟨by omega, hsep k (by omega) hk.2⟩)).snoc ?_
  have hnew : ∀ A, a5 = some A → some A.block ≠ v.ownBlock := fun A hA h => by
    have := (ho.lt _ h.symm).2
    have := (r4 A hA).1
    omega
  refine ⟨rfl, a5, c5, hp, r2, r3, ?_, fun A hA _ => ⟨by have := (r4 A hA).2; omega, hsep _ (r4 A hA).2 (hnew A hA)⟩⟩
  exact (r1.on' ((Below.refl _ _).alloc (Nat.le_refl _) _)).upd g.upd (fun A hA h => hnew A hA h)

set_option maxRecDepth 100000 in
set_option maxHeartbeats 8000000 in
theorem readc_any (a : Option Addr) (len cap : Nat) (b : List UInt8) (w : World) (h : BytesAt w a b) (hlen : len = b.length) (hcap : len ≤ cap) (hl : (cap : Int) ≤ 9223372036854775807) (hl2 : len ≤ 1000000000) :
    Calls Try.prog 35 #[.slice a len cap] w (ReadA b w) := by
  subst hlen
  have H := hidden h
  have hcv := run_str h b.length cap rfl
  clear h
  have hmag : (⟨#[79, 67, 84, 65, 86, 79, 49, 10]⟩ : ByteArray) = strOf magicL := rfl
  have HMG := hidden hmag
  clear hmag
  go_enter Try.func35, Try.ntmps35
  go_wp2_with fail
  go_step3
  go_wp2_with fail
  rw [HMG.out]
  with_reducible refine (hasprefix_any b magicL w (by omega) (by decide)).mono ?_
  rintro e w1 ⟨rfl, rfl⟩
  clear hcv
  by_cases hm : b.take 8 = magicL
  · have tm : (b.take magicL.length == magicL) = true := by rw [beq_iff_eq]; exact hm
    rw [tm]
    have HM := hidden hm
    clear tm hm
    by_cases h20 : b.length < 20
    · have hn : readL b = none := by unfold readL; rw [if_pos (.inr h20)]
      have HN := hidden hn
      clear hn
      have h20' : (b.length : Int) < 20 := by omega
      go_wp2_with fail
      rw [Exit.noGoto_ret]
      go_ret2
      exact ReadA.bad (Below.refl _ _) HN.out
    · have h20' : ¬ (b.length : Int) < 20 := by omega
      obtain ⟨bb, oo, rfl, -⟩ := H.out 0 (by omega)
      have i1 : IntKind.i64.wrap ((b.length : Int) - 4) = (b.length : Int) - 4 := IntWalk.i64_in _ (by omega)
      have i2 : (0 : Int) ≤ (b.length : Int) - 4 := by omega
      have i3 : (8 : Int) ≤ (b.length : Int) - 4 := by omega
      have i4 : (b.length : Int) - 4 ≤ (b.length : Int) := by omega
      have i5 : ((b.length : Int) - 4).toNat = b.length - 4 := by omega
      have i6 : (b.length : Int) - 4 ≤ (cap : Int) := by omega
      have i7 : (b.length : Int) ≤ (cap : Int) := by omega
      have i8 : ¬ cap = 8 := by omega
      have i9 : ¬ cap = b.length - 4 := by omega
      go_wp2_with fail
      go_quiet ((go_at_call 78; with_reducible exact quiet_dn (fourth_box (some ⟨bb, oo + (b.length - 4), none⟩) (b.length - (b.length - 4)) (cap - (b.length - 4)) (b.drop (b.length - 4)) _ ((H.out.drop (b.length - 4)).drewN _) (by rw [List.length_drop]; omega) (by rw [List.length_drop]) (by omega))))
      clear i1 i2 i3 i4 i5 i6 i7 i8 i9
      have hN : ofLe ((b.drop (b.length - 4)).take 4) < 4294967296 := by
        have := ofLe_lt ((b.drop (b.length - 4)).take 4)
        rw [List.length_take, List.length_drop, show min 4 (b.length - (b.length - 4)) = 4 by omega] at this; simpa using this
      have HB8 : Hid (BytesAt w (some ⟨bb, oo + 8, none⟩) (bodyL b)) := hidden ((H.out.drop 8).take _)
      have hbl : (bodyL b).length = b.length - 4 - 8 := by unfold bodyL; rw [List.length_take, List.length_drop]; omega
      have HRD : Hid (readL b = if (bodyL b).length < tailN b then none
        else if unfE (frameOf b) ≠ 0 ∨ unfN (frameOf b) ≠ tailN b then none
        else (parseL (dataOf b) (unfC (frameOf b))).bind fun p => if p.2 = [] ∧ mayE p.1 = 0 then some p.1 else none) := hidden (by
          unfold readL; rw [if_neg]
          rintro (h1 | h1)
          · exact h1 HM.out
          · exact h20 h1)
      have HFO : Hid (frameOf b = (bodyL b).drop ((bodyL b).length - tailN b) ∧ dataOf b = (bodyL b).take ((bodyL b).length - tailN b)) := hidden ⟨rfl, rfl⟩
      have HTN : Hid (tailN b = ofLe ((b.drop (b.length - 4)).take 4)) := hidden rfl
      generalize ofLe ((b.drop (b.length - 4)).take 4) = n at hN HTN
      rw [HTN.out] at HRD HFO
      generalize bodyL b = body at HB8 hbl HRD HFO
      generalize frameOf b = frame at HRD HFO
      generalize dataOf b = data0 at HRD HFO
      obtain ⟨m, em⟩ : ∃ m, b.length - 4 - 8 = m := ⟨_, rfl⟩
      obtain ⟨c8, ec8⟩ : ∃ c, cap - 8 = c := ⟨_, rfl⟩
      have hmc : m ≤ c8 := by omega
      have hm9 : m ≤ 1000000000 := by omega
      have hc8m : (c8 : Int) ≤ 9223372036854775807 := by omega
      rw [em] at hbl ⊢
      rw [ec8]
      have HBL := hidden hbl
      clear em ec8 hbl H HM HTN
      generalize hw0 : w.drewN nq = w0
      have B0 : Hid (Below w.heap.size w w0) := hidden (by rw [← hw0]; exact below_dn (Below.refl _ _) _)
      clear hw0
      by_cases hnm : m < n
      · have hnm' : (m : Int) < (n : Int) := by omega
        have HN : Hid (readL b = none) := hidden (by rw [HRD.out, if_pos (by rw [HBL.out]; exact hnm)])
        go_wp2_with fail
        rw [Exit.noGoto_ret]
        go_ret2
        exact ReadA.bad B0.out HN.out
      · have hnm' : ¬ (m : Int) < (n : Int) := by omega
        by_cases hn0 : n = 0
        · have HN : Hid (readL b = none) := hidden (by
            rw [HRD.out, if_neg (by rw [HBL.out]; exact hnm), if_pos]
            left
            rw [HFO.out.1, HBL.out, hn0, List.drop_of_length_le (by rw [HBL.out]; omega)]
            decide)
          subst hn0
          clear hN hnm hnm' HRD HFO HBL
          have j6 : (m : Int) ≤ (c8 : Int) := by omega
          go_wp2_with fail
          go_quiet (fail)
          go_wp2_with fail
          all_goals
            with_reducible refine (unframe_any _ _ _ [] _ (bytes_nil _ _) (by simp) (by omega) (by omega) (by simp)).mono ?_
            rintro e w1 ⟨hb, v1, rfl, ho⟩
            rw [show unfE [] = 16 from rfl]
            generalize unfN [] = nn
            have B1 := hidden ((below_dn B0.out nq).trans (hb.mono (below_dn B0.out nq).size))
            clear hb ho
            go_wp2_with fail
            rw [Exit.noGoto_ret]
            go_ret2
            exact ReadA.bad B1.out HN.out
        · have hcn : ¬ c8 = m - n := by omega
          have j1 : IntKind.i64.wrap ((m : Int) - (n : Int)) = (m : Int) - (n : Int) := IntWalk.i64_in _ (by omega)
          have j2 : (0 : Int) ≤ (m : Int) - (n : Int) := by omega
          have j3 : (m : Int) - (n : Int) ≤ (m : Int) := by omega
          have j4 : ((m : Int) - (n : Int)).toNat = m - n := by omega
          have j5 : (m : Int) - (n : Int) ≤ (c8 : Int) := by omega
          have j6 : (m : Int) ≤ (c8 : Int) := by omega
          have HFR : Hid (BytesAt w0 (some ⟨bb, oo + 8 + (m - n), none⟩) frame) := hidden (by
            rw [HFO.out.1, HBL.out]
            exact (HB8.out.on' B0.out).drop (m - n))
          have hfl : frame.length = n := by rw [HFO.out.1, List.length_drop, HBL.out]; omega
          have HFL := hidden hfl
          have HDT : Hid (BytesAt w0 (some ⟨bb, oo + 8, none⟩) data0) := hidden (by
            rw [HFO.out.2]; exact (HB8.out.on' B0.out).take _)
          have hdl : data0.length = m - n := by rw [HFO.out.2, List.length_take, HBL.out]; omega
          have HDL := hidden hdl
          have HRD2 : Hid (readL b = if unfE frame ≠ 0 ∨ unfN frame ≠ n then none else (parseL data0 (unfC frame)).bind fun p => if p.2 = [] ∧ mayE p.1 = 0 then some p.1 else none) := hidden (by
            rw [HRD.out, if_neg (by rw [HBL.out]; exact hnm)])
          have hnm2 : n ≤ m := by omega
          clear hfl hdl HRD HFO HB8 HBL hn0
          go_wp2_with fail
          go_quiet (fail)
          go_wp2_with fail
          clear j1 j2 j3 j4 j5 j6 hnm hnm' hcn
          with_reducible refine (unframe_any _ (m - (m - n)) _ frame _ (HFR.out.drewN _) (by rw [HFL.out]; omega) (by omega) (by omega) (by omega)).mono ?_
          rintro e w1 ⟨hb, v1, rfl, ho⟩
          have B1 := hidden ((below_dn B0.out nq).trans (hb.mono (below_dn B0.out nq).size))
          have HBW : Hid (Below w0.heap.size w0 w1) := hidden ((below_dn (Below.refl _ _) nq).trans hb)
          have O1 := hidden ho
          clear hb ho
          generalize hue : unfE frame = ue at HRD2
          generalize hun : unfN frame = un at HRD2
          clear hue hun
          have hd2 : (unfC frame).length ≤ 1000000000 := by have := unfC_le frame; rw [HFL.out] at this; omega
          generalize unfC frame = dir0 at O1 HRD2 hd2
          by_cases hu1 : ue = 0
          · by_cases hu2 : un = n
            · have HR3 : Hid (readL b = (parseL data0 dir0).bind fun p => if p.2 = [] ∧ mayE p.1 = 0 then some p.1 else none) := hidden (by
                rw [HRD2.out, if_neg (by rintro (h1 | h1); exact h1 hu1; exact h1 hu2)])
              subst hu1
              subst hu2
              obtain ⟨i0, hi, hz0, hz1, hz2⟩ := info_parts Try.info121
              obtain ⟨a2, c2, rfl, q2, hc2, -⟩ := O1.out.reads
              have hm2 := own_cap O1.out rfl
              have Q2 := hidden q2
              have HD1 : Hid (BytesAt w1 (some ⟨bb, oo + 8, none⟩) data0) := hidden (HDT.out.on' HBW.out)
              clear HRD2 O1 q2
              have hcn0 : ((un : Int) != (un : Int)) = false := by simp
              have h121 : m - un = data0.length := HDL.out.symm
              rw [h121]
              clear h121
              go_wp2_with fail
              go_step3
              go_wp2_with fail
              go_loopw [6, 8, 11] (fun s6 s8 s11 wr => ∃ (data dir : List UInt8) (acc : List Chk) (ps : List (Value × Value)) (o6 c6 : Nat) (A8 : Option Addr) (c8 : Nat), s6 = .slice (some ⟨bb, o6, none⟩) data.length c6 ∧ s8 = .slice A8 dir.length c8 ∧ OwnP 121 w1.heap.size wr s11 ps ∧ AllV (fun k => k < wr.heap.size ∧ some k ≠ s11.ownBlock) wr ps acc ∧
                BytesAt w1 (some ⟨bb, o6, none⟩) data ∧ BytesAt w1 A8 dir ∧ data.length ≤ c6 ∧ (c6 : Int) ≤ 9223372036854775807 ∧ dir.length ≤ c8 ∧ (c8 : Int) ≤ 9223372036854775807 ∧ Below w1.heap.size w1 wr ∧ parseL data0 dir0 = (parseL data dir).map (fun p => (acc ++ p.1, p.2)) ∧ dir.length + 12 * acc.length ≤ 1000000000 ∧ data.length ≤ 1000000000 ∧ (∀ c ∈ acc, c.1.length ≤ 4 ∧ c.2.length ≤ 1000000000)) (fun _ s8 _ _ => match s8 with | .slice _ n _ => n | _ => 0)
              case atStart => exact ⟨data0, dir0, [], [], oo + 8, _, a2, c2, rfl, rfl, OwnP.nil _ _ _, AllV.nil _ _, HD1.out, Q2.out, by have := HDL.out; omega, hc8m, hc2, hm2, Below.refl _ _, by simp, by simpa using hd2, by have := HDL.out; omega, fun c hc => by simp at hc⟩
              case round =>
                obtain ⟨data, dir, acc, ps, o6, c6, A8, c8', rfl, rfl, ho, hv, hb6, hb8, h6c, h6m, h8c, h8m, hb, hp, hdl, hda, hac⟩ := hrel
                have HAC := hidden hac
                clear hac
                have HO := hidden ho
                have HV := hidden hv
                have H6 := hidden hb6
                have H8 := hidden hb8
                have HB := hidden hb
                have HP := hidden hp
                have HBB : Hid (Below w.heap.size w wr) := hidden (B1.out.trans (hb.mono B1.out.size))
                clear ho hv hb6 hb8 hb hp
                by_cases hd0 : dir.length = 0
                · have HPE : Hid (parseL data0 dir0 = some (acc, data)) := hidden (by rw [HP.out, parseL_nil data hd0]; simp)
                  have t0 : ((dir.length : Int) == 0) = true := by rw [beq_iff_eq]; omega
                  clear hd0
                  by_cases hdd : data.length = 0
                  · have t1 : ¬ 0 < data.length := by omega
                    have HDE : Hid (data = []) := hidden (List.eq_nil_of_length_eq_zero hdd)
                    clear hdd
                    obtain ⟨a9, c9, e9, q9, -⟩ := HO.out.chunks (HV.out.mono (T := (· < wr.heap.size)) (fun k hk => hk.1)) (fun k hk => (HO.out.lt k hk).2)
                    subst e9
                    have Q9 := hidden q9
                    clear q9
                    go_wp2_with fail
                    with_reducible refine (may_any a9 _ c9 acc wr Q9.out (sized_small (by omega) HAC.out) rfl).mono ?_
                    rintro e w9 ⟨rfl, hb9⟩
                    have B9 := hidden (HBB.out.trans (hb9.mono HBB.out.size))
                    have Q9' : Hid (ChunksAt (· < w9.heap.size) w9 a9 acc) := hidden (by
                      have := (Q9.out.below hb9)
                      intro i hi
                      obtain ⟨b', o', d', cap', ha, x0, x1, x2, x3, x4, x5, x6⟩ := this i hi
                      exact ⟨b', o', d', cap', ha, x0, x1, x2, x3, x4, Nat.lt_of_lt_of_le x5 hb9.size, fun A hA h0 => Nat.lt_of_lt_of_le (x6 A hA h0) hb9.size⟩)
                    clear hb9
                    by_cases hm0 : mayE acc = 0
                    · have t2 : (((mayE acc : Nat) : Int) != 0) = false := by rw [hm0]; rfl
                      have HN : Hid (readL b = some acc) := hidden (by rw [HR3.out, HPE.out]; simp [HDE.out, hm0])
                      clear hm0
                      go_wp2_with fail
                      rw [Exit.noGoto_ret]
                      go_ret2
                      exact ⟨B9.out, .inr ⟨acc, a9, c9, HN.out, rfl, Q9'.out⟩⟩
                    · have t2 : (((mayE acc : Nat) : Int) != 0) = true := by rw [bne_iff_ne]; omega
                      have HN : Hid (readL b = none) := hidden (by rw [HR3.out, HPE.out]; simp [hm0])
                      clear hm0
                      go_wp2_with fail
                      rw [Exit.noGoto_ret]
                      go_ret2
                      exact ReadA.bad B9.out HN.out
                  · have t1 : 0 < data.length := by omega
                    have HN : Hid (readL b = none) := hidden (by
                      rw [HR3.out, HPE.out]
                      have : data ≠ [] := fun e => hdd (by rw [e]; rfl)
                      simp [this])
                    clear hdd
                    go_wp2_with fail
                    rw [Exit.noGoto_ret]
                    go_ret2
                    exact ReadA.bad HBB.out HN.out
                · have t0 : ((dir.length : Int) == 0) = false := by rw [beq_eq_false_iff_ne]; omega
                  by_cases hd12 : dir.length < 12
                  · have HN : Hid (readL b = none) := hidden (by rw [HR3.out, HP.out, parseL_short data hd0 hd12]; rfl)
                    have t1 : (dir.length : Int) < 12 := by omega
                    clear hd0 hd12
                    go_wp2_with fail
                    rw [Exit.noGoto_ret]
                    go_ret2
                    exact ReadA.bad HBB.out HN.out
                  · have h12 : 12 ≤ dir.length := by omega
                    clear hd12 hd0
                    obtain ⟨g, o8, e8, -⟩ := H8.out 0 (by omega)
                    subst e8
                    have q1 : (4 : Int) ≤ (dir.length : Int) := by omega
                    have q2 : (dir.length : Int) ≤ (c8' : Int) := by omega
                    have q3 : ¬ c8' = 4 := by omega
                    have q4 : (8 : Int) ≤ (dir.length : Int) := by omega
                    have q5 : ¬ c8' = 8 := by omega
                    have q6 : (12 : Int) ≤ (dir.length : Int) := by omega
                    have q7 : ¬ (dir.length : Int) < 12 := by omega
                    go_wp2_with fail
                    with_reducible refine (fourth_box (some ⟨g, o8 + 4, none⟩) (dir.length - 4) (c8' - 4) (dir.drop 4) wr ((H8.out.on' HB.out).drop 4) (by rw [List.length_drop]; omega) (by rw [List.length_drop]) (by omega)).mono ?_
                    rintro e w9 ⟨rfl, nd, hw9⟩
                    have UD : Hid (Upd (fun _ => False) wr w9) := hidden (by rw [hw9]; exact Upd.drewN _ _)
                    clear hw9
                    have B9 : Hid (Below w1.heap.size w1 w9) := hidden (HB.out.trans (UD.out.toBelow HB.out.size (fun _ _ h => h)))
                    have HSZ : Hid (∀ x, ofLe ((dir.drop 4).take 4) = x → (data.length < x ∨ crc32 (data.take x) ≠ ofLe ((dir.drop 8).take 4) → parseL data dir = none) ∧ (¬ (data.length < x ∨ crc32 (data.take x) ≠ ofLe ((dir.drop 8).take 4)) → parseL data dir = (parseL (data.drop x) (dir.drop 12)).map fun p => ((dir.take 4, data.take x) :: p.1, p.2))) := hidden (by
                      intro x hx; subst hx
                      exact ⟨fun h => parseL_bad h12 h, fun h => parseL_step h12 h⟩)
                    have hszl : ofLe ((dir.drop 4).take 4) < 4294967296 := by
                      have := ofLe_lt ((dir.drop 4).take 4)
                      rw [List.length_take, List.length_drop, show min 4 (dir.length - 4) = 4 by omega] at this; simpa using this
                    obtain ⟨sz, esz⟩ : ∃ x, ofLe ((dir.drop 4).take 4) = x := ⟨_, rfl⟩
                    have HSZ2 := hidden (HSZ.out sz esz)
                    rw [esz] at hszl ⊢
                    clear esz HSZ
                    by_cases hsz : data.length < sz
                    · have HN : Hid (readL b = none) := hidden (by rw [HR3.out, HP.out, HSZ2.out.1 (.inl hsz)]; rfl)
                      have t3 : (data.length : Int) < (sz : Int) := by omega
                      have BE := hidden (HBB.out.trans ((UD.out.toBelow (Nat.le_refl _) (fun _ _ h => h)).mono HBB.out.size))
                      clear hsz
                      go_wp2_with fail
                      go_quiet (fail)
                      go_wp2_with fail
                      rw [Exit.noGoto_ret]
                      go_ret2
                      exact ReadA.bad (below_dn BE.out _) HN.out
                    · have t3 : ¬ (data.length : Int) < (sz : Int) := by omega
                      have t4 : (sz : Int) ≤ (data.length : Int) := by omega
                      have t5 : (sz : Int) ≤ (c6 : Int) := by omega
                      have t6 : sz ≤ data.length := by omega
                      have WR : IntKind.i64.wrap ((crc32 (data.take sz) : Nat) : Int) = ((crc32 (data.take sz) : Nat) : Int) := IntWalk.i64_in _ (by have := crc32_lt (data.take sz); omega)
                      have H6W := hidden ((H6.out.on' B9.out).take sz)
                      have H8W := hidden ((H8.out.on' B9.out).drop 8)
                      go_wp2_with fail
                      go_quiet ((first
                        | (go_at_call 20; with_reducible exact quiet_eq (sum_any (some ⟨bb, o6, none⟩) sz c6 (data.take sz) _ (H6W.out.drewN _) (by rw [List.length_take]; omega) (by omega)))
                        | (go_at_call 78; with_reducible exact quiet_dn (fourth_box (some ⟨g, o8 + 8, none⟩) (dir.length - 8) (c8' - 8) (dir.drop 8) _ (H8W.out.drewN _) (by rw [List.length_drop]; omega) (by rw [List.length_drop]) (by omega)))))
                      clear WR q1 q2 q3 q4 q5 q7 H6W H8W
                      obtain ⟨cr, ecr⟩ : ∃ x, crc32 (data.take sz) = x := ⟨_, rfl⟩
                      obtain ⟨fo, efo⟩ : ∃ x, ofLe ((dir.drop 8).take 4) = x := ⟨_, rfl⟩
                      rw [ecr, efo]
                      rw [ecr, efo] at HSZ2
                      clear ecr efo
                      have UQ : Hid (Upd (fun _ => False) wr (w9.drewN nq)) := hidden (UD.out.trans (Upd.drewN _ _) (fun _ _ h => h))
                      generalize w9.drewN nq = wq at UQ
                      clear B9 UD
                      have BQ : Hid (Below w1.heap.size w1 wq) := hidden (HB.out.trans (UQ.out.toBelow HB.out.size (fun _ _ h => h)))
                      by_cases hne : cr = fo
                      · have HPS : Hid (parseL data dir = (parseL (data.drop sz) (dir.drop 12)).map fun p => ((dir.take 4, data.take sz) :: p.1, p.2)) := hidden (HSZ2.out.2 (by
                          rintro (h1 | h1)
                          · omega
                          · exact h1 hne))
                        subst hne
                        have t8 : ((cr : Int) != (cr : Int)) = false := by simp
                        clear HSZ2
                        have q8 : (4 : Int) ≤ (dir.length : Int) := by omega
                        have q9 : (dir.length : Int) ≤ (c8' : Int) := by omega
                        have q10 : (4 : Int) ≤ (c8' : Int) := by omega
                        have HCV : Hid (∀ W, Below w1.heap.size w1 W → (convert 22 9 (.slice (some ⟨g, o8, none⟩) 4 c8')).run Try.prog W = .ok (.string (strOf (dir.take 4))) W) := hidden (fun W hW => run_str ((H8.out.on' hW).take 4) 4 c8' (by rw [List.length_take]; omega))
                        have BD : Hid (Below w1.heap.size w1 wq.drew) := hidden (BQ.out.trans (Below.trans (below_drew wq) (Below.refl _ _) |>.mono BQ.out.size))
                        have BDO := BQ.out.size
                        go_wp2_with fail
                        have HSL : Hid (sz = (data.take sz).length) := hidden (by rw [List.length_take]; omega)
                        have H6D : Hid (BytesAt wq.drew (some ⟨bb, o6, none⟩) (data.take sz)) := hidden ((H6.out.on' BD.out).take sz)
                        have HLD : Hid (([] : List UInt8).length + (data.take sz).length ≤ 140737488355328) := hidden (by rw [← HSL.out]; simp; omega)
                        have HPL : Hid (ps.length ≤ 1000000000000) := hidden (by rw [HV.out.1]; omega)
                        have UQD : Hid (Upd (fun _ => False) wr wq.drew) := hidden (UQ.out.trans (Upd.drew _) (fun _ _ h => h))
                        go_region_held3 (fun w' => (convert 22 9 (.slice (some ⟨g, o8, none⟩) 4 c8')).run Try.prog w' = .ok (.string (strOf (dir.take 4))) w') (first | (refine HCV.out _ ?_; assumption) | (refine HCV.out _ BD.out))
                          (first
                            | (refine step_append_B (B := w1.heap.size) (v := .slice none 0 0) (bs := []) (cs := data.take sz) (c := c6) ?_ (.const (.slice none 0 0)) (.tmp 94) ?_ ?_ (OwnB.nil _ _) ?_ HSL.out H6D.out HLD.out BDO ?_; rfl; rfl; rfl; rfl; intro x5 w3 g3; obtain ⟨a5, c5, rfl, hb3, U3, R3, Z3⟩ := data_copied HSL.out BD.out UQD.out g3; have hb3a := hb3.alloc hb3.size (.cells #[.string (strOf (dir.take 4)), .slice a5 sz c5] 121))
                            | (refine step_append_P (c := 1) ?_ (.tmp 88) (.tmp 97) 44 ?_ Try.underlying44 hi hz0 hz1 hz2 (.string (strOf (dir.take 4)), .slice a5 sz c5) ?_ (HO.out.on (U3.trans (Upd.new _ _) (fun _ _ h => h)) (fun _ _ h => h)) ?_ (cell_pair0 w3 _ _ _) (cell_pair1 w3 _ _ _) rfl rfl HPL.out hb3a.size ?_; rfl; rfl; rfl; rfl; intro x11 w4 g4; have hb4 := row_grown HO.out (U3.trans (Upd.new _ _) (fun _ _ h => h)) hb3a g4)
                            | fail)
                        have HV4 := hidden (chunk_added (l := acc) (c := (dir.take 4, data.take sz)) HO.out HV.out U3 R3 (congrArg (fun n => Value.slice a5 n c5) HSL.out) g4)
                        have HO4 := hidden g4.own
                        have HB4 := hidden hb4
                        clear hb4 g4 R3 U3 hb3 hb3a Z3 BDO
                        have HPE : Hid (parseL data0 dir0 = (parseL (data.drop sz) (dir.drop 12)).map (fun p => ((acc ++ [(dir.take 4, data.take sz)]) ++ p.1, p.2))) := hidden (by
                          rw [HP.out, HPS.out, Option.map_map]
                          congr 1
                          funext p
                          simp)
                        have HAE : Hid (∀ c ∈ acc ++ [(dir.take 4, data.take sz)], c.1.length ≤ 4 ∧ c.2.length ≤ 1000000000) := hidden (by
                          intro c hc
                          rw [List.mem_append] at hc
                          rcases hc with hc | hc
                          · exact HAC.out c hc
                          · simp only [List.mem_singleton] at hc
                            subst hc
                            simp only [List.length_take]; omega)
                        have H6E := hidden (H6.out.tail h6c sz)
                        have H8E := hidden (H8.out.tail h8c 12)
                        have HLE : Hid ((data.drop sz).length = data.length - sz ∧ (dir.drop 12).length = dir.length - 12) := hidden ⟨List.length_drop, List.length_drop⟩
                        have q11 : (data.length : Int) ≤ (c6 : Int) := by omega
                        have q12 : (dir.length : Int) ≤ (c8' : Int) := by omega
                        have q13 : (0 : Int) ≤ (sz : Int) := by omega
                        by_cases e6 : c6 = sz
                        · have E6 := hidden e6
                          by_cases e8 : c8' = 12
                          · have E8 := hidden e8
                            have h6 := H6E.out
                            rw [if_pos E6.out] at h6
                            have h8 := H8E.out
                            rw [if_pos E8.out] at h8
                            have K6 := hidden h6
                            have K8 := hidden h8
                            clear h6 h8
                            go_wp2_with fail
                            go_quiet (fail)
                            go_wp2_with fail
                            refine ⟨⟨data.drop sz, dir.drop 12, _, _, o6, 0, some ⟨g, o8, none⟩, 0, ?_, ?_, HO4.out.on (Upd.drewN (M := fun _ => False) _ _) (fun _ _ h => h), HV4.out.upd (Upd.drewN (M := fun _ => False) _ _) (fun _ _ h => h), K6.out, K8.out, ?_, by omega, ?_, by omega, below_dn HB4.out _, HPE.out, ?_, ?_, HAE.out⟩, ?_⟩
                            · rw [HLE.out.1]
                            · rw [HLE.out.2]
                            · rw [HLE.out.1]; have := E6.out; omega
                            · rw [HLE.out.2]; have := E8.out; omega
                            · rw [HLE.out.2, List.length_append]; simp only [List.length_cons, List.length_nil]; omega
                            · rw [HLE.out.1]; omega
                            · show dir.length - 12 < dir.length; omega
                          · have E8 := hidden e8
                            have h6 := H6E.out
                            rw [if_pos E6.out] at h6
                            have h8 := H8E.out
                            rw [if_neg E8.out] at h8
                            have K6 := hidden h6
                            have K8 := hidden h8
                            clear h6 h8
                            go_wp2_with fail
                            go_quiet (fail)
                            go_wp2_with fail
                            refine ⟨⟨data.drop sz, dir.drop 12, _, _, o6, 0, some ⟨g, o8 + 12, none⟩, c8' - 12, ?_, ?_, HO4.out.on (Upd.drewN (M := fun _ => False) _ _) (fun _ _ h => h), HV4.out.upd (Upd.drewN (M := fun _ => False) _ _) (fun _ _ h => h), K6.out, K8.out, ?_, by omega, ?_, by omega, below_dn HB4.out _, HPE.out, ?_, ?_, HAE.out⟩, ?_⟩
                            · rw [HLE.out.1]
                            · rw [HLE.out.2]
                            · rw [HLE.out.1]; have := E6.out; omega
                            · rw [HLE.out.2]; omega
                            · rw [HLE.out.2, List.length_append]; simp only [List.length_cons, List.length_nil]; omega
                            · rw [HLE.out.1]; omega
                            · show dir.length - 12 < dir.length; omega
                        · have E6 := hidden e6
                          by_cases e8 : c8' = 12
                          · have E8 := hidden e8
                            have h6 := H6E.out
                            rw [if_neg E6.out] at h6
                            have h8 := H8E.out
                            rw [if_pos E8.out] at h8
                            have K6 := hidden h6
                            have K8 := hidden h8
                            clear h6 h8
                            go_wp2_with fail
                            go_quiet (fail)
                            go_wp2_with fail
                            refine ⟨⟨data.drop sz, dir.drop 12, _, _, o6 + sz, c6 - sz, some ⟨g, o8, none⟩, 0, ?_, ?_, HO4.out.on (Upd.drewN (M := fun _ => False) _ _) (fun _ _ h => h), HV4.out.upd (Upd.drewN (M := fun _ => False) _ _) (fun _ _ h => h), K6.out, K8.out, ?_, by omega, ?_, by omega, below_dn HB4.out _, HPE.out, ?_, ?_, HAE.out⟩, ?_⟩
                            · rw [HLE.out.1]
                            · rw [HLE.out.2]
                            · rw [HLE.out.1]; omega
                            · rw [HLE.out.2]; have := E8.out; omega
                            · rw [HLE.out.2, List.length_append]; simp only [List.length_cons, List.length_nil]; omega
                            · rw [HLE.out.1]; omega
                            · show dir.length - 12 < dir.length; omega
                          · have E8 := hidden e8
                            have h6 := H6E.out
                            rw [if_neg E6.out] at h6
                            have h8 := H8E.out
                            rw [if_neg E8.out] at h8
                            have K6 := hidden h6
                            have K8 := hidden h8
                            clear h6 h8
                            go_wp2_with fail
                            go_quiet (fail)
                            go_wp2_with fail
                            refine ⟨⟨data.drop sz, dir.drop 12, _, _, o6 + sz, c6 - sz, some ⟨g, o8 + 12, none⟩, c8' - 12, ?_, ?_, HO4.out.on (Upd.drewN (M := fun _ => False) _ _) (fun _ _ h => h), HV4.out.upd (Upd.drewN (M := fun _ => False) _ _) (fun _ _ h => h), K6.out, K8.out, ?_, by omega, ?_, by omega, below_dn HB4.out _, HPE.out, ?_, ?_, HAE.out⟩, ?_⟩
                            · rw [HLE.out.1]
                            · rw [HLE.out.2]
                            · rw [HLE.out.1]; omega
                            · rw [HLE.out.2]; omega
                            · rw [HLE.out.2, List.length_append]; simp only [List.length_cons, List.length_nil]; omega
                            · rw [HLE.out.1]; omega
                            · show dir.length - 12 < dir.length; omega
                      · have HN : Hid (readL b = none) := hidden (by rw [HR3.out, HP.out, HSZ2.out.1 (.inr hne)]; rfl)
                        have t8 : ((cr : Int) != (fo : Int)) = true := by rw [bne_iff_ne]; omega
                        have BE := hidden (B1.out.trans (BQ.out.mono B1.out.size))
                        clear hne HSZ2
                        go_wp2_with fail
                        rw [Exit.noGoto_ret]
                        go_ret2
                        exact ReadA.bad BE.out HN.out
            · have HN : Hid (readL b = none) := hidden (by rw [HRD2.out, if_pos (.inr hu2)])
              have t1 : ((un : Int) != (n : Int)) = true := by rw [bne_iff_ne]; omega
              subst hu1
              obtain ⟨a2, c2, rfl, -, -, -⟩ := O1.out.reads
              clear hu2 HRD2 O1
              go_wp2_with fail
              rw [Exit.noGoto_ret]
              go_ret2
              exact ReadA.bad B1.out HN.out
          · have HN : Hid (readL b = none) := hidden (by rw [HRD2.out, if_pos (.inl hu1)])
            have t1 : ((ue : Int) != 0) = true := by rw [bne_iff_ne]; omega
            obtain ⟨a2, c2, rfl, -, -, -⟩ := O1.out.reads
            clear hu1 HRD2 O1
            go_wp2_with fail
            rw [Exit.noGoto_ret]
            go_ret2
            exact ReadA.bad B1.out HN.out
  · have tm : (b.take magicL.length == magicL) = false := by rw [beq_eq_false_iff_ne]; exact hm
    rw [tm]
    have hn : readL b = none := by unfold readL; rw [if_pos (.inl hm)]
    have HN := hidden hn
    clear hn tm hm
    go_wp2_with fail
    rw [Exit.noGoto_ret]
    go_ret2
    exact ReadA.bad (Below.refl _ _) HN.out
end Go.Proofs.Ytekmjegeiminnaa
