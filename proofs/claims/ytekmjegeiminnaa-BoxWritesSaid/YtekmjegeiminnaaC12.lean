/- BoxReads and BoxWrites, walked. -/
import Derived.Test.YtekmjegeiminnaaC10
import Derived.Test.YtekmjegeiminnaaC11
import Derived.Test.YtekmjegeiminnaaP5
namespace Go.Proofs.Ytekmjegeiminnaa
open Go.RowKit
set_option linter.unusedVariables false
set_option linter.unusedSimpArgs false

theorem ChunksAt.up {w w' : World} {a : Option Addr} {l : List Chk} (h : ChunksAt (· < w.heap.size) w a l) (hb : Below w.heap.size w w') : ChunksAt (· < w'.heap.size) w' a l := fun i hi => by
  obtain ⟨b', o', d', cap', ha, x0, x1, x2, x3, x4, x5, x6⟩ := (h.below hb) i hi
  exact ⟨b', o', d', cap', ha, x0, x1, x2, x3, x4, Nat.lt_of_lt_of_le x5 hb.size, fun A hA h0 => Nat.lt_of_lt_of_le (x6 A hA h0) hb.size⟩
/-- The chunks and the error's number that both Reads answer. -/
def readRes (b : List UInt8) : List Chk × Nat := match readL b with | some l => (l, 0) | none => ([], 12)
theorem readRes_len (b : List UInt8) : (readRes b).1.length ≤ 32 := by
  unfold readRes
  cases h : readL b with
  | none => simp
  | some l =>
    simp only
    unfold readL at h
    split at h
    · cases h
    · split at h
      · cases h
      · split at h
        · cases h
        · cases hp : parseL (dataOf b) (unfC (frameOf b)) with
          | none => rw [hp] at h; cases h
          | some p =>
            rw [hp] at h
            simp only [Option.bind_some] at h
            split at h
            · rename_i hc
              simp only [Option.some.injEq] at h
              subst h
              exact (may_zero hc.2).2.2.1
            · cases h
theorem ReadA.uni {b : List UInt8} {w w' : World} {e : Ending} (h : ReadA b w e w') : Below w.heap.size w w' ∧ ∃ a cap, e = .returned (.tuple #[.slice a (readRes b).1.length cap, .int .i64 ((readRes b).2 : Nat)]) ∧ ChunksAt (· < w'.heap.size) w' a (readRes b).1 := by
  obtain ⟨hb, ⟨h1, rfl⟩ | ⟨l, a, cap, h1, rfl, h2⟩⟩ := h
  · refine ⟨hb, none, 0, ?_, ?_⟩
    · unfold readRes; rw [h1]; rfl
    · unfold readRes; rw [h1]; exact chunks_nil _ _ _
  · refine ⟨hb, a, cap, ?_, ?_⟩
    · unfold readRes; rw [h1]; rfl
    · unfold readRes; rw [h1]; exact h2
theorem ReadR.uni {b : List UInt8} {w w' : World} {e : Ending} (h : ReadR b w e w') : Below w.heap.size w w' ∧ ∃ a cap, e = .returned (.tuple #[.slice a (readRes b).1.length cap, .int .i64 ((readRes b).2 : Nat)]) ∧ ChunksAt (· < w'.heap.size) w' a (readRes b).1 := by
  obtain ⟨hb, ⟨h1, rfl⟩ | ⟨l, a, cap, h1, rfl, h2⟩⟩ := h
  · rw [ref_read] at h1
    refine ⟨hb, none, 0, ?_, ?_⟩
    · unfold readRes; rw [h1]; rfl
    · unfold readRes; rw [h1]; exact chunks_nil _ _ _
  · rw [ref_read] at h1
    refine ⟨hb, a, cap, ?_, ?_⟩
    · unfold readRes; rw [h1]; rfl
    · unfold readRes; rw [h1]; exact h2

set_option maxRecDepth 100000 in
set_option maxHeartbeats 8000000 in
theorem boxreads_law (a : Option Addr) (len cap : Nat) (b : List UInt8) (w : World) (h : BytesAt w a b) (hlen : len = b.length) (hcap : len ≤ cap) (hl : (cap : Int) ≤ 9223372036854775807) :
    Calls Try.prog 8 #[.slice a len cap] w fun e w' => e = .returned (.bool true) ∧ Below w.heap.size w w' := by
  subst hlen
  have H := hidden h
  clear h
  by_cases hbig : 20000 < b.length
  · go_enter Try.func8, Try.ntmps8
    go_wp2_with fail
    with_reducible refine (lives_03 w).mono ?_
    rintro e w1 ⟨rfl, hb⟩
    have B := hidden hb
    clear hb
    go_wp2_with fail
    go_ret
    exact ⟨rfl, B.out⟩
  · have hle : b.length ≤ 20000 := by omega
    go_enter Try.func8, Try.ntmps8
    go_wp2_with fail
    with_reducible refine (readc_any a _ cap b w H.out rfl hcap hl (by omega)).mono ?_
    intro e w1 hr
    obtain ⟨hb, a1, c1, rfl, q1⟩ := hr.uni
    have B1 := hidden hb
    have Q1 := hidden q1
    clear hr hb q1
    go_wp2_with fail
    with_reducible refine (readc_ref a _ cap b w1 (H.out.on' B1.out) rfl hcap hl (by omega)).mono ?_
    intro e w2 hr
    obtain ⟨hb, a2, c2, rfl, q2⟩ := hr.uni
    have B2 := hidden (B1.out.trans (hb.mono B1.out.size))
    have Q2 := hidden q2
    have Q12 := hidden (Q1.out.up hb)
    have HL := readRes_len b
    generalize (readRes b).1 = l at Q2 Q12 HL
    generalize (readRes b).2 = er
    clear hr hb q2 Q1
    go_wp2_with fail
    with_reducible refine (samec_any _ _ _ _ _ _ l w2 Q12.out Q2.out (by omega) rfl rfl).mono ?_
    rintro e w3 ⟨rfl, hb⟩
    have B3 := hidden (B2.out.trans (hb.mono B2.out.size))
    clear hb
    go_wp2_with fail
    with_reducible refine (id_any a _ cap b w3 (H.out.on' B3.out) rfl (by omega)).mono ?_
    rintro e w4 ⟨rfl, rfl⟩
    go_wp2_with fail
    with_reducible refine (id_ref a _ cap b w3 (H.out.on' B3.out) rfl (by omega)).mono ?_
    rintro e w4 ⟨rfl, rfl⟩
    generalize crc32 b = cr
    go_wp2_with fail
    with_reducible refine (lives_03 w3).mono ?_
    rintro e w5 ⟨rfl, hb⟩
    have B5 := hidden (B3.out.trans (hb.mono B3.out.size))
    clear hb
    go_wp2_with fail
    go_ret
    exact ⟨rfl, B5.out⟩

set_option maxRecDepth 100000 in
set_option maxHeartbeats 8000000 in
theorem boxwrites_law (a : Option Addr) (len cap : Nat) (l : List Chk) (t : List UInt8) (w : World) (h : ChunksAt (· < w.heap.size) w a l) (hs : Sized l) (ht : t.length ≤ 140737488351232) (hlen : len = l.length) :
    Calls Try.prog 9 #[.slice a len cap, .string (strOf t)] w fun e w' => e = .returned (.bool true) ∧ Below w.heap.size w w' := by
  subst hlen
  have H := hidden h
  have HS := hidden hs
  clear h hs
  go_enter Try.func9, Try.ntmps9
  go_wp2_with fail
  with_reducible refine (great_any a _ cap l w H.out HS.out rfl).mono ?_
  rintro e w0 ⟨g, rfl, hg, hb⟩
  have B0 := hidden hb
  have HG := hidden hg
  clear hb hg
  cases g
  · have HT := HG.out rfl
    have C0 := hidden (H.out.below B0.out)
    have C0' := hidden (H.out.up B0.out)
    clear HG
    go_wp2_with fail
    with_reducible refine (write_any a _ cap l w0 C0'.out HS.out rfl).mono ?_
    rintro e w1 ⟨hb, v1, rfl, ho⟩
    have B1 := hidden (B0.out.trans (hb.mono B0.out.size))
    have C1 := hidden (C0'.out.up hb)
    have O1 := hidden ho
    have hwl : (if mayE l = 0 then writeL l else []).length ≤ 1000000 := by
      split
      · rename_i h0
        rw [writeL_length]
        have := dirL_small h0
        omega
      · simp
    obtain ⟨bs, ebs⟩ : ∃ bs, (if mayE l = 0 then writeL l else []) = bs := ⟨_, rfl⟩
    rw [ebs] at O1 hwl
    have EBS := hidden ebs
    obtain ⟨er, eer⟩ : ∃ er, mayE l = er := ⟨_, rfl⟩
    rw [eer]
    have EER := hidden eer
    clear hb ho C0 C0' ebs eer
    go_wp2_with fail
    with_reducible refine (plain_any a _ cap l w1 C1.out (by omega) rfl).mono ?_
    rintro e w2 ⟨hb, a2, c2, rfl, q2⟩
    have B2 := hidden (B1.out.trans (hb.mono B1.out.size))
    have C2 := hidden (C1.out.up hb)
    have O2 := hidden (O1.out.on (Upd.ofNew (M := fun _ => False) hb) (fun _ _ h => h))
    have Q2 := hidden q2
    clear hb q2 C1 O1
    go_wp2_with fail
    with_reducible refine (writec_ref a2 _ c2 l w2 Q2.out HS.out rfl (by omega)).mono ?_
    rintro e w3 ⟨hb, v3, rfl, ho⟩
    rw [EBS.out] at ho
    rw [EER.out]
    have B3 := hidden (B2.out.trans (hb.mono B2.out.size))
    have C3 := hidden (C2.out.up hb)
    have O3 := hidden (O2.out.on (Upd.ofNew (M := fun _ => False) hb) (fun _ _ h => h))
    have P3 := hidden ho
    clear hb ho C2 O2 Q2
    go_wp2_with fail
    with_reducible refine (find_any a _ cap l t w3 C3.out HS.out rfl (by omega)).mono ?_
    rintro e w4 ⟨hb, v4, rfl, ho⟩
    have B4 := hidden (B3.out.trans (hb.mono B3.out.size))
    have C4 := hidden (C3.out.up hb)
    have O4 := hidden (O3.out.on (Upd.ofNew (M := fun _ => False) hb) (fun _ _ h => h))
    have P4 := hidden (P3.out.on (Upd.ofNew (M := fun _ => False) hb) (fun _ _ h => h))
    have R4 := hidden ho
    clear hb ho C3 O3 P3
    go_wp2_with fail
    with_reducible refine (plain_any a _ cap l w4 C4.out (by omega) rfl).mono ?_
    rintro e w5 ⟨hb, a5, c5, rfl, q5⟩
    have B5 := hidden (B4.out.trans (hb.mono B4.out.size))
    have O5 := hidden (O4.out.on (Upd.ofNew (M := fun _ => False) hb) (fun _ _ h => h))
    have P5 := hidden (P4.out.on (Upd.ofNew (M := fun _ => False) hb) (fun _ _ h => h))
    have R5 := hidden (R4.out.on (Upd.ofNew (M := fun _ => False) hb) (fun _ _ h => h))
    have Q5 := hidden q5
    clear hb q5 C4 O4 P4 R4
    go_wp2_with fail
    with_reducible refine (find_ref a5 _ c5 l t w5 Q5.out HS.out rfl (by omega)).mono ?_
    rintro e w6 ⟨hb, v6, rfl, ho⟩
    have B6 := hidden (B5.out.trans (hb.mono B5.out.size))
    obtain ⟨a1, c1, rfl, o6, -, -⟩ := (O5.out.on (Upd.ofNew (M := fun _ => False) hb) (fun _ _ h => h)).reads
    obtain ⟨a3, c3, rfl, p6, -, -⟩ := (P5.out.on (Upd.ofNew (M := fun _ => False) hb) (fun _ _ h => h)).reads
    obtain ⟨a4, c4, rfl, r6, -, -⟩ := (R5.out.on (Upd.ofNew (M := fun _ => False) hb) (fun _ _ h => h)).reads
    obtain ⟨a6, c6, rfl, s6, -, -⟩ := ho.reads
    have O6 := hidden o6
    have P6 := hidden p6
    have R6 := hidden r6
    have S6 := hidden s6
    clear hb ho o6 p6 r6 s6 O5 P5 R5 Q5
    generalize (findL l t).getD [] = fd at R6 S6
    generalize (findL l t).isSome = fb
    have hgt : goodB (strOf t).data.toList = goodB t := rfl
    go_wp2_with fail
    with_reducible refine (same_eq _ _ _ _ _ _ bs w6 O6.out P6.out rfl rfl).mono ?_
    rintro e w7 ⟨rfl, rfl⟩
    go_wp2_with fail
    with_reducible refine (same_eq _ _ _ _ _ _ fd w6 R6.out S6.out rfl rfl).mono ?_
    rintro e w7 ⟨rfl, rfl⟩
    cases fb
    all_goals
      go_wp2_with fail
      with_reducible refine (good_any (strOf t) w6 (strOf_size ht)).mono ?_
      rintro e w7 ⟨rfl, hb⟩
      have B7 := hidden (B6.out.trans (hb.mono B6.out.size))
      have O7 := hidden (O6.out.on' hb)
      have P7 := hidden (P6.out.on' hb)
      clear hb
      go_wp2_with fail
      with_reducible refine (good_ref (strOf t) w7 (strOf_size ht)).mono ?_
      rintro e w8 ⟨rfl, rfl⟩
      generalize goodB (strOf t).data.toList = gb
      cases gb
      all_goals
        go_wp2_with fail
        with_reducible refine (id_any _ _ _ bs w7 O7.out rfl (by omega)).mono ?_
        rintro e w8 ⟨rfl, rfl⟩
        go_wp2_with fail
        with_reducible refine (id_ref _ _ _ bs w7 P7.out rfl (by omega)).mono ?_
        rintro e w8 ⟨rfl, rfl⟩
        generalize crc32 bs = cr
        go_wp2_with fail
        with_reducible refine (lives_03 w7).mono ?_
        rintro e w9 ⟨rfl, hb⟩
        have B9 := hidden (B7.out.trans (hb.mono B7.out.size))
        clear hb
        go_wp2_with fail
        go_ret
        exact ⟨rfl, B9.out⟩
  · go_wp2_with fail
    with_reducible refine (lives_03 w0).mono ?_
    rintro e w1 ⟨rfl, hb⟩
    have B := hidden (B0.out.trans (hb.mono B0.out.size))
    clear hb
    go_wp2_with fail
    go_ret
    exact ⟨rfl, B.out⟩
end Go.Proofs.Ytekmjegeiminnaa
