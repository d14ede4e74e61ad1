/- BytesInts, walked. -/
import Derived.Test.YtekmjegeiminnaaB19
namespace Go.Proofs.Ytekmjegeiminnaa
open Go.RowKit
set_option linter.unusedVariables false
set_option linter.unusedSimpArgs false

theorem decS_encS : ∀ (xs : List Int) (r : List UInt8), (∀ x ∈ xs, I64 x) → decS xs.length (encS xs ++ r) = some (xs, r)
  | [], r, _ => by simp [encS, decS]
  | x :: xs, r, h => by
    have e : encS (x :: xs) ++ r = encN x ++ (encS xs ++ r) := by simp [encS]
    rw [e, List.length_cons, decS, decN_encN (h x (List.mem_cons_self ..))]
    simp [decS_encS xs r (fun y hy => h y (List.mem_cons_of_mem _ hy))]
theorem encN_pos (n : Int) : 0 < (encN n).length := List.length_pos_iff.2 (encU_ne _)
theorem encS_ge : ∀ (xs : List Int), xs.length ≤ (encS xs).length
  | [] => by simp
  | x :: xs => by
    have e : encS (x :: xs) = encN x ++ encS xs := by simp [encS]
    have := encS_ge xs
    have := encN_pos x
    rw [e, List.length_append, List.length_cons]; omega
theorem decC_encN {n : Nat} {r : List UInt8} (h : n ≤ r.length) (hn : n ≤ 9223372036854775807) : decC (encN n ++ r) = some (n, r) := by
  unfold decC
  rw [decN_encN ⟨by omega, by omega⟩]
  simp only [Option.bind_some]
  rw [if_pos ⟨by omega, by omega⟩]; simp
theorem decI_encI (xs : List Int) (r : List UInt8) (h : ∀ x ∈ xs, I64 x) (hl : xs.length ≤ 9223372036854775807) : decI (encI xs ++ r) = some (xs, r) := by
  unfold decI encI
  rw [List.append_assoc, decC_encN (by have := encS_ge xs; simp; omega) hl]
  exact decS_encS xs r h
theorem readI_encI (xs : List Int) (h : ∀ x ∈ xs, I64 x) (hl : xs.length ≤ 9223372036854775807) : readI (encI xs) = some xs := by
  unfold readI
  have := decI_encI xs [] h hl
  rw [List.append_nil] at this
  rw [this]; rfl

set_option maxRecDepth 100000 in
set_option maxHeartbeats 8000000 in
theorem bytesints_law (a : Option Addr) (len cap : Nat) (xs : List Int) (w : World) (hx : ∀ x ∈ xs, I64 x) (h : IntsAt w a xs) (hlen : len = xs.length) (hcap : len ≤ cap) :
    Calls Try.prog 5 #[.slice a len cap] w fun e w' => e = .returned (.bool true) ∧ Below w.heap.size w w' := by
  subst hlen
  have H := hidden h
  have HX := hidden hx
  clear h hx
  by_cases hbig : 10000 < xs.length
  · go_enter Try.func5, Try.ntmps5
    go_wp2_with fail
    with_reducible refine (lives_02 w).mono ?_
    rintro e w1 ⟨rfl, hb⟩
    have B := hidden hb
    clear hb
    go_wp2_with fail
    go_ret
    exact ⟨rfl, B.out⟩
  · have hle : xs.length ≤ 10000 := by omega
    have hel : Hid ((encI xs).length ≤ 100010) := by
      show _ ≤ _
      have h1 := encS_length xs HX.out
      have h2 : (encN (xs.length : Int)).length ≤ 10 := encN_length ⟨by omega, by omega⟩
      unfold encI; rw [List.length_append]; omega
    go_enter Try.func5, Try.ntmps5
    go_wp2_with fail
    with_reducible refine (ints_any a _ cap xs w HX.out H.out rfl hcap (by omega)).mono ?_
    rintro e w1 ⟨hb, v1, rfl, ho⟩
    have B1 := hidden hb
    have O1 := hidden ho
    obtain ⟨a1, c1, rfl, q1, hc1, hA1⟩ := ho.reads
    have Q1 := hidden q1
    have hm1 : (c1 : Int) ≤ 9223372036854775807 := own_cap ho rfl
    have HA1 : Hid (∀ A, a1 = some A → A.block < w1.heap.size) := hidden (fun A hA => (ho.lt _ (hA1 A hA).1).2)
    clear hb ho q1 hA1
    have hl1 := hel.out
    generalize hfs : encI xs = fs at O1 Q1 hc1 hl1
    have HFS := hidden hfs
    clear hfs
    go_wp2_with fail
    with_reducible refine (readints_any a1 _ c1 fs w1 Q1.out rfl hc1 hm1 (by omega) HA1.out).mono ?_
    rintro e w2 ⟨hb, ⟨ys, v2, hr, rfl, ho⟩ | ⟨hr, rfl⟩⟩
    · rw [← HFS.out, readI_encI xs HX.out (by omega)] at hr
      cases hr
      have B2 := hidden (B1.out.trans (hb.mono B1.out.size))
      have O2 := hidden (O1.out.on (Upd.ofNew (M := fun _ => False) hb) (fun _ _ h => h))
      have OI := hidden ho
      clear hb ho
      go_wp2_with fail
      with_reducible refine (refints a _ cap xs w2 HX.out (H.out.on' B2.out) rfl hcap (by omega)).mono ?_
      rintro e w3 ⟨hb, v3, rfl, ho⟩
      have B3 := hidden (B2.out.trans (hb.mono B2.out.size))
      have O3 := hidden (O2.out.on (Upd.ofNew (M := fun _ => False) hb) (fun _ _ h => h))
      have OI3 := hidden (OI.out.on (Upd.ofNew (M := fun _ => False) hb) (fun _ _ h => h))
      rw [HFS.out] at ho
      obtain ⟨a3, c3, rfl, q3, -, -⟩ := ho.reads
      obtain ⟨a1', c1', e1, q1, -, -⟩ := O3.out.reads
      injection e1 with e1 _ e1'
      subst e1; subst e1'
      obtain ⟨a2, c2, rfl, q2, -, -⟩ := OI3.out.reads
      clear hb ho
      go_wp2_with fail
      with_reducible refine (same_eq _ _ _ _ _ _ fs w3 q1 q3 rfl rfl).mono ?_
      rintro e w4 ⟨rfl, rfl⟩
      clear q1 q3
      go_wp2_with fail
      with_reducible refine (ints_same _ _ _ _ _ _ xs w3 q2 (H.out.on' B3.out) rfl rfl (by omega)).mono ?_
      rintro e w4 ⟨rfl, hb⟩
      have B4 := hidden (B3.out.trans (hb.mono B3.out.size))
      clear hb q2
      go_wp2_with fail
      with_reducible refine (lives_02 w4).mono ?_
      rintro e w5 ⟨rfl, hb⟩
      have B5 := hidden (B4.out.trans (hb.mono B4.out.size))
      clear hb
      go_wp2_with fail
      go_ret
      exact ⟨rfl, B5.out⟩
    · rw [← HFS.out, readI_encI xs HX.out (by omega)] at hr
      cases hr
end Go.Proofs.Ytekmjegeiminnaa
