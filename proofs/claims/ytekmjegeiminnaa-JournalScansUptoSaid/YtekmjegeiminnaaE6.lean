/- The laws of lists of operations and of books, walked. -/
import Derived.Test.YtekmjegeiminnaaD15
import Derived.Test.YtekmjegeiminnaaE5
import Derived.Test.YtekmjegeiminnaaB15
namespace Go.Proofs.Ytekmjegeiminnaa
open Go.RowKit
set_option linter.unusedVariables false
set_option linter.unusedSimpArgs false

theorem rep_on {α : Type} {T : Ty α} {w w' : World} {vs : List Value} {x : α} (h : T.rep (· < w.heap.size) w vs x) (hb : Below w.heap.size w w') : T.rep (· < w'.heap.size) w' vs x :=
  T.mono (T.upd h (Upd.ofNew (M := fun _ => False) hb) (fun _ _ h => h)) (fun k hk => Nat.lt_of_lt_of_le hk hb.size)

set_option maxRecDepth 100000 in
set_option maxHeartbeats 8000000 in
theorem ops_law (a : Option Addr) (cap : Nat) (xs : List OpD) (w : World) (hr : tOps.rep (· < w.heap.size) w [.slice a xs.length cap] xs) (hok : tOps.cod.ok xs) (hl : (tOps.cod.enc xs).length ≤ 100000000000) :
    Calls Try.prog 11 #[.slice a xs.length cap] w fun e w' => e = .returned (.bool true) ∧ Below w.heap.size w w' := by
  have HR := hidden hr
  have HOK := hidden hok
  clear hr hok
  by_cases hbig : 200 < xs.length
  · go_enter Try.func11, Try.ntmps11
    go_wp2_with fail
    with_reducible refine (lives_02 w).mono ?_
    rintro e w1 ⟨rfl, hb⟩
    have B := hidden hb
    clear hb
    go_wp2_with fail
    go_ret
    exact ⟨rfl, B.out⟩
  · go_enter Try.func11, Try.ntmps11
    go_wp2_with fail
    with_reducible refine (ops_any _ xs w HR.out HOK.out (by omega)).mono ?_
    rintro e w1 ⟨hb, v1, rfl, ho⟩
    have B1 := hidden hb
    have O1 := hidden ho
    obtain ⟨a1, c1, rfl, q1, hc1, hA1⟩ := ho.reads
    have Q1 := hidden q1
    have hm1 : (c1 : Int) ≤ 9223372036854775807 := own_cap ho rfl
    have HA1 : Hid (∀ A, a1 = some A → A.block < w1.heap.size) := hidden (fun A hA => (ho.lt _ (hA1 A hA).1).2)
    clear hb ho q1 hA1
    have hl1 := hl
    generalize hfs : tOps.cod.enc xs = fs at O1 Q1 hc1 hl1
    have HFS := hidden hfs
    clear hfs
    go_wp2_with fail
    with_reducible refine (refops _ xs w1 (rep_on HR.out B1.out) HOK.out (by omega)).mono ?_
    rintro e w2 ⟨hb, v2, rfl, ho⟩
    rw [HFS.out] at ho
    have B2 := hidden (B1.out.trans (hb.mono B1.out.size))
    have O2 := hidden (O1.out.on (Upd.ofNew (M := fun _ => False) hb) (fun _ _ h => h))
    have Q2 := hidden (Q1.out.on' hb)
    have HA2 : Hid (∀ A, a1 = some A → A.block < w2.heap.size) := hidden (fun A hA => Nat.lt_of_lt_of_le (HA1.out A hA) hb.size)
    obtain ⟨a2, c2, rfl, q2, -, -⟩ := ho.reads
    clear hb ho
    go_wp2_with fail
    with_reducible refine (same_eq _ _ _ _ _ _ fs w2 Q2.out q2 rfl rfl).mono ?_
    rintro e w3 ⟨rfl, rfl⟩
    clear q2
    go_wp2_with fail
    with_reducible refine (readops_any a1 _ c1 fs w2 Q2.out rfl hc1 hm1 hl1 HA2.out).mono ?_
    rintro e w3 ⟨hb, ⟨ys, v3, hw, rfl, ho⟩ | ⟨hw, rfl⟩⟩
    · rw [← HFS.out, whole_enc _ HOK.out] at hw
      cases hw
      have B3 := hidden (B2.out.trans (hb.mono B2.out.size))
      have R3 := hidden (tOps.mono ho (fun k hk => hk.2))
      have Q3 := hidden (Q2.out.on' hb)
      obtain ⟨b3, d3, he3, -⟩ := ho
      simp only [List.cons.injEq, and_true] at he3
      subst he3
      clear hb
      have HCALL : Hid (Calls Try.prog 51 #[.slice b3 xs.length d3] w3 fun e w' => Below w3.heap.size w3 w' ∧ ∃ v, e = .returned v ∧ OwnB w3.heap.size w' v (tOps.cod.enc xs)) := hidden (refops _ xs w3 R3.out HOK.out (by omega))
      go_wp2_with fail
      with_reducible refine HCALL.out.mono ?_
      rintro e w4 ⟨hb, v4, rfl, ho⟩
      rw [HFS.out] at ho
      have B4 := hidden (B3.out.trans (hb.mono B3.out.size))
      have Q4 := hidden (Q3.out.on' hb)
      obtain ⟨a4, c4, rfl, q4, -, -⟩ := ho.reads
      clear hb ho HCALL
      go_wp2_with fail
      with_reducible refine (same_eq _ _ _ _ _ _ fs w4 q4 Q4.out rfl rfl).mono ?_
      rintro e w5 ⟨rfl, rfl⟩
      clear q4
      go_wp2_with fail
      with_reducible refine (lives_02 w4).mono ?_
      rintro e w5 ⟨rfl, hb⟩
      have B5 := hidden (B4.out.trans (hb.mono B4.out.size))
      clear hb
      go_wp2_with fail
      go_ret
      exact ⟨rfl, B5.out⟩
    · rw [← HFS.out, whole_enc _ HOK.out] at hw
      cases hw
end Go.Proofs.Ytekmjegeiminnaa
