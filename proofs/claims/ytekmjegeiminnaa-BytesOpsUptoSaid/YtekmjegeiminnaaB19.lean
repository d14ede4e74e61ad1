/- The reference's list of ints, walked; two slices of ints that read alike. -/
import Derived.Test.YtekmjegeiminnaaB18
namespace Go.Proofs.Ytekmjegeiminnaa
open Go.RowKit
set_option linter.unusedVariables false
set_option linter.unusedSimpArgs false

theorem IntsAt.on' {w w' : World} {a : Option Addr} {xs : List Int} (h : IntsAt w a xs) (hb : Below w.heap.size w w') : IntsAt w' a xs :=
  h.upd (Upd.ofNew (M := fun _ => False) hb) (fun _ _ h => h)

set_option maxRecDepth 100000 in
set_option maxHeartbeats 8000000 in
theorem refints (a : Option Addr) (len cap : Nat) (xs : List Int) (w : World) (hx : ∀ x ∈ xs, I64 x) (hi : IntsAt w a xs) (hlen : len = xs.length) (hcap : len ≤ cap) (hl : 10 * xs.length ≤ 140737488354000) :
    Calls Try.prog 30 #[.slice a len cap] w fun e w' => Below w.heap.size w w' ∧ ∃ v, e = .returned v ∧ OwnB w.heap.size w' v (encI xs) := by
  subst hlen
  have HX := hidden hx
  have HI := hidden hi
  have hlen : (xs.length : Int) ≤ 9223372036854775807 := by omega
  clear hx hi
  go_enter Try.func30, Try.ntmps30
  go_wp2_with fail
  with_reducible refine (refnum w.heap.size (.slice none 0 0) [] _ w ⟨by omega, by omega⟩ (OwnB.nil _ _) (Nat.le_refl _) (by simp)).mono ?_
  rintro e w1 ⟨v1, rfl, hg⟩
  rw [List.nil_append] at hg
  have HG := hidden hg
  clear hg
  go_wp2_with fail
  go_loopw [3, 11] (fun s3 s11 wr => ∃ (k : Nat), s11 = .int .i64 k ∧ k ≤ xs.length ∧ Grew w.heap.size (.slice none 0 0) s3 (encN xs.length ++ encS (xs.take k)) w wr) (fun _ s11 _ => (xs.length - intOf s11).toNat)
  case atStart => exact ⟨0, rfl, by omega, by simpa [encS] using HG.out⟩
  case round =>
    obtain ⟨k, rfl, hk, hg⟩ := hrel
    have HR := hidden hg
    have HB : Hid (Below w.heap.size w wr) := hidden (hg.upd.toBelow (Nat.le_refl _) (fun k hk e => by simp [Value.ownBlock] at e))
    clear hg
    by_cases hlt : k < xs.length
    · obtain ⟨b, o, rfl, hcell⟩ := (HI.out.on' HB.out) k hlt
      have hxk : -9223372036854775808 ≤ xs[k] ∧ xs[k] ≤ 9223372036854775807 := HX.out _ (List.getElem_mem hlt)
      have HXK : Hid (xs.take (k + 1) = xs.take k ++ [xs[k]]) := by show _ = _; rw [List.take_succ_eq_append_getElem hlt]
      generalize xs[k] = x at hcell hxk HXK
      have HLN : Hid ((encN xs.length ++ encS (xs.take k)).length ≤ 140737488355000) := by
        show _ ≤ _
        have h1 := encS_length (xs.take k) (fun y hy => HX.out y (List.mem_of_mem_take hy))
        have h2 : (encN (xs.length : Int)).length ≤ 10 := encN_length ⟨by omega, by omega⟩
        have h3 : (xs.take k).length ≤ xs.length := by simp; omega
        simp only [List.length_append]; omega
      go_wp2_with fail
      with_reducible refine (refnum w.heap.size _ _ x wr hxk HR.out.own HB.out.size HLN.out).mono ?_
      rintro e w2 ⟨v2, rfl, hg2⟩
      have HW2 := hidden (HR.out.trans hg2)
      clear hg2
      go_wp2_with fail
      exact ⟨⟨k + 1, by go_num, by omega, by rw [HXK.out, encS_append, encS_one, ← List.append_assoc]; exact HW2.out⟩, by simp [intOf]; omega⟩
    · have hk' : k = xs.length := by omega
      subst hk'
      go_wp2_with fail
      have hout := HR.out
      rw [List.take_length] at hout
      go_ret
      exact ⟨HB.out, _, rfl, hout.own⟩

set_option maxRecDepth 100000 in
set_option maxHeartbeats 8000000 in
theorem ints_same (a1 a2 : Option Addr) (l1 l2 c1 c2 : Nat) (xs : List Int) (w : World) (h1 : IntsAt w a1 xs) (h2 : IntsAt w a2 xs) (e1 : l1 = xs.length) (e2 : l2 = xs.length) (hl : xs.length ≤ 140737488354000) :
    Calls Try.prog 31 #[.slice a1 l1 c1, .slice a2 l2 c2] w fun e w' => e = .returned (.bool true) ∧ Below w.heap.size w w' := by
  subst e1; subst e2
  have H1 := hidden h1
  have H2 := hidden h2
  clear h1 h2
  go_enter Try.func31, Try.ntmps31
  go_wp2_with fail
  go_loopw [13] (fun s wr => ∃ (k : Nat), s = .int .i64 k ∧ k ≤ xs.length ∧ Below w.heap.size w wr) (fun s _ => (xs.length - intOf s).toNat)
  case atStart => exact ⟨0, rfl, by omega, Below.refl _ _⟩
  case round =>
    obtain ⟨k, rfl, hk, hb⟩ := hrel
    have HB := hidden hb
    clear hb
    by_cases hlt : k < xs.length
    · obtain ⟨b, o, rfl, hc1⟩ := H1.out.on' HB.out k hlt
      obtain ⟨b', o', rfl, hc2⟩ := H2.out.on' HB.out k hlt
      have i1 : (0 : Int) ≤ (k : Int) := by omega
      have i2 : (k : Int) < (xs.length : Int) := by omega
      generalize xs[k] = x at hc1 hc2
      go_wp2_with fail
      go_quiet (fail)
      go_wp2_with fail
      exact ⟨⟨k + 1, by go_num, by omega, below_dn HB.out _⟩, by simp [intOf]; omega⟩
    · go_wp2_with fail
      go_ret
      exact ⟨rfl, HB.out⟩
end Go.Proofs.Ytekmjegeiminnaa
