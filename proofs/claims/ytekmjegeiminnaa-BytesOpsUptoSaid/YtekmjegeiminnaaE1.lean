/- The reference's writers: text, value, name, link, walked. -/
import Derived.Test.YtekmjegeiminnaaD12
namespace Go.Proofs.Ytekmjegeiminnaa
open Go.RowKit
set_option linter.unusedVariables false
set_option linter.unusedSimpArgs false

/-- A row of the calls' own grows on; a range elsewhere is as it was. -/
theorem Grew.kept {B : Nat} {v v' : Value} {bs cs : List UInt8} {w w' : World} (ho : OwnB B w v bs) (h : Grew B v v' cs w w') (hB : B ≤ w.heap.size) {g : Nat} (hg : g < w.heap.size) (hne : some g ≠ v.ownBlock) {us : List Value} (hr : w.rangeAt g 0 us) :
    w'.rangeAt g 0 us ∧ B ≤ w'.heap.size ∧ g < w'.heap.size ∧ some g ≠ v'.ownBlock := by
  refine ⟨h.upd.range hr hne, Nat.le_trans hB h.upd.size, Nat.lt_of_lt_of_le hg h.upd.size, ?_⟩
  rcases h.at_ with e | ⟨q, e, hq⟩
  · rw [e]; exact hne
  · rw [e]; intro he; injection he with he; omega
set_option maxRecDepth 100000 in
set_option maxHeartbeats 8000000 in
theorem reftext (B : Nat) (v : Value) (bs t : List UInt8) (w : World) (ho : OwnB B w v bs) (hB : B ≤ w.heap.size) (hl : bs.length + (encT t).length ≤ 140737488354000) :
    Calls Try.prog 84 #[v, .string (strOf t)] w fun e w' => ∃ v', e = .returned v' ∧ Grew B v v' (bs ++ encT t) w w' := by
  have hle : (encN (t.length : Int)).length + t.length = (encT t).length := by unfold encT; rw [List.length_append]
  have HO := hidden ho
  have HL := hidden (And.intro hl hle)
  obtain ⟨a, cap, rfl, _, _, _⟩ := ho.reads
  clear ho hl hle
  go_enter Try.func84, Try.ntmps84
  go_wp2_with fail
  with_reducible refine (refnum B _ bs _ w (by have := HL.out; omega) HO.out hB (by have := HL.out; omega)).mono ?_
  rintro e w1 ⟨v1, rfl, g1⟩
  obtain ⟨E, HE⟩ : ∃ E, Hid (bs ++ encN (t.length : Int) = E) := ⟨_, rfl⟩
  have HEL : Hid (E.length + t.length ≤ 140737488355328) := hidden (by rw [← HE.out, List.length_append]; have := HL.out; omega)
  rw [HE.out] at g1
  have G1 := hidden g1
  obtain ⟨a1, cap1, rfl, _, _, _⟩ := g1.own.reads
  have HB1 : Hid (B ≤ w1.heap.size) := hidden (Nat.le_trans hB g1.upd.size)
  clear g1
  go_wp2_with (at_builtin; go_loud (refine wpList_append_S rfl (.tmp 8) (.tmp 9) rfl rfl G1.out.own rfl HEL.out HB1.out ?_); intro v2 w2 g2; have G2 := hidden g2; obtain ⟨a2, cap2, rfl, _, _, _⟩ := g2.own.reads; clear g2)
  go_ret
  have h1 := G1.out.trans G2.out
  have e1 : bs ++ encT t = E ++ t := by rw [← HE.out]; unfold encT; rw [List.append_assoc]
  rw [e1]
  refine ⟨_, ?_, h1⟩
  rw [List.length_append]
  rfl
end Go.Proofs.Ytekmjegeiminnaa
