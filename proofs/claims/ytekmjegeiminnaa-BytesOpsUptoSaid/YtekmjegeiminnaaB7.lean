/- Both Unframes, walked. -/
import Derived.Test.YtekmjegeiminnaaB6
namespace Go.Proofs.Ytekmjegeiminnaa
open Go.RowKit
set_option linter.unusedVariables false
set_option linter.unusedSimpArgs false

theorem BytesAt.drop {w : World} {b o : Nat} {bs : List UInt8} (h : BytesAt w (some ⟨b, o, none⟩) bs) (k : Nat) : BytesAt w (some ⟨b, o + k, none⟩) (bs.drop k) := fun i hi => by
  have hi' : i < bs.length - k := by simpa using hi
  obtain ⟨b', o', e, hc⟩ := h (k + i) (by omega)
  cases e
  exact ⟨b, o + k, rfl, by rw [Nat.add_assoc, hc]; simp⟩
theorem BytesAt.take {w : World} {a : Option Addr} {bs : List UInt8} (h : BytesAt w a bs) (k : Nat) : BytesAt w a (bs.take k) := fun i hi => by
  have hi' : i < bs.length := by simp at hi; omega
  obtain ⟨b, o, e, hc⟩ := h i hi'
  exact ⟨b, o, e, by rw [hc]; simp⟩

/-- What bytes begin with: the error's number, the content, the length. -/
def unfE (bs : List UInt8) : Nat :=
  if bs.length < 4 then 16 else if 131072 < ofLe (bs.take 4) then 9 else if bs.length < ofLe (bs.take 4) + 8 then 16
  else if crc32 (bs.take (ofLe (bs.take 4) + 4)) = ofLe ((bs.drop (ofLe (bs.take 4) + 4)).take 4) then 0 else 12
def unfC (bs : List UInt8) : List UInt8 := if unfE bs = 0 then (bs.drop 4).take (ofLe (bs.take 4)) else []
def unfN (bs : List UInt8) : Nat := if unfE bs = 0 then ofLe (bs.take 4) + 8 else 0
def Unframed (bs : List UInt8) (w : World) (e : Ending) (w' : World) : Prop :=
  Below w.heap.size w w' ∧ ∃ v, e = .returned (.tuple #[v, .int .i64 (unfN bs : Nat), .int .i64 (unfE bs : Nat)]) ∧ OwnB w.heap.size w' v (unfC bs)
theorem Unframed.err {bs : List UInt8} {w w' : World} {k : Nat} (hb : Below w.heap.size w w') (h : unfE bs = k) (hk : k ≠ 0) :
    Unframed bs w (.returned (.tuple #[.slice none 0 0, .int .i64 0, .int .i64 (k : Nat)])) w' := by
  subst h
  exact ⟨hb, _, by rw [unfN, if_neg hk]; rfl, by rw [unfC, if_neg hk]; exact OwnB.nil _ _⟩

theorem quiet_eq {P : Program} {f : FuncId} {args : Array Value} {w : World} {n : Nat} {v : Value} (h : Calls P f args (w.drewN n) fun e w' => e = .returned v ∧ w.drewN n = w') :
    Calls P f args (w.drewN n) fun e w'' => e = .returned v ∧ ∃ m, w'' = w.drewN m := h.mono fun _ _ ⟨he, hm⟩ => ⟨he, n, hm.symm⟩
theorem quiet_dn {P : Program} {f : FuncId} {args : Array Value} {w : World} {n : Nat} {v : Value} (h : Calls P f args (w.drewN n) fun e w' => e = .returned v ∧ ∃ m, w' = (w.drewN n).drewN m) :
    Calls P f args (w.drewN n) fun e w'' => e = .returned v ∧ ∃ m, w'' = w.drewN m := Calls.quiet_of h
theorem BytesAt.drewN {w : World} {a : Option Addr} {bs : List UInt8} (h : BytesAt w a bs) (n : Nat) : BytesAt (w.drewN n) a bs := h.upd (Upd.drewN (M := fun _ => False) _ _) (fun _ _ h => h)

set_option maxRecDepth 100000 in
set_option maxHeartbeats 8000000 in
theorem unframe_any (a : Option Addr) (len cap : Nat) (bs : List UInt8) (w : World) (h : BytesAt w a bs) (hlen : len = bs.length) (hcap : len ≤ cap) (hl : (cap : Int) ≤ 9223372036854775807) (hl2 : len ≤ 140737488351232) :
    Calls Try.prog 26 #[.slice a len cap] w (Unframed bs w) := by
  subst hlen
  by_cases h4 : bs.length < 4
  · go_enter Try.func26, Try.ntmps26
    go_wp2
    go_ret3
    exact Unframed.err (k := 16) (Below.refl _ _) (by rw [unfE, if_pos h4]) (by decide)
  · obtain ⟨b, o, rfl, -⟩ := h 0 (by omega)
    have H := hidden h
    clear h
    have hf : ofLe (bs.take 4) < 4294967296 := by
      have := ofLe_lt (bs.take 4)
      rw [List.length_take, show min 4 bs.length = 4 by omega] at this; simpa using this
    obtain ⟨n, en⟩ : ∃ n, ofLe (bs.take 4) = n := ⟨_, rfl⟩
    rw [en] at hf
    have EN := hidden en
    have h4' : 4 ≤ bs.length := by omega
    have FE : Hid (unfE bs = if 131072 < n then 9 else if bs.length < n + 8 then 16 else if crc32 (bs.take (n + 4)) = ofLe ((bs.drop (n + 4)).take 4) then 0 else 12) := by
      show _ = _; rw [unfE, if_neg h4, en]
    clear en h4
    go_enter Try.func26, Try.ntmps26
    go_wp2_with fail
    with_reducible refine (fourth_any (some ⟨b, o, none⟩) bs.length cap bs w H.out h4' rfl (by omega)).mono ?_
    rintro e w1 ⟨rfl, rfl⟩
    rw [EN.out]
    by_cases h9 : 131072 < n
    · go_wp2
      go_ret3
      exact Unframed.err (k := 9) (Below.refl _ _) (by rw [FE.out, if_pos h9]) (by decide)
    · have h9' : n ≤ 131072 := by omega
      clear h9
      by_cases h16 : bs.length < n + 8
      · have h16' : (bs.length : Int) - 8 < (n : Int) := by omega
        go_wp2
        go_ret3
        exact Unframed.err (k := 16) (Below.refl _ _) (by rw [FE.out, if_neg (by omega), if_pos h16]) (by decide)
      · have h16' : n + 8 ≤ bs.length := by omega
        clear h16
        have i1 : ¬ cap = n + 4 := by omega
        have i2 : (n : Int) + 4 ≤ (bs.length : Int) := by omega
        have i3 : (bs.length : Int) ≤ (cap : Int) := by omega
        have i4 : ((n : Int) + 4).toNat = n + 4 := by omega
        have i5 : (0 : Int) ≤ (n : Int) + 4 := by omega
        have i6 : IntKind.i64.wrap ((n : Int) + 4) = (n : Int) + 4 := IntWalk.i64_in _ (by omega)
        go_wp2_with fail
        go_quiet ((first
          | (go_at_call 69; with_reducible exact quiet_eq (fourth_any (some ⟨b, o + (n + 4), none⟩) (bs.length - (n + 4)) (cap - (n + 4)) (bs.drop (n + 4)) _ ((H.out.drop (n + 4)).drewN _) (by rw [List.length_drop]; omega) (by rw [List.length_drop]) (by omega)))
          | (go_at_call 20; with_reducible exact quiet_eq (sum_any (some ⟨b, o, none⟩) (n + 4) cap (bs.take (n + 4)) _ ((H.out.take (n + 4)).drewN _) (by rw [List.length_take]; omega) (by omega)))))
        obtain ⟨cr, ecr⟩ : ∃ cr, crc32 (bs.take (n + 4)) = cr := ⟨_, rfl⟩
        obtain ⟨fo, efo⟩ : ∃ fo, ofLe ((bs.drop (n + 4)).take 4) = fo := ⟨_, rfl⟩
        rw [ecr, efo]
        have ECR := hidden ecr
        have EFO := hidden efo
        clear ecr efo
        by_cases hne : cr = fo
        · have HEQ := hidden hne
          subst hne
          have i7 : ¬ cap = 4 := by omega
          have i8 : (4 : Int) ≤ (n : Int) + 4 := by omega
          have HD := (H.out.drop 4).take n
          have HDN := hidden (HD.drewN nq)
          clear HD
          go_wp2_with (at_builtin; go_loud (refine wpList_append_B rfl (.const (.slice none 0 0)) (.tmp 36) rfl rfl (OwnB.nil w.heap.size _) rfl (by rw [List.length_take, List.length_drop]; omega) HDN.out (by rw [List.length_take, List.length_drop]; simp; omega) (Nat.le_refl _) ?_); intro v' w1 g1)
          go_ret3
          have FE0 : unfE bs = 0 := by rw [FE.out, if_neg (by omega), if_neg (by omega), if_pos (by rw [ECR.out, EFO.out])]
          refine ⟨(below_dn (Below.refl _ _) nq).trans (g1.below (Nat.le_refl _) (fun k hk => by cases hk)), v', ?_, ?_⟩
          · rw [unfN, if_pos FE0, FE0, EN.out]; rfl
          · rw [unfC, if_pos FE0, EN.out]; exact g1.own
        · have hne1 : ((fo : Int) != (cr : Int)) = true := by rw [bne_iff_ne]; omega
          have HNE := hidden hne
          clear hne
          go_wp2
          go_ret3
          exact Unframed.err (k := 12) (below_dn (Below.refl _ _) nq) (by rw [FE.out, if_neg (by omega), if_neg (by omega), if_neg (by rw [ECR.out, EFO.out]; exact HNE.out)]) (by decide)
set_option maxRecDepth 100000 in
set_option maxHeartbeats 8000000 in
theorem unframe_ref (a : Option Addr) (len cap : Nat) (bs : List UInt8) (w : World) (h : BytesAt w a bs) (hlen : len = bs.length) (hcap : len ≤ cap) (hl : (cap : Int) ≤ 9223372036854775807) (hl2 : len ≤ 140737488351232) :
    Calls Try.prog 27 #[.slice a len cap] w (Unframed bs w) := by
  subst hlen
  by_cases h4 : bs.length < 4
  · go_enter Try.func27, Try.ntmps27
    go_wp2
    go_ret3
    exact Unframed.err (k := 16) (Below.refl _ _) (by rw [unfE, if_pos h4]) (by decide)
  · obtain ⟨b, o, rfl, -⟩ := h 0 (by omega)
    have H := hidden h
    clear h
    have hf : ofLe (bs.take 4) < 4294967296 := by
      have := ofLe_lt (bs.take 4)
      rw [List.length_take, show min 4 bs.length = 4 by omega] at this; simpa using this
    obtain ⟨n, en⟩ : ∃ n, ofLe (bs.take 4) = n := ⟨_, rfl⟩
    rw [en] at hf
    have EN := hidden en
    have h4' : 4 ≤ bs.length := by omega
    have FE : Hid (unfE bs = if 131072 < n then 9 else if bs.length < n + 8 then 16 else if crc32 (bs.take (n + 4)) = ofLe ((bs.drop (n + 4)).take 4) then 0 else 12) := by
      show _ = _; rw [unfE, if_neg h4, en]
    clear en h4
    go_enter Try.func27, Try.ntmps27
    go_wp2_with fail
    with_reducible refine (fourth_ref (some ⟨b, o, none⟩) bs.length cap bs w H.out h4' rfl (by omega)).mono ?_
    rintro e w0 ⟨rfl, nd, hw0⟩
    have HB0 : Hid (Below w.heap.size w w0) := by rw [hw0]; exact below_dn (Below.refl _ _) nd
    have H0 : Hid (BytesAt w0 (some ⟨b, o, none⟩) bs) := H.out.on' HB0.out
    clear hw0
    rw [EN.out]
    by_cases h9 : 131072 < n
    · go_wp2
      go_ret3
      exact Unframed.err (k := 9) HB0.out (by rw [FE.out, if_pos h9]) (by decide)
    · have h9' : n ≤ 131072 := by omega
      clear h9
      by_cases h16 : bs.length < n + 8
      · have h16' : (bs.length : Int) < (n : Int) + 8 := by omega
        go_wp2
        go_ret3
        exact Unframed.err (k := 16) HB0.out (by rw [FE.out, if_neg (by omega), if_pos h16]) (by decide)
      · have h16' : n + 8 ≤ bs.length := by omega
        clear h16
        have i1 : ¬ cap = n + 4 := by omega
        have i2 : (n : Int) + 4 ≤ (bs.length : Int) := by omega
        have i3 : (bs.length : Int) ≤ (cap : Int) := by omega
        have i4 : ((n : Int) + 4).toNat = n + 4 := by omega
        have i5 : (0 : Int) ≤ (n : Int) + 4 := by omega
        have i6 : IntKind.i64.wrap ((n : Int) + 4) = (n : Int) + 4 := IntWalk.i64_in _ (by omega)
        go_wp2_with fail
        have j1 : IntKind.i64.wrap ((n : Int) + 8) = (n : Int) + 8 := IntWalk.i64_in _ (by omega)
        have j2 : (n : Int) + 4 ≤ (n : Int) + 8 := by omega
        have j3 : (n : Int) + 8 ≤ (cap : Int) := by omega
        have j4 : ((n : Int) + 8).toNat = n + 8 := by omega
        have j5 : (0 : Int) ≤ (n : Int) + 8 := by omega
        have j6 : n + 8 - (n + 4) = 4 := by omega
        have j7 : (n : Int) + 4 ≤ (cap : Int) := by omega
        go_quiet ((first
          | (go_at_call 70; with_reducible exact quiet_dn (fourth_ref (some ⟨b, o + (n + 4), none⟩) 4 (cap - (n + 4)) ((bs.drop (n + 4)).take 4) _ (((H0.out.drop (n + 4)).take 4).drewN _) (by rw [List.length_take, List.length_drop]; omega) (by rw [List.length_take, List.length_drop]; omega) (by omega)))
          | (go_at_call 21; with_reducible exact quiet_eq (sum_ref (some ⟨b, o, none⟩) (n + 4) cap (bs.take (n + 4)) _ ((H0.out.take (n + 4)).drewN _) (by rw [List.length_take]; omega) (by omega)))))
        rw [List.take_take, Nat.min_self]
        clear j1 j2 j3 j4 j5 j6
        obtain ⟨cr, ecr⟩ : ∃ cr, crc32 (bs.take (n + 4)) = cr := ⟨_, rfl⟩
        obtain ⟨fo, efo⟩ : ∃ fo, ofLe ((bs.drop (n + 4)).take 4) = fo := ⟨_, rfl⟩
        rw [ecr, efo]
        have ECR := hidden ecr
        have EFO := hidden efo
        clear ecr efo
        by_cases hne : cr = fo
        · have HEQ := hidden hne
          subst hne
          have i7 : ¬ cap = 4 := by omega
          have i8 : (4 : Int) ≤ (n : Int) + 4 := by omega
          have OE : ∀ W : World, OwnB W.heap.size (W.alloc (.cells #[] 5)) (.slice (some ⟨W.heap.size, 0, none⟩) 0 0) [] := fun W => World.ownsRow_lit W #[] 0 (Nat.le_refl _) (by decide) rfl
          have HOE := hidden OE
          clear OE
          have HD := (H0.out.drop 4).take n
          have HDN := hidden (HD.drewN nq)
          clear HD
          go_wp2_with (at_builtin; go_loud (refine wpList_append_B rfl (.tmp 35) (.tmp 39) rfl rfl (HOE.out _) rfl (by rw [List.length_take, List.length_drop]; omega) (HDN.out.on' ((Below.refl _ _).alloc (Nat.le_refl _) _)) (by rw [List.length_take, List.length_drop]; simp; omega) (by rw [World.size_alloc]; exact Nat.le_succ _) ?_); intro v' w1 g1)
          go_ret3
          have FE0 : unfE bs = 0 := by rw [FE.out, if_neg (by omega), if_neg (by omega), if_pos (by rw [ECR.out, EFO.out])]
          refine ⟨((below_dn HB0.out nq).alloc HB0.out.size _).trans (g1.below (by rw [World.size_alloc]; exact Nat.le_succ_of_le HB0.out.size) (fun k hk => by cases hk; exact HB0.out.size)), v', ?_, ?_⟩
          · rw [unfN, if_pos FE0, FE0, EN.out]; rfl
          · rw [unfC, if_pos FE0, EN.out]; exact g1.own.weaken HB0.out.size
        · have hne1 : ((cr : Int) != (fo : Int)) = true := by rw [bne_iff_ne]; omega
          have HNE := hidden hne
          clear hne
          go_wp2
          go_ret3
          exact Unframed.err (k := 12) (below_dn HB0.out nq) (by rw [FE.out, if_neg (by omega), if_neg (by omega), if_neg (by rw [ECR.out, EFO.out]; exact HNE.out)]) (by decide)
end Go.Proofs.Ytekmjegeiminnaa
