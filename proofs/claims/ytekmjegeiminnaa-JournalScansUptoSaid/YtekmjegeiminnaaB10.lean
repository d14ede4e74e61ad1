/- count of both codecs, walked. -/
import Derived.Test.YtekmjegeiminnaaB9
namespace Go.Proofs.Ytekmjegeiminnaa
open Go.RowKit
set_option linter.unusedVariables false
set_option linter.unusedSimpArgs false

set_option maxRecDepth 100000 in
set_option maxHeartbeats 8000000 in
theorem count_w (c : Nat) (v : Value) (bs : List UInt8) (n : Int) (w : World) (hn : -9223372036854775808 ≤ n ∧ n ≤ 9223372036854775807) (hc : CodW w c v) (ho : OwnB (c + 1) w v bs)
    (hl : bs.length ≤ 140737488355000) :
    Calls Try.prog 120 #[.pointer (some ⟨c, 0, none⟩), .int .i64 n] w fun e w' => e = .returned (.int .i64 n) ∧ ∃ v', Wrote c v v' (bs ++ encN n) w w' := by
  have hlt := hc.lt
  have hown := ho.lt
  have HOWN := hidden hown
  have h1 : Hid (CodW (w.alloc (.cells #[.int .i64 n] 3)) c v) := hidden (hc.upd (Upd.new (M := fun _ => False) _ _) (fun h => h))
  have h2 : Hid (OwnB (c + 1) (w.alloc (.cells #[.int .i64 n] 3)) v bs) := hidden (ho.on (Upd.new (M := fun _ => False) _ _) (fun _ _ h => h))
  have H0 : Hid (Wrote c v v bs w (w.alloc (.cells #[.int .i64 n] 3))) := hidden ((Wrote.refl hc ho).new ((Below.refl _ _).alloc (Nat.le_refl _) _))
  clear hown hc ho
  go_enter Try.func120, Try.ntmps120
  go_wp2_with fail
  with_reducible refine (num_w c w.heap.size 0 v bs n _ hn h1.out h2.out (by rw [World.cell?_alloc_at _ _ _ _ rfl]; simp) hl).mono ?_
  rintro e w1 ⟨rfl, v', hw⟩
  have HW := hidden hw
  obtain ⟨c0, c1, c2, cf⟩ := hw.cod.facts
  have hbx : w1.cell? ⟨w.heap.size, 0, none⟩ = some (.int .i64 n) := hw.upd.cell (by rw [World.cell?_alloc_at _ _ _ _ rfl]; simp) (fun h => by
    rcases h with h | h
    · simp at h; omega
    · have := (HOWN.out _ h.symm).2; simp at this)
  clear hw hn
  go_wp2_with fail
  go_quiet (fail)
  go_wp2_with fail
  go_ret
  exact ⟨rfl, v', (H0.out.trans HW.out).new (below_dn (Below.refl _ _) _)⟩
theorem frozen_new (w : World) (vs : Array Value) (t : TypeId) (i : Nat) : (w.alloc (.cells vs t)).frozen? ⟨w.heap.size, i, none⟩ = false := by
  simp only [World.frozen?, World.alloc, Array.getElem?_push_size]
  simp
/-- A count that is read: a number that is not below 0 nor above what is left. -/
def decC (rs : List UInt8) : Option (Nat × List UInt8) := (decN rs).bind fun p => if 0 ≤ p.1 ∧ p.1 ≤ p.2.length then some (p.1.toNat, p.2) else none

set_option maxRecDepth 100000 in
set_option maxHeartbeats 8000000 in
theorem count_r (c bb : Nat) (rs : List UInt8) (n : Int) (w : World) (hc : CodR w c bb rs) (hb : bb < w.heap.size) :
    Calls Try.prog 120 #[.pointer (some ⟨c, 0, none⟩), .int .i64 n] w fun e w' =>
      (∃ n r, decC rs = some (n, r) ∧ e = .returned (.int .i64 (n : Nat)) ∧ Upd (fun k => k = c) w w' ∧ CodR w' c bb r)
      ∨ (decC rs = none ∧ e = .panicked wrongP ∧ Upd (fun k => k = c) w w') := by
  have hlt := hc.lt
  have hu0 : Upd (fun k => k = c) w (w.alloc (.cells #[.int .i64 n] 3)) := Upd.new _ _
  have hu1 : Upd (fun _ => False) w (w.alloc (.cells #[.int .i64 n] 3)) := Upd.new _ _
  have H0 := hidden hu0
  have h1 : Hid (CodR (w.alloc (.cells #[.int .i64 n] 3)) c bb rs) := hidden (hc.upd hu1 (fun h => h) (fun h => h))
  clear hc hu0 hu1
  go_enter Try.func120, Try.ntmps120
  go_wp2_with fail
  with_reducible refine (num_r c w.heap.size 0 bb rs n _ h1.out (by rw [World.cell?_alloc_at _ _ _ _ rfl]; simp) (frozen_new _ _ _ _) (by omega)).mono ?_
  rintro e w1 (⟨m, r, hm, rfl, w0, hu, hc, rfl⟩ | ⟨hm, rfl, hu⟩)
  · have HU := hidden hu
    have HM := hidden hm
    have hu2 : Upd (fun k => k = w.heap.size) w0 (w0.setCell ⟨w.heap.size, 0, none⟩ (.int .i64 m)) := Upd.set rfl
    have hc2 := hc.upd hu2 (by omega) (by omega)
    have HU2 := hidden hu2
    have HC2 := hidden hc2
    have hz := hu.size
    rw [World.size_alloc] at hz
    have hcell : (w0.setCell ⟨w.heap.size, 0, none⟩ (.int .i64 m)).cell? ⟨w.heap.size, 0, none⟩ = some (.int .i64 m) := by
      have : w0.cell? ⟨w.heap.size, 0, none⟩ = some (.int .i64 n) := hu.cell (by rw [World.cell?_alloc_at _ _ _ _ rfl]; simp) (by simp; omega)
      exact World.cell?_setCell_same _ _ _ this
    have HEND : Hid (Upd (fun k => k = c) w (w0.setCell ⟨w.heap.size, 0, none⟩ (.int .i64 m))) := hidden ((H0.out.trans hu (fun _ _ h => h)).trans hu2 (fun i hi h => by omega))
    have HZ := hidden hz
    clear hu hm hu2 hc hc2 hz HU H0 h1
    generalize w0.setCell ⟨w.heap.size, 0, none⟩ (.int .i64 m) = w1 at HU2 HC2 hcell HEND
    obtain ⟨a, cap, c0, c1, c2, cf, hcap, hby, haa, hbc, hcap2⟩ := HC2.out.facts
    clear hby haa
    clear HU2
    by_cases ht : 0 ≤ m ∧ m ≤ r.length
    · obtain ⟨m, rfl⟩ : ∃ k : Nat, m = k := ⟨m.toNat, by omega⟩
      have h0 : Hid (decC rs = some (m, r)) := by show _ = _; unfold decC; rw [HM.out]; simp only [Option.bind_some, if_pos ht]; simp
      have t2 : ¬ (m : Int) < 0 := by omega
      have t3 : ¬ (r.length : Int) < m := by omega
      go_wp2_with fail
      go_quiet (fail)
      go_wp2_with fail
      go_ret
      exact .inl ⟨m, r, h0.out, rfl, HEND.out.trans (Upd.drewN _ _) (fun _ _ h => h), HC2.out.upd (Upd.drewN (M := fun _ => False) _ _) (fun h => h) (fun h => h)⟩
    · have h0 : Hid (decC rs = none) := by show _ = _; unfold decC; rw [HM.out]; simp only [Option.bind_some, if_neg ht]
      go_wp2_with fail
      by_cases t2 : m < 0
      · go_quiet (fail)
        go_wp2_with fail
        exact bodyPost_panic (.inr ⟨h0.out, rfl, HEND.out.trans (Upd.drewN _ _) (fun _ _ h => h)⟩) rfl
      · have t3 : (r.length : Int) < m := by omega
        go_quiet (fail)
        go_wp2_with fail
        exact bodyPost_panic (.inr ⟨h0.out, rfl, HEND.out.trans (Upd.drewN _ _) (fun _ _ h => h)⟩) rfl
  · have h0 : Hid (decC rs = none) := by show _ = _; unfold decC; rw [hm]; rfl
    have HU := hidden hu
    clear hu hm
    go_wp2_with fail
    exact bodyPost_panic (.inr ⟨h0.out, rfl, H0.out.trans HU.out (fun _ _ h => h)⟩) rfl
end Go.Proofs.Ytekmjegeiminnaa

/- Slices of ints: the writing codec's list, walked. -/
namespace Go.Proofs.Ytekmjegeiminnaa
open Go.RowKit
set_option linter.unusedVariables false
set_option linter.unusedSimpArgs false

def I64 (a : Int) : Prop := -9223372036854775808 ≤ a ∧ a ≤ 9223372036854775807
def IntsAt (w : World) (a : Option Addr) (xs : List Int) : Prop :=
  ∀ i (hi : i < xs.length), ∃ b o, a = some ⟨b, o, none⟩ ∧ w.cell? ⟨b, o + i, none⟩ = some (.int .i64 xs[i])
theorem IntsAt.upd {M : Nat → Prop} {w w' : World} {a : Option Addr} {xs : List Int} (h : IntsAt w a xs) (hu : Upd M w w') (hm : ∀ A, a = some A → ¬ M A.block) : IntsAt w' a xs := fun i hi => by
  obtain ⟨b, o, ha, hc⟩ := h i hi
  exact ⟨b, o, ha, hu.cell hc (by show ¬ M b; exact hm ⟨b, o, none⟩ ha)⟩
/-- Ints in bytes, each by itself; a list of ints: its length ahead. -/
def encS (xs : List Int) : List UInt8 := (xs.map encN).flatten
def encI (xs : List Int) : List UInt8 := encN xs.length ++ encS xs
theorem encS_append (xs ys : List Int) : encS (xs ++ ys) = encS xs ++ encS ys := by simp [encS]
theorem encS_one (x : Int) : encS [x] = encN x := by simp [encS]
theorem encS_length : ∀ (xs : List Int), (∀ x ∈ xs, I64 x) → (encS xs).length ≤ 10 * xs.length
  | [], _ => by simp [encS]
  | x :: xs, h => by
    have h1 := encN_length (h x (List.mem_cons_self ..))
    have h2 := encS_length xs (fun y hy => h y (List.mem_cons_of_mem _ hy))
    have e : encS (x :: xs) = encN x ++ encS xs := by simp [encS]
    rw [e, List.length_append, List.length_cons]; omega

set_option maxRecDepth 100000 in
set_option maxHeartbeats 8000000 in
theorem list_w (c pb po : Nat) (a : Option Addr) (cap : Nat) (xs : List Int) (v : Value) (bs : List UInt8) (w : World) (hx : ∀ x ∈ xs, I64 x) (hc : CodW w c v) (ho : OwnB (c + 1) w v bs)
    (hp : w.cell? ⟨pb, po, none⟩ = some (.slice a xs.length cap)) (hpb : pb < c ∨ (c < pb ∧ ∀ k, v.ownBlock = some k → pb ≠ k)) (hi : IntsAt w a xs) (hcap : xs.length ≤ cap) (ha : ∀ A, a = some A → 0 < xs.length → A.block < c) (hl : bs.length + 10 * xs.length ≤ 140737488354000) :
    Calls Try.prog 102 #[.pointer (some ⟨c, 0, none⟩), .pointer (some ⟨pb, po, none⟩), .func (.func 103) #[.pointer (some ⟨c, 0, none⟩)] #[]] w fun e w' => e = .returned (.tuple #[]) ∧ ∃ v', Wrote c v v' (bs ++ encI xs) w w' := by
  have HX := hidden hx
  have HI := hidden hi
  have HA := hidden ha
  have H0 := hidden (Wrote.refl hc ho)
  have hbs : ∀ M : Nat → Prop, (∀ k, M k → k = c ∨ some k = v.ownBlock) → ¬ M pb := fun M hM hm => by
    rcases hM _ hm with h | h
    · omega
    · have := (ho.lt _ h.symm).1
      rcases hpb with h1 | h1
      · omega
      · exact h1.2 pb h.symm rfl
  have HPB : Hid (¬ (fun k => k = c ∨ some k = v.ownBlock) pb) := hidden (hbs _ (fun _ h => h))
  have HHA : Hid (0 < xs.length → ∀ A, a = some A → ¬ (fun k => k = c ∨ some k = v.ownBlock) A.block) := hidden (fun h0 A hA h => by
    have h1 := ha A hA h0
    rcases h with h | h
    · omega
    · have := (ho.lt _ h.symm).1; omega)
  have hlen : (xs.length : Int) ≤ 9223372036854775807 := by omega
  clear hx hi ha hbs hpb
  go_enter Try.func102, Try.ntmps102
  go_wp2_with fail
  with_reducible refine (count_w c v bs _ _ (by omega) hc ho (by omega)).mono ?_
  rintro e w1 ⟨rfl, v1, hw⟩
  have hp1 := hw.upd.cell hp HPB.out
  have HW := hidden hw
  clear hw hp hc ho
  obtain ⟨c0, c1, c2, cf⟩ := HW.out.cod.facts
  go_wp2_with fail
  go_loopw [25] (fun s wr => ∃ (k : Nat) (v' : Value), s = .int .i64 k ∧ k ≤ xs.length ∧ Wrote c v v' (bs ++ encN xs.length ++ encS (xs.take k)) w wr) (fun s _ => (xs.length - intOf s).toNat)
  case atStart => exact ⟨0, v1, rfl, by omega, by simpa [encS] using HW.out⟩
  case round =>
    obtain ⟨k, v', rfl, hk, hr⟩ := hrel
    have HR := hidden hr
    clear hr c0 c1 c2 cf hp1
    by_cases hlt : k < xs.length
    · obtain ⟨b, o, rfl, hcell⟩ := (HI.out.upd HR.out.upd (HHA.out (by omega))) k hlt
      have hxk : -9223372036854775808 ≤ xs[k] ∧ xs[k] ≤ 9223372036854775807 := HX.out _ (List.getElem_mem hlt)
      have HXK : Hid (xs.take (k + 1) = xs.take k ++ [xs[k]]) := by show _ = _; rw [List.take_succ_eq_append_getElem hlt]
      generalize xs[k] = x at hcell hxk HXK
      have ltc := HR.out.cod.lt
      go_wp2_with fail
      have HC1 : Hid (CodW (wr.alloc (.cells #[.int .i64 x] 3)) c v') := hidden (HR.out.cod.upd (Upd.new (M := fun _ => False) _ _) (fun h => h))
      have HO1 : Hid (OwnB (c + 1) (wr.alloc (.cells #[.int .i64 x] 3)) v' (bs ++ encN xs.length ++ encS (xs.take k))) := hidden (HR.out.own.on (Upd.new (M := fun _ => False) _ _) (fun _ _ h => h))
      have HLN : Hid ((bs ++ encN xs.length ++ encS (xs.take k)).length ≤ 140737488355000) := by
        show _ ≤ _
        have h1 := encS_length (xs.take k) (fun y hy => HX.out y (List.mem_of_mem_take hy))
        have h2 : (encN (xs.length : Int)).length ≤ 10 := encN_length ⟨by omega, by omega⟩
        have h3 : (xs.take k).length ≤ xs.length := by simp; omega
        simp only [List.length_append]; omega
      with_reducible refine (num_w c wr.heap.size 0 v' _ x _ hxk HC1.out HO1.out (by rw [World.cell?_alloc_at _ _ _ _ rfl]; simp) HLN.out).mono ?_
      rintro e w2 ⟨rfl, v2, hw2⟩
      have HW2 := hidden (((Wrote.refl HR.out.cod HR.out.own).new ((Below.refl _ _).alloc (Nat.le_refl _) _)).trans hw2)
      clear hw2
      go_wp2_with fail
      exact ⟨⟨k + 1, v2, by go_num, by omega, by have := HR.out.trans HW2.out; rw [HXK.out, encS_append, encS_one, ← List.append_assoc]; exact this⟩, by simp [intOf]; omega⟩
    · have hk' : k = xs.length := by omega
      subst hk'
      go_wp2_with fail
      have := HR.out
      rw [List.take_length, List.append_assoc] at this
      exact ⟨rfl, .tuple #[], by simp [results, Try.results102, go_sem], rfl, v', this⟩

set_option maxRecDepth 100000 in
set_option maxHeartbeats 8000000 in
theorem ints_w (c pb po : Nat) (a : Option Addr) (cap : Nat) (xs : List Int) (v : Value) (bs : List UInt8) (w : World) (hx : ∀ x ∈ xs, I64 x) (hc : CodW w c v) (ho : OwnB (c + 1) w v bs)
    (hp : w.cell? ⟨pb, po, none⟩ = some (.slice a xs.length cap)) (hpb : pb < c ∨ (c < pb ∧ ∀ k, v.ownBlock = some k → pb ≠ k)) (hi : IntsAt w a xs) (hcap : xs.length ≤ cap) (ha : ∀ A, a = some A → 0 < xs.length → A.block < c) (hl : bs.length + 10 * xs.length ≤ 140737488354000) :
    Calls Try.prog 72 #[.pointer (some ⟨c, 0, none⟩), .pointer (some ⟨pb, po, none⟩)] w fun e w' => e = .returned (.tuple #[]) ∧ ∃ v', Wrote c v v' (bs ++ encI xs) w w' := by
  have hmf : ∀ (fn : Fn) (first cap : Array Value) (w : World), (Instr.makeFunc fn first cap).run Try.prog w = .ok (.func fn first cap) w := fun _ _ _ _ => rfl
  go_enter Try.func72, Try.ntmps72
  go_wp2_with fail
  with_reducible refine (list_w c pb po a cap xs v bs w hx hc ho hp hpb hi hcap ha hl).mono ?_
  rintro e w1 ⟨rfl, v1, hw⟩
  have HW := hidden hw
  clear hw hmf hx hc ho hp hpb hi ha
  go_wp2_with fail
  exact ⟨rfl, .tuple #[], by simp [results, Try.results72, go_sem], rfl, v1, HW.out⟩

set_option maxRecDepth 100000 in
set_option maxHeartbeats 8000000 in
theorem written_ints (a : Option Addr) (len cap : Nat) (xs : List Int) (w : World) (hx : ∀ x ∈ xs, I64 x) (hi : IntsAt w a xs) (hlen : len = xs.length) (hcap : len ≤ cap) (hl : 10 * xs.length ≤ 140737488354000) :
    Calls Try.prog 71 #[.slice a len cap, .func (.func 72) #[] #[]] w fun e w' => Below w.heap.size w w' ∧ ∃ v, e = .returned v ∧ OwnB w.heap.size w' v (encI xs) := by
  subst hlen
  have HX := hidden hx
  have HI := hidden hi
  clear hx hi
  go_enter Try.func71, Try.ntmps71
  go_wp2_with fail
  generalize hw2 : (w.alloc (.cells #[.slice a xs.length cap] 36)).alloc (.cells #[.slice none 0 0, .slice none 0 0, .bool false] 165) = w2
  have hc : CodW w2 (w.heap.size + 1) (.slice none 0 0) := by
    subst hw2; unfold CodW
    rw [show w.heap.size + 1 = (w.alloc (.cells #[.slice a xs.length cap] 36)).heap.size from (World.size_alloc _ _).symm]
    exact heap_alloc_new _ _
  have hb : Below w.heap.size w w2 := by
    subst hw2
    exact ((Below.refl _ _).alloc (Nat.le_refl _) _).alloc (by rw [World.size_alloc]; omega) _
  have hp : w2.cell? ⟨w.heap.size, 0, none⟩ = some (.slice a xs.length cap) := by
    subst hw2
    rw [World.cell?_alloc_old]
    · rw [World.cell?_alloc_at _ _ _ _ rfl]; simp
    · simp [World.size_alloc]
  have hsz : w2.heap.size = w.heap.size + 2 := by subst hw2; simp [World.size_alloc]
  have HB := hidden hb
  have hi2 : IntsAt w2 a xs := HI.out.upd (Upd.ofNew (M := fun _ => False) hb) (fun _ _ h => h)
  have HAB : Hid (∀ A, a = some A → 0 < xs.length → A.block < w.heap.size + 1) := hidden (fun A hA h0 => by
    obtain ⟨b, o, e, hc⟩ := HI.out 0 h0
    rw [hA] at e; cases e
    have := World.block_lt_of_cell? w _ hc
    exact Nat.lt_succ_of_lt this)
  have HC := hidden hc
  have HI2 := hidden hi2
  clear hw2 hb hc hi2
  with_reducible refine (ints_w (w.heap.size + 1) w.heap.size 0 a cap xs (.slice none 0 0) [] w2 HX.out HC.out (OwnB.nil _ _) hp (by omega) HI2.out hcap HAB.out (by simp; omega)).mono ?_
  rintro e w3 ⟨rfl, v, hw⟩
  rw [List.nil_append] at hw
  obtain ⟨c0, c1, c2, cf⟩ := hw.cod.facts
  have HB3 : Hid (Below w.heap.size w w3) := hidden (HB.out.trans (hw.upd.toBelow HB.out.size (fun k hk h => by
    rcases h with h | h
    · omega
    · simp [Value.ownBlock] at h)))
  have HW := hidden hw
  clear hw hp hsz
  go_wp2_with fail
  go_ret
  exact ⟨HB3.out, v, rfl, HW.out.own.weaken (by omega)⟩

set_option maxRecDepth 100000 in
set_option maxHeartbeats 8000000 in
theorem ints_any (a : Option Addr) (len cap : Nat) (xs : List Int) (w : World) (hx : ∀ x ∈ xs, I64 x) (hi : IntsAt w a xs) (hlen : len = xs.length) (hcap : len ≤ cap) (hl : 10 * xs.length ≤ 140737488354000) :
    Calls Try.prog 28 #[.slice a len cap] w fun e w' => Below w.heap.size w w' ∧ ∃ v, e = .returned v ∧ OwnB w.heap.size w' v (encI xs) := by
  subst hlen
  go_enter Try.func28, Try.ntmps28
  go_wp2_with fail
  with_reducible refine (written_ints a _ cap xs w hx hi rfl hcap hl).mono ?_
  rintro e w1 ⟨hb, v, rfl, ho⟩
  have HB := hidden hb
  have HO := hidden ho
  clear hb ho hx hi
  go_wp2_with fail
  go_ret
  exact ⟨HB.out, v, rfl, HO.out⟩
end Go.Proofs.Ytekmjegeiminnaa
