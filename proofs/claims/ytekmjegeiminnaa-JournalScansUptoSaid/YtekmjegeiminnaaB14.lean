/- The reader: its deferred closure, walked; ReadInts. -/
import Derived.Test.YtekmjegeiminnaaB13
import Derived.Recover
import Derived.WalkSmall
namespace Go.Proofs.Ytekmjegeiminnaa
open Go.RowKit
set_option linter.unusedVariables false
set_option linter.unusedSimpArgs false

theorem assert_wrong (w : World) : (Instr.typeAssert (.iface 170 (.agg #[])) 20 170 true).run Try.prog w = .ok (.tuple #[.agg #[], .bool true]) w := by
  simp [Instr.typeAssert, run_underlying Try.underlying170, go_sem, Result.andThen]
theorem close_idle (p q : Addr) (w : World) :
    CallsD Try.prog 104 #[.pointer (some p), .pointer (some q)] .returning w fun e u' w' => e = .returned (.tuple #[]) ∧ u' = .returning ∧ w' = w := by
  refine callsD_of_wpS Try.func104 rfl fun c₀ cs hu => ?_
  apply wpS_seq
  apply wpS_region
  simp [wpOpsS, go_sem, recoverD, hu, Try.ntmps104, Exit.thenS]
  have ht : (#[Value.pointer (some p), Value.pointer (some q)] ++ ((Array.replicate 16 undef).setIfInBounds 4 (Value.nilIface)).setIfInBounds 0 (Value.nilIface)) = #[Value.pointer (some p), Value.pointer (some q), Value.nilIface, undef, undef, undef, Value.nilIface, undef, undef, undef, undef, undef, undef, undef, undef, undef, undef, undef] := rfl
  rw [ht]
  refine wpS_of_wp ?_
  go_wp2
  cases c₀
  simp_all [bodyPostS, results, Try.results104]

set_option maxRecDepth 100000 in
theorem close_panicking (pb qb : Nat) (older : List PanicEntry) (w : World) (x y : Value) (hp : w.cell? ⟨pb, 0, none⟩ = some x) (hpf : w.frozen? ⟨pb, 0, none⟩ = false) (hq : w.cell? ⟨qb, 0, none⟩ = some y) (hqf : w.frozen? ⟨qb, 0, none⟩ = false) (hpl : pb < w.heap.size) (hql : qb < w.heap.size) (hpq : pb ≠ qb) :
    CallsD Try.prog 104 #[.pointer (some ⟨pb, 0, none⟩), .pointer (some ⟨qb, 0, none⟩)] (.panicking ({ v := .iface 170 (.agg #[]), recovered := false } :: older)) w fun e u' w' =>
      e = .returned (.tuple #[]) ∧ u' = .panicking ({ v := .iface 170 (.agg #[]), recovered := true } :: older) ∧ w' = ((w.setCell ⟨pb, 0, none⟩ (.slice none 0 0)).setCell ⟨qb, 0, none⟩ (.int .i64 12)).alloc (.cells #[] 170) := by
  refine callsD_of_wpS Try.func104 rfl fun c₀ cs hu => ?_
  apply wpS_seq
  apply wpS_region
  simp [wpOpsS, go_sem, recoverD, hu, Try.ntmps104, Exit.thenS]
  have ht : (#[Value.pointer (some ⟨pb, 0, none⟩), Value.pointer (some ⟨qb, 0, none⟩)] ++ ((Array.replicate 16 undef).setIfInBounds 4 (Value.iface 170 (.agg #[]))).setIfInBounds 0 (Value.iface 170 (.agg #[]))) = #[Value.pointer (some ⟨pb, 0, none⟩), Value.pointer (some ⟨qb, 0, none⟩), Value.iface 170 (.agg #[]), undef, undef, undef, Value.iface 170 (.agg #[]), undef, undef, undef, undef, undef, undef, undef, undef, undef, undef, undef] := rfl
  rw [ht]
  refine wpS_of_wp ?_
  have has := assert_wrong
  have hpn : pb ≠ w.heap.size := by omega
  have hqn : qb ≠ w.heap.size := by omega
  go_wp2_with fail
  simp [bodyPostS, results, Try.results104, go_sem]

set_option maxRecDepth 100000 in
set_option maxHeartbeats 8000000 in
theorem ints_r (c pb po bb : Nat) (rs : List UInt8) (w : World) (hc : CodR w c bb rs) (hb : bb < w.heap.size)
    (hp : w.cell? ⟨pb, po, none⟩ = some (.slice none 0 0)) (hpf : w.frozen? ⟨pb, po, none⟩ = false) (hpc : pb ≠ c) (hpb : pb ≠ bb) (hl : rs.length ≤ 1000000000000) :
    Calls Try.prog 72 #[.pointer (some ⟨c, 0, none⟩), .pointer (some ⟨pb, po, none⟩)] w fun e w' =>
      (∃ xs r v, decI rs = some (xs, r) ∧ e = .returned (.tuple #[]) ∧ CodR w' c bb r ∧ w'.cell? ⟨pb, po, none⟩ = some v ∧ w'.frozen? ⟨pb, po, none⟩ = false ∧ OwnI w.heap.size w' v xs ∧ Upd (fun k => k = c ∨ k = pb) w w')
      ∨ (decI rs = none ∧ e = .panicked wrongP ∧ Upd (fun k => k = c ∨ k = pb) w w' ∧ (∃ x, w'.cell? ⟨pb, po, none⟩ = some x) ∧ w'.frozen? ⟨pb, po, none⟩ = false) := by
  have hmf : ∀ (fn : Fn) (first cap : Array Value) (w : World), (Instr.makeFunc fn first cap).run Try.prog w = .ok (.func fn first cap) w := fun _ _ _ _ => rfl
  go_enter Try.func72, Try.ntmps72
  go_wp2_with fail
  with_reducible refine (list_r c pb po bb rs w hc hb hp hpf hpc hpb hl).mono ?_
  clear hc hb hp hpf hpc hpb hmf
  rintro e w1 (⟨xs, r, v, h1, rfl, h3, h4, h5, h6, h7⟩ | ⟨h1, rfl, h2⟩)
  · have H : Hid _ := hidden (And.intro h1 (And.intro h3 (And.intro h4 (And.intro h5 (And.intro h6 h7)))))
    clear h1 h3 h4 h5 h6 h7
    go_wp2_with fail
    obtain ⟨h1, h3, h4, h5, h6, h7⟩ := H.out
    refine ⟨rfl, .tuple #[], by simp [results, Try.results72, go_sem], ?_⟩
    exact Or.inl ⟨xs, r, v, h1, rfl, h3, h4, h5, h6, h7⟩
  · have H : Hid _ := hidden (And.intro h1 h2)
    clear h1 h2
    go_wp2_with fail
    exact bodyPost_panic (.inr ⟨H.out.1, rfl, H.out.2⟩) rfl

/-- Bytes read whole as a list of ints. -/
def readI (bs : List UInt8) : Option (List Int) := (decI bs).bind fun p => if p.2.length = 0 then some p.1 else none
def ReadI (bs : List UInt8) (w : World) (e : Ending) (w' : World) : Prop :=
  Below w.heap.size w w' ∧ ((∃ xs v, readI bs = some xs ∧ e = .returned (.tuple #[v, .int .i64 0]) ∧ OwnI w.heap.size w' v xs) ∨ (readI bs = none ∧ e = .returned (.tuple #[.slice none 0 0, .int .i64 12])))

theorem Upd.cellNe {w : World} {a b : Addr} {v x : Value} (h : w.cell? b = some x) (hne : a.block ≠ b.block) : (w.setCell a v).cell? b = some x :=
  (Upd.set (M := fun k => k = a.block) rfl).cell h (fun e => hne e.symm)
/-- Behind the reader's door when it has told of an error. -/
theorem ReadI.bad {bs : List UInt8} {w w4 : World} {B0 : Nat} {x y : Value} (hB : w.heap.size = B0) (hR : readI bs = none) (hb : Below w.heap.size w w4) (hl : B0 + 1 < w4.heap.size) (h4 : w4.cell? ⟨B0, 0, none⟩ = some x) (hq4 : w4.cell? ⟨B0 + 1, 0, none⟩ = some y)
    {w5 : World} (h5 : w5 = ((w4.setCell ⟨B0, 0, none⟩ (.slice none 0 0)).setCell ⟨B0 + 1, 0, none⟩ (.int .i64 12)).alloc (.cells #[] 170)) :
    w5.cell? ⟨B0, 0, none⟩ = some (.slice none 0 0) ∧ w5.cell? ⟨B0 + 1, 0, none⟩ = some (.int .i64 12) ∧ ReadI bs w (.returned (.tuple #[.slice none 0 0, .int .i64 12])) w5 := by
  subst h5
  have hn : ∀ (W : World), Upd (fun _ => False) W (W.alloc (.cells #[] 170)) := fun W => Upd.new _ _
  refine ⟨(hn _).cell (Upd.cellNe (World.cell?_setCell_same _ _ _ h4) (by simp)) (fun h => h), (hn _).cell (World.cell?_setCell_same _ _ _ (Upd.cellNe hq4 (by simp))) (fun h => h), ?_, .inr ⟨hR, rfl⟩⟩
  have u1 : Upd (fun k => k = B0) w4 (w4.setCell ⟨B0, 0, none⟩ (.slice none 0 0)) := Upd.set rfl
  have u2 : Upd (fun k => k = B0 + 1) (w4.setCell ⟨B0, 0, none⟩ (.slice none 0 0)) ((w4.setCell ⟨B0, 0, none⟩ (.slice none 0 0)).setCell ⟨B0 + 1, 0, none⟩ (.int .i64 12)) := Upd.set rfl
  have u3 : Upd (fun k => k = B0 ∨ k = B0 + 1) w4 (((w4.setCell ⟨B0, 0, none⟩ (.slice none 0 0)).setCell ⟨B0 + 1, 0, none⟩ (.int .i64 12)).alloc (.cells #[] 170)) :=
    ((u1.mono (N := fun k => k = B0 ∨ k = B0 + 1) (fun _ _ h => .inl h)).trans u2 (fun _ _ h => .inr h)).trans (hn _) (fun _ _ h => h.elim)
  exact hb.trans (u3.toBelow hb.size (fun k hk h => by omega))

set_option maxRecDepth 100000 in
set_option maxHeartbeats 8000000 in
theorem read_ints (a : Option Addr) (len cap : Nat) (bs : List UInt8) (w : World) (h : BytesAt w a bs) (hlen : len = bs.length) (hcap : len ≤ cap) (hc2 : (cap : Int) ≤ 9223372036854775807) (hl : len ≤ 1000000000000) (ha : ∀ A, a = some A → A.block < w.heap.size) :
    Calls Try.prog 73 #[.slice a len cap, .func (.func 72) #[] #[]] w (ReadI bs w) := by
  subst hlen
  have hmf : ∀ (fn : Fn) (first cap : Array Value) (w : World), (Instr.makeFunc fn first cap).run Try.prog w = .ok (.func fn first cap) w := fun _ _ _ _ => rfl
  have H := hidden h
  have HA := hidden ha
  clear h ha
  go_enter_defers Try.func73, Try.ntmps73
  go_wp2_with fail
  generalize hw3 : ((w.alloc (.cells #[.slice none 0 0] 36)).alloc (.cells #[.int .i64 0] 31)).alloc (.cells #[.slice none 0 0, .slice a bs.length cap, .bool true] 165) = w3
  obtain ⟨B0, hB0⟩ : ∃ B0, w.heap.size = B0 := ⟨_, rfl⟩
  have hsz : w3.heap.size = B0 + 3 := by subst hw3; simp [World.size_alloc, hB0]
  have hbel : Below w.heap.size w w3 := by
    subst hw3
    exact (((Below.refl _ _).alloc (Nat.le_refl _) _).alloc (by rw [World.size_alloc]; omega) _).alloc (by rw [World.size_alloc, World.size_alloc]; omega) _
  have k0 : w3.heap[B0]? = some (.cells #[.slice none 0 0] 36 (0, 0)) := by
    subst hw3
    have e1 : (w.alloc (.cells #[.slice none 0 0] 36)).heap[B0]? = some (.cells #[.slice none 0 0] 36 (0, 0)) := by rw [← hB0]; exact heap_alloc_new _ _
    have u1 : Upd (fun _ => False) (w.alloc (.cells #[.slice none 0 0] 36)) ((w.alloc (.cells #[.slice none 0 0] 36)).alloc (.cells #[.int .i64 0] 31)) := Upd.new _ _
    have u2 : Upd (fun _ => False) ((w.alloc (.cells #[.slice none 0 0] 36)).alloc (.cells #[.int .i64 0] 31)) (((w.alloc (.cells #[.slice none 0 0] 36)).alloc (.cells #[.int .i64 0] 31)).alloc (.cells #[.slice none 0 0, .slice a bs.length cap, .bool true] 165)) := Upd.new _ _
    rw [u2.block B0 (by simp [World.size_alloc]; omega) (fun h => h), u1.block B0 (by simp [World.size_alloc]; omega) (fun h => h), e1]
  have k1 : w3.heap[B0 + 1]? = some (.cells #[.int .i64 0] 31 (0, 0)) := by
    subst hw3
    have u2 : Upd (fun _ => False) ((w.alloc (.cells #[.slice none 0 0] 36)).alloc (.cells #[.int .i64 0] 31)) (((w.alloc (.cells #[.slice none 0 0] 36)).alloc (.cells #[.int .i64 0] 31)).alloc (.cells #[.slice none 0 0, .slice a bs.length cap, .bool true] 165)) := Upd.new _ _
    rw [u2.block (B0 + 1) (by simp [World.size_alloc]; omega) (fun h => h), ← hB0, show w.heap.size + 1 = (w.alloc (.cells #[.slice none 0 0] 36)).heap.size by rw [World.size_alloc]]
    exact heap_alloc_new _ _
  have k2 : w3.heap[B0 + 2]? = some (.cells #[.slice none 0 0, .slice a bs.length cap, .bool true] 165 (0, 0)) := by
    subst hw3
    rw [← hB0, show w.heap.size + 2 = ((w.alloc (.cells #[.slice none 0 0] 36)).alloc (.cells #[.int .i64 0] 31)).heap.size by rw [World.size_alloc, World.size_alloc]]
    exact heap_alloc_new _ _
  have HP : w3.cell? ⟨B0, 0, none⟩ = some (.slice none 0 0) := by simp [World.cell?, k0]
  have HPF : w3.frozen? ⟨B0, 0, none⟩ = false := by simp [World.frozen?, k0]
  have HQ : w3.cell? ⟨B0 + 1, 0, none⟩ = some (.int .i64 0) := by simp [World.cell?, k1]
  have HQF : w3.frozen? ⟨B0 + 1, 0, none⟩ = false := by simp [World.frozen?, k1]
  obtain ⟨bb, hbb, hbne, hba⟩ : ∃ bb, bb < w3.heap.size ∧ bb ≠ B0 + 2 ∧ bb ≠ B0 ∧ (∀ A, a = some A → A.block = bb) := by
    cases a with
    | none => exact ⟨B0 + 1, by omega, by omega, by omega, fun A hA => by cases hA⟩
    | some A => have := HA.out A rfl; exact ⟨A.block, by omega, by omega, by omega, fun A' hA => by cases hA; rfl⟩
  have HC : Hid (CodR w3 (B0 + 2) bb bs) := hidden ⟨a, cap, k2, H.out.upd (Upd.ofNew (M := fun _ => False) hbel) (fun _ _ h => h), hcap, hc2, hba.2, hbne⟩
  have HB3 := hidden hbel
  have HBB := hba.1
  rw [hB0]
  clear hw3 k0 k1 k2 hbel hba
  with_reducible refine (ints_r (B0 + 2) B0 0 bb bs w3 HC.out hbb HP HPF (by omega) (Ne.symm HBB) hl).mono ?_
  rintro e w4 (⟨xs, r, v, h1, rfl, h3, h4, h5, h6, h7⟩ | ⟨h1, rfl, h2, hx4, h5⟩)
  · have HU := hidden h7
    have hq4 := h7.cell HQ (by simp)
    have hqf4 := h7.frozen (by omega) HQF (by omega)
    have hs4 := h7.size
    have HO := hidden h6
    have HD := hidden h1
    obtain ⟨a', cap', c0, c1, c2, cf, -⟩ := h3.facts
    obtain ⟨av, capv, rfl, -, -, -⟩ := h6.reads
    clear h1 h3 h6 h7 HP HPF HQ HQF
    by_cases hr : r.length = 0
    · go_wp2_with fail
      have hR : readI bs = some xs := by unfold readI; rw [HD.out]; exact if_pos hr
      refine leaves_cons (f := 104) (args := #[.pointer (some ⟨B0, 0, none⟩), .pointer (some ⟨B0 + 1, 0, none⟩)]) (by simp) (by simp [go_sem]) ?_
      refine (close_idle _ _ _).mono ?_
      rintro e u' w5 ⟨rfl, rfl, hw5⟩
      have u1 : Upd (fun k => k = B0) w4 (w4.setCell ⟨B0, 0, none⟩ (.slice av xs.length capv)) := Upd.set rfl
      have u2 : Upd (fun k => k = B0 + 1) (w4.setCell ⟨B0, 0, none⟩ (.slice av xs.length capv)) ((w4.setCell ⟨B0, 0, none⟩ (.slice av xs.length capv)).setCell ⟨B0 + 1, 0, none⟩ (.int .i64 0)) := Upd.set rfl
      have u3 := (u1.mono (N := fun k => k = B0 ∨ k = B0 + 1) (fun _ _ h => .inl h)).trans u2 (fun _ _ h => .inr h)
      have g1 : w5.cell? ⟨B0, 0, none⟩ = some (.slice av xs.length capv) := by rw [hw5]; exact Upd.cellNe (World.cell?_setCell_same _ _ _ h4) (by simp)
      have g2 : w5.cell? ⟨B0 + 1, 0, none⟩ = some (.int .i64 0) := by rw [hw5]; exact World.cell?_setCell_same _ _ _ (Upd.cellNe hq4 (by simp))
      have g3 : ReadI bs w (.returned (.tuple #[.slice av xs.length capv, .int .i64 0])) w5 := by
        have hb4 : Below w.heap.size w w4 := HB3.out.trans (HU.out.toBelow (by omega) (fun k hk h => by omega))
        rw [hw5]
        refine ⟨hb4.trans (u3.toBelow hb4.size (fun k hk h => by omega)), .inl ⟨xs, _, hR, rfl, (HO.out.on u3 (fun k hk h => by have := (HO.out.lt k hk).1; omega)).weaken (by omega)⟩⟩
      have G3 := hidden g3
      clear g3 u1 u2 u3 hw5
      simp [Leaves, settle, results, Try.results73, go_sem, g1, g2]
      exact G3.out
    · have hR : readI bs = none := by unfold readI; rw [HD.out]; exact if_neg hr
      have hr2 : 0 < r.length := by omega
      have hb4 : Hid (Below w.heap.size w w4) := hidden (HB3.out.trans (HU.out.toBelow (by omega) (fun k hk h => by omega)))
      go_wp2_with fail
      refine leaves_cons (f := 104) (args := #[.pointer (some ⟨B0, 0, none⟩), .pointer (some ⟨B0 + 1, 0, none⟩)]) (by simp) (by simp [go_sem]) ?_
      refine (close_panicking B0 (B0 + 1) [] _ _ _ h4 h5 hq4 hqf4 (by omega) (by omega) (by omega)).mono ?_
      rintro e u' w5 ⟨rfl, rfl, hw5⟩
      obtain ⟨g1, g2, g3⟩ := ReadI.bad hB0 hR hb4.out (by omega) h4 hq4 hw5
      have G3 := hidden g3
      clear g3 hw5
      simp [Leaves, settle, results, Try.results73, go_sem, g1, g2]
      exact G3.out
  · have hR : readI bs = none := by unfold readI; rw [h1]; rfl
    have hb4 : Hid (Below w.heap.size w w4) := hidden (HB3.out.trans (h2.toBelow (by omega) (fun k hk h => by omega)))
    have hs4 := h2.size
    have hq4 := h2.cell HQ (by simp)
    have hqf4 := h2.frozen (by omega) HQF (by omega)
    obtain ⟨x, h4⟩ := hx4
    clear h1 h2 HP HPF HQ HQF
    go_wp2_with fail
    refine leaves_cons (f := 104) (args := #[.pointer (some ⟨B0, 0, none⟩), .pointer (some ⟨B0 + 1, 0, none⟩)]) (by simp) (by simp [go_sem]) ?_
    refine (close_panicking B0 (B0 + 1) [] _ _ _ h4 h5 hq4 hqf4 (by omega) (by omega) (by omega)).mono ?_
    rintro e u' w5 ⟨rfl, rfl, hw5⟩
    obtain ⟨g1, g2, g3⟩ := ReadI.bad hB0 hR hb4.out (by omega) h4 hq4 hw5
    have G3 := hidden g3
    clear g3 hw5
    simp [Leaves, settle, results, Try.results73, go_sem, g1, g2]
    exact G3.out

set_option maxRecDepth 100000 in
set_option maxHeartbeats 8000000 in
theorem readints_any (a : Option Addr) (len cap : Nat) (bs : List UInt8) (w : World) (h : BytesAt w a bs) (hlen : len = bs.length) (hcap : len ≤ cap) (hc2 : (cap : Int) ≤ 9223372036854775807) (hl : len ≤ 1000000000000) (ha : ∀ A, a = some A → A.block < w.heap.size) :
    Calls Try.prog 29 #[.slice a len cap] w (ReadI bs w) := by
  subst hlen
  go_enter Try.func29, Try.ntmps29
  go_wp2_with fail
  with_reducible refine (read_ints a _ cap bs w h rfl hcap hc2 hl ha).mono ?_
  rintro e w1 ⟨hb, ⟨xs, v, hr, rfl, ho⟩ | ⟨hr, rfl⟩⟩
  · have H := hidden (And.intro hb (And.intro hr ho))
    clear hb hr ho h ha
    go_wp2_with fail
    go_ret2
    exact ⟨H.out.1, .inl ⟨xs, v, H.out.2.1, rfl, H.out.2.2⟩⟩
  · have H := hidden (And.intro hb hr)
    clear hb hr h ha
    go_wp2_with fail
    go_ret2
    exact ⟨H.out.1, .inr ⟨H.out.2, rfl⟩⟩
end Go.Proofs.Ytekmjegeiminnaa
