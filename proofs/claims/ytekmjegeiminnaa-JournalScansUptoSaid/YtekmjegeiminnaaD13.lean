/- The readers' deferred closures for lists of operations and for books, walked. -/
import Derived.Test.YtekmjegeiminnaaB14
namespace Go.Proofs.Ytekmjegeiminnaa
open Go.RowKit
set_option linter.unusedVariables false
set_option linter.unusedSimpArgs false

theorem closeO_idle (p q : Addr) (w : World) :
    CallsD Try.prog 117 #[.pointer (some p), .pointer (some q)] .returning w fun e u' w' => e = .returned (.tuple #[]) ∧ u' = .returning ∧ w' = w := by
  refine callsD_of_wpS Try.func117 rfl fun c₀ cs hu => ?_
  apply wpS_seq
  apply wpS_region
  simp [wpOpsS, go_sem, recoverD, hu, Try.ntmps117, Exit.thenS]
  have ht : (#[Value.pointer (some p), Value.pointer (some q)] ++ ((Array.replicate 16 undef).setIfInBounds 4 (Value.nilIface)).setIfInBounds 0 (Value.nilIface)) = #[Value.pointer (some p), Value.pointer (some q), Value.nilIface, undef, undef, undef, Value.nilIface, undef, undef, undef, undef, undef, undef, undef, undef, undef, undef, undef] := rfl
  rw [ht]
  refine wpS_of_wp ?_
  go_wp2
  cases c₀
  simp_all [bodyPostS, results, Try.results117]
theorem closeB_idle (p q : Addr) (w : World) :
    CallsD Try.prog 114 #[.pointer (some p), .pointer (some q)] .returning w fun e u' w' => e = .returned (.tuple #[]) ∧ u' = .returning ∧ w' = w := by
  refine callsD_of_wpS Try.func114 rfl fun c₀ cs hu => ?_
  apply wpS_seq
  apply wpS_region
  simp [wpOpsS, go_sem, recoverD, hu, Try.ntmps114, Exit.thenS]
  have ht : (#[Value.pointer (some p), Value.pointer (some q)] ++ ((Array.replicate 16 undef).setIfInBounds 4 (Value.nilIface)).setIfInBounds 0 (Value.nilIface)) = #[Value.pointer (some p), Value.pointer (some q), Value.nilIface, undef, undef, undef, Value.nilIface, undef, undef, undef, undef, undef, undef, undef, undef, undef, undef, undef] := rfl
  rw [ht]
  refine wpS_of_wp ?_
  go_wp2
  cases c₀
  simp_all [bodyPostS, results, Try.results114]

set_option maxRecDepth 100000 in
theorem closeO_panicking (pb qb : Nat) (older : List PanicEntry) (w : World) (x y : Value) (hp : w.cell? ⟨pb, 0, none⟩ = some x) (hpf : w.frozen? ⟨pb, 0, none⟩ = false) (hq : w.cell? ⟨qb, 0, none⟩ = some y) (hqf : w.frozen? ⟨qb, 0, none⟩ = false) (hpl : pb < w.heap.size) (hql : qb < w.heap.size) (hpq : pb ≠ qb) :
    CallsD Try.prog 117 #[.pointer (some ⟨pb, 0, none⟩), .pointer (some ⟨qb, 0, none⟩)] (.panicking ({ v := .iface 170 (.agg #[]), recovered := false } :: older)) w fun e u' w' =>
      e = .returned (.tuple #[]) ∧ u' = .panicking ({ v := .iface 170 (.agg #[]), recovered := true } :: older) ∧ w' = ((w.setCell ⟨pb, 0, none⟩ (.slice none 0 0)).setCell ⟨qb, 0, none⟩ (.int .i64 12)).alloc (.cells #[] 170) := by
  refine callsD_of_wpS Try.func117 rfl fun c₀ cs hu => ?_
  apply wpS_seq
  apply wpS_region
  simp [wpOpsS, go_sem, recoverD, hu, Try.ntmps117, Exit.thenS]
  have ht : (#[Value.pointer (some ⟨pb, 0, none⟩), Value.pointer (some ⟨qb, 0, none⟩)] ++ ((Array.replicate 16 undef).setIfInBounds 4 (Value.iface 170 (.agg #[]))).setIfInBounds 0 (Value.iface 170 (.agg #[]))) = #[Value.pointer (some ⟨pb, 0, none⟩), Value.pointer (some ⟨qb, 0, none⟩), Value.iface 170 (.agg #[]), undef, undef, undef, Value.iface 170 (.agg #[]), undef, undef, undef, undef, undef, undef, undef, undef, undef, undef, undef] := rfl
  rw [ht]
  refine wpS_of_wp ?_
  have has := assert_wrong
  have hpn : pb ≠ w.heap.size := by omega
  have hqn : qb ≠ w.heap.size := by omega
  go_wp2_with fail
  simp [bodyPostS, results, Try.results117, go_sem]

set_option maxRecDepth 100000 in
theorem closeB_panicking (pb qb : Nat) (older : List PanicEntry) (w : World) (x0 x1 x2 y : Value) (hp0 : w.cell? ⟨pb, 0, none⟩ = some x0) (hp1 : w.cell? ⟨pb, 1, none⟩ = some x1) (hp2 : w.cell? ⟨pb, 2, none⟩ = some x2) (hpf : ∀ i, w.frozen? ⟨pb, i, none⟩ = false) (hq : w.cell? ⟨qb, 0, none⟩ = some y) (hqf : w.frozen? ⟨qb, 0, none⟩ = false) (hpl : pb < w.heap.size) (hql : qb < w.heap.size) (hpq : pb ≠ qb) :
    CallsD Try.prog 114 #[.pointer (some ⟨pb, 0, none⟩), .pointer (some ⟨qb, 0, none⟩)] (.panicking ({ v := .iface 170 (.agg #[]), recovered := false } :: older)) w fun e u' w' =>
      e = .returned (.tuple #[]) ∧ u' = .panicking ({ v := .iface 170 (.agg #[]), recovered := true } :: older) ∧ w' = (((((w.setCell ⟨pb, 0, none⟩ (.slice none 0 0)).setCell ⟨pb, 1, none⟩ (.slice none 0 0)).setCell ⟨pb, 2, none⟩ (.slice none 0 0)).setCell ⟨qb, 0, none⟩ (.int .i64 12)).alloc (.cells #[] 170)).alloc (.cells #[.slice none 0 0, .slice none 0 0, .slice none 0 0] 68) := by
  refine callsD_of_wpS Try.func114 rfl fun c₀ cs hu => ?_
  apply wpS_seq
  apply wpS_region
  simp [wpOpsS, go_sem, recoverD, hu, Try.ntmps114, Exit.thenS]
  have ht : (#[Value.pointer (some ⟨pb, 0, none⟩), Value.pointer (some ⟨qb, 0, none⟩)] ++ ((Array.replicate 16 undef).setIfInBounds 4 (Value.iface 170 (.agg #[]))).setIfInBounds 0 (Value.iface 170 (.agg #[]))) = #[Value.pointer (some ⟨pb, 0, none⟩), Value.pointer (some ⟨qb, 0, none⟩), Value.iface 170 (.agg #[]), undef, undef, undef, Value.iface 170 (.agg #[]), undef, undef, undef, undef, undef, undef, undef, undef, undef, undef, undef] := rfl
  rw [ht]
  refine wpS_of_wp ?_
  have has := assert_wrong
  have hpn : pb ≠ w.heap.size := by omega
  have hqn : qb ≠ w.heap.size := by omega
  have hpn1 : pb ≠ w.heap.size + 1 := by omega
  have hqn1 : qb ≠ w.heap.size + 1 := by omega
  go_wp2_with fail
  simp [bodyPostS, results, Try.results114, go_sem]
end Go.Proofs.Ytekmjegeiminnaa
