/- Cells in memory: what it is that a slice of cells reads as a list; the law's 'same', for two slices that read as one list. -/
import Derived.Test.YtbaejlmpoflogaaU1
namespace Go.Proofs.Ytbaejlmpoflogaa
open Go.RowKit
set_option linter.unusedVariables false
set_option linter.unusedSimpArgs false

structure CellV where
  row : Int
  col : Int
  text : ByteArray
/-- A cell's three values lie at an address. -/
def CellAt (w : World) (b o : Nat) (c : CellV) : Prop :=
  w.cell? ⟨b, o, none⟩ = some (.int .i64 c.row) ∧ w.cell? ⟨b, o + 1, none⟩ = some (.int .i64 c.col) ∧ w.cell? ⟨b, o + 2, none⟩ = some (.string c.text)
/-- The slice's elements. -/
def CellsAt (w : World) (a : Option Addr) (xs : List CellV) : Prop :=
  ∀ (i : Nat) (h : i < xs.length), ∃ b o, a = some ⟨b, o, none⟩ ∧ CellAt w b (o + i * 3) xs[i]

set_option maxHeartbeats 4000000 in
theorem same_eq (a1 a2 : Option Addr) (c1 c2 : Nat) (xs : List CellV) (w : World) (h1 : CellsAt w a1 xs) (h2 : CellsAt w a2 xs) (hl : xs.length ≤ 140737488351232) :
    Calls Try.prog 19 #[.slice a1 xs.length c1, .slice a2 xs.length c2] w fun e w' => e = .returned (.bool true) ∧ ∃ n, w' = w.drewN n := by
  have H1 := hidden h1
  have H2 := hidden h2
  clear h1 h2
  go_enter Try.func19, Try.ntmps19
  go_wp2_with fail
  go_loopw [13] (fun i wr => ∃ k : Nat, i = .int .i64 k ∧ k ≤ xs.length ∧ ∃ n, wr = w.drewN n) (fun i _ => xs.length - (intOf i).toNat)
  case atStart => exact ⟨0, rfl, Nat.zero_le _, 0, rfl⟩
  case round =>
    obtain ⟨k, rfl, hk, nd, rfl⟩ := hrel
    by_cases hlt : k < xs.length
    · obtain ⟨b1, o1, rfl, p1, p2, p3⟩ := H1.out k hlt
      obtain ⟨b2, o2, rfl, q1, q2, q3⟩ := H2.out k hlt
      have hk1 : (0 : Int) ≤ (k : Int) := by omega
      have hk2 : (k : Int) < (xs.length : Int) := by omega
      generalize xs[k] = c at p1 p2 p3 q1 q2 q3
      obtain ⟨r, cc, t⟩ := c
      simp only at p1 p2 p3 q1 q2 q3
      go_wp2_with fail
      go_quiet (fail)
      go_wp2
      exact ⟨⟨k + 1, by go_num, by omega, _, rfl⟩, by simp [intOf]; omega⟩
    · have hk1 : ¬ (k : Int) < (xs.length : Int) := by omega
      go_wp2
      go_ret
      exact ⟨rfl, nd, rfl⟩
end Go.Proofs.Ytbaejlmpoflogaa
