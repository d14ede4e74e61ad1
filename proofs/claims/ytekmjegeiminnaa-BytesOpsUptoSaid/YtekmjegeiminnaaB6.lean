/- The law's helpers Same, Lend and Kept, walked. -/
import Derived.Test.YtekmjegeiminnaaB5
import Derived.Laws.IdiomStrings
import Derived.Laws.BytesArg
namespace Go.Proofs.Ytekmjegeiminnaa
open Go.RowKit
set_option linter.unusedVariables false
set_option linter.unusedSimpArgs false

abbrev strOf (bs : List UInt8) : ByteArray := ⟨bs.toArray⟩
/-- Bytes as a text. -/
theorem run_str {w : World} {a : Option Addr} {bs : List UInt8} (h : BytesAt w a bs) (len cap : Nat) (hl : len = bs.length) : (convert 22 9 (.slice a len cap)).run Try.prog w = .ok (.string (strOf bs)) w := by
  subst hl
  cases a with
  | none =>
    have hn : bs = [] := by
      cases bs with
      | nil => rfl
      | cons x r => obtain ⟨b, o, e, _⟩ := h 0 (by simp); cases e
    subst hn
    exact run_convert_bytes_nil w 22 5 Try.underlying22 Try.underlying5 _ _ 9 Try.underlying9
  | some A =>
    refine run_convert_bytes_back w 22 9 5 A cap bs Try.underlying22 Try.underlying5 Try.underlying9 (fun j hj => ?_)
    exact h.news j _ (byteVs_get bs j hj)

set_option maxHeartbeats 4000000 in
theorem same_eq (a1 a2 : Option Addr) (l1 l2 c1 c2 : Nat) (bs : List UInt8) (w : World) (h1 : BytesAt w a1 bs) (h2 : BytesAt w a2 bs) (e1 : l1 = bs.length) (e2 : l2 = bs.length) :
    Calls Try.prog 22 #[.slice a1 l1 c1, .slice a2 l2 c2] w fun e w' => e = .returned (.bool true) ∧ w = w' := by
  have r1 := run_str h1 l1 c1 e1
  have r2 := run_str h2 l2 c2 e2
  clear h1 h2 e1 e2
  generalize strOf bs = s at r1 r2
  go_enter Try.func22, Try.ntmps22
  go_wp2
  go_ret
  exact ⟨rfl, rfl⟩

/-- A row of the calls' own, cell by cell. -/
def RowF (w : World) (g n : Nat) (f : Nat → Value) : Prop := ∀ j, j < n → w.cell? ⟨g, j, none⟩ = some (f j) ∧ w.frozen? ⟨g, j, none⟩ = false
theorem RowF.set {w : World} {g n : Nat} {f : Nat → Value} (h : RowF w g n f) (i : Nat) (v : Value) : RowF (w.setCell ⟨g, i, none⟩ v) g n (fun j => if j = i then v else f j) := by
  intro j hj
  obtain ⟨h1, h2⟩ := h j hj
  refine ⟨?_, (World.frozen?_setCell _ _ _ _).trans h2⟩
  by_cases e : j = i
  · subst e; simp only [if_true]; exact World.cell?_setCell_same _ _ _ h1
  · simp only [if_neg e]; exact (World.cell?_setCell_other _ _ _ _ (by intro h; cases h; exact e rfl)).trans h1
theorem RowF.congr {w : World} {g n : Nat} {f f' : Nat → Value} (h : RowF w g n f) (e : ∀ j, j < n → f j = f' j) : RowF w g n f' := fun j hj => by rw [← e j hj]; exact h j hj

/-- What Lend writes: behind k bytes. -/
def lent (bs : List UInt8) (k : Nat) (j : Nat) : Value :=
  if j = 0 then .int .u8 165 else if j = bs.length + 1 then .int .u8 90 else if j ≤ k then bV (bs.getD (j - 1) 0) else .int .u8 0

theorem made_row {w : World} {B g n : Nat} (h : w.ownsRow B 5 1 (.slice (some ⟨g, 0, none⟩) n n) n (madeCells (Value.int .u8 0).cells (n * 1)).toList) : RowF w g n (fun _ => .int .u8 0) := fun j hj => by
  refine ⟨?_, h.frozenAt j⟩
  have := h.cellAt j (by omega)
  rw [this]
  show (madeCells #[.int .u8 0] (n * 1)).toList[j]? = _
  rw [toList_madeCells_one, List.getElem?_replicate, if_pos (by omega)]

set_option maxRecDepth 100000 in
set_option maxHeartbeats 4000000 in
theorem lend_any (a : Option Addr) (len cap : Nat) (bs : List UInt8) (w : World) (h : BytesAt w a bs) (hlen : len = bs.length) (hl : len ≤ 150000) :
    Calls Try.prog 19 #[.slice a len cap] w fun e w' => e = .returned (.tuple #[.slice (some ⟨w.heap.size, 0, none⟩) (len + 2) (len + 2), .slice (some ⟨w.heap.size, 1, none⟩) len (len + 1)]) ∧
      Below w.heap.size w w' ∧ w.heap.size < w'.heap.size ∧ RowF w' w.heap.size (len + 2) (lent bs len) := by
  subst hlen
  obtain ⟨i0, hi, hz0, hz1, hz2⟩ := info_parts Try.info5
  have H := hidden h
  clear h
  go_enter Try.func19, Try.ntmps19
  go_wp2_with (first | (at_make; go_loud (refine wpList_make_full _ rfl _ _ 22 rfl w.heap.size 5 i0 (.int .u8 0) 1 Try.underlying22 hi hz0 hz1 .i64 .i64 _ _ (bs.length + 2) rfl rfl (by omega) (by omega) (by rw [hz2]; omega) (by unfold maxLen; omega) (Nat.le_refl _) ?_); intro w1 hown1 hgr1; have R0 := made_row hown1; obtain ⟨p0, q0⟩ := R0 0 (by omega); obtain ⟨p1, q1⟩ := R0 (bs.length + 1) (by omega)))
  have HB : Hid (Below w.heap.size w ((w1.setCell ⟨w.heap.size, 0, none⟩ (.int .u8 165)).setCell ⟨w.heap.size, bs.length + 1, none⟩ (.int .u8 90))) :=
    ((Below.refl _ _).grown hgr1 (Nat.le_refl _) (fun k hk => by cases hk)).setCell (Nat.le_refl _) _ |>.setCell (Nat.le_refl _) _
  have HZ : Hid (w.heap.size < w1.heap.size) := World.block_lt_of_cell? w1 _ p0
  have HR : Hid (RowF ((w1.setCell ⟨w.heap.size, 0, none⟩ (.int .u8 165)).setCell ⟨w.heap.size, bs.length + 1, none⟩ (.int .u8 90)) w.heap.size (bs.length + 2) (lent bs 0)) := by
    refine ((R0.set 0 (.int .u8 165)).set (bs.length + 1) (.int .u8 90)).congr (fun j hj => ?_)
    unfold lent
    by_cases e1 : j = bs.length + 1
    · rw [if_pos e1, if_neg (by omega), if_pos e1]
    · by_cases e2 : j = 0
      · rw [if_neg e1, if_pos e2, if_pos e2]
      · rw [if_neg e1, if_neg e2, if_neg e2, if_neg e1, if_neg (by omega)]
  clear R0 p0 p1 q0 q1 hown1 hgr1
  go_loopw [20] (fun i wr => ∃ k : Nat, i = .int .i64 k ∧ k ≤ bs.length ∧ Below w.heap.size w wr ∧ w.heap.size < wr.heap.size ∧ RowF wr w.heap.size (bs.length + 2) (lent bs k)) (fun i _ => bs.length - (intOf i).toNat)
  case atStart => exact ⟨0, rfl, Nat.zero_le _, HB.out, by simpa [World.setCell] using HZ.out, HR.out⟩
  case round =>
    clear HB HZ HR
    obtain ⟨k, rfl, hk, hb, hz, hr⟩ := hrel
    have HB := hidden hb
    have HR := hidden hr
    have HZ := hidden hz
    clear hb hr hz
    by_cases hlt : k < bs.length
    · obtain ⟨b, o, rfl, hc⟩ := (H.out.on' HB.out) k hlt
      obtain ⟨p0, q0⟩ := HR.out (k + 1) (by omega)
      have HX : Hid (bs.getD k 0 = bs[k]) := by show _ = _; simp [hlt]
      have hk2 : (k : Int) < (bs.length : Int) := by omega
      have hk3 : (k : Int) + 1 < (bs.length : Int) + 2 := by omega
      generalize bs[k] = x at hc HX
      go_wp2
      refine ⟨⟨k + 1, by go_num, by omega, HB.out.setCell (Nat.le_refl _) _, by simpa [World.setCell] using HZ.out, (HR.out.set (k + 1) (bV x)).congr (fun j hj => ?_)⟩, by simp [intOf]; omega⟩
      unfold lent
      by_cases e1 : j = k + 1
      · rw [if_pos e1, if_neg (by omega), if_neg (by omega), if_pos (by omega), show j - 1 = k by omega, HX.out]
      · rw [if_neg e1]
        have e2 : (j ≤ k) ↔ (j ≤ k + 1) := by omega
        simp only [e2]
    · have hk2 : ¬ (k : Int) < (bs.length : Int) := by omega
      have HK : Hid (k = bs.length) := by show _ = _; omega
      go_wp2_with fail
      go_quiet (fail)
      go_wp2
      go_ret2
      exact ⟨rfl, below_dn HB.out _, HZ.out, by have := HR.out; rw [HK.out] at this; exact this⟩

theorem RowF.upd {M : Nat → Prop} {w w' : World} {g n : Nat} {f : Nat → Value} (h : RowF w g n f) (hu : Upd M w w') (hm : ¬ M g) : RowF w' g n f := fun j hj => by
  obtain ⟨h1, h2⟩ := h j hj
  have hlt := World.block_lt_of_cell? w _ h1
  exact ⟨hu.cell h1 hm, by rw [World.frozen?_of_block (w := w) (hu.block g hlt hm)]; exact h2⟩
/-- Of what Lend has made: the part that is lent reads as the bytes. -/
theorem lent_own {w : World} {g : Nat} {bs : List UInt8} (h : RowF w g (bs.length + 2) (lent bs bs.length)) : BytesAt w (some ⟨g, 1, none⟩) bs := fun i hi => by
  refine ⟨g, 1, rfl, ?_⟩
  rw [(h (1 + i) (by omega)).1]
  unfold lent
  rw [if_neg (by omega), if_neg (by omega), if_pos (by omega), show 1 + i - 1 = i by omega]
  simp [hi]

set_option maxRecDepth 100000 in
set_option maxHeartbeats 4000000 in
theorem kept_any (g : Nat) (a : Option Addr) (len cap : Nat) (bs : List UInt8) (w : World) (h : BytesAt w a bs) (hr : RowF w g (bs.length + 2) (lent bs bs.length)) (hlen : len = bs.length) (hl : len ≤ 150000) :
    Calls Try.prog 25 #[.slice (some ⟨g, 0, none⟩) (len + 2) (len + 2), .slice a len cap] w fun e w' => e = .returned (.bool true) ∧ ∃ n, w' = w.drewN n := by
  subst hlen
  have p0 : w.cell? ⟨g, 0, none⟩ = some (.int .u8 165) := (hr 0 (by omega)).1
  have p1 : w.cell? ⟨g, bs.length + 1, none⟩ = some (.int .u8 90) := by
    rw [(hr (bs.length + 1) (by omega)).1]; unfold lent; rw [if_neg (by omega), if_pos rfl]
  have r1 : ∀ n, (convert 22 9 (.slice (some ⟨g, 1, none⟩) bs.length (bs.length + 1))).run Try.prog (w.drewN n) = .ok (.string (strOf bs)) (w.drewN n) :=
    fun n => run_str ((lent_own hr).upd (Upd.drewN (M := fun _ => False) _ _) (fun _ _ h => h)) _ _ rfl
  have r2 : ∀ n, (convert 22 9 (.slice a bs.length cap)).run Try.prog (w.drewN n) = .ok (.string (strOf bs)) (w.drewN n) :=
    fun n => run_str (h.upd (Upd.drewN (M := fun _ => False) _ _) (fun _ _ h => h)) _ _ rfl
  clear h hr
  generalize strOf bs = s at r1 r2
  have i1 : (0 : Int) < (bs.length : Int) + 2 := by omega
  have i2 : (bs.length : Int) + 1 < (bs.length : Int) + 2 := by omega
  have i3 : (1 : Int) ≤ (bs.length : Int) + 1 := by omega
  have i4 : (bs.length : Int) + 1 ≤ (bs.length : Int) + 2 := by omega
  have i5 : IntKind.i64.wrap ((bs.length : Int) + 1) = (bs.length : Int) + 1 := IntWalk.i64_in _ (by omega)
  have i6 : IntKind.i64.wrap ((bs.length : Int) + 2) = (bs.length : Int) + 2 := IntWalk.i64_in _ (by omega)
  have i7 : (0 : Int) ≤ (bs.length : Int) + 1 := by omega
  have i8 : ((bs.length : Int) + 1).toNat = bs.length + 1 := by omega
  go_enter Try.func25, Try.ntmps25
  go_wp2_with fail
  go_quiet (fail)
  go_wp2
  go_ret
  exact ⟨rfl, _, rfl⟩
end Go.Proofs.Ytekmjegeiminnaa
