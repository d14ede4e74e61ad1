/- Tags: both Goods, walked. -/
import Derived.Test.YtekmjegeiminnaaB15
import Derived.Laws.RangeAny
import Derived.Laws.RangeString
import Derived.WalkSpells
namespace Go.Proofs.Ytekmjegeiminnaa
open Go.RowKit
set_option linter.unusedVariables false
set_option linter.unusedSimpArgs false

/-- One of the letters A to Z. -/
def upC (c : UInt8) : Bool := decide (65 ≤ c.toNat) && decide (c.toNat ≤ 90)
def goodB (t : List UInt8) : Bool := decide (t.length = 4) && t.all upC

theorem upper_any (r : Int) (w : World) : Calls Try.prog 80 #[.int .i32 r] w fun e w' => e = .returned (.bool (decide (r < 65) || decide (90 < r))) ∧ w = w' := by
  by_cases h1 : r < 65
  · go_enter Try.func80, Try.ntmps80
    go_wp2
    go_ret
    exact ⟨by simp [h1], rfl⟩
  · have h1' : decide (r < 65) = false := by simpa using h1
    go_enter Try.func80, Try.ntmps80
    go_wp2
    go_ret
    exact ⟨by simp [h1], rfl⟩

set_option maxRecDepth 100000 in
set_option maxHeartbeats 4000000 in
theorem indexfunc_any (s : ByteArray) (w : World) (hs : (s.size : Int) ≤ 9223372036854775807) :
    Calls Try.prog 121 #[.string s, .func (.func 80) #[] #[], .bool true] w fun e w' => ∃ r : Int, e = .returned (.int .i64 r) ∧ ((0 ≤ r) ↔ ¬ (s.data.toList.all upC = true)) ∧ Below w.heap.size w w' := by
  go_enter Try.func121, Try.ntmps121
  go_wp2_with fail
  go_loopw [] (fun wr => ∃ pos, wr = w.iter s pos ∧ pos ≤ s.size ∧ ∀ i (hi : i < s.size), i < pos → upC s[i] = true) (fun wr => s.size - wr.iterPos w.heap.size)
  case atStart => exact ⟨0, rfl, by omega, fun i _ hi => by omega⟩
  case round =>
    obtain ⟨pos, rfl, hp, hall⟩ := hrel
    have HALL := hidden hall
    clear hall
    by_cases hlt : pos < s.size
    · by_cases hu : upC s[pos] = true
      · have hb : 65 ≤ s[pos].toNat ∧ s[pos].toNat ≤ 90 := by simpa [upC] using hu
        have hnx : ∀ ty, (Instr.next (.pointer (some ⟨w.heap.size, 0, none⟩)) true ty).run Try.prog (w.iter s pos) = _ := fun ty => run_next_ascii w s pos ty hlt (by omega)
        have HU := hidden hu
        clear hu
        generalize hx : s[pos] = x at hnx hb HU
        have HX := hidden hx
        clear hx
        have hr : (decide ((x.toNat : Int) < 65) || decide (90 < (x.toNat : Int))) = false := by simp; omega
        go_wp2_with fail
        with_reducible refine (upper_any _ _).mono ?_
        rintro e w1 ⟨rfl, rfl⟩
        rw [hr]
        go_wp2_with fail
        refine ⟨⟨pos + 1, rfl, by omega, fun i hi hip => ?_⟩, by simp; omega⟩
        by_cases he : i = pos
        · subst he; rw [HX.out]; exact HU.out
        · exact HALL.out i hi (by omega)
      · have hnx : ∀ ty, (Instr.next (.pointer (some ⟨w.heap.size, 0, none⟩)) true ty).run Try.prog (w.iter s pos) = _ := fun ty => run_next_any w s pos ty hlt
        have hr : (decide (((Utf8.decode s pos).1 : Int) < 65) || decide (90 < ((Utf8.decode s pos).1 : Int))) = true := by
          by_cases h128 : s[pos].toNat < 128
          · rw [decode_ascii s pos hlt h128]
            simp [upC] at hu ⊢
            omega
          · have := (decode_high s pos hlt (by omega)).1
            simp; omega
        have HN : Hid (¬ s.data.toList.all upC = true) := hidden (fun h => hu (by
          rw [List.all_eq_true] at h
          exact h _ (by
            have : s[pos] = s.data.toList[pos]'(by simpa using hlt) := rfl
            rw [this]; exact List.getElem_mem _)))
        clear hu
        generalize (Utf8.decode s pos).1 = rn at hnx hr
        generalize (Utf8.decode s pos).2 = wd at hnx
        go_wp2_with fail
        with_reducible refine (upper_any _ _).mono ?_
        rintro e w1 ⟨rfl, rfl⟩
        rw [hr]
        go_wp2_with fail
        go_ret
        exact ⟨pos, rfl, ⟨fun _ => HN.out, fun _ => by omega⟩, (Below.refl _ _).alloc (Nat.le_refl _) _⟩
    · have hnx : ∀ ty, (Instr.next (.pointer (some ⟨w.heap.size, 0, none⟩)) true ty).run Try.prog (w.iter s pos) = _ := fun ty => run_next_end w s pos ty hlt
      have HN : Hid (s.data.toList.all upC = true) := hidden (by
        rw [List.all_eq_true]
        intro x hx
        obtain ⟨i, hi, rfl⟩ := List.getElem_of_mem hx
        have hi' : i < s.size := by simpa using hi
        exact HALL.out i hi' (by omega))
      go_wp2_with fail
      go_ret
      exact ⟨-1, rfl, ⟨fun h => by omega, fun h => (h HN.out).elim⟩, (Below.refl _ _).alloc (Nat.le_refl _) _⟩

set_option maxRecDepth 100000 in
set_option maxHeartbeats 4000000 in
theorem containsfunc_any (s : ByteArray) (w : World) (hs : (s.size : Int) ≤ 9223372036854775807) :
    Calls Try.prog 79 #[.string s, .func (.func 80) #[] #[]] w fun e w' => e = .returned (.bool (!s.data.toList.all upC)) ∧ Below w.heap.size w w' := by
  go_enter Try.func79, Try.ntmps79
  go_wp2_with fail
  refine Calls.mono (R := fun e w' => ∃ r : Int, e = .returned (.int .i64 r) ∧ ((0 ≤ r) ↔ ¬ (s.data.toList.all upC = true)) ∧ Below w.heap.size w w') ?_ ?_
  · go_enter Try.func106, Try.ntmps106
    go_wp2_with fail
    with_reducible refine (indexfunc_any s w hs).mono ?_
    rintro e w1 ⟨r, rfl, h1, h2⟩
    have H := hidden (And.intro h1 h2)
    clear h1 h2
    go_wp2_with fail
    go_ret
    exact ⟨r, rfl, H.out.1, H.out.2⟩
  · rintro e w1 ⟨r, rfl, h1, h2⟩
    have H := hidden (And.intro h1 h2)
    clear h1 h2
    go_wp2_with fail
    go_ret
    refine ⟨?_, H.out.2⟩
    have e : decide (0 ≤ r) = !s.data.toList.all upC := by
      rw [Bool.eq_iff_iff, decide_eq_true_iff, H.out.1]; simp
    rw [← e]; rfl

set_option maxRecDepth 100000 in
set_option maxHeartbeats 4000000 in
theorem good_any (s : ByteArray) (w : World) (hs : (s.size : Int) ≤ 9223372036854775807) :
    Calls Try.prog 44 #[.string s] w fun e w' => e = .returned (.bool (goodB s.data.toList)) ∧ Below w.heap.size w w' := by
  have hl : s.data.toList.length = s.size := rfl
  by_cases h4 : s.size = 4
  · have t4 : ((s.size : Int) == 4) = true := by rw [beq_iff_eq]; omega
    have HG : Hid (goodB s.data.toList = s.data.toList.all upC) := by show _ = _; unfold goodB; rw [hl, h4]; simp
    clear h4 hl
    go_enter Try.func44, Try.ntmps44
    go_wp2_with fail
    with_reducible refine (containsfunc_any s w hs).mono ?_
    rintro e w1 ⟨rfl, hb⟩
    have HB := hidden hb
    clear hb
    go_wp2_with fail
    go_ret
    exact ⟨by rw [HG.out]; simp, HB.out⟩
  · have t4 : ((s.size : Int) == 4) = false := by rw [beq_eq_false_iff_ne]; omega
    have HG : Hid (goodB s.data.toList = false) := by show _ = _; unfold goodB; rw [hl]; simp [h4]
    clear h4 hl
    go_enter Try.func44, Try.ntmps44
    go_wp2_with fail
    go_ret
    exact ⟨by rw [HG.out]; rfl, Below.refl _ _⟩

set_option maxRecDepth 100000 in
set_option maxHeartbeats 4000000 in
theorem good_ref (s : ByteArray) (w : World) (hs : (s.size : Int) ≤ 9223372036854775807) :
    Calls Try.prog 45 #[.string s] w fun e w' => e = .returned (.bool (goodB s.data.toList)) ∧ w = w' := by
  have hl : s.data.toList.length = s.size := rfl
  have HL := hidden hl
  clear hl
  go_enter Try.func45, Try.ntmps45
  go_wp2_with fail
  go_loop [3] (fun s3 => ∃ k : Nat, s3 = .int .i64 k ∧ k ≤ s.size ∧ ∀ i (hi : i < s.size), i < k → upC s[i] = true) (fun s3 => s.size - (intOf s3).toNat)
  case atStart => exact ⟨0, rfl, by omega, fun i _ hi => by omega⟩
  case round =>
    obtain ⟨k, rfl, hk, hall⟩ := hrel
    have HALL := hidden hall
    clear hall
    by_cases hlt : k < s.size
    · by_cases hu : upC s[k] = true
      · have hb : 65 ≤ s[k].toNat ∧ s[k].toNat ≤ 90 := by simpa [upC] using hu
        have h1 : ¬ (s[k].toNat : Int) < 65 := by omega
        have h2 : ¬ 90 < (s[k].toNat : Int) := by omega
        have HU := hidden hu
        clear hu hb
        go_wp2_with fail
        refine ⟨⟨k + 1, by go_num, by omega, fun i hi hip => ?_⟩, by simp [intOf]; omega⟩
        by_cases he : i = k
        · subst he; exact HU.out
        · exact HALL.out i hi (by omega)
      · have HN : Hid (goodB s.data.toList = false) := hidden (by
          unfold goodB
          rw [Bool.and_eq_false_iff]
          right
          rw [List.all_eq_false]
          exact ⟨s[k], by
            have : s[k] = s.data.toList[k]'(by simpa using hlt) := rfl
            rw [this]; exact List.getElem_mem _, hu⟩)
        by_cases h1 : (s[k].toNat : Int) < 65
        · clear hu
          go_wp2_with fail
          go_ret
          exact ⟨by rw [HN.out]; rfl, rfl⟩
        · have h2 : 90 < (s[k].toNat : Int) := by simp [upC] at hu; omega
          clear hu
          go_wp2_with fail
          go_ret
          exact ⟨by rw [HN.out]; rfl, rfl⟩
    · have HN : Hid (goodB s.data.toList = decide (s.size = 4)) := hidden (by
        unfold goodB
        rw [HL.out]
        have : s.data.toList.all upC = true := by
          rw [List.all_eq_true]
          intro x hx
          obtain ⟨i, hi, rfl⟩ := List.getElem_of_mem hx
          have hi' : i < s.size := by simpa using hi
          exact HALL.out i hi' (by omega)
        rw [this, Bool.and_true])
      by_cases h4 : s.size = 4
      · have t4 : ((s.size : Int) == 4) = true := by rw [beq_iff_eq]; omega
        have HG : Hid (goodB s.data.toList = true) := by show _ = _; rw [HN.out, h4]; rfl
        clear h4
        go_wp2_with fail
        go_ret
        exact ⟨by rw [HG.out]; rfl, rfl⟩
      · have t4 : ((s.size : Int) == 4) = false := by rw [beq_eq_false_iff_ne]; omega
        have HG : Hid (goodB s.data.toList = false) := by show _ = _; rw [HN.out]; simp [h4]
        clear h4
        go_wp2_with fail
        go_ret
        exact ⟨by rw [HG.out]; rfl, rfl⟩
end Go.Proofs.Ytekmjegeiminnaa
