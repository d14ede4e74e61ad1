/- Tags: both Goods, walked. -/
import Derived.Test.YtekmjegeiminnaaB15
import Derived.Laws.RangeAny
import Derived.Laws.RangeString
import Derived.WalkSpells
import Derived.Maps.OwnOps
import Derived.Maps.Views
import Derived.StringKeys
import Derived.WalkArith
import Derived.Lib.AppendStr
import Derived.Lib.SlBytesConst
namespace Go.Proofs.Ytekmjegeiminnaa
open Go.RowKit
set_option linter.unusedVariables false
set_option linter.unusedSimpArgs false

/-- One of the letters A to Z. -/
def upC (c : UInt8) : Bool := decide (65 ≤ c.toNat) && decide (c.toNat ≤ 90)
def goodB (t : List UInt8) : Bool := decide (t.length = 4) && t.all upC

theorem upper_any (r : Int) (w : World) : Calls Try.prog 80 #[.int .i32 r] w fun e w' => e = .returned (.bool (decide (r < 65) || decide (90 < r))) ∧ w = w' := by
  by_cases h1 : r < 65
  · go_enter Try.func80, Try.ntmps80
    go_wp2
    go_ret
    exact ⟨by simp [h1], rfl⟩
  · have h1' : decide (r < 65) = false := by simpa using h1
    go_enter Try.func80, Try.ntmps80
    go_wp2
    go_ret
    exact ⟨by simp [h1], rfl⟩

set_option maxRecDepth 100000 in
set_option maxHeartbeats 4000000 in
theorem indexfunc_any (s : ByteArray) (w : World) (hs : (s.size : Int) ≤ 9223372036854775807) :
    Calls Try.prog 121 #[.string s, .func (.func 80) #[] #[], .bool true] w fun e w' => ∃ r : Int, e = .returned (.int .i64 r) ∧ ((0 ≤ r) ↔ ¬ (s.data.toList.all upC = true)) ∧ Below w.heap.size w w' := by
  go_enter Try.func121, Try.ntmps121
  go_wp2_with fail
  go_loopw [] (fun wr => ∃ pos, wr = w.iter s pos ∧ pos ≤ s.size ∧ ∀ i (hi : i < s.size), i < pos → upC s[i] = true) (fun wr => s.size - wr.iterPos w.heap.size)
  case atStart => exact ⟨0, rfl, by omega, fun i _ hi => by omega⟩
  case round =>
    obtain ⟨pos, rfl, hp, hall⟩ := hrel
    have HALL := hidden hall
    clear hall
    by_cases hlt : pos < s.size
    · by_cases hu : upC s[pos] = true
      · have hb : 65 ≤ s[pos].toNat ∧ s[pos].toNat ≤ 90 := by simpa [upC] using hu
        have hnx : ∀ ty, (Instr.next (.pointer (some ⟨w.heap.size, 0, none⟩)) true ty).run Try.prog (w.iter s pos) = _ := fun ty => run_next_ascii w s pos ty hlt (by omega)
        have HU := hidden hu
        clear hu
        generalize hx : s[pos] = x at hnx hb HU
        have HX := hidden hx
        clear hx
        have hr : (decide ((x.toNat : Int) < 65) || decide (90 < (x.toNat : Int))) = false := by simp; omega
        go_wp2_with fail
        with_reducible refine (upper_any _ _).mono ?_
        rintro e w1 ⟨rfl, rfl⟩
        rw [hr]
        go_wp2_with fail
        refine ⟨⟨pos + 1, rfl, by omega, fun i hi hip => ?_⟩, by simp; omega⟩
        by_cases he : i = pos
        · subst he; rw [HX.out]; exact HU.out
        · exact HALL.out i hi (by omega)
      · have hnx : ∀ ty, (Instr.next (.pointer (some ⟨w.heap.size, 0, none⟩)) true ty).run Try.prog (w.iter s pos) = _ := fun ty => run_next_any w s pos ty hlt
        have hr : (decide (((Utf8.decode s pos).1 : Int) < 65) || decide (90 < ((Utf8.decode s pos).1 : Int))) = true := by
          by_cases h128 : s[pos].toNat < 128
          · rw [decode_ascii s pos hlt h128]
            simp [upC] at hu ⊢
            omega
          · have := (decode_high s pos hlt (by omega)).1
            simp; omega
        have HN : Hid (¬ s.data.toList.all upC = true) := hidden (fun h => hu (by
          rw [List.all_eq_true] at h
          exact h _ (by
            have : s[pos] = s.data.toList[pos]'(by simpa using hlt) := rfl
            rw [this]; exact List.getElem_mem _)))
        clear hu
        generalize (Utf8.decode s pos).1 = rn at hnx hr
        generalize (Utf8.decode s pos).2 = wd at hnx
        go_wp2_with fail
        with_reducible refine (upper_any _ _).mono ?_
        rintro e w1 ⟨rfl, rfl⟩
        rw [hr]
        go_wp2_with fail
        go_ret
        exact ⟨pos, rfl, ⟨fun _ => HN.out, fun _ => by omega⟩, (Below.refl _ _).alloc (Nat.le_refl _) _⟩
    · have hnx : ∀ ty, (Instr.next (.pointer (some ⟨w.heap.size, 0, none⟩)) true ty).run Try.prog (w.iter s pos) = _ := fun ty => run_next_end w s pos ty hlt
      have HN : Hid (s.data.toList.all upC = true) := hidden (by
        rw [List.all_eq_true]
        intro x hx
        obtain ⟨i, hi, rfl⟩ := List.getElem_of_mem hx
        have hi' : i < s.size := by simpa using hi
        exact HALL.out i hi' (by omega))
      go_wp2_with fail
      go_ret
      exact ⟨-1, rfl, ⟨fun h => by omega, fun h => (h HN.out).elim⟩, (Below.refl _ _).alloc (Nat.le_refl _) _⟩

set_option maxRecDepth 100000 in
set_option maxHeartbeats 4000000 in
theorem containsfunc_any (s : ByteArray) (w : World) (hs : (s.size : Int) ≤ 9223372036854775807) :
    Calls Try.prog 79 #[.string s, .func (.func 80) #[] #[]] w fun e w' => e = .returned (.bool (!s.data.toList.all upC)) ∧ Below w.heap.size w w' := by
  go_enter Try.func79, Try.ntmps79
  go_wp2_with fail
  refine Calls.mono (R := fun e w' => ∃ r : Int, e = .returned (.int .i64 r) ∧ ((0 ≤ r) ↔ ¬ (s.data.toList.all upC = true)) ∧ Below w.heap.size w w') ?_ ?_
  · go_enter Try.func106, Try.ntmps106
    go_wp2_with fail
    with_reducible refine (indexfunc_any s w hs).mono ?_
    rintro e w1 ⟨r, rfl, h1, h2⟩
    have H := hidden (And.intro h1 h2)
    clear h1 h2
    go_wp2_with fail
    go_ret
    exact ⟨r, rfl, H.out.1, H.out.2⟩
  · rintro e w1 ⟨r, rfl, h1, h2⟩
    have H := hidden (And.intro h1 h2)
    clear h1 h2
    go_wp2_with fail
    go_ret
    refine ⟨?_, H.out.2⟩
    have e : decide (0 ≤ r) = !s.data.toList.all upC := by
      rw [Bool.eq_iff_iff, decide_eq_true_iff, H.out.1]; simp
    rw [← e]; rfl

set_option maxRecDepth 100000 in
set_option maxHeartbeats 4000000 in
theorem good_any (s : ByteArray) (w : World) (hs : (s.size : Int) ≤ 9223372036854775807) :
    Calls Try.prog 44 #[.string s] w fun e w' => e = .returned (.bool (goodB s.data.toList)) ∧ Below w.heap.size w w' := by
  have hl : s.data.toList.length = s.size := rfl
  by_cases h4 : s.size = 4
  · have t4 : ((s.size : Int) == 4) = true := by rw [beq_iff_eq]; omega
    have HG : Hid (goodB s.data.toList = s.data.toList.all upC) := by show _ = _; unfold goodB; rw [hl, h4]; simp
    clear h4 hl
    go_enter Try.func44, Try.ntmps44
    go_wp2_with fail
    with_reducible refine (containsfunc_any s w hs).mono ?_
    rintro e w1 ⟨rfl, hb⟩
    have HB := hidden hb
    clear hb
    go_wp2_with fail
    go_ret
    exact ⟨by rw [HG.out]; simp, HB.out⟩
  · have t4 : ((s.size : Int) == 4) = false := by rw [beq_eq_false_iff_ne]; omega
    have HG : Hid (goodB s.data.toList = false) := by show _ = _; unfold goodB; rw [hl]; simp [h4]
    clear h4 hl
    go_enter Try.func44, Try.ntmps44
    go_wp2_with fail
    go_ret
    exact ⟨by rw [HG.out]; rfl, Below.refl _ _⟩

set_option maxRecDepth 100000 in
set_option maxHeartbeats 4000000 in
theorem good_ref (s : ByteArray) (w : World) (hs : (s.size : Int) ≤ 9223372036854775807) :
    Calls Try.prog 45 #[.string s] w fun e w' => e = .returned (.bool (goodB s.data.toList)) ∧ w = w' := by
  have hl : s.data.toList.length = s.size := rfl
  have HL := hidden hl
  clear hl
  go_enter Try.func45, Try.ntmps45
  go_wp2_with fail
  go_loop [3] (fun s3 => ∃ k : Nat, s3 = .int .i64 k ∧ k ≤ s.size ∧ ∀ i (hi : i < s.size), i < k → upC s[i] = true) (fun s3 => s.size - (intOf s3).toNat)
  case atStart => exact ⟨0, rfl, by omega, fun i _ hi => by omega⟩
  case round =>
    obtain ⟨k, rfl, hk, hall⟩ := hrel
    have HALL := hidden hall
    clear hall
    by_cases hlt : k < s.size
    · by_cases hu : upC s[k] = true
      · have hb : 65 ≤ s[k].toNat ∧ s[k].toNat ≤ 90 := by simpa [upC] using hu
        have h1 : ¬ (s[k].toNat : Int) < 65 := by omega
        have h2 : ¬ 90 < (s[k].toNat : Int) := by omega
        have HU := hidden hu
        clear hu hb
        go_wp2_with fail
        refine ⟨⟨k + 1, by go_num, by omega, fun i hi hip => ?_⟩, by simp [intOf]; omega⟩
        by_cases he : i = k
        · subst he; exact HU.out
        · exact HALL.out i hi (by omega)
      · have HN : Hid (goodB s.data.toList = false) := hidden (by
          unfold goodB
          rw [Bool.and_eq_false_iff]
          right
          rw [List.all_eq_false]
          exact ⟨s[k], by
            have : s[k] = s.data.toList[k]'(by simpa using hlt) := rfl
            rw [this]; exact List.getElem_mem _, hu⟩)
        by_cases h1 : (s[k].toNat : Int) < 65
        · clear hu
          go_wp2_with fail
          go_ret
          exact ⟨by rw [HN.out]; rfl, rfl⟩
        · have h2 : 90 < (s[k].toNat : Int) := by simp [upC] at hu; omega
          clear hu
          go_wp2_with fail
          go_ret
          exact ⟨by rw [HN.out]; rfl, rfl⟩
    · have HN : Hid (goodB s.data.toList = decide (s.size = 4)) := hidden (by
        unfold goodB
        rw [HL.out]
        have : s.data.toList.all upC = true := by
          rw [List.all_eq_true]
          intro x hx
          obtain ⟨i, hi, rfl⟩ := List.getElem_of_mem hx
          have hi' : i < s.size := by simpa using hi
          exact HALL.out i hi' (by omega)
        rw [this, Bool.and_true])
      by_cases h4 : s.size = 4
      · have t4 : ((s.size : Int) == 4) = true := by rw [beq_iff_eq]; omega
        have HG : Hid (goodB s.data.toList = true) := by show _ = _; rw [HN.out, h4]; rfl
        clear h4
        go_wp2_with fail
        go_ret
        exact ⟨by rw [HG.out]; rfl, rfl⟩
      · have t4 : ((s.size : Int) == 4) = false := by rw [beq_eq_false_iff_ne]; omega
        have HG : Hid (goodB s.data.toList = false) := by show _ = _; rw [HN.out]; simp [h4]
        clear h4
        go_wp2_with fail
        go_ret
        exact ⟨by rw [HG.out]; rfl, rfl⟩
end Go.Proofs.Ytekmjegeiminnaa

/- Chunks in memory; great, walked. -/
namespace Go.Proofs.Ytekmjegeiminnaa
open Go.RowKit
set_option linter.unusedVariables false
set_option linter.unusedSimpArgs false

theorem BytesAt.upd0 {M : Nat → Prop} {w w' : World} {a : Option Addr} {bs : List UInt8} (h : BytesAt w a bs) (hu : Upd M w w') (hm : ∀ A, a = some A → 0 < bs.length → ¬ M A.block) : BytesAt w' a bs := fun i hi => by
  obtain ⟨b, o, ha, hc⟩ := h i hi
  exact ⟨b, o, ha, hu.cell hc (by show ¬ M b; exact hm ⟨b, o, none⟩ ha (by omega))⟩
theorem BytesAt.on0 {B : Nat} {w w' : World} {a : Option Addr} {bs : List UInt8} (h : BytesAt w a bs) (hb : Below B w w') (hB : ∀ A, a = some A → 0 < bs.length → A.block < B) : BytesAt w' a bs := fun i hi => by
  obtain ⟨b, o, ha, hc⟩ := h i hi
  exact ⟨b, o, ha, (hb.cell (by show b < B; exact hB ⟨b, o, none⟩ ha (by omega))).trans hc⟩
/-- A chunk: its tag's bytes, its data. -/
abbrev Chk := List UInt8 × List UInt8
/-- The slice's chunks; all blocks that it reaches are such as S says. -/
def ChunksAt (S : Nat → Prop) (w : World) (a : Option Addr) (l : List Chk) : Prop :=
  ∀ (i : Nat) (hi : i < l.length), ∃ b o d cap, a = some ⟨b, o, none⟩ ∧ w.cell? ⟨b, o + i * 2, none⟩ = some (.string (strOf l[i].1)) ∧ w.cell? ⟨b, o + i * 2 + 1, none⟩ = some (.slice d l[i].2.length cap) ∧
    l[i].2.length ≤ cap ∧ (cap : Int) ≤ 9223372036854775807 ∧ BytesAt w d l[i].2 ∧ S b ∧ (∀ A, d = some A → 0 < l[i].2.length → S A.block)
theorem ChunksAt.upd {S M : Nat → Prop} {w w' : World} {a : Option Addr} {l : List Chk} (h : ChunksAt S w a l) (hu : Upd M w w') (hm : ∀ k, S k → ¬ M k) : ChunksAt S w' a l := fun i hi => by
  obtain ⟨b, o, d, cap, ha, c0, c1, h1, h2, h3, h4, h5⟩ := h i hi
  exact ⟨b, o, d, cap, ha, hu.cell c0 (hm _ h4), hu.cell c1 (hm _ h4), h1, h2, h3.upd0 hu (fun A hA h0 => hm _ (h5 A hA h0)), h4, h5⟩
theorem ChunksAt.below {B : Nat} {w w' : World} {a : Option Addr} {l : List Chk} (h : ChunksAt (· < B) w a l) (hb : Below B w w') : ChunksAt (· < B) w' a l :=
  h.upd (Upd.ofBelow hb) (fun k hk h => by omega)
/-- Sizes that a machine can hold. -/
def Sized (l : List Chk) : Prop := l.length ≤ 140737488351232 ∧ ∀ c ∈ l, c.1.length ≤ 140737488351232 ∧ c.2.length ≤ 140737488351232
def total (l : List Chk) : Nat := (l.map fun c => c.2.length).sum
theorem total_snoc (l : List Chk) (c : Chk) : total (l ++ [c]) = total l + c.2.length := by simp [total]
theorem take_snoc' {α : Type} (l : List α) {k : Nat} (h : k < l.length) : l.take (k + 1) = l.take k ++ [l[k]] := by rw [List.take_succ_eq_append_getElem h]

def Greats (l : List Chk) (w : World) (e : Ending) (w' : World) : Prop :=
  ∃ g : Bool, e = .returned (.bool g) ∧ (g = false → total l + l.length ≤ 300000 ∧ l.length ≤ 100) ∧ Below w.heap.size w w'
set_option maxRecDepth 100000 in
set_option maxHeartbeats 4000000 in
theorem great_any (a : Option Addr) (len cap : Nat) (l : List Chk) (w : World) (h : ChunksAt (· < w.heap.size) w a l) (hs : Sized l) (hlen : len = l.length) :
    Calls Try.prog 32 #[.slice a len cap] w (Greats l w) := by
  subst hlen
  have H := hidden h
  have HS := hidden hs
  have hl := hs.1
  clear h hs
  go_enter Try.func32, Try.ntmps32
  go_wp2_with fail
  go_loopw [3, 10] (fun s3 s10 wr => ∃ (k : Nat) (z : Int), s10 = .int .i64 k ∧ k ≤ l.length ∧ s3 = .int .i64 z ∧ (l.length ≤ 100 → z = total (l.take k) + l.length ∧ total (l.take k) ≤ k * 140737488351232) ∧ Below w.heap.size w wr) (fun _ s10 _ => l.length - (intOf s10).toNat)
  case atStart => exact ⟨0, l.length, rfl, by omega, rfl, fun _ => ⟨by simp [total], by simp [total]⟩, Below.refl _ _⟩
  case round =>
    obtain ⟨k, z, rfl, hk, rfl, hz, hb⟩ := hrel
    have HZ := hidden hz
    have HB := hidden hb
    clear hz hb
    by_cases hlt : k < l.length
    · obtain ⟨b, o, d, cap', rfl, c0, c1, h1, h2, h3, h4, h5⟩ := H.out.below HB.out k hlt
      have HT := hidden (take_snoc' l hlt)
      have HC := hidden (HS.out.2 _ (List.getElem_mem hlt))
      generalize l[k] = c at c0 c1 h1 h3 HT HC
      have hcl := HC.out.2
      clear h3 h5
      go_wp2_with fail
      refine ⟨⟨k + 1, _, by go_num, by omega, rfl, fun h100 => ?_, HB.out.alloc HB.out.size _⟩, by simp [intOf]; omega⟩
      obtain ⟨hz1, hz2⟩ := HZ.out h100
      rw [HT.out, total_snoc]
      refine ⟨?_, by omega⟩
      subst hz1
      unfold wrap64
      omega
    · have hk' : k = l.length := by omega
      have HK := hidden hk'
      clear hk'
      by_cases h1 : 300000 < z
      · go_wp2_with fail
        go_ret
        exact ⟨true, rfl, (fun h => by cases h), HB.out⟩
      · by_cases h2 : 100 < l.length
        · have h2' : (100 : Int) < (l.length : Int) := by omega
          go_wp2_with fail
          go_ret
          exact ⟨true, rfl, (fun h => by cases h), HB.out⟩
        · have h2' : ¬ (100 : Int) < (l.length : Int) := by omega
          have h2'' : decide ((100 : Int) < (l.length : Int)) = false := by simpa using h2'
          go_wp2_with fail
          go_ret
          refine ⟨false, rfl, fun _ => ?_, HB.out⟩
          obtain ⟨hz1, -⟩ := HZ.out (by omega)
          rw [HK.out, List.take_length] at hz1
          omega
end Go.Proofs.Ytekmjegeiminnaa

/- The errors of chunks: may, walked. -/
namespace Go.Proofs.Ytekmjegeiminnaa
open Go.RowKit
open Go.Maps (Keyed IsMap string_keyed)
set_option linter.unusedVariables false
set_option linter.unusedSimpArgs false

def tags (l : List Chk) : List (List UInt8) := l.map (·.1)
def cnt (t : List UInt8) (ts : List (List UInt8)) : Nat := (ts.filter (· == t)).length
def dupB (ts : List (List UInt8)) : Bool := !decide ts.Nodup
def goodAll (l : List Chk) : Bool := l.all fun c => goodB c.1
/-- The error's number of chunks. -/
def mayE (l : List Chk) : Nat := if goodAll l = false then 8 else if dupB (tags l) = true then 7 else if 32 < l.length ∨ 131072 < total l then 9 else 0
def roomOf (t : Nat) : Int := if t ≤ 131072 then 131072 - t else -1

theorem cnt_snoc (t u : List UInt8) (ts : List (List UInt8)) : cnt t (ts ++ [u]) = cnt t ts + if u = t then 1 else 0 := by
  unfold cnt
  rw [List.filter_append, List.length_append]
  by_cases h : u = t <;> simp [h]
theorem cnt_pos (t : List UInt8) (ts : List (List UInt8)) : 0 < cnt t ts ↔ t ∈ ts := by
  unfold cnt
  rw [List.length_pos_iff]
  constructor
  · intro h
    obtain ⟨x, hx⟩ := List.exists_mem_of_ne_nil _ h
    rw [List.mem_filter] at hx
    simp at hx; rw [← hx.2]; exact hx.1
  · intro h e
    have : t ∈ ts.filter (· == t) := by rw [List.mem_filter]; exact ⟨h, by simp⟩
    rw [e] at this; cases this
theorem cnt_le (t : List UInt8) (ts : List (List UInt8)) : cnt t ts ≤ ts.length := List.length_filter_le _ _
theorem dup_snoc (ts : List (List UInt8)) (t : List UInt8) : dupB (ts ++ [t]) = (dupB ts || decide (1 < (cnt t ts : Int) + 1)) := by
  unfold dupB
  rw [Bool.eq_iff_iff]
  simp only [Bool.not_eq_true', decide_eq_false_iff_not, Bool.or_eq_true, decide_eq_true_iff]
  rw [List.nodup_append]
  have h1 : (1 < (cnt t ts : Int) + 1) ↔ t ∈ ts := by rw [← cnt_pos]; omega
  rw [h1]
  constructor
  · intro h
    by_cases h2 : t ∈ ts
    · exact .inr h2
    · left; intro h3; exact h ⟨h3, by simp, fun a ha b hb => by simp at hb; subst hb; intro e; subst e; exact h2 ha⟩
  · rintro (h | h) ⟨h3, _, h4⟩
    · exact h h3
    · exact h4 t h t (by simp) rfl
theorem roomOf_add (t n : Nat) : roomOf (t + n) = if roomOf t < (n : Int) then -1 else roomOf t - n := by
  unfold roomOf
  split <;> split <;> split <;> omega

/-- The map of the tags' counts. -/
def TagMap (B : Nat) (w : World) (k : Nat) (ts : List (List UInt8)) : Prop :=
  ∃ D : DataW Unit, w.ownsMap Try.prog 9 (plainElem Try.prog 3) B k D ∧ IsMap D ∧ ∀ t : List UInt8, D.atKey (.string t) (.lit (.int .i64 0)) = .lit (.int .i64 (cnt t ts : Nat))
theorem law9 : Keyed Try.prog 9 := string_keyed Try.underlying9
theorem zero3 (w : World) : (zeroValue 3).run Try.prog w = .ok (.int .i64 0) w := by kernel_rfl
theorem key9 (t : List UInt8) (h : t.length ≤ maxLen) : keyOf Try.prog 9 (.string (strOf t)) = some (.string t) := WideMaps.keyOf_string_mk Try.underlying9 (s := strOf t) h
theorem strOf_size {t : List UInt8} (h : t.length ≤ 140737488351232) : ((strOf t).size : Int) ≤ 9223372036854775807 := by
  have : (strOf t).size = t.length := by simp [ByteArray.size]
  omega
set_option maxRecDepth 100000 in
theorem TagMap.look {B k : Nat} {w : World} {ts : List (List UInt8)} (h : TagMap B w k ts) (t : List UInt8) (ht : t.length ≤ maxLen) : (Instr.lookup 173 (.map (some B)) (.string (strOf t)) false).run Try.prog w = .ok (.int .i64 (cnt t ts : Nat)) w := by
  obtain ⟨D, hown, _, hat⟩ := h
  obtain ⟨c, hrun, hc, _⟩ := hown.lookup_int law9 Try.underlying173 Try.underlying3 (zero3 _) (key9 t ht)
  rw [hat t] at hc
  injection hc with hc
  injection hc with _ hc
  rw [hrun, hc]
theorem TagMap.kept {B k : Nat} {w w' : World} {ts : List (List UInt8)} (h : TagMap B w k ts) (hb : Below w.heap.size w w') : TagMap B w' k ts := by
  obtain ⟨D, hown, h1, h2⟩ := h
  exact ⟨D, hown.kept (below_grown hb none) (by simp), h1, h2⟩
theorem TagMap.step {B k : Nat} {w : World} {ts : List (List UInt8)} (h : TagMap B w k ts) (hk : k < maxLen) (hl : ts.length ≤ 140737488351232) (t : List UInt8) (ht : t.length ≤ maxLen) :
    ∃ w', (Instr.mapUpdate 173 (.map (some B)) (.string (strOf t)) (.int .i64 ((cnt t ts : Nat) + 1))).run Try.prog w = .ok () w' ∧ TagMap B w' (k + 1) (ts ++ [t]) ∧ w.grownBy w' (some B) := by
  obtain ⟨D, hown, h1, h2⟩ := h
  have hc := cnt_le t ts
  obtain ⟨w', hrun, ho, hg⟩ := hown.update law9 Try.underlying173 hk (key9 t ht) (plainElem_int Try.underlying3 (WalkArith.wf_i64 ⟨by omega, by omega⟩ : (Lit.int .i64 ((cnt t ts : Nat) + 1 : Int)).wf = true))
  refine ⟨w', hrun, ⟨_, ho, h1.put _ _, fun u => ?_⟩, hg⟩
  by_cases he : u = t
  · subst he
    rw [Maps.atKey_put_same h1 (k := .string u) trivial, cnt_snoc, if_pos rfl]; rfl
  · rw [Maps.atKey_put_other (fun e => he (by injection e)), h2, cnt_snoc, if_neg (fun e => he e.symm)]; rfl

set_option maxRecDepth 100000 in
set_option maxHeartbeats 8000000 in
theorem may_any (a : Option Addr) (len cap : Nat) (l : List Chk) (w : World) (h : ChunksAt (· < w.heap.size) w a l) (hs : Sized l) (hlen : len = l.length) :
    Calls Try.prog 75 #[.slice a len cap] w fun e w' => e = .returned (.int .i64 (mayE l : Nat)) ∧ Below w.heap.size w w' := by
  subst hlen
  have H := hidden h
  have HS := hidden hs
  have hl := hs.1
  have hmm := @run_makeMap Try.prog
  have HM0 : Hid (TagMap w.heap.size (w.alloc (.map #[] 0)) 0 []) := hidden ⟨.map [], World.ownsMap_made _ _ _ _, ⟨_, rfl⟩, fun t => rfl⟩
  clear h hs
  go_enter Try.func75, Try.ntmps75
  go_wp2_with fail
  clear hmm
  go_loopw [4, 5, 11] (fun s4 s5 s11 wr => ∃ (k : Nat) (tw : Bool), s11 = .int .i64 k ∧ k ≤ l.length ∧ s4 = .int .i64 (roomOf (total (l.take k))) ∧ s5 = .bool tw ∧ tw = dupB (tags (l.take k)) ∧ goodAll (l.take k) = true ∧ TagMap w.heap.size wr k (tags (l.take k)) ∧ Below w.heap.size w wr ∧ w.heap.size < wr.heap.size) (fun _ _ s11 _ => l.length - (intOf s11).toNat)
  case atStart => exact ⟨0, false, rfl, by omega, rfl, rfl, rfl, rfl, HM0.out, (Below.refl _ _).alloc (Nat.le_refl _) _, by simp⟩
  case round =>
    obtain ⟨k, tw, rfl, hk, rfl, rfl, htw, hga, htm, hb, hsz⟩ := hrel
    have HTW := hidden htw
    have HGA := hidden hga
    have HTM := hidden htm
    have HB := hidden hb
    clear htw hga htm hb
    by_cases hlt : k < l.length
    · obtain ⟨b, o, d, cap', rfl, c0, c1, h1, h2, h3, h4, h5⟩ := H.out.below HB.out k hlt
      have HT := hidden (take_snoc' l hlt)
      have HC := hidden (HS.out.2 _ (List.getElem_mem hlt))
      generalize l[k] = c at c0 c1 h1 h3 HT HC
      obtain ⟨hc1, hc2⟩ := HC.out
      clear h3 h5
      have BA : Hid (Below wr.heap.size wr (wr.alloc (.cells #[.string (strOf c.1), .slice d c.2.length cap'] 121))) := hidden ((Below.refl _ _).alloc (Nat.le_refl _) _)
      go_wp2_with fail
      with_reducible refine (good_any (strOf c.1) _ (strOf_size hc1)).mono ?_
      rintro e w1 ⟨rfl, hg1⟩
      have B1 := hidden (BA.out.trans (hg1.mono (by simp)))
      have v0 : w1.cell? ⟨wr.heap.size, 0, none⟩ = some (.string (strOf c.1)) := (hg1.cell (by simp)).trans (by rw [World.cell?_alloc_at _ _ _ _ rfl]; rfl)
      have v1 : w1.cell? ⟨wr.heap.size, 1, none⟩ = some (.slice d c.2.length cap') := (hg1.cell (by simp)).trans (by rw [World.cell?_alloc_at _ _ _ _ rfl]; rfl)
      have T1 := hidden (HTM.out.kept B1.out)
      have Z1 : wr.heap.size + 1 ≤ w1.heap.size := by have := hg1.size; simpa using this
      clear hg1 BA c0 c1
      generalize hgd : goodB (strOf c.1).data.toList = gd
      have HGD : Hid (goodB c.1 = gd) := hidden hgd
      clear hgd
      cases gd
      · have HE : Hid (mayE l = 8) := hidden (by
          unfold mayE
          rw [if_pos]
          unfold goodAll
          rw [List.all_eq_false]
          have hm : c ∈ l.take (k + 1) := by rw [HT.out]; simp
          exact ⟨c, List.mem_of_mem_take hm, by rw [HGD.out]; decide⟩)
        have BE := hidden (HB.out.trans (B1.out.mono HB.out.size))
        go_wp2_with fail
        go_ret
        exact ⟨by rw [HE.out]; rfl, BE.out⟩
      · have hcl := cnt_le c.1 (tags (l.take k))
        have hcl2 : (tags (l.take k)).length = k := by simp [tags]; omega
        have hct : cnt c.1 (tags (l.take k)) ≤ 140737488351232 := by omega
        have hlook := T1.out.look c.1 (by unfold maxLen; omega)
        obtain ⟨w2, hupd, T2, hg2⟩ := T1.out.step (by unfold maxLen; omega) (by omega) c.1 (by unfold maxLen; omega)
        have hlook2 := T2.look c.1 (by unfold maxLen; omega)
        rw [cnt_snoc, if_pos rfl] at hlook2
        have HT2 := hidden T2
        have U2 := Upd.ofGrown hg2
        have w0 := U2.cell v0 (by simp; omega)
        have w1' := U2.cell v1 (by simp; omega)
        have B2 : Hid (Below w.heap.size w w2) := hidden ((HB.out.trans (B1.out.mono HB.out.size)).grown hg2 (by have := HB.out.size; omega) (fun j hj => by cases hj; exact Nat.le_refl _))
        have Z2 := Nat.le_trans Z1 U2.size
        clear hcl hcl2 T2 hg2 U2 T1
        have HDUP := hidden (dup_snoc (tags (l.take k)) c.1)
        have HROOM := hidden (roomOf_add (total (l.take k)) c.2.length)
        have hrm : -1 ≤ roomOf (total (l.take k)) ∧ roomOf (total (l.take k)) ≤ 131072 := by unfold roomOf; split <;> omega
        generalize cnt c.1 (tags (l.take k)) = n at hct hlook hupd hlook2 HDUP
        have hpush : (((n + 1 : Nat)) : Int) = (n : Int) + 1 := by omega
        rw [hpush] at hlook2
        clear hpush
        generalize hr : roomOf (total (l.take k)) = r at hrm HROOM
        have HR := hidden hr
        clear hr
        have HTAGS : Hid (tags (l.take (k + 1)) = tags (l.take k) ++ [c.1]) := hidden (by rw [HT.out]; simp [tags])
        have HGA2 : Hid (goodAll (l.take (k + 1)) = true) := hidden (by rw [HT.out]; unfold goodAll at *; rw [List.all_append, HGA.out]; simp [HGD.out])
        have HTOT : Hid (total (l.take (k + 1)) = total (l.take k) + c.2.length) := hidden (by rw [HT.out, total_snoc])
        have HM2 : Hid (TagMap w.heap.size w2 (k + 1) (tags (l.take (k + 1)))) := hidden (by rw [HTAGS.out]; exact HT2.out)
        by_cases hrl : r < (c.2.length : Int)
        · have HRN : Hid (roomOf (total (l.take (k + 1))) = -1) := hidden (by rw [HTOT.out, HROOM.out, if_pos hrl])
          cases tw
          · have HTN : Hid (decide (1 < (n : Int) + 1) = dupB (tags (l.take (k + 1)))) := hidden (by rw [HTAGS.out, HDUP.out, ← HTW.out, Bool.false_or])
            go_wp2_with fail
            exact ⟨⟨k + 1, _, by go_num, by omega, by rw [HRN.out], rfl, HTN.out, HGA2.out, HM2.out, B2.out, by omega⟩, by simp [intOf]; omega⟩
          · have HTN : Hid (true = dupB (tags (l.take (k + 1)))) := hidden (by rw [HTAGS.out, HDUP.out, ← HTW.out, Bool.true_or])
            go_wp2_with fail
            exact ⟨⟨k + 1, _, by go_num, by omega, by rw [HRN.out], rfl, HTN.out, HGA2.out, HM2.out, B2.out, by omega⟩, by simp [intOf]; omega⟩
        · have HRN : Hid (roomOf (total (l.take (k + 1))) = r - c.2.length) := hidden (by rw [HTOT.out, HROOM.out, if_neg hrl])
          have hr0 : 0 ≤ r := by omega
          cases tw
          · have HTN : Hid (decide (1 < (n : Int) + 1) = dupB (tags (l.take (k + 1)))) := hidden (by rw [HTAGS.out, HDUP.out, ← HTW.out, Bool.false_or])
            go_wp2_with fail
            exact ⟨⟨k + 1, _, by go_num, by omega, by rw [HRN.out], rfl, HTN.out, HGA2.out, HM2.out, B2.out, by omega⟩, by simp [intOf]; omega⟩
          · have HTN : Hid (true = dupB (tags (l.take (k + 1)))) := hidden (by rw [HTAGS.out, HDUP.out, ← HTW.out, Bool.true_or])
            go_wp2_with fail
            exact ⟨⟨k + 1, _, by go_num, by omega, by rw [HRN.out], rfl, HTN.out, HGA2.out, HM2.out, B2.out, by omega⟩, by simp [intOf]; omega⟩
    · have hk' : k = l.length := by omega
      subst hk'
      have HD : Hid (tw = dupB (tags l)) := hidden (by have := HTW.out; rw [List.take_length] at this; exact this)
      have HG : Hid (goodAll l = true) := hidden (by have := HGA.out; rw [List.take_length] at this; exact this)
      have hrm : -1 ≤ roomOf (total (l.take l.length)) ∧ (roomOf (total (l.take l.length)) < 0 ↔ 131072 < total l) := by rw [List.take_length]; unfold roomOf; split <;> omega
      generalize roomOf (total (l.take l.length)) = r at hrm
      obtain ⟨hr1, hr2⟩ := hrm
      have HR := hidden hr2
      clear hr2
      cases tw
      · by_cases h32 : 32 < l.length
        · have HE : Hid (mayE l = 9) := hidden (by unfold mayE; rw [if_neg (by rw [HG.out]; decide), if_neg (by rw [← HD.out]; decide), if_pos (.inl h32)])
          have h32' : (32 : Int) < (l.length : Int) := by omega
          go_wp2_with fail
          go_ret
          exact ⟨by rw [HE.out]; rfl, HB.out⟩
        · have h32' : ¬ (32 : Int) < (l.length : Int) := by omega
          by_cases hr0 : r < 0
          · have HE : Hid (mayE l = 9) := hidden (by unfold mayE; rw [if_neg (by rw [HG.out]; decide), if_neg (by rw [← HD.out]; decide), if_pos (.inr (HR.out.1 hr0))])
            go_wp2_with fail
            go_ret
            exact ⟨by rw [HE.out]; rfl, HB.out⟩
          · have HE : Hid (mayE l = 0) := hidden (by
              unfold mayE; rw [if_neg (by rw [HG.out]; decide), if_neg (by rw [← HD.out]; decide), if_neg]
              rintro (h | h)
              · exact h32 h
              · exact hr0 (HR.out.2 h))
            go_wp2_with fail
            go_ret
            exact ⟨by rw [HE.out]; rfl, HB.out⟩
      · have HE : Hid (mayE l = 7) := hidden (by unfold mayE; rw [if_neg (by rw [HG.out]; decide), if_pos (by rw [← HD.out])])
        go_wp2_with fail
        go_ret
        exact ⟨by rw [HE.out]; rfl, HB.out⟩
end Go.Proofs.Ytekmjegeiminnaa

/- box's numbers in four bytes, Ids, HasPrefix, walked; appends of texts. -/
namespace Go.Proofs.Ytekmjegeiminnaa
open Go.RowKit
set_option linter.unusedVariables false
set_option linter.unusedSimpArgs false

theorem strCells_of (t : List UInt8) : Lib.strCells (strOf t) = byteVs t := by simp [Lib.strCells, byteVs, bV]
theorem size_strOf (t : List UInt8) : (strOf t).size = t.length := by simp [ByteArray.size]
/-- An append of a text's bytes onto a row of the calls' own: its run. -/
theorem run_append_S {w : World} {ty : TypeId} {B : Nat} {v : Value} {bs t : List UInt8} (ho : OwnB B w v bs) (hl : bs.length + t.length ≤ 140737488355328) (hB : B ≤ w.heap.size) :
    ∃ v' w', (Builtin.append_ #[22, 9] ty #[v, .string (strOf t)]).run Try.prog w = .ok v' w' ∧ Grew B v v' (bs ++ t) w w' := by
  obtain ⟨i0, hi, hz0, hz1, hz2⟩ := info_parts Try.info5
  have hsz := size_strOf t
  obtain ⟨v', w', hr, h2, h3, h4⟩ := Lib.run_append_own_string (P := Try.prog) w B 22 9 ty 5 i0 Try.underlying22 Try.underlying9 hi hz0 hz1 hz2 v bs.length (byteVs bs) ho (strOf t) (by rw [hsz]; unfold maxLen; omega) (by rw [hsz]; omega) hB
  have hat : v'.ownBlock = v.ownBlock ∨ ∃ g, v'.ownBlock = some g ∧ w.heap.size ≤ g := by
    rcases ho.2 with ⟨rfl, hn⟩ | ⟨g, cap, cur, rfl, hb, hg, hnc, hcm, hcs, htake⟩
    · by_cases hm : (strOf t).size = 0
      · left; rw [h4.2 ⟨rfl, hm⟩]
      · have hr2 := run_append_nil_string (P := Try.prog) w 22 9 ty 5 i0 (.int .u8 0) Try.underlying22 Try.underlying9 hi hz0 (strOf t) (by omega) (by omega) (by rw [hz2]; omega)
        rw [hr2] at hr
        injection hr with hr _
        subst hr
        exact .inr ⟨_, rfl, Nat.le_refl _⟩
    · by_cases hroom : bs.length + (strOf t).size ≤ cap
      · have hr2 := Lib.run_append_room_string (P := Try.prog) w 22 9 ty 5 i0 Try.underlying22 Try.underlying9 hi hz1 g bs.length cap cur hg (strOf t) hroom (by omega)
        rw [hr2] at hr
        injection hr with hr _
        subst hr
        exact .inl rfl
      · have holds : ∀ j u, (byteVs bs)[j]? = some u → w.cell? ((⟨g, 0, none⟩ : Addr).add j) = some u := World.ownsRow.cells (g := g) ho rfl
        have hr2 := Lib.run_append_grow_string (P := Try.prog) w 22 9 ty 5 i0 (.int .u8 0) Try.underlying22 Try.underlying9 hi hz0 ⟨g, 0, none⟩ bs.length cap (byteVs bs) (by rw [hz1, byteVs_length, Nat.mul_one]) holds (strOf t) (by omega) (by omega) (by rw [hz2]; exact growslice_fits (by omega) (by omega))
        rw [hr2] at hr
        injection hr with hr _
        subst hr
        exact .inr ⟨_, rfl, Nat.le_refl _⟩
  refine ⟨v', w', hr, ?_, Upd.ofGrown h3, hat⟩
  rw [hsz, strCells_of] at h2
  unfold OwnB
  rw [List.length_append, byteVs_append]
  exact h2
theorem wp_append_S {o : Oper} {a : Act} {K : Act → World → Prop} {Q : Exit → Act → World → Prop} {w : World} (s x : Operand)
    (hop : o.op = .call { callee := .builtin .append, args := #[s, x], argTypes := #[22, 9] })
    {B : Nat} {v : Value} {bs t : List UInt8} (hs : a.eval s = v) (ho : OwnB B w v bs) (hx : a.eval x = .string (strOf t))
    (hl : bs.length + t.length ≤ 140737488355328) (hB : B ≤ w.heap.size) (h : ∀ v' w', Grew B v v' (bs ++ t) w w' → K (a.put o.dst v') w') : o.wp Try.prog a w K Q := by
  obtain ⟨v', w', hrun, hg⟩ := run_append_S (ty := o.type) (t := t) ho hl hB
  unfold Oper.wp execOp
  simp only [hop, resolve, invoke, builtin, Sem.run_bind, Sem.run_pure, Result.andThen_ok, List.map_toArray, List.map_cons, List.map_nil, hs, hx, hrun]
  exact h v' w' hg
theorem wpList_append_S {ops : Array Oper} {rest : List Oper} {o : Oper} {a : Act} {Q : Exit → Act → World → Prop} {w : World} (hgd : o.guard = none) (s x : Operand)
    (hop : o.op = .call { callee := .builtin .append, args := #[s, x], argTypes := #[22, 9] })
    {B : Nat} {v : Value} {bs t : List UInt8} (hs : a.eval s = v) (ho : OwnB B w v bs) (hx : a.eval x = .string (strOf t))
    (hl : bs.length + t.length ≤ 140737488355328) (hB : B ≤ w.heap.size) (h : ∀ v' w', Grew B v v' (bs ++ t) w w' → wpList Try.prog ops Q rest (a.put o.dst v') w') : wpList Try.prog ops Q (o :: rest) a w :=
  wpList_plain hgd fun _ hK => wp_append_S s x hop hs ho hx hl hB fun v' w' hg => hK _ _ (h v' w' hg)
theorem step_append_S {ops : Array Oper} {o : Oper} {a : Act} {K : Act → World → Prop} {Q : Exit → Act → World → Prop} {E : Prop} {w : World} (hgd : o.guard = none) (s x : Operand)
    (hop : o.op = .call { callee := .builtin .append, args := #[s, x], argTypes := #[22, 9] })
    {B : Nat} {v : Value} {bs t : List UInt8} (hs : a.eval s = v) (ho : OwnB B w v bs) (hx : a.eval x = .string (strOf t))
    (hl : bs.length + t.length ≤ 140737488355328) (hB : B ≤ w.heap.size) (h : ∀ v' w', Grew B v v' (bs ++ t) w w' → K (a.put o.dst v') w') :
    if Region.wanted o (yielded ops a.tmps) = true then Oper.wp Try.prog o a w K Q else E := by
  have hw : Region.wanted o (yielded ops a.tmps) = true := by simp [Region.wanted, hgd]
  rw [if_pos hw]
  exact wp_append_S s x hop hs ho hx hl hB h

set_option maxRecDepth 100000 in
set_option maxHeartbeats 4000000 in
theorem four_box (B : Nat) (v : Value) (bs : List UInt8) (n : Nat) (w : World) (hn : n < 4294967296) (ho : OwnB B w v bs) (hB : B ≤ w.heap.size) (hl : bs.length ≤ 1000000000) :
    Calls Try.prog 76 #[v, .int .i64 n] w fun e w' => ∃ v', e = .returned v' ∧ Grew B v v' (bs ++ le4 n) w w' := by
  obtain ⟨i0, hi, hz0, hz1, hz2⟩ := info_parts Try.info5
  have HO := hidden ho
  clear ho
  go_enter Try.func76, Try.ntmps76
  go_wp2_with (at_builtin; go_loud (refine wpList_append_own_at _ rfl (.tmp 5) (.tmp 17) 22 rfl B 5 i0 (.int .u8 0) 1 1 Try.underlying22 hi hz0 hz1 hz2 rfl (by decide) v bs.length (byteVs bs) rfl (HO.out.on (M := fun _ => False) (Upd.new _ _) (fun _ _ h => h)) ⟨w.heap.size, 0, none⟩ 4 4 [.int .u8 ((n : Int) % 256), .int .u8 ((n : Int) / 256 % 256), .int .u8 ((n : Int) / 65536 % 256), .int .u8 ((n : Int) / 16777216)] rfl rfl (news_at #[.int .u8 ((n : Int) % 256), .int .u8 ((n : Int) / 256 % 256), .int .u8 ((n : Int) / 65536 % 256), .int .u8 ((n : Int) / 16777216)] rfl) (four_ones _ _ _ _) (by unfold maxLen; omega) (by omega) (by simp; omega) ?_); intro v' w1 hown' hgrow hnil hblk)
  go_ret
  rw [← le4_vals n hn] at hown'
  exact ⟨v', rfl, Grew.mk' (Upd.new _ _) (fun k hk => (HO.out.lt k hk).2) hown' rfl hgrow hblk⟩
theorem ret_i64 {a b : Int} (h : a = b) : Ending.returned (.int .i64 a) = .returned (.int .i64 b) := by rw [h]
theorem ofInt_i64 (a : Nat) (ha : a < 9223372036854775808) : (BitVec.ofInt 64 (a : Int)).toNat = a := by
  rw [BitVec.ofInt_natCast, BitVec.toNat_ofNat]; exact Nat.mod_eq_of_lt (by omega)
theorem i64_or_nat (a b : Nat) (ha : a < 9223372036854775808) (hb : b < 9223372036854775808) : bits .or .i64 (a : Int) (b : Int) = ((a ||| b : Nat) : Int) := by
  have hx : a ||| b < 2 ^ 63 := Nat.or_lt_two_pow (by omega) (by omega)
  show IntKind.i64.wrap ((BitVec.ofInt 64 (a : Int) ||| BitVec.ofInt 64 (b : Int)).toNat : Int) = _
  rw [BitVec.toNat_or, ofInt_i64 a ha, ofInt_i64 b hb, IntKind.wrap_i64]
  omega
theorem or_add64 {c k x : Nat} (hk : k < 4) (hc : c < 256 ^ k) (hx : x < 256) : bits .or .i64 (c : Int) ((x * 256 ^ k : Nat) : Int) = ((c + x * 256 ^ k : Nat) : Int) := by
  have hp : 256 ^ k ≤ 16777216 := by
    have : 256 ^ k ≤ 256 ^ 3 := Nat.pow_le_pow_right (by decide) (by omega)
    simpa using this
  have hm : x * 256 ^ k ≤ 255 * 16777216 := Nat.mul_le_mul (by omega) hp
  rw [i64_or_nat _ _ (by omega) (by omega)]
  have h := Nat.shiftLeft_add_eq_or_of_lt (b := c) (i := 8 * k) (by rw [pow_256]; exact hc) x
  rw [Nat.shiftLeft_eq, pow_256] at h
  rw [Nat.or_comm, ← h, Nat.add_comm]
set_option maxRecDepth 100000 in
set_option maxHeartbeats 4000000 in
theorem fourth_box (a : Option Addr) (len cap : Nat) (bs : List UInt8) (w : World) (h : BytesAt w a bs) (h4 : 4 ≤ bs.length) (hlen : len = bs.length) (hl : len ≤ 140737488351232) :
    Calls Try.prog 78 #[.slice a len cap] w fun e w' => e = .returned (.int .i64 (ofLe (bs.take 4) : Nat)) ∧ ∃ n, w' = w.drewN n := by
  subst hlen
  obtain ⟨b, o, rfl, c0⟩ := h 0 (by omega)
  obtain ⟨b1, o1, e1, c1⟩ := h 1 (by omega)
  obtain ⟨b2, o2, e2, c2⟩ := h 2 (by omega)
  obtain ⟨b3, o3, e3, c3⟩ := h 3 (by omega)
  cases e1; cases e2; cases e3
  rw [Nat.add_zero] at c0
  have hx0 := bs[0].toNat_lt
  have hx1 := bs[1].toNat_lt
  have hx2 := bs[2].toNat_lt
  have hx3 := bs[3].toNat_lt
  have HT : Hid (bs.take 4 = [bs[0], bs[1], bs[2], bs[3]]) := by
    exact take_four h4
  generalize bs[0] = x0 at *
  generalize bs[1] = x1 at *
  generalize bs[2] = x2 at *
  generalize bs[3] = x3 at *
  have i0 : (0 : Int) < (bs.length : Int) := by omega
  have i1 : (1 : Int) < (bs.length : Int) := by omega
  have i2 : (2 : Int) < (bs.length : Int) := by omega
  have i3 : (3 : Int) < (bs.length : Int) := by omega
  clear h
  go_enter Try.func78, Try.ntmps78
  go_wp2_with fail
  go_quiet (fail)
  go_wp2
  go_ret
  refine ⟨ret_i64 ?_, _, rfl⟩
  have q1 : bits .or .i64 (x0.toNat : Int) ((x1.toNat : Int) * 256) = ((x0.toNat + x1.toNat * 256 : Nat) : Int) := or_add64 (k := 1) (c := x0.toNat) (x := x1.toNat) (by omega) (by simpa using hx0) (by simpa using hx1)
  have q2 : bits .or .i64 ((x0.toNat + x1.toNat * 256 : Nat) : Int) ((x2.toNat : Int) * 65536) = ((x0.toNat + x1.toNat * 256 + x2.toNat * 65536 : Nat) : Int) := or_add64 (k := 2) (x := x2.toNat) (by omega) (by simp at hx0 hx1 ⊢; omega) (by simpa using hx2)
  have q3 : bits .or .i64 ((x0.toNat + x1.toNat * 256 + x2.toNat * 65536 : Nat) : Int) ((x3.toNat : Int) * 16777216) = ((x0.toNat + x1.toNat * 256 + x2.toNat * 65536 + x3.toNat * 16777216 : Nat) : Int) := or_add64 (k := 3) (x := x3.toNat) (by omega) (by simp at hx0 hx1 hx2 ⊢; omega) (by simpa using hx3)
  rw [q1, q2, q3, HT.out]
  simp only [ofLe]; omega
set_option maxRecDepth 100000 in
set_option maxHeartbeats 4000000 in
theorem hasprefix_any (bs pre : List UInt8) (w : World) (hs : bs.length ≤ 140737488351232) (ht : pre.length ≤ 140737488351232) :
    Calls Try.prog 77 #[.string (strOf bs), .string (strOf pre)] w fun e w' => e = .returned (.bool (bs.take pre.length == pre)) ∧ w = w' := by
  have z1 := size_strOf bs
  have z2 := size_strOf pre
  have HE : Hid (∀ n, n ≤ bs.length → (strOf bs).extract 0 n = strOf (bs.take n)) := hidden (fun n hn => by
    apply ByteArray.ext
    simp [ByteArray.data_extract])
  go_enter Try.func77, Try.ntmps77
  go_wp2_with fail
  refine Calls.mono (R := fun e w' => e = .returned (.bool (bs.take pre.length == pre)) ∧ w = w') ?_ ?_
  · by_cases hle : pre.length ≤ bs.length
    · go_enter Try.func105, Try.ntmps105
      go_wp2_with fail
      go_ret
      refine ⟨?_, rfl⟩
      have e : (((strOf bs).extract 0 pre.length).toList == pre) = (bs.take pre.length == pre) := by rw [HE.out _ hle, ByteArray.toList_eq]
      rw [← e]; rfl
    · have e : (bs.take pre.length == pre) = false := by
        rw [beq_eq_false_iff_ne]; intro h
        have := congrArg List.length h
        rw [List.length_take] at this; omega
      have HF := hidden e
      clear e
      go_enter Try.func105, Try.ntmps105
      go_wp2_with fail
      go_ret
      exact ⟨by rw [HF.out]; rfl, rfl⟩
  · rintro e w1 ⟨rfl, rfl⟩
    go_wp2_with fail
    go_ret
    exact ⟨rfl, rfl⟩

set_option maxRecDepth 100000 in
set_option maxHeartbeats 4000000 in
theorem id_any (a : Option Addr) (len cap : Nat) (bs : List UInt8) (w : World) (h : BytesAt w a bs) (hlen : len = bs.length) (hl : len ≤ 140737488351232) :
    Calls Try.prog 39 #[.slice a len cap] w fun e w' => e = .returned (.int .i64 (crc32 bs : Nat)) ∧ w = w' := by
  subst hlen
  have hcr := crc32_lt bs
  go_enter Try.func39, Try.ntmps39
  go_wp2_with fail
  with_reducible refine (sum_any a _ cap bs w h rfl hl).mono ?_
  rintro e w1 ⟨rfl, rfl⟩
  clear h
  obtain ⟨cr, ecr⟩ : ∃ cr, crc32 bs = cr := ⟨_, rfl⟩
  rw [ecr] at hcr ⊢
  have E := hidden ecr
  clear ecr
  go_wp2_with fail
  go_ret
  exact ⟨by rw [E.out]; rfl, rfl⟩
set_option maxRecDepth 100000 in
set_option maxHeartbeats 4000000 in
theorem id_ref (a : Option Addr) (len cap : Nat) (bs : List UInt8) (w : World) (h : BytesAt w a bs) (hlen : len = bs.length) (hl : len ≤ 140737488351232) :
    Calls Try.prog 40 #[.slice a len cap] w fun e w' => e = .returned (.int .i64 (crc32 bs : Nat)) ∧ w = w' := by
  subst hlen
  have hcr := crc32_lt bs
  go_enter Try.func40, Try.ntmps40
  go_wp2_with fail
  with_reducible refine (sum_ref a _ cap bs w h rfl hl).mono ?_
  rintro e w1 ⟨rfl, rfl⟩
  clear h
  obtain ⟨cr, ecr⟩ : ∃ cr, crc32 bs = cr := ⟨_, rfl⟩
  rw [ecr] at hcr ⊢
  have E := hidden ecr
  clear ecr
  go_wp2_with fail
  go_ret
  exact ⟨by rw [E.out]; rfl, rfl⟩
end Go.Proofs.Ytekmjegeiminnaa

/- A slice of bytes that began as a constant's; appends onto it. What Write answers. -/
namespace Go.Proofs.Ytekmjegeiminnaa
open Go.RowKit
set_option linter.unusedVariables false
set_option linter.unusedSimpArgs false

def magicL : List UInt8 := [79, 67, 84, 65, 86, 79, 49, 10]
def dirOne (c : Chk) : List UInt8 := c.1 ++ le4 c.2.length ++ le4 (crc32 c.2)
def dirL (l : List Chk) : List UInt8 := (l.map dirOne).flatten
def dataL (l : List Chk) : List UInt8 := (l.map (·.2)).flatten
def writeL (l : List Chk) : List UInt8 := magicL ++ dataL l ++ frameL (dirL l) ++ le4 (frameL (dirL l)).length
theorem dirL_snoc (l : List Chk) (c : Chk) : dirL (l ++ [c]) = dirL l ++ dirOne c := by simp [dirL]
theorem dataL_snoc (l : List Chk) (c : Chk) : dataL (l ++ [c]) = dataL l ++ c.2 := by simp [dataL]
theorem dataL_length (l : List Chk) : (dataL l).length = total l := by
  induction l with
  | nil => rfl
  | cons c r ih => simp only [dataL, total, List.map_cons, List.flatten_cons, List.length_append, List.sum_cons] at ih ⊢; omega
/-- What Write answers. -/
def WriteA (l : List Chk) (w : World) (e : Ending) (w' : World) : Prop :=
  Below w.heap.size w w' ∧ ∃ v, e = .returned (.tuple #[v, .int .i64 (mayE l : Nat)]) ∧ OwnB w.heap.size w' v (if mayE l = 0 then writeL l else [])
theorem may_zero {l : List Chk} (h : mayE l = 0) : goodAll l = true ∧ dupB (tags l) = false ∧ l.length ≤ 32 ∧ total l ≤ 131072 := by
  unfold mayE at h
  split at h
  · cases h
  · rename_i h1
    split at h
    · cases h
    · rename_i h2
      split at h
      · cases h
      · rename_i h3
        exact ⟨by simpa using h1, by simpa using h2, by omega, by omega⟩
theorem good_len {l : List Chk} (h : goodAll l = true) {c : Chk} (hc : c ∈ l) : c.1.length = 4 := by
  unfold goodAll at h
  rw [List.all_eq_true] at h
  have := h c hc
  unfold goodB at this
  rw [Bool.and_eq_true] at this
  exact of_decide_eq_true this.1
theorem dirOne_length {c : Chk} (h : c.1.length = 4) : (dirOne c).length = 12 := by simp [dirOne, h, le4_length]
theorem dirL_length : ∀ {l : List Chk}, (∀ c ∈ l, c.1.length = 4) → (dirL l).length = 12 * l.length
  | [], _ => rfl
  | c :: r, h => by
    have := dirL_length (l := r) (fun x hx => h x (List.mem_cons_of_mem _ hx))
    have h1 := dirOne_length (h c (List.mem_cons_self ..))
    simp only [dirL, List.map_cons, List.flatten_cons, List.length_append, List.length_cons] at this ⊢
    omega
theorem total_take_le (l : List Chk) (k : Nat) : total (l.take k) ≤ total l := by
  have : total (l.take k ++ l.drop k) = total (l.take k) + total (l.drop k) := by
    unfold total; rw [List.map_append, List.sum_append]
  rw [List.take_append_drop] at this
  omega

/-- The slice v owns these bytes; or it is yet the constant's own, whose block bears a mark. -/
def MOwn (B : Nat) (w : World) (v : Value) (bs : List UInt8) : Prop :=
  OwnB B w v bs ∨ (bs = magicL ∧ ∃ g, v = .slice (some ⟨g, 0, none⟩) 8 8 ∧ B ≤ g ∧ w.heap[g]? = some (.cells (byteVs magicL).toArray 5 (8, 9)))
theorem MOwn.lt {B : Nat} {w : World} {v : Value} {bs : List UInt8} (h : MOwn B w v bs) : ∀ k, v.ownBlock = some k → B ≤ k ∧ k < w.heap.size := by
  rcases h with h | ⟨_, g, rfl, hb, hh⟩
  · exact h.lt
  · intro k hk
    simp [Value.ownBlock] at hk
    subst hk
    exact ⟨hb, (Array.getElem?_eq_some_iff.1 hh).1⟩
theorem MOwn.on {B : Nat} {M : Nat → Prop} {w w' : World} {v : Value} {bs : List UInt8} (h : MOwn B w v bs) (hu : Upd M w w') (hm : ∀ k, v.ownBlock = some k → ¬ M k) : MOwn B w' v bs := by
  rcases h with h | ⟨e, g, rfl, hb, hh⟩
  · exact .inl (h.on hu hm)
  · exact .inr ⟨e, g, rfl, hb, by rw [hu.block g (Array.getElem?_eq_some_iff.1 hh).1 (hm g rfl)]; exact hh⟩
/-- What such an append leaves. -/
structure MGrew (B : Nat) (v v' : Value) (bs cs : List UInt8) (w w' : World) : Prop where
  own : MOwn B w' v' (bs ++ cs)
  own' : cs ≠ [] → OwnB B w' v' (bs ++ cs)
  upd : Upd (fun k => some k = v.ownBlock) w w'
  at_ : v'.ownBlock = v.ownBlock ∨ ∃ g, v'.ownBlock = some g ∧ w.heap.size ≤ g
theorem run_append_M {w : World} {ty : TypeId} {B : Nat} {v : Value} {bs cs : List UInt8} (ho : MOwn B w v bs) {A : Option Addr} {m c : Nat} (hm : m = cs.length) (hr : BytesAt w A cs) (hl : bs.length + cs.length ≤ 140737488355328) (hB : B ≤ w.heap.size) :
    ∃ v' w', (Builtin.append_ #[22, 22] ty #[v, .slice A m c]).run Try.prog w = .ok v' w' ∧ MGrew B v v' bs cs w w' := by
  rcases ho with ho | ⟨e, g, rfl, hb, hh⟩
  · obtain ⟨v', w', hrun, hg⟩ := run_append_B (ty := ty) ho (c := c) hm hr hl hB
    exact ⟨v', w', hrun, .inl hg.own, fun _ => hg.own, hg.upd, hg.at_⟩
  · subst e
    subst hm
    obtain ⟨i0, hi, hz0, hz1, hz2⟩ := info_parts Try.info5
    by_cases hn : cs = []
    · subst hn
      refine ⟨_, w, ?_, .inr ⟨by simp, g, rfl, hb, hh⟩, fun h => (h rfl).elim, Upd.refl _ _, .inl rfl⟩
      cases A with
      | none => simp [Builtin.append_, run_underlying Try.underlying22, sizeOf, typeInfo, hi, Builtin.lenOf, Builtin.firstCells, loadCells, loadCellsFrom, storeCells]
      | some A => simp [Builtin.append_, run_underlying Try.underlying22, sizeOf, typeInfo, hi, Builtin.lenOf, Builtin.firstCells, loadCells, loadCellsFrom, storeCells]
    · have hp : 0 < cs.length := List.length_pos_iff.2 hn
      obtain ⟨b, o, rfl, -⟩ := hr 0 hp
      have holds : ∀ j u, (byteVs magicL)[j]? = some u → w.cell? ((⟨g, 0, none⟩ : Addr).add j) = some u := by
        intro j u hj
        have hadd : (⟨g, 0, none⟩ : Addr).add j = ⟨g, j, none⟩ := by unfold Addr.add; split <;> simp_all
        rw [hadd, cell_of_row w g j _ _ _ hh]
        simpa using hj
      have hrr := run_append_grow (P := Try.prog) w 22 ty 5 i0 (.int .u8 0) Try.underlying22 hi hz0 ⟨g, 0, none⟩ 8 8 (byteVs magicL) (by rw [hz1]; rfl) holds ⟨b, o, none⟩ cs.length c (byteVs cs) (by rw [byteVs_length, hz1, Nat.mul_one]) hr.news (by omega) (by simp [magicL] at hl; omega) (growslice_fits (by omega) (by rw [hz2]; simp [magicL] at hl; omega))
      have hgc := grownCap_ge w (8 + cs.length) 8 5
      have hO : OwnB B (w.drew.alloc (.cells ((byteVs magicL).toArray ++ (byteVs cs).toArray ++ Builtin.zeroCells (Value.int .u8 0).cells (grownCap w (8 + cs.length) 8 5 - (8 + cs.length))) 5)) (.slice (some ⟨w.heap.size, 0, none⟩) (8 + cs.length) (grownCap w (8 + cs.length) 8 5)) (magicL ++ cs) := by
        unfold OwnB
        have h8 : magicL.length = 8 := rfl
        rw [List.length_append, byteVs_append, h8]
        refine ⟨by simp [byteVs_length, h8], .inr ⟨w.heap.size, _, _, rfl, hB, heap_alloc_new w.drew _, hgc, grownCap_le_maxLen w _ _ _ (by simp [magicL] at hl; unfold maxLen; omega), ?_, ?_⟩⟩
        · have hz1 : (Value.int IntKind.u8 0).cells.size = 1 := rfl
          simp only [Array.size_append, List.size_toArray, size_zeroCells, hz1, byteVs_length, h8]
          omega
        · simp only [Array.toList_append]
          rw [show (8 + cs.length) * 1 = (byteVs magicL ++ byteVs cs).length by simp [byteVs_length, h8]]
          exact List.take_left
      exact ⟨_, _, hrr, .inl hO, fun _ => hO, ⟨rfl, rfl, rfl, by simp, fun k hk _ => heap_alloc_old w.drew _ hk⟩, .inr ⟨w.heap.size, rfl, Nat.le_refl _⟩⟩
theorem wpList_append_M {ops : Array Oper} {rest : List Oper} {o : Oper} {a : Act} {Q : Exit → Act → World → Prop} {w : World} (hgd : o.guard = none) (s x : Operand)
    (hop : o.op = .call { callee := .builtin .append, args := #[s, x], argTypes := #[22, 22] })
    {B : Nat} {v : Value} {bs cs : List UInt8} (hs : a.eval s = v) (ho : MOwn B w v bs) {A : Option Addr} {m c : Nat} (hx : a.eval x = .slice A m c) (hm : m = cs.length) (hr : BytesAt w A cs)
    (hl : bs.length + cs.length ≤ 140737488355328) (hB : B ≤ w.heap.size) (h : ∀ v' w', MGrew B v v' bs cs w w' → wpList Try.prog ops Q rest (a.put o.dst v') w') : wpList Try.prog ops Q (o :: rest) a w :=
  wpList_plain hgd fun _ hK => by
    obtain ⟨v', w', hrun, hg⟩ := run_append_M (ty := o.type) ho (c := c) hm hr hl hB
    unfold Oper.wp execOp
    simp only [hop, resolve, invoke, builtin, Sem.run_bind, Sem.run_pure, Result.andThen_ok, List.map_toArray, List.map_cons, List.map_nil, hs, hx, hrun]
    exact hK _ _ (h v' w' hg)
end Go.Proofs.Ytekmjegeiminnaa
