/- Chunks in memory; great, walked. -/
import Derived.Test.YtekmjegeiminnaaC1
namespace Go.Proofs.Ytekmjegeiminnaa
open Go.RowKit
set_option linter.unusedVariables false
set_option linter.unusedSimpArgs false

theorem BytesAt.upd0 {M : Nat → Prop} {w w' : World} {a : Option Addr} {bs : List UInt8} (h : BytesAt w a bs) (hu : Upd M w w') (hm : ∀ A, a = some A → 0 < bs.length → ¬ M A.block) : BytesAt w' a bs := fun i hi => by
  obtain ⟨b, o, ha, hc⟩ := h i hi
  exact ⟨b, o, ha, hu.cell hc (by show ¬ M b; exact hm ⟨b, o, none⟩ ha (by omega))⟩
theorem BytesAt.on0 {B : Nat} {w w' : World} {a : Option Addr} {bs : List UInt8} (h : BytesAt w a bs) (hb : Below B w w') (hB : ∀ A, a = some A → 0 < bs.length → A.block < B) : BytesAt w' a bs := fun i hi => by
  obtain ⟨b, o, ha, hc⟩ := h i hi
  exact ⟨b, o, ha, (hb.cell (by show b < B; exact hB ⟨b, o, none⟩ ha (by omega))).trans hc⟩
/-- A chunk: its tag's bytes, its data. -/
abbrev Chk := List UInt8 × List UInt8
/-- The slice's chunks; all blocks that it reaches are such as S says. -/
def ChunksAt (S : Nat → Prop) (w : World) (a : Option Addr) (l : List Chk) : Prop :=
  ∀ (i : Nat) (hi : i < l.length), ∃ b o d cap, a = some ⟨b, o, none⟩ ∧ w.cell? ⟨b, o + i * 2, none⟩ = some (.string (strOf l[i].1)) ∧ w.cell? ⟨b, o + i * 2 + 1, none⟩ = some (.slice d l[i].2.length cap) ∧
    l[i].2.length ≤ cap ∧ (cap : Int) ≤ 9223372036854775807 ∧ BytesAt w d l[i].2 ∧ S b ∧ (∀ A, d = some A → 0 < l[i].2.length → S A.block)
theorem ChunksAt.upd {S M : Nat → Prop} {w w' : World} {a : Option Addr} {l : List Chk} (h : ChunksAt S w a l) (hu : Upd M w w') (hm : ∀ k, S k → ¬ M k) : ChunksAt S w' a l := fun i hi => by
  obtain ⟨b, o, d, cap, ha, c0, c1, h1, h2, h3, h4, h5⟩ := h i hi
  exact ⟨b, o, d, cap, ha, hu.cell c0 (hm _ h4), hu.cell c1 (hm _ h4), h1, h2, h3.upd0 hu (fun A hA h0 => hm _ (h5 A hA h0)), h4, h5⟩
theorem ChunksAt.below {B : Nat} {w w' : World} {a : Option Addr} {l : List Chk} (h : ChunksAt (· < B) w a l) (hb : Below B w w') : ChunksAt (· < B) w' a l :=
  h.upd (Upd.ofBelow hb) (fun k hk h => by omega)
/-- Sizes that a machine can hold. -/
def Sized (l : List Chk) : Prop := l.length ≤ 140737488351232 ∧ ∀ c ∈ l, c.1.length ≤ 140737488351232 ∧ c.2.length ≤ 140737488351232
def total (l : List Chk) : Nat := (l.map fun c => c.2.length).sum
theorem total_snoc (l : List Chk) (c : Chk) : total (l ++ [c]) = total l + c.2.length := by simp [total]
theorem take_snoc' {α : Type} (l : List α) {k : Nat} (h : k < l.length) : l.take (k + 1) = l.take k ++ [l[k]] := by rw [List.take_succ_eq_append_getElem h]

def Greats (l : List Chk) (w : World) (e : Ending) (w' : World) : Prop :=
  ∃ g : Bool, e = .returned (.bool g) ∧ (g = false → total l + l.length ≤ 300000 ∧ l.length ≤ 100) ∧ Below w.heap.size w w'
set_option maxRecDepth 100000 in
set_option maxHeartbeats 4000000 in
theorem great_any (a : Option Addr) (len cap : Nat) (l : List Chk) (w : World) (h : ChunksAt (· < w.heap.size) w a l) (hs : Sized l) (hlen : len = l.length) :
    Calls Try.prog 32 #[.slice a len cap] w (Greats l w) := by
  subst hlen
  have H := hidden h
  have HS := hidden hs
  have hl := hs.1
  clear h hs
  go_enter Try.func32, Try.ntmps32
  go_wp2_with fail
  go_loopw [3, 10] (fun s3 s10 wr => ∃ (k : Nat) (z : Int), s10 = .int .i64 k ∧ k ≤ l.length ∧ s3 = .int .i64 z ∧ (l.length ≤ 100 → z = total (l.take k) + l.length ∧ total (l.take k) ≤ k * 140737488351232) ∧ Below w.heap.size w wr) (fun _ s10 _ => l.length - (intOf s10).toNat)
  case atStart => exact ⟨0, l.length, rfl, by omega, rfl, fun _ => ⟨by simp [total], by simp [total]⟩, Below.refl _ _⟩
  case round =>
    obtain ⟨k, z, rfl, hk, rfl, hz, hb⟩ := hrel
    have HZ := hidden hz
    have HB := hidden hb
    clear hz hb
    by_cases hlt : k < l.length
    · obtain ⟨b, o, d, cap', rfl, c0, c1, h1, h2, h3, h4, h5⟩ := H.out.below HB.out k hlt
      have HT := hidden (take_snoc' l hlt)
      have HC := hidden (HS.out.2 _ (List.getElem_mem hlt))
      generalize l[k] = c at c0 c1 h1 h3 HT HC
      have hcl := HC.out.2
      clear h3 h5
      go_wp2_with fail
      refine ⟨⟨k + 1, _, by go_num, by omega, rfl, fun h100 => ?_, HB.out.alloc HB.out.size _⟩, by simp [intOf]; omega⟩
      obtain ⟨hz1, hz2⟩ := HZ.out h100
      rw [HT.out, total_snoc]
      refine ⟨?_, by omega⟩
      subst hz1
      unfold wrap64
      omega
    · have hk' : k = l.length := by omega
      have HK := hidden hk'
      clear hk'
      by_cases h1 : 300000 < z
      · go_wp2_with fail
        go_ret
        exact ⟨true, rfl, (fun h => by cases h), HB.out⟩
      · by_cases h2 : 100 < l.length
        · have h2' : (100 : Int) < (l.length : Int) := by omega
          go_wp2_with fail
          go_ret
          exact ⟨true, rfl, (fun h => by cases h), HB.out⟩
        · have h2' : ¬ (100 : Int) < (l.length : Int) := by omega
          have h2'' : decide ((100 : Int) < (l.length : Int)) = false := by simpa using h2'
          go_wp2_with fail
          go_ret
          refine ⟨false, rfl, fun _ => ?_, HB.out⟩
          obtain ⟨hz1, -⟩ := HZ.out (by omega)
          rw [HK.out, List.take_length] at hz1
          omega
end Go.Proofs.Ytekmjegeiminnaa
