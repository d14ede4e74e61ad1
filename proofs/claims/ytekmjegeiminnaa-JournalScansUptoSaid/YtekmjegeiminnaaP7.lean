/- Plain laws on journals: records in frames, scans, groups; a journal that is cut, that is bound, that goes on. No program in sight. -/
import Derived.Test.YtekmjegeiminnaaP3
import Derived.Test.YtekmjegeiminnaaD15
import Derived.Test.YtekmjegeiminnaaF4
namespace Go.Proofs.Ytekmjegeiminnaa
open Go.RowKit
set_option linter.unusedVariables false
set_option linter.unusedSimpArgs false

/-! ### Frames -/
theorem le4_ofLe {l : List UInt8} (h : l.length = 4) : le4 (ofLe l) = l := by
  match l, h with
  | [a, b, c, d], _ =>
    have ha := a.toNat_lt
    have hb := b.toNat_lt
    have hc := c.toNat_lt
    have hd := d.toNat_lt
    have e : ofLe [a, b, c, d] = a.toNat + 256 * b.toNat + 65536 * c.toNat + 16777216 * d.toNat := by simp [ofLe]; omega
    have h1 : UInt8.ofNat (a.toNat + 256 * b.toNat + 65536 * c.toNat + 16777216 * d.toNat) = a := by
      apply UInt8.toNat_inj.1; rw [UInt8.toNat_ofNat']; omega
    have h2 : UInt8.ofNat ((a.toNat + 256 * b.toNat + 65536 * c.toNat + 16777216 * d.toNat) / 256) = b := by
      apply UInt8.toNat_inj.1; rw [UInt8.toNat_ofNat']; omega
    have h3 : UInt8.ofNat ((a.toNat + 256 * b.toNat + 65536 * c.toNat + 16777216 * d.toNat) / 65536) = c := by
      apply UInt8.toNat_inj.1; rw [UInt8.toNat_ofNat']; omega
    have h4 : UInt8.ofNat ((a.toNat + 256 * b.toNat + 65536 * c.toNat + 16777216 * d.toNat) / 16777216) = d := by
      apply UInt8.toNat_inj.1; rw [UInt8.toNat_ofNat']; omega
    rw [e]
    unfold le4
    rw [h1, h2, h3, h4]
/-- Bytes that begin with a frame. -/
theorem unf_frame {b : List UInt8} (h : unfE b = 0) : b = frameL (unfC b) ++ b.drop (unfN b) ∧ (unfC b).length ≤ 131072 ∧ unfN b = (unfC b).length + 8 := by
  have hE := h
  unfold unfE at h
  split at h
  · cases h
  · rename_i h4
    split at h
    · cases h
    · rename_i hm
      split at h
      · cases h
      · rename_i hl
        split at h
        · rename_i hc
          have hC : unfC b = (b.drop 4).take (ofLe (b.take 4)) := by unfold unfC; rw [if_pos hE]
          have hN : unfN b = ofLe (b.take 4) + 8 := by unfold unfN; rw [if_pos hE]
          have hlen : (unfC b).length = ofLe (b.take 4) := by rw [hC, List.length_take, List.length_drop]; omega
          have e4 : le4 (ofLe (b.take 4)) = b.take 4 := le4_ofLe (by rw [List.length_take]; omega)
          have e5 : b.take 4 ++ (b.drop 4).take (ofLe (b.take 4)) = b.take (ofLe (b.take 4) + 4) := by
            rw [Nat.add_comm, List.take_add]
          refine ⟨?_, by omega, by omega⟩
          unfold frameL
          rw [hlen, e4, hC, e5, hc, le4_ofLe (by rw [List.length_take, List.length_drop]; omega), hN]
          conv => lhs; rw [← List.take_append_drop (ofLe (b.take 4) + 4) b]
          rw [List.append_assoc]
          congr 1
          conv => lhs; rw [← List.take_append_drop 4 (b.drop (ofLe (b.take 4) + 4))]
          rw [List.drop_drop]
        · cases h
theorem unf_le {b : List UInt8} (h : unfE b = 0) : unfN b ≤ b.length ∧ 8 ≤ unfN b := by
  obtain ⟨e, -, h3⟩ := unf_frame h
  have := congrArg List.length e
  rw [List.length_append, frameL_length] at this
  omega

/-! ### Records -/
inductive Rec where
  | none
  | header (id : Int)
  | group (seq : Int) (l : List OpD)
/-- A group's content: its number, its changes. -/
def parseG (c : List UInt8) : Rec := match decI c with
  | some ([seq], rest) => match whole tOps.cod rest with
    | some (o :: l) => .group seq (o :: l)
    | _ => .none
  | _ => .none
def parseJ (c : List UInt8) : Rec := match readI c with
  | some [m, id] => if m = 7 then .header id else parseG c
  | _ => parseG c
def nextJ (b : List UInt8) : Rec × Nat := if unfE b = 0 then (parseJ (unfC b), unfN b) else (.none, 0)
def headJ (id : Int) : List UInt8 := frameL (encI [7, id])
def contJ (seq : Int) (l : List OpD) : List UInt8 := encI [seq] ++ tOps.cod.enc l
def groupJ (seq : Int) (l : List OpD) : List UInt8 × Nat :=
  if seq < 1 ∨ l = [] then ([], 2) else if 131072 < (contJ seq l).length then ([], 9) else (frameL (contJ seq l), 0)

theorem encI_eq (xs : List Int) : encI xs = (cList cN).enc xs := by
  show encI xs = encN xs.length ++ encM cN xs
  rfl
theorem decI_dec (bs : List UInt8) : decI bs = (cList cN).dec bs := (decL_decI bs).symm
theorem decI_enc {xs : List Int} (h : ∀ x ∈ xs, I64 x) (hl : xs.length ≤ 100) (r : List UInt8) : decI (encI xs ++ r) = some (xs, r) := by
  rw [decI_dec, encI_eq]; exact (cList cN).de xs r ⟨by omega, h⟩
theorem readI_enc {xs : List Int} (h : ∀ x ∈ xs, I64 x) (hl : xs.length ≤ 100) : readI (encI xs) = some xs := by
  have := decI_enc h hl []
  rw [List.append_nil] at this
  unfold readI; rw [this]; rfl
theorem enc_decI {bs r : List UInt8} {xs : List Int} (h : decI bs = some (xs, r)) : bs = encI xs ++ r ∧ ∀ x ∈ xs, I64 x := by
  rw [decI_dec] at h
  obtain ⟨e, o⟩ := (cList cN).ed _ _ _ h
  exact ⟨by rw [encI_eq]; exact e, o.2⟩
theorem enc_readI {bs : List UInt8} {xs : List Int} (h : readI bs = some xs) : bs = encI xs ∧ ∀ x ∈ xs, I64 x := by
  unfold readI at h
  cases hd : decI bs with
  | none => rw [hd] at h; cases h
  | some p =>
    rw [hd] at h
    simp only [Option.bind_some] at h
    split at h
    · rename_i h0
      simp only [Option.some.injEq] at h
      subst h
      obtain ⟨e, o⟩ := enc_decI (bs := bs) (xs := p.1) (r := p.2) (by rw [hd])
      exact ⟨by rw [e, List.eq_nil_of_length_eq_zero h0, List.append_nil], o⟩
    · cases h
theorem encI_one_len {x : Int} (h : I64 x) : 2 ≤ (encI [x]).length ∧ (encI [x]).length ≤ 11 := by
  have h1 := encN_length h
  have h2 := encN_pos x
  have e : encI [x] = encN 1 ++ encN x := by rw [encI_eq]; show encN 1 ++ encM cN [x] = _; rw [encM_one]; rfl
  have e1 : (encN 1).length = 1 := by unfold encN; rw [encU_small (by decide)]; rfl
  rw [e, List.length_append, e1]
  omega
/-- The number ahead of a group's changes, found by trying each length. -/
theorem parseG_found {c : List UInt8} {n : Nat} {seq : Int} (h : readI (c.take n) = some [seq]) : parseG c = match whole tOps.cod (c.drop n) with
    | some (o :: l) => .group seq (o :: l)
    | _ => .none := by
  obtain ⟨e, o⟩ := enc_readI h
  have hd : decI c = some ([seq], c.drop n) := by
    conv => lhs; rw [← List.take_append_drop n c]
    rw [e]; exact decI_enc o (by simp) _
  unfold parseG
  rw [hd]
theorem parseG_none {c : List UInt8} (h : ∀ n seq, 2 ≤ n → n ≤ c.length → n ≤ 11 → readI (c.take n) ≠ some [seq]) : parseG c = .none := by
  unfold parseG
  split
  · rename_i seq rest hd
    obtain ⟨e, o⟩ := enc_decI hd
    obtain ⟨h1, h2⟩ := encI_one_len (o seq (List.mem_singleton.2 rfl))
    exfalso
    refine h (encI [seq]).length seq h1 (by rw [e, List.length_append]; omega) h2 ?_
    rw [e, List.take_left]
    exact readI_enc o (by simp)
  · rfl
theorem parseJ_header {c : List UInt8} {id : Int} (h : readI c = some [7, id]) : parseJ c = .header id := by unfold parseJ; rw [h]; rfl
theorem parseJ_other {c : List UInt8} (h : ∀ id, readI c ≠ some [7, id]) : parseJ c = parseG c := by
  unfold parseJ
  split
  · rename_i m id hr
    split
    · rename_i hm; subst hm; exact absurd hr (h id)
    · rfl
  · rfl
theorem parseG_cases (c : List UInt8) : parseG c = .none ∨ ∃ seq o l rest, parseG c = .group seq (o :: l) ∧ decI c = some ([seq], rest) ∧ whole tOps.cod rest = some (o :: l) := by
  unfold parseG
  split
  · rename_i seq rest hd
    split
    · rename_i o l hw; exact .inr ⟨seq, o, l, rest, rfl, by rw [hd], hw⟩
    · exact .inl rfl
  · exact .inl rfl
theorem parseJ_is_header {c : List UInt8} {id : Int} (h : parseJ c = .header id) : readI c = some [7, id] := by
  by_cases hx : ∃ i, readI c = some [7, i]
  · obtain ⟨i, hi⟩ := hx
    rw [parseJ_header hi] at h
    cases h; exact hi
  · rw [parseJ_other (fun i hi => hx ⟨i, hi⟩)] at h
    rcases parseG_cases c with h1 | ⟨_, _, _, _, h1, -⟩ <;> rw [h1] at h <;> cases h
/-- What is a group by the program is one by the document, and the other way round. -/
theorem parseJ_group {c : List UInt8} {seq : Int} {l : List OpD} : parseJ c = .group seq l ↔ parseG c = .group seq l := by
  by_cases hx : ∃ i, readI c = some [7, i]
  · obtain ⟨i, hi⟩ := hx
    rw [parseJ_header hi]
    obtain ⟨e, o⟩ := enc_readI hi
    have hd : decI c = some ([7, i], []) := by
      have := decI_enc o (by simp) []
      rw [List.append_nil] at this
      rw [e]; exact this
    constructor
    · intro h; cases h
    · intro h
      rcases parseG_cases c with h1 | ⟨s, _, _, r, h1, h2, -⟩
      · rw [h1] at h; cases h
      · rw [hd] at h2; cases h2
  · rw [parseJ_other (fun i hi => hx ⟨i, hi⟩)]

/-! ### Scans -/
/-- The groups that bytes begin with, the next number being k + 1; how many bytes they take. -/
def scanJ (b : List UInt8) (k : Nat) : List (List OpD) × Nat :=
  match h : nextJ b with
  | (.group seq l, n) => if hc : seq = k + 1 ∧ 0 < n ∧ n ≤ b.length then (l :: (scanJ (b.drop n) (k + 1)).1, n + (scanJ (b.drop n) (k + 1)).2) else ([], 0)
  | _ => ([], 0)
termination_by b.length
decreasing_by all_goals (rw [List.length_drop]; omega)
theorem nextJ_group_le {b : List UInt8} {seq : Int} {l : List OpD} {n : Nat} (h : nextJ b = (.group seq l, n)) : unfE b = 0 ∧ parseJ (unfC b) = .group seq l ∧ n = unfN b ∧ 0 < n ∧ n ≤ b.length := by
  unfold nextJ at h
  split at h
  · rename_i hE
    simp only [Prod.mk.injEq] at h
    have := unf_le hE
    exact ⟨hE, h.1, h.2.symm, by omega, by omega⟩
  · simp at h
theorem scanJ_step {b : List UInt8} {k : Nat} {l : List OpD} {n : Nat} (h : nextJ b = (.group (k + 1) l, n)) : scanJ b k = (l :: (scanJ (b.drop n) (k + 1)).1, n + (scanJ (b.drop n) (k + 1)).2) := by
  have h1 := nextJ_group_le h
  rw [scanJ]
  split
  · rename_i seq l' n' h'
    rw [h] at h'
    simp only [Prod.mk.injEq, Rec.group.injEq] at h'
    obtain ⟨⟨rfl, rfl⟩, rfl⟩ := h'
    rw [dif_pos ⟨rfl, h1.2.2.2.1, h1.2.2.2.2⟩]
  · rename_i hne
    exact (hne _ _ _ h).elim
theorem scanJ_stop {b : List UInt8} {k : Nat} (h : ∀ l n, nextJ b ≠ (.group (k + 1) l, n)) : scanJ b k = ([], 0) := by
  rw [scanJ]
  split
  · rename_i seq l n h'
    split
    · rename_i hc
      obtain ⟨rfl, -⟩ := hc
      exact absurd h' (h _ _)
    · rfl
  · rfl
structure LogD where
  groups : List (List OpD)
  good : Nat
  bound : Bool
def logJ (b : List UInt8) (id : Int) : LogD := match nextJ b with
  | (.header h, n) => if h = id then ⟨(scanJ (b.drop n) 0).1, n + (scanJ (b.drop n) 0).2, true⟩ else ⟨[], 0, false⟩
  | _ => ⟨[], 0, false⟩
def addJ (b : List UInt8) (l : List OpD) : List UInt8 × Nat := match nextJ b with
  | (.header h, _) => if (logJ b h).good < b.length then ([], 12) else groupJ ((logJ b h).groups.length + 1) l
  | _ => ([], 12)
theorem scanJ_le (b : List UInt8) (k : Nat) : (scanJ b k).2 ≤ b.length ∧ 8 * (scanJ b k).1.length ≤ (scanJ b k).2 := by
  by_cases h : ∃ l n, nextJ b = (.group (k + 1) l, n)
  · obtain ⟨l, n, h⟩ := h
    obtain ⟨h1, -, h3, h4, h5⟩ := nextJ_group_le h
    have h6 := (unf_le h1).2
    have ih := scanJ_le (b.drop n) (k + 1)
    rw [List.length_drop] at ih
    rw [scanJ_step h]
    simp only [List.length_cons]
    omega
  · rw [scanJ_stop (fun l n e => h ⟨l, n, e⟩)]
    simp
termination_by b.length
decreasing_by (rw [List.length_drop]; omega)
theorem encI_len {xs : List Int} (h : ∀ x ∈ xs, I64 x) (hl : xs.length ≤ 100) : (encI xs).length ≤ 10 + 10 * xs.length := by
  have h1 := encS_length xs h
  have h2 := encN_length (n := (xs.length : Int)) ⟨by omega, by omega⟩
  show (encN xs.length ++ encS xs).length ≤ _
  rw [List.length_append]; omega
/-- The header, as the document has it. -/
theorem head_iff {b : List UInt8} {id : Int} (hid : I64 id) : (∃ n, nextJ b = (.header id, n)) ↔ b.take (headJ id).length = headJ id := by
  constructor
  · rintro ⟨n, h⟩
    unfold nextJ at h
    split at h
    · rename_i hE
      simp only [Prod.mk.injEq] at h
      obtain ⟨e, -, -⟩ := unf_frame hE
      obtain ⟨e2, -⟩ := enc_readI (parseJ_is_header h.1)
      rw [e2] at e
      conv => lhs; rw [e]
      exact List.take_left
    · simp at h
  · intro h
    have e : b = frameL (encI [7, id]) ++ b.drop (headJ id).length := by
      conv => lhs; rw [← List.take_append_drop (headJ id).length b, h]
      rfl
    have h64 : ∀ x ∈ [7, id], I64 x := fun x hx => by
      simp only [List.mem_cons, List.not_mem_nil, or_false] at hx
      rcases hx with rfl | rfl
      · exact ⟨by decide, by decide⟩
      · exact hid
    have hlen : (encI [7, id]).length ≤ 131072 := by
      have := encI_len h64 (by simp)
      simp at this; omega
    obtain ⟨f1, f2, f3⟩ := frameL_more hlen (b.drop (headJ id).length)
    rw [← e] at f1 f2 f3
    refine ⟨unfN b, ?_⟩
    unfold nextJ
    rw [if_pos f1, f2, parseJ_header (readI_enc h64 (by simp))]

/-! ### Journals that are made -/
/-- The groups in bytes, numbered from k + 1 on. -/
def bodyJ : Nat → List (List OpD) → List UInt8
  | _, [] => []
  | k, g :: gs => frameL (contJ (k + 1) g) ++ bodyJ (k + 1) gs
def jourJ (id : Int) (gs : List (List OpD)) : List UInt8 := headJ id ++ bodyJ 0 gs
/-- Groups that fit. -/
def FitJ (k : Nat) (g : List OpD) : Prop := g ≠ [] ∧ tOps.cod.ok g ∧ (contJ (k + 1) g).length ≤ 131072
def FitsJ : Nat → List (List OpD) → Prop
  | _, [] => True
  | k, g :: gs => FitJ k g ∧ FitsJ (k + 1) gs
theorem bodyJ_append : ∀ (k : Nat) (gs hs : List (List OpD)), bodyJ k (gs ++ hs) = bodyJ k gs ++ bodyJ (k + gs.length) hs
  | k, [], hs => by simp [bodyJ]
  | k, g :: gs, hs => by
    simp only [List.cons_append, bodyJ, bodyJ_append (k + 1) gs hs, List.append_assoc, List.length_cons]
    rw [show k + 1 + gs.length = k + (gs.length + 1) by omega]
theorem FitsJ_append : ∀ (k : Nat) (gs hs : List (List OpD)), FitsJ k (gs ++ hs) ↔ FitsJ k gs ∧ FitsJ (k + gs.length) hs
  | k, [], hs => by simp [FitsJ]
  | k, g :: gs, hs => by
    simp only [List.cons_append, FitsJ, FitsJ_append (k + 1) gs hs, List.length_cons, and_assoc]
    rw [show k + 1 + gs.length = k + (gs.length + 1) by omega]
theorem nextJ_cont {k : Nat} {g : List OpD} (h : FitJ k g) (hk : k ≤ 1000000000) (r : List UInt8) : nextJ (frameL (contJ (k + 1) g) ++ r) = (.group (k + 1) g, (frameL (contJ (k + 1) g)).length) := by
  obtain ⟨hne, hok, hl⟩ := h
  obtain ⟨f1, f2, f3⟩ := frameL_more hl r
  have h64 : ∀ x ∈ [((k : Int) + 1)], I64 x := fun x hx => by
    rw [List.mem_singleton] at hx; subst hx; exact ⟨by omega, by omega⟩
  have hp : parseJ (contJ (k + 1) g) = .group (k + 1) g := by
    rw [parseJ_group]
    unfold parseG contJ
    rw [decI_enc h64 (by simp)]
    simp only [whole_enc _ hok]
    cases g with
    | nil => exact absurd rfl hne
    | cons o l => rfl
  unfold nextJ
  rw [if_pos f1, f2, f3, hp, frameL_length]
theorem scanJ_body : ∀ (gs : List (List OpD)) (k : Nat), k + gs.length ≤ 1000000000 → FitsJ k gs → ∀ (r : List UInt8), scanJ (bodyJ k gs ++ r) k = (gs ++ (scanJ r (k + gs.length)).1, (bodyJ k gs).length + (scanJ r (k + gs.length)).2)
  | [], k, _, _, r => by simp [bodyJ]
  | g :: gs, k, hk, hf, r => by
    simp only [List.length_cons] at hk
    have h1 := nextJ_cont (k := k) hf.1 (by omega) (bodyJ (k + 1) gs ++ r)
    have ih := scanJ_body gs (k + 1) (by omega) hf.2 r
    rw [bodyJ, List.append_assoc, scanJ_step h1, List.drop_left, ih]
    simp only [List.cons_append, List.length_append, List.length_cons, Prod.mk.injEq]
    rw [show k + 1 + gs.length = k + (gs.length + 1) by omega]
    exact ⟨rfl, by omega⟩
theorem scanJ_nil (k : Nat) : scanJ [] k = ([], 0) := scanJ_stop fun l n h => by
  have := (nextJ_group_le h).1
  unfold unfE at this
  simp at this
/-- A frame's beginning tells no group. -/
theorem scanJ_cut {bs : List UInt8} (h : bs.length ≤ 131072) {j : Nat} (hj : j < bs.length + 8) (k : Nat) : scanJ ((frameL bs).take j) k = ([], 0) := scanJ_stop fun l n hn => by
  have := (nextJ_group_le hn).1
  rw [frameL_cut h hj] at this
  cases this
/-- A cut body: the whole groups, in order. -/
theorem scanJ_take : ∀ (gs : List (List OpD)) (k n : Nat), k + gs.length ≤ 1000000000 → FitsJ k gs → ∃ m, m ≤ gs.length ∧ scanJ ((bodyJ k gs).take n) k = (gs.take m, (bodyJ k (gs.take m)).length) ∧ (bodyJ k (gs.take m)).length ≤ n ∧ ((bodyJ k gs).length ≤ n → m = gs.length)
  | [], k, n, _, _ => ⟨0, by simp, by simp [bodyJ, scanJ_nil], by simp [bodyJ], fun _ => rfl⟩
  | g :: gs, k, n, hk, hf => by
    simp only [List.length_cons] at hk
    by_cases hn : n < (contJ (k + 1) g).length + 8
    · refine ⟨0, by simp, ?_, by simp [bodyJ], fun hle => ?_⟩
      · have h1 : (bodyJ k (g :: gs)).take n = (frameL (contJ (k + 1) g)).take n := by
          rw [bodyJ]
          exact List.take_append_of_le_length (by rw [frameL_length]; omega)
        rw [h1, scanJ_cut hf.1.2.2 hn]
        simp [bodyJ]
      · rw [bodyJ, List.length_append, frameL_length] at hle
        omega
    · obtain ⟨m, h1, h2, h3, h4⟩ := scanJ_take gs (k + 1) (n - ((contJ (k + 1) g).length + 8)) (by omega) hf.2
      have e : (bodyJ k (g :: gs)).take n = frameL (contJ (k + 1) g) ++ (bodyJ (k + 1) gs).take (n - ((contJ (k + 1) g).length + 8)) := by
        rw [bodyJ, List.take_append, frameL_length, List.take_of_length_le (by rw [frameL_length]; omega)]
      refine ⟨m + 1, by simp; omega, ?_, ?_, fun hle => ?_⟩
      · rw [e, scanJ_step (nextJ_cont (k := k) hf.1 (by omega) _), List.drop_left, h2]
        simp only [List.take_succ_cons, bodyJ, List.length_append]
      · simp only [List.take_succ_cons, bodyJ, List.length_append, frameL_length]
        omega
      · rw [bodyJ, List.length_append, frameL_length] at hle
        have := h4 (by omega)
        simp; omega
theorem h64_head {id : Int} (hid : I64 id) : ∀ x ∈ [7, id], I64 x := fun x hx => by
  simp only [List.mem_cons, List.not_mem_nil, or_false] at hx
  rcases hx with rfl | rfl
  · exact ⟨by decide, by decide⟩
  · exact hid
theorem head_small {id : Int} (hid : I64 id) : (encI [7, id]).length ≤ 131072 ∧ (headJ id).length ≤ 38 := by
  have := encI_len (h64_head hid) (by simp)
  simp only [List.length_cons, List.length_nil] at this
  refine ⟨by omega, ?_⟩
  unfold headJ
  rw [frameL_length]; omega
theorem nextJ_head {id : Int} (hid : I64 id) (r : List UInt8) : nextJ (headJ id ++ r) = (.header id, (headJ id).length) := by
  obtain ⟨f1, f2, f3⟩ := frameL_more (head_small hid).1 r
  unfold headJ nextJ
  rw [if_pos f1, f2, f3, parseJ_header (readI_enc (h64_head hid) (by simp)), frameL_length]
theorem logJ_jour {id : Int} (hid : I64 id) {gs : List (List OpD)} (hl : gs.length ≤ 1000000000) (hf : FitsJ 0 gs) : logJ (jourJ id gs) id = ⟨gs, (jourJ id gs).length, true⟩ := by
  unfold logJ jourJ
  rw [nextJ_head hid]
  simp only [if_true, List.drop_left]
  have := scanJ_body gs 0 (by omega) hf []
  rw [List.append_nil] at this
  rw [this, scanJ_nil, List.append_nil, List.length_append]
  rfl
theorem logJ_other {id a : Int} (hid : I64 id) (hne : id ≠ a) (gs : List (List OpD)) : logJ (jourJ id gs) a = ⟨[], 0, false⟩ := by
  unfold logJ jourJ
  rw [nextJ_head hid]
  simp only [if_neg hne]
theorem addJ_jour {id : Int} (hid : I64 id) {gs : List (List OpD)} (hl : gs.length ≤ 1000000000) (hf : FitsJ 0 gs) (l : List OpD) : addJ (jourJ id gs) l = groupJ (gs.length + 1) l := by
  have h1 := logJ_jour hid hl hf
  unfold addJ
  have h2 : nextJ (jourJ id gs) = (.header id, (headJ id).length) := nextJ_head hid _
  rw [h2]
  simp only [h1]
  rw [if_neg (by omega)]
/-- A journal that is cut. -/
theorem logJ_cut {id : Int} (hid : I64 id) {gs : List (List OpD)} (hl : gs.length ≤ 1000000000) (hf : FitsJ 0 gs) (n : Nat) :
    (n < (headJ id).length ∧ logJ ((jourJ id gs).take n) id = ⟨[], 0, false⟩) ∨ ((headJ id).length ≤ n ∧ ∃ m, m ≤ gs.length ∧ logJ ((jourJ id gs).take n) id = ⟨gs.take m, (jourJ id (gs.take m)).length, true⟩ ∧ (jourJ id (gs.take m)).length ≤ n ∧ ((jourJ id gs).length ≤ n → m = gs.length)) := by
  by_cases hn : n < (headJ id).length
  · refine .inl ⟨hn, ?_⟩
    have e : (jourJ id gs).take n = (headJ id).take n := by
      unfold jourJ; exact List.take_append_of_le_length (by omega)
    unfold logJ nextJ
    rw [e]
    have h1 : unfE ((headJ id).take n) = 16 := by
      unfold headJ at hn ⊢
      rw [frameL_length] at hn
      exact frameL_cut (head_small hid).1 hn
    rw [h1]
    rfl
  · refine .inr ⟨by omega, ?_⟩
    obtain ⟨m, h1, h2, h3, h4⟩ := scanJ_take gs 0 (n - (headJ id).length) (by omega) hf
    have e : (jourJ id gs).take n = headJ id ++ (bodyJ 0 gs).take (n - (headJ id).length) := by
      unfold jourJ
      rw [List.take_append, List.take_of_length_le (by omega)]
    refine ⟨m, h1, ?_, ?_, fun hle => ?_⟩
    · unfold logJ
      rw [e, nextJ_head hid]
      simp only [if_true, List.drop_left, h2]
      unfold jourJ
      rw [List.length_append]
    · unfold jourJ; rw [List.length_append]; omega
    · unfold jourJ at hle
      rw [List.length_append] at hle
      exact h4 (by omega)
theorem jourJ_take_take {id : Int} {gs : List (List OpD)} (m : Nat) : ∃ r, jourJ id gs = jourJ id (gs.take m) ++ r := by
  refine ⟨bodyJ (0 + (gs.take m).length) (gs.drop m), ?_⟩
  unfold jourJ
  rw [List.append_assoc, ← bodyJ_append, List.take_append_drop]
theorem FitsJ_take {k m : Nat} {gs : List (List OpD)} (h : FitsJ k gs) : FitsJ k (gs.take m) := by
  rw [← List.take_append_drop m gs, FitsJ_append] at h
  exact h.1
theorem jourJ_snoc (id : Int) (gs : List (List OpD)) (g : List OpD) : jourJ id (gs ++ [g]) = jourJ id gs ++ frameL (contJ (gs.length + 1) g) := by
  unfold jourJ
  rw [bodyJ_append, List.append_assoc]
  simp [bodyJ]
theorem FitsJ_snoc {gs : List (List OpD)} {g : List OpD} (h : FitsJ 0 gs) (hg : FitJ gs.length g) : FitsJ 0 (gs ++ [g]) := by
  rw [FitsJ_append]
  exact ⟨h, by rw [Nat.zero_add]; exact hg, trivial⟩
theorem groupJ_ok {k : Nat} {l : List OpD} (h : (groupJ (k + 1) l).2 = 0) (hok : tOps.cod.ok l) : FitJ k l ∧ (groupJ (k + 1) l).1 = frameL (contJ (k + 1) l) := by
  unfold groupJ at h ⊢
  split at h
  · cases h
  · rename_i h1
    split at h
    · cases h
    · rename_i h2
      rw [if_neg h1, if_neg h2]
      exact ⟨⟨fun e => h1 (.inr e), hok, by omega⟩, rfl⟩
theorem groupJ_fit {k : Nat} {l : List OpD} (h : FitJ k l) : groupJ (k + 1) l = (frameL (contJ (k + 1) l), 0) := by
  unfold groupJ
  rw [if_neg (by rintro (h1 | h1); omega; exact h.1 h1), if_neg (by have := h.2.2; omega)]
theorem groupJ_err (seq : Int) (l : List OpD) : (groupJ seq l).2 = 0 ∨ (groupJ seq l).2 = 2 ∨ (groupJ seq l).2 = 9 := by
  unfold groupJ
  split
  · exact .inr (.inl rfl)
  · split
    · exact .inr (.inr rfl)
    · exact .inl rfl
/-- A group of another number, put behind, is none. -/
theorem logJ_wrong {id : Int} (hid : I64 id) {gs : List (List OpD)} (hl : gs.length ≤ 1000000) (hf : FitsJ 0 gs) {l : List OpD} (h : FitJ (gs.length + 1) l) : logJ (jourJ id gs ++ frameL (contJ (gs.length + 1 + 1) l)) id = ⟨gs, (jourJ id gs).length, true⟩ := by
  have h1 := nextJ_cont h (by omega) []
  rw [List.append_nil] at h1
  have hs : scanJ (frameL (contJ (gs.length + 1 + 1) l)) (0 + gs.length) = ([], 0) := scanJ_stop fun l' n' e => by
    have h1' : nextJ (frameL (contJ (gs.length + 1 + 1) l)) = (.group (((gs.length + 1 : Nat) : Int) + 1) l, (frameL (contJ (gs.length + 1 + 1) l)).length) := by
      have e2 : ((gs.length : Int) + 1 + 1) = (((gs.length + 1 : Nat) : Int) + 1) := by omega
      rw [e2]; exact h1
    rw [h1'] at e
    simp only [Prod.mk.injEq, Rec.group.injEq] at e
    omega
  unfold logJ jourJ
  rw [List.append_assoc, nextJ_head hid]
  simp only [if_true, List.drop_left]
  rw [scanJ_body gs 0 (by omega) hf, hs, List.append_nil, List.length_append]
  rfl
end Go.Proofs.Ytekmjegeiminnaa
