/- Plain laws on containers, proved: what is written is read; a turned bit, one byte more are none; the reference's Read is the same. -/
import Derived.Test.YtekmjegeiminnaaP4
namespace Go.Proofs.Ytekmjegeiminnaa
open Go.RowKit
set_option linter.unusedVariables false
set_option linter.unusedSimpArgs false

theorem ofLe_inj : ∀ (l m : List UInt8), l.length = m.length → ofLe l = ofLe m → l = m
  | [], [], _, _ => rfl
  | x :: r, y :: s, hl, h => by
    simp only [ofLe] at h
    have hx := x.toNat_lt
    have hy := y.toNat_lt
    have h1 : x.toNat = y.toNat := by omega
    have h2 : ofLe r = ofLe s := by omega
    rw [UInt8.toNat_inj.1 h1, ofLe_inj r s (by simpa using hl) h2]
theorem le4_ofLe {l : List UInt8} (h : l.length = 4) : le4 (ofLe l) = l := by
  have hl := ofLe_lt l
  rw [h] at hl
  exact ofLe_inj _ _ (by rw [h]; rfl) (ofLe_le4 _ (by simpa using hl))

/-! ### The parts of a container -/
theorem form_parts {m data frame : List UInt8} {n : Nat} (hm : m.length = 8) (hf : frame.length = n) (hn : n < 4294967296) :
    (m ++ (data ++ (frame ++ le4 n))).take 8 = m ∧ (m ++ (data ++ (frame ++ le4 n))).length = data.length + n + 12 ∧ bodyL (m ++ (data ++ (frame ++ le4 n))) = data ++ frame ∧ tailN (m ++ (data ++ (frame ++ le4 n))) = n ∧
      frameOf (m ++ (data ++ (frame ++ le4 n))) = frame ∧ dataOf (m ++ (data ++ (frame ++ le4 n))) = data := by
  have hlen : (m ++ (data ++ (frame ++ le4 n))).length = data.length + n + 12 := by simp [hm, hf, le4_length]; omega
  have hb : bodyL (m ++ (data ++ (frame ++ le4 n))) = data ++ frame := by
    unfold bodyL
    rw [hlen, List.drop_left' hm, ← List.append_assoc]
    exact List.take_left' (by simp [hf])
  have ht : tailN (m ++ (data ++ (frame ++ le4 n))) = n := by
    unfold tailN
    rw [hlen]
    have e : m ++ (data ++ (frame ++ le4 n)) = (m ++ (data ++ frame)) ++ le4 n := by simp
    rw [e, List.drop_left' (by simp [hm, hf]; omega), List.take_of_length_le (by simp [le4_length]), ofLe_le4 n hn]
  have hbl : (data ++ frame).length - n = data.length := by simp [hf]
  refine ⟨List.take_left' hm, hlen, hb, ht, ?_, ?_⟩
  · unfold frameOf; rw [hb, ht, hbl]; exact List.drop_left' rfl
  · unfold dataOf; rw [hb, ht, hbl]; exact List.take_left' rfl
theorem readL_form {m data frame : List UInt8} {n : Nat} (hm : m.length = 8) (hf : frame.length = n) (hn : n < 4294967296) (h20 : 20 ≤ data.length + n + 12) :
    readL (m ++ (data ++ (frame ++ le4 n))) = if m ≠ magicL then none else if unfE frame ≠ 0 ∨ unfN frame ≠ n then none else (parseL data (unfC frame)).bind fun p => if p.2 = [] ∧ mayE p.1 = 0 then some p.1 else none := by
  obtain ⟨h1, h2, h3, h4, h5, h6⟩ := form_parts (data := data) hm hf hn
  unfold readL
  rw [h1, h2, h3, h4, h5, h6]
  by_cases hg : m = magicL
  · rw [if_neg (by rintro (h | h); exact h hg; omega), if_neg (by simp [hf])]
    symm; exact if_neg (fun h => h hg)
  · rw [if_pos (.inl hg), if_pos hg]

/-! ### What is written is read -/
theorem dirOne_parts {c : Chk} (hc : c.1.length = 4) (h : c.2.length < 4294967296) (r : List UInt8) :
    (dirOne c ++ r).take 4 = c.1 ∧ ofLe (((dirOne c ++ r).drop 4).take 4) = c.2.length ∧ ofLe (((dirOne c ++ r).drop 8).take 4) = crc32 c.2 ∧ (dirOne c ++ r).drop 12 = r ∧ (dirOne c ++ r).length = r.length + 12 := by
  have e : dirOne c ++ r = c.1 ++ (le4 c.2.length ++ (le4 (crc32 c.2) ++ r)) := by simp [dirOne]
  refine ⟨by rw [e]; exact List.take_left' hc, ?_, ?_, ?_, by rw [List.length_append, dirOne_length hc]; omega⟩
  · rw [e, List.drop_left' hc, le4_take, ofLe_le4 _ h]
  · have e2 : dirOne c ++ r = (c.1 ++ le4 c.2.length) ++ (le4 (crc32 c.2) ++ r) := by simp [dirOne]
    rw [e2, List.drop_left' (by simp [hc, le4_length]), le4_take, ofLe_le4 _ (crc32_lt _)]
  · exact List.drop_left' (dirOne_length hc)
theorem parseL_write : ∀ (l : List Chk) (rest : List UInt8), (∀ c ∈ l, c.1.length = 4 ∧ c.2.length < 4294967296) → parseL (dataL l ++ rest) (dirL l) = some (l, rest)
  | [], rest, _ => by simp [dataL, dirL, parseL_nil]
  | c :: r, rest, h => by
    obtain ⟨hc1, hc2⟩ := h c (List.mem_cons_self ..)
    have hd : dirL (c :: r) = dirOne c ++ dirL r := by simp [dirL]
    have he : dataL (c :: r) ++ rest = c.2 ++ (dataL r ++ rest) := by simp [dataL]
    obtain ⟨p1, p2, p3, p4, p5⟩ := dirOne_parts hc1 hc2 (dirL r)
    rw [hd, he, parseL_step (by omega) (by rw [p2, p3, List.take_left' rfl]; simp), p1, p2, p4, List.take_left' rfl, List.drop_left' rfl, parseL_write r rest (fun x hx => h x (List.mem_cons_of_mem _ hx))]
    rfl
theorem total_ge : ∀ (l : List Chk) (c : Chk), c ∈ l → c.2.length ≤ total l
  | d :: r, c, h => by
    have e : total (d :: r) = d.2.length + total r := by simp [total]
    rcases List.mem_cons.1 h with rfl | h
    · omega
    · have := total_ge r c h; omega
theorem small_of_may {l : List Chk} (h : mayE l = 0) : ∀ c ∈ l, c.1.length = 4 ∧ c.2.length < 4294967296 := fun c hc => by
  obtain ⟨h1, _, _, h4⟩ := may_zero h
  refine ⟨good_len h1 hc, ?_⟩
  have : c.2.length ≤ total l := by
    exact total_ge l c hc
  omega
theorem dirL_small {l : List Chk} (h : mayE l = 0) : (dirL l).length ≤ 384 := by
  obtain ⟨h1, _, h3, _⟩ := may_zero h
  rw [dirL_length (fun c hc => good_len h1 hc)]; omega
theorem writeL_form (l : List Chk) : writeL l = magicL ++ (dataL l ++ (frameL (dirL l) ++ le4 (frameL (dirL l)).length)) := by simp [writeL]
theorem frameL_self {bs : List UInt8} (h : bs.length ≤ 131072) : unfE (frameL bs) = 0 ∧ unfC (frameL bs) = bs ∧ unfN (frameL bs) = bs.length + 8 := by
  have := frameL_more h []
  rwa [List.append_nil] at this
theorem read_write {l : List Chk} (h : mayE l = 0) : readL (writeL l) = some l := by
  have hd := dirL_small h
  have hfl := frameL_length (dirL l)
  obtain ⟨e0, eC, eN⟩ := frameL_self (bs := dirL l) (by omega)
  rw [writeL_form, readL_form rfl rfl (by omega) (by omega), if_neg (fun h => h rfl), if_neg (by rw [e0, eN]; rintro (h | h); exact h rfl; exact h hfl.symm), eC]
  have := parseL_write l [] (small_of_may h)
  rw [List.append_nil] at this
  rw [this]
  simp [h]
theorem writeL_length (l : List Chk) : (writeL l).length = total l + (dirL l).length + 20 := by
  rw [writeL_form]
  simp only [List.length_append, frameL_length, le4_length, dataL_length]
  simp [magicL]; omega
theorem read_more {l : List Chk} (h : mayE l = 0) : readL (writeL l ++ [0]) = none := by
  have hd := dirL_small h
  have hfl := frameL_length (dirL l)
  obtain ⟨n, en⟩ : ∃ n, (frameL (dirL l)).length = n := ⟨_, rfl⟩
  have hn : n ≤ 392 := by omega
  have hn8 : 8 ≤ n := by omega
  have e4 : le4 n ++ [0] = [UInt8.ofNat n] ++ le4 (n / 256) := by
    have h1 : n / 16777216 = 0 := by omega
    have h2 : n / 256 / 256 = n / 65536 := by omega
    have h3 : n / 256 / 65536 = n / 16777216 := by omega
    have h4 : n / 256 / 16777216 = 0 := by omega
    simp only [le4, h2, h3, h4]
    rfl
  obtain ⟨body, eb⟩ : ∃ body, dataL l ++ (frameL (dirL l) ++ [UInt8.ofNat n]) = body := ⟨_, rfl⟩
  have hbl : body.length = (dataL l).length + n + 1 := by rw [← eb]; simp [en]; omega
  have e : writeL l ++ [0] = magicL ++ (body.take (body.length - n / 256) ++ (body.drop (body.length - n / 256) ++ le4 (n / 256))) := by
    rw [← List.append_assoc (body.take _), List.take_append_drop, ← eb, writeL_form, en]
    simp only [List.append_assoc]
    rw [e4]
  have hfr : (body.drop (body.length - n / 256)).length = n / 256 := by rw [List.length_drop]; omega
  rw [e, readL_form rfl hfr (by omega) (by rw [List.length_take]; omega), if_neg (fun h => h rfl), if_pos]
  left
  unfold unfE
  rw [if_pos (by omega)]
  decide

/-! ### A turned byte -/
theorem crc_set {bs : List UInt8} {i : Nat} (hi : i < bs.length) {y : UInt8} (hy : y ≠ bs[i]) : crc32 (bs.set i y) ≠ crc32 bs := by
  intro h
  have e1 : bs = bs.take i ++ bs[i] :: bs.drop (i + 1) := by simp
  have e2 : bs.set i y = bs.take i ++ y :: bs.drop (i + 1) := by rw [List.set_eq_take_append_cons_drop, if_pos hi]
  rw [e2] at h
  conv at h => rhs; rw [e1]
  exact hy (crc32_one _ _ h)
theorem parseL_set : ∀ (l : List Chk) (j : Nat) (y : UInt8) (hj : j < (dataL l).length), (∀ c ∈ l, c.1.length = 4 ∧ c.2.length < 4294967296) → y ≠ (dataL l)[j] → parseL ((dataL l).set j y) (dirL l) = none
  | [], j, y, hj, _, _ => by simp [dataL] at hj
  | c :: r, j, y, hj, h, hy => by
    obtain ⟨hc1, hc2⟩ := h c (List.mem_cons_self ..)
    have hd : dirL (c :: r) = dirOne c ++ dirL r := by simp [dirL]
    have he : dataL (c :: r) = c.2 ++ dataL r := by simp [dataL]
    obtain ⟨p1, p2, p3, p4, p5⟩ := dirOne_parts hc1 hc2 (dirL r)
    by_cases hlt : j < c.2.length
    · have hy' : y ≠ c.2[j] := by
        intro e; apply hy; rw [e]; simp only [he]; rw [List.getElem_append_left hlt]
      rw [hd, he, List.set_append_left _ _ hlt]
      refine parseL_bad (by omega) (.inr ?_)
      rw [p2, p3, List.take_left' (by simp)]
      exact crc_set hlt hy'
    · have hj' : j - c.2.length < (dataL r).length := by rw [he] at hj; simp at hj; omega
      have hy' : y ≠ (dataL r)[j - c.2.length] := by
        intro e; apply hy; rw [e]; simp only [he]; rw [List.getElem_append_right (by omega)]
      rw [hd, he, List.set_append_right _ _ (by omega), parseL_step (by omega) (by rw [p2, p3, List.take_left' rfl]; simp), p2, p4, List.drop_left' rfl, parseL_set r _ y hj' (fun x hx => h x (List.mem_cons_of_mem _ hx)) hy']
      rfl
theorem frame_set {bs : List UInt8} (h : bs.length ≤ 131072) {j : Nat} (hj : j < (frameL bs).length) {y : UInt8} (hy : y ≠ (frameL bs)[j]) : unfE ((frameL bs).set j y) ≠ 0 ∨ unfN ((frameL bs).set j y) ≠ bs.length + 8 := by
  have hfl := frameL_length bs
  have e : frameL bs = le4 bs.length ++ (bs ++ le4 (crc32 (le4 bs.length ++ bs))) := by simp [frameL]
  by_cases h4 : j < 4
  · by_cases h0 : unfE ((frameL bs).set j y) = 0
    · right
      unfold unfN
      rw [if_pos h0]
      intro hc
      have e4 : ((frameL bs).set j y).take 4 = (le4 bs.length).set j y := by
        rw [e, List.set_append_left _ _ (by simp [le4_length]; exact h4)]
        exact List.take_left' (by simp [le4_length])
      rw [e4] at hc
      have h1 : ofLe ((le4 bs.length).set j y) = ofLe (le4 bs.length) := by rw [ofLe_le4 _ (by omega)]; omega
      have h2 := ofLe_inj _ _ (by simp) h1
      have h3 : ((le4 bs.length).set j y)[j]'(by simp [le4_length]; exact h4) = (le4 bs.length)[j]'(by rw [le4_length]; exact h4) := by simp only [h2]
      rw [List.getElem_set_self] at h3
      apply hy
      rw [h3]
      simp only [e]
      rw [List.getElem_append_left (by rw [le4_length]; exact h4)]
    · exact .inl h0
  · left
    by_cases hb : j < bs.length + 4
    · obtain ⟨i, rfl⟩ : ∃ i, j = 4 + i := ⟨j - 4, by omega⟩
      have hi : i < bs.length := by omega
      have hy' : y ≠ bs[i] := by
        intro e2; apply hy; rw [e2]; simp only [e]
        rw [List.getElem_append_right (by simp [le4_length]), List.getElem_append_left (by rw [le4_length]; omega)]
        congr 1; rw [le4_length]; omega
      rw [frameL_turned h hi hy']; decide
    · have e2 : frameL bs = (le4 bs.length ++ bs) ++ le4 (crc32 (le4 bs.length ++ bs)) := by simp [frameL]
      have hl4 : (le4 bs.length ++ bs).length = bs.length + 4 := by simp [le4_length]; omega
      have hj4 : j - (bs.length + 4) < 4 := by omega
      have e3 : (frameL bs).set j y = le4 bs.length ++ (bs ++ ((le4 (crc32 (le4 bs.length ++ bs))).set (j - (bs.length + 4)) y ++ [])) := by
        rw [e2, List.set_append_right _ _ (by rw [hl4]; omega), hl4]; simp
      rw [e3, unfE_le4 h bs _ [] rfl (by simp [le4_length]), if_neg]
      · decide
      · intro hc
        have h1 : ofLe ((le4 (crc32 (le4 bs.length ++ bs))).set (j - (bs.length + 4)) y) = ofLe (le4 (crc32 (le4 bs.length ++ bs))) := by rw [ofLe_le4 _ (crc32_lt _)]; exact hc.symm
        have h2 := ofLe_inj _ _ (by simp) h1
        have h3 : ((le4 (crc32 (le4 bs.length ++ bs))).set (j - (bs.length + 4)) y)[j - (bs.length + 4)]'(by simp [le4_length]; exact hj4) = (le4 (crc32 (le4 bs.length ++ bs)))[j - (bs.length + 4)]'(by rw [le4_length]; exact hj4) := by simp only [h2]
        rw [List.getElem_set_self] at h3
        apply hy
        rw [h3]
        simp only [e2]
        rw [List.getElem_append_right (by rw [hl4]; omega)]
        congr 1
theorem read_turned {l : List Chk} (h : mayE l = 0) {i : Nat} (hi : i + 4 < (writeL l).length) {y : UInt8} (hy : y ≠ (writeL l)[i]) : readL ((writeL l).set i y) = none := by
  have hd := dirL_small h
  have hfl := frameL_length (dirL l)
  obtain ⟨e0, eC, eN⟩ := frameL_self (bs := dirL l) (by omega)
  have hwl := writeL_length l
  have e := writeL_form l
  have hdl := dataL_length l
  have h8 : magicL.length = 8 := rfl
  by_cases h1 : i < 8
  · rw [e, List.set_append_left _ _ (by rw [h8]; exact h1), readL_form (by simp [h8]) rfl (by omega) (by omega), if_pos]
    intro hc
    apply hy
    have h3 : (magicL.set i y)[i]'(by simp [h8]; exact h1) = magicL[i]'(by rw [h8]; exact h1) := by simp only [hc]
    rw [List.getElem_set_self] at h3
    rw [h3]
    simp only [e]
    rw [List.getElem_append_left (by rw [h8]; exact h1)]
  · by_cases h2 : i - 8 < (dataL l).length
    · have hy' : y ≠ (dataL l)[i - 8] := by
        intro e2; apply hy; rw [e2]; simp only [e]
        rw [List.getElem_append_right (by omega), List.getElem_append_left (by omega)]
        rfl
      rw [e, List.set_append_right _ _ (by omega), h8, List.set_append_left _ _ h2, readL_form rfl rfl (by omega) (by omega), if_neg (fun h => h rfl), if_neg (by rw [e0, eN]; rintro (h | h); exact h rfl; exact h hfl.symm), eC, parseL_set l _ y h2 (small_of_may h) hy']
      rfl
    · have hj : i - 8 - (dataL l).length < (frameL (dirL l)).length := by omega
      have hy' : y ≠ (frameL (dirL l))[i - 8 - (dataL l).length] := by
        intro e2; apply hy; rw [e2]; simp only [e]
        rw [List.getElem_append_right (by omega), List.getElem_append_right (by omega), List.getElem_append_left (by omega)]
        rfl
      rw [e, List.set_append_right _ _ (by omega), h8, List.set_append_right _ _ (by omega), List.set_append_left _ _ hj, readL_form rfl (by simp) (by omega) (by omega), if_neg (fun h => h rfl), if_pos]
      rcases frame_set (by omega) hj hy' with h3 | h3
      · exact .inl h3
      · right; rw [hfl]; exact h3

/-! ### The reference's Read -/
theorem parseL_some : ∀ (n : Nat) (data dir : List UInt8) (l : List Chk) (rest : List UInt8), dir.length ≤ n → parseL data dir = some (l, rest) →
    dir = dirL l ∧ data = dataL l ++ rest ∧ dir.length % 12 = 0
  | 0, data, dir, l, rest, hn, h => by
    have h0 : dir.length = 0 := by omega
    rw [parseL_nil data h0] at h
    simp only [Option.some.injEq, Prod.mk.injEq] at h
    obtain ⟨rfl, rfl⟩ := h
    exact ⟨by rw [List.eq_nil_of_length_eq_zero h0]; rfl, rfl, by omega⟩
  | n + 1, data, dir, l, rest, hn, h => by
    by_cases h0 : dir.length = 0
    · rw [parseL_nil data h0] at h
      simp only [Option.some.injEq, Prod.mk.injEq] at h
      obtain ⟨rfl, rfl⟩ := h
      exact ⟨by rw [List.eq_nil_of_length_eq_zero h0]; rfl, rfl, by omega⟩
    · by_cases h12 : dir.length < 12
      · rw [parseL_short data h0 h12] at h; cases h
      · by_cases hb : data.length < ofLe ((dir.drop 4).take 4) ∨ crc32 (data.take (ofLe ((dir.drop 4).take 4))) ≠ ofLe ((dir.drop 8).take 4)
        · rw [parseL_bad (by omega) hb] at h; cases h
        · rw [parseL_step (by omega) hb] at h
          cases hp : parseL (data.drop (ofLe ((dir.drop 4).take 4))) (dir.drop 12) with
          | none => rw [hp] at h; cases h
          | some p =>
            rw [hp] at h
            simp only [Option.map_some, Option.some.injEq, Prod.mk.injEq] at h
            obtain ⟨rfl, rfl⟩ := h
            obtain ⟨e1, e2, e3⟩ := parseL_some n (data.drop (ofLe ((dir.drop 4).take 4))) (dir.drop 12) p.1 p.2 (by rw [List.length_drop]; omega) (by rw [hp])
            have hsz : ¬ data.length < ofLe ((dir.drop 4).take 4) := fun h => hb (.inl h)
            have hcr : crc32 (data.take (ofLe ((dir.drop 4).take 4))) = ofLe ((dir.drop 8).take 4) := Decidable.byContradiction fun h => hb (.inr h)
            have ed : dir = dir.take 4 ++ ((dir.drop 4).take 4 ++ ((dir.drop 8).take 4 ++ dir.drop 12)) := by
              have h1 : dir.drop 12 = (dir.drop 8).drop 4 := by rw [List.drop_drop]
              have h2 : dir.drop 8 = (dir.drop 4).drop 4 := by rw [List.drop_drop]
              rw [h1, List.take_append_drop, h2, List.take_append_drop, List.take_append_drop]
            refine ⟨?_, ?_, by rw [List.length_drop] at e3; omega⟩
            · have hl : (data.take (ofLe ((dir.drop 4).take 4))).length = ofLe ((dir.drop 4).take 4) := by rw [List.length_take]; omega
              have e4 : dirL ((dir.take 4, data.take (ofLe ((dir.drop 4).take 4))) :: p.1) = dirOne (dir.take 4, data.take (ofLe ((dir.drop 4).take 4))) ++ dirL p.1 := by simp [dirL]
              rw [e4]
              unfold dirOne
              simp only
              rw [hl, hcr, le4_ofLe (by rw [List.length_take, List.length_drop]; omega), le4_ofLe (by rw [List.length_take, List.length_drop]; omega), ← e1]
              simpa using ed
            · have e5 : dataL ((dir.take 4, data.take (ofLe ((dir.drop 4).take 4))) :: p.1) = data.take (ofLe ((dir.drop 4).take 4)) ++ dataL p.1 := by simp [dataL]
              rw [e5, List.append_assoc, ← e2, List.take_append_drop]
theorem parseR_of : ∀ (l : List Chk) (b : List UInt8) (E at' : Nat) (rest : List UInt8), (∀ c ∈ l, c.1.length = 4 ∧ c.2.length < 4294967296) → (b.drop at').take (E - at') = dataL l ++ rest → parseR b E at' (dirL l) = some l
  | [], b, E, at', rest, _, _ => by rw [parseR_nil]; rfl
  | c :: r, b, E, at', rest, h, he => by
    obtain ⟨hc1, hc2⟩ := h c (List.mem_cons_self ..)
    have hd : dirL (c :: r) = dirOne c ++ dirL r := by simp [dirL]
    have ha : dataL (c :: r) ++ rest = c.2 ++ (dataL r ++ rest) := by simp [dataL]
    rw [ha] at he
    obtain ⟨p1, p2, p3, p4, p5⟩ := dirOne_parts hc1 hc2 (dirL r)
    have hl := congrArg List.length he
    rw [List.length_append, List.length_take] at hl
    have hsz : ¬ E - at' < c.2.length := by omega
    have h1 : (b.drop at').take c.2.length = c.2 := by
      have := congrArg (List.take c.2.length) he
      rw [List.take_take, List.take_left' rfl, show min c.2.length (E - at') = c.2.length by omega] at this
      exact this
    have h2 : (b.drop (at' + c.2.length)).take (E - (at' + c.2.length)) = dataL r ++ rest := by
      have := congrArg (List.drop c.2.length) he
      rw [List.drop_left' rfl, List.drop_take, List.drop_drop] at this
      rw [← this]
      congr 1
      omega
    rw [hd, parseR_step (by omega) (by rw [p2]; exact hsz), p1, p2, p4, h1, parseR_of r b E _ rest (fun x hx => h x (List.mem_cons_of_mem _ hx)) h2]
    rfl
theorem unf_whole {f : List UInt8} {n : Nat} (h0 : unfE f = 0) (hn : unfN f = n) (hf : f.length = n) : f = frameL (unfC f) ∧ (unfC f).length ≤ 131072 := by
  have hE := h0
  unfold unfE at hE
  split at hE
  · cases hE
  · rename_i h4
    split at hE
    · cases hE
    · rename_i h9
      split at hE
      · cases hE
      · rename_i h16
        split at hE
        · rename_i hcr
          unfold unfN at hn
          rw [if_pos h0] at hn
          unfold unfC
          rw [if_pos h0]
          obtain ⟨k, ek⟩ : ∃ k, ofLe (f.take 4) = k := ⟨_, rfl⟩
          rw [ek] at hn hcr h9 ⊢
          have hl : ((f.drop 4).take k).length = k := by rw [List.length_take, List.length_drop]; omega
          have h44 : le4 k = f.take 4 := by rw [← ek]; exact le4_ofLe (by rw [List.length_take]; omega)
          have ht : le4 k ++ (f.drop 4).take k = f.take (k + 4) := by
            rw [h44, Nat.add_comm k 4, List.take_add]
          refine ⟨?_, by omega⟩
          unfold frameL
          rw [hl, ht, hcr]
          have hd4 : ((f.drop (k + 4)).take 4).length = 4 := by rw [List.length_take, List.length_drop]; omega
          have e9 : (f.drop (k + 4)).take 4 = f.drop (k + 4) := List.take_of_length_le (by rw [List.length_drop]; omega)
          rw [le4_ofLe hd4, e9, List.take_append_drop]
        · cases hE
theorem bytes_parts {b : List UInt8} (h : b.length ≥ 20) (hn : ¬ (bodyL b).length < tailN b) : b = b.take 8 ++ (dataOf b ++ (frameOf b ++ le4 (tailN b))) ∧ (frameOf b).length = tailN b ∧ dataOf b = (b.drop 8).take (b.length - 4 - tailN b - 8) := by
  have hbl : (bodyL b).length = b.length - 12 := by unfold bodyL; rw [List.length_take, List.length_drop]; omega
  have h4 : ((b.drop (b.length - 4)).take 4).length = 4 := by rw [List.length_take, List.length_drop]; omega
  have ht : le4 (tailN b) = b.drop (b.length - 4) := by
    unfold tailN
    rw [le4_ofLe h4, List.take_of_length_le (by rw [List.length_drop]; omega)]
  refine ⟨?_, ?_, ?_⟩
  · rw [← List.append_assoc (dataOf b)]
    have e1 : dataOf b ++ frameOf b = bodyL b := List.take_append_drop _ _
    rw [e1, ht]
    unfold bodyL
    have e2 : b.drop (b.length - 4) = (b.drop 8).drop (b.length - 12) := by rw [List.drop_drop]; congr 1; omega
    rw [e2, List.take_append_drop, List.take_append_drop]
  · unfold frameOf; rw [List.length_drop]; omega
  · unfold dataOf
    rw [hbl]
    unfold bodyL
    rw [List.take_take]
    congr 1
    omega
theorem ref_read (b : List UInt8) : refReadL b = readL b := by
  have key : ∀ l, readL b = some l → refReadL b = some l := by
    intro l h
    unfold readL at h
    split at h
    · cases h
    · rename_i hg
      split at h
      · cases h
      · rename_i hn
        split at h
        · cases h
        · rename_i hu
          have hu1 : unfE (frameOf b) = 0 := Decidable.byContradiction fun h => hu (.inl h)
          have hu2 : unfN (frameOf b) = tailN b := Decidable.byContradiction fun h => hu (.inr h)
          have h20 : b.length ≥ 20 := by
            rcases Nat.lt_or_ge b.length 20 with h | h
            · exact (hg (.inr h)).elim
            · exact h
          have hm : b.take 8 = magicL := Decidable.byContradiction fun h => hg (.inl h)
          obtain ⟨hb, hf, hdt⟩ := bytes_parts h20 hn
          cases hp : parseL (dataOf b) (unfC (frameOf b)) with
          | none => rw [hp] at h; cases h
          | some p =>
            rw [hp] at h
            simp only [Option.bind_some] at h
            split at h
            · rename_i hc
              simp only [Option.some.injEq] at h
              subst h
              obtain ⟨hc1, hc2⟩ := hc
              obtain ⟨e1, e2, e3⟩ := parseL_some _ _ _ p.1 p.2 (Nat.le_refl _) (by rw [hp])
              rw [hc1, List.append_nil] at e2
              obtain ⟨f1, f2⟩ := unf_whole hu1 hu2 hf
              unfold refReadL
              rw [if_neg hg, if_neg hn, if_neg (by rintro (h | h | h); exact h hu1; exact h hu2; exact h e3)]
              have hpr : parseR b (b.length - 4 - tailN b) 8 (dirL p.1) = some p.1 := parseR_of p.1 b _ 8 [] (small_of_may hc2) (by rw [List.append_nil, ← e2, hdt])
              rw [e1, hpr]
              have hw : writeL p.1 = b := by
                rw [writeL_form, ← e2, ← e1, ← f1, hf]
                conv => rhs; rw [hb, hm]
              simp [hc2, hw]
            · cases h
  cases hr : readL b with
  | some l => exact key l hr
  | none =>
    cases hq : refReadL b with
    | none => rfl
    | some l =>
      exfalso
      unfold refReadL at hq
      split at hq
      · cases hq
      · split at hq
        · cases hq
        · split at hq
          · cases hq
          · cases hp : parseR b (b.length - 4 - tailN b) 8 (unfC (frameOf b)) with
            | none => rw [hp] at hq; cases hq
            | some l' =>
              rw [hp] at hq
              simp only [Option.bind_some] at hq
              split at hq
              · rename_i hc
                rw [← hc.2, read_write hc.1] at hr
                cases hr
              · cases hq
end Go.Proofs.Ytekmjegeiminnaa
