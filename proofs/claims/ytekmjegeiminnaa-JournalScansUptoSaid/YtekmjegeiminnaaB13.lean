/- The reading codec's list, walked. -/
import Derived.Test.YtekmjegeiminnaaB12
import Derived.Deep.RegionLaw
namespace Go.Proofs.Ytekmjegeiminnaa
open Go.RowKit
set_option linter.unusedVariables false
set_option linter.unusedSimpArgs false

theorem decC_le {rs r : List UInt8} {n : Nat} (h : decC rs = some (n, r)) : n ≤ r.length ∧ r.length < rs.length := by
  unfold decC at h
  cases hd : decN rs with
  | none => rw [hd] at h; simp at h
  | some p =>
    rw [hd] at h
    simp only [Option.bind_some] at h
    split at h
    · rename_i hc
      simp only [Option.some.injEq, Prod.mk.injEq] at h
      obtain ⟨rfl, rfl⟩ := h
      exact ⟨by omega, decN_shorter hd⟩
    · cases h

/-- The state of a list that is being read. -/
structure ListR (w : World) (c pb po bb : Nat) (xs : List Int) (cur : List UInt8) (v : Value) (wr : World) : Prop where
  cod : CodR wr c bb cur
  cell : wr.cell? ⟨pb, po, none⟩ = some v
  frz : wr.frozen? ⟨pb, po, none⟩ = false
  own : OwnI w.heap.size wr v xs
  upd : Upd (fun k => k = c ∨ k = pb) w wr
theorem ListR.step {w w2 w3 : World} {c pb po bb : Nat} {xs ys : List Int} {cur : List UInt8} {v v3 : Value} (hc : c < w.heap.size) (hb : bb < w.heap.size) (hp : pb < w.heap.size) (hpc : pb ≠ c) (hpb : pb ≠ bb)
    (h : ListR w c pb po bb xs cur v w2) (g : GrewI w.heap.size v v3 ys w2 w3) : ListR w c pb po bb ys cur v3 (w3.setCell ⟨pb, po, none⟩ v3) := by
  have hs : Upd (fun k => k = pb) w3 (w3.setCell ⟨pb, po, none⟩ v3) := Upd.set rfl
  have hn : ∀ k, k < w.heap.size → ¬ some k = v.ownBlock := fun k hk e => by have := (h.own.lt k e.symm).1; omega
  refine ⟨(h.cod.upd g.upd (hn _ hc) (hn _ hb)).upd hs (by omega) (by omega), World.cell?_setCell_same _ _ _ (g.upd.cell h.cell (hn _ hp)), ?_, g.own.on hs (fun k hk e => by have := (g.own.lt k hk).1; omega), ?_⟩
  · rw [World.frozen?_setCell]; exact g.upd.frozen (Nat.lt_of_lt_of_le hp h.upd.size) h.frz (hn _ hp)
  · exact (h.upd.trans g.upd (fun i hi e => (hn i hi e).elim)).trans hs (fun i _ e => .inr e)
theorem ListR.on {w w2 w3 : World} {c pb po bb : Nat} {xs : List Int} {cur : List UInt8} {v : Value} (hp : pb < w.heap.size)
    (h : ListR w c pb po bb xs cur v w2) (g : Upd (fun _ => False) w2 w3) : ListR w c pb po bb xs cur v w3 :=
  ⟨h.cod.upd g (fun h => h) (fun h => h), g.cell h.cell (fun h => h), g.frozen (Nat.lt_of_lt_of_le hp h.upd.size) h.frz (fun h => h), h.own.on g (fun _ _ h => h), h.upd.trans g (fun _ _ h => h.elim)⟩

set_option maxRecDepth 100000 in
set_option maxHeartbeats 8000000 in
theorem list_r (c pb po bb : Nat) (rs : List UInt8) (w : World) (hc : CodR w c bb rs) (hb : bb < w.heap.size)
    (hp : w.cell? ⟨pb, po, none⟩ = some (.slice none 0 0)) (hpf : w.frozen? ⟨pb, po, none⟩ = false) (hpc : pb ≠ c) (hpb : pb ≠ bb) (hl : rs.length ≤ 1000000000000) :
    Calls Try.prog 102 #[.pointer (some ⟨c, 0, none⟩), .pointer (some ⟨pb, po, none⟩), .func (.func 103) #[.pointer (some ⟨c, 0, none⟩)] #[]] w fun e w' =>
      (∃ xs r v, decI rs = some (xs, r) ∧ e = .returned (.tuple #[]) ∧ CodR w' c bb r ∧ w'.cell? ⟨pb, po, none⟩ = some v ∧ w'.frozen? ⟨pb, po, none⟩ = false ∧ OwnI w.heap.size w' v xs ∧ Upd (fun k => k = c ∨ k = pb) w w')
      ∨ (decI rs = none ∧ e = .panicked wrongP ∧ Upd (fun k => k = c ∨ k = pb) w w' ∧ (∃ x, w'.cell? ⟨pb, po, none⟩ = some x) ∧ w'.frozen? ⟨pb, po, none⟩ = false) := by
  have hlt := hc.lt
  have hpl := World.block_lt_of_cell? w _ hp
  simp only at hpl
  go_enter Try.func102, Try.ntmps102
  go_wp2_with fail
  with_reducible refine (count_r c bb rs _ w hc hb).mono ?_
  rintro e w1 (⟨n, r0, hdc, rfl, hu, hc1⟩ | ⟨hdc, rfl, hu⟩)
  · have hp1 := hu.cell hp hpc
    have hpf1 := hu.frozen hpl hpf hpc
    have HD := hidden hdc
    have HU := hidden hu
    have HC := hidden hc1
    have hnl : n ≤ 1000000000000 := by have := decC_le hdc; omega
    clear hdc hu hc hp hpf
    obtain ⟨a, cap, c0, c1, c2, cf, -⟩ := hc1.facts
    clear hc1
    go_wp2_with fail
    go_loopw [35] (fun s wr => ∃ (k : Nat) (xs : List Int) (cur : List UInt8) (v : Value), s = .int .i64 k ∧ k ≤ n ∧ xs.length = k ∧ decI rs = (decS (n - k) cur).map (fun q => (xs ++ q.1, q.2)) ∧ ListR w c pb po bb xs cur v wr) (fun s _ => (n - intOf s).toNat)
    case atStart =>
      have hs : Upd (fun k => k = pb) w1 (w1.setCell ⟨pb, po, none⟩ (.slice none 0 0)) := Upd.set rfl
      exact ⟨0, [], r0, .slice none 0 0, rfl, by omega, rfl, by unfold decI; rw [HD.out]; simp, HC.out.upd hs (by omega) (by omega), World.cell?_setCell_same _ _ _ hp1, by rw [World.frozen?_setCell]; exact hpf1, OwnI.nil _ _, (HU.out.mono (N := fun k => k = c ∨ k = pb) (fun _ _ h => .inl h)).trans hs (fun _ _ h => .inr h)⟩
    case round =>
      clear c0 c1 c2 cf hp1 hpf1
      obtain ⟨k, xs, cur, v, rfl, hk, hxk, hd, hlr⟩ := hrel
      have HLR := hidden hlr
      obtain ⟨hcr, hp1, hpf1, ho, hu⟩ := hlr
      obtain ⟨a', cap', c0, c1, c2, cf, -⟩ := hcr.facts
      have HDK := hidden hd
      have HCR := hidden hcr
      have HO := hidden ho
      have HUR := hidden hu
      clear hd hcr ho hu
      by_cases hkn : k < n
      · go_wp2_with fail
        have hcl := HCR.out.lt
        have hbl : bb < wr.heap.size := Nat.lt_of_lt_of_le hb HUR.out.size
        have hpl2 : pb < wr.heap.size := Nat.lt_of_lt_of_le hpl HUR.out.size
        have HC1 : Hid (CodR (wr.alloc (.cells #[.int .i64 0] 3)) c bb cur) := hidden (HCR.out.upd (Upd.new (M := fun _ => False) _ _) (fun h => h) (fun h => h))
        with_reducible refine (num_r c wr.heap.size 0 bb cur 0 _ HC1.out (by rw [World.cell?_alloc_at _ _ _ _ rfl]; simp) (frozen_new _ _ _ _) (by omega)).mono ?_
        have hp2 : (wr.alloc (.cells #[.int .i64 0] 3)).cell? ⟨pb, po, none⟩ = some v := (Upd.new (M := fun _ => False) wr _).cell hp1 (fun h => h)
        have hpf2 : (wr.alloc (.cells #[.int .i64 0] 3)).frozen? ⟨pb, po, none⟩ = false := (Upd.new (M := fun _ => False) wr _).frozen hpl2 hpf1 (fun h => h)
        have HO1 : Hid (OwnI w.heap.size (wr.alloc (.cells #[.int .i64 0] 3)) v xs) := hidden (HO.out.on (Upd.new (M := fun _ => False) _ _) (fun _ _ h => h))
        have hf9 := frozen_new wr #[.int .i64 0] 3 0
        rintro e w2 (⟨m, r, hm, rfl, w0, hu, hcw, rfl⟩ | ⟨hm, rfl, hu⟩)
        · have hz := hu.size
          rw [World.size_alloc] at hz
          have h9 : w0.cell? ⟨wr.heap.size, 0, none⟩ = some (.int .i64 0) := hu.cell (by rw [World.cell?_alloc_at _ _ _ _ rfl]; simp) (by simp; omega)
          have h9' := World.cell?_setCell_same w0 ⟨wr.heap.size, 0, none⟩ (.int .i64 m) h9
          have hs : Upd (fun k => k = wr.heap.size) w0 (w0.setCell ⟨wr.heap.size, 0, none⟩ (.int .i64 m)) := Upd.set rfl
          have HU2 : Hid (Upd (fun k => k = c) wr (w0.setCell ⟨wr.heap.size, 0, none⟩ (.int .i64 m))) := hidden (((Upd.new (M := fun k => k = c) wr _).trans hu (fun _ _ h => h)).trans hs (fun i hi h => by omega))
          have hpz := hs.cell (hu.cell hp2 hpc) (by simp; omega)
          have hpfz := hs.frozen (by omega) (hu.frozen (by rw [World.size_alloc]; omega) hpf2 hpc) (by omega)
          have HCZ := hidden (hcw.upd hs (by omega) (by omega))
          have HOZ : Hid (OwnI w.heap.size (w0.setCell ⟨wr.heap.size, 0, none⟩ (.int .i64 m)) v xs) := hidden ((HO1.out.on hu (fun k hk h => by have := (HO.out.lt k hk).1; omega)).on hs (fun k hk h => by have := (HO.out.lt k hk).2; omega))
          have HM := hidden hm
          have hzz : wr.heap.size + 1 ≤ (w0.setCell ⟨wr.heap.size, 0, none⟩ (.int .i64 m)).heap.size := by simp; omega
          clear h9 hs hu hcw hz hm hf9 hp2 hpf2 hp1 hpf1 c0 c1 c2 cf
          generalize w0.setCell ⟨wr.heap.size, 0, none⟩ (.int .i64 m) = w2 at h9' HU2 hpz hpfz HCZ HOZ hzz
          have hxl : xs.length ≤ 10000000000000 := by omega
          have hsz2 : w.heap.size ≤ w2.heap.size := by have := HUR.out.size; omega
          have hUA : Hid (Upd (fun _ => False) w2 (w2.alloc (.cells #[.int .i64 m] 3)).drew) := hidden ((Upd.new _ _).trans (Upd.drew _) (fun _ _ h => h))
          have HNP : Hid (¬ some pb = v.ownBlock) := hidden (fun h => by have := (HO.out.lt _ h.symm).1; omega)
          have HN9 : Hid (¬ some wr.heap.size = v.ownBlock) := hidden (fun h => by have := (HO.out.lt _ h.symm).2; omega)
          have HLA : Hid (ListR w c pb po bb xs r v (w2.alloc (.cells #[.int .i64 m] 3)).drew) := hidden (ListR.on hpl ⟨HCZ.out, hpz, hpfz, HOZ.out, HUR.out.trans HU2.out (fun _ _ h => .inl h)⟩ hUA.out)
          have hpl3 : pb < w2.heap.size := by omega
          have h9l : wr.heap.size < w2.heap.size := by omega
          have hpn : pb ≠ w2.heap.size := by omega
          have h9n : wr.heap.size ≠ w2.heap.size := by omega
          go_wp2_with fail
          go_region_law ((refine step_append_I rfl (.tmp 42) (.tmp 44) rfl (B := w.heap.size) (v := v) (xs := xs) (n := m) (A := ⟨_, 0, none⟩) (c := 1) (by rfl) (HOZ.out.on hUA.out (fun _ _ h => h)) (by rfl) (by first | exact World.cell?_alloc_at _ _ _ _ rfl | (simp; done)) rfl hxl (Nat.le_trans hsz2 hUA.out.size) ?_; intro v3 w3 g3; have hpw := g3.upd.cell (hUA.out.cell hpz (fun h => h)) HNP.out; have h9w := g3.upd.cell (hUA.out.cell h9' (fun h => h)) HN9.out; have hpfw := g3.upd.frozen (Nat.lt_of_lt_of_le hpl (Nat.le_trans hsz2 hUA.out.size)) (hUA.out.frozen (Nat.lt_of_lt_of_le hpl hsz2) hpfz (fun h => h)) HNP.out; have G3 := hidden g3; obtain ⟨a3, cap3, rfl, _, _, _⟩ := g3.own.reads; clear g3))
          all_goals
            go_wp2_with fail
            have HL3 := hidden (ListR.step (po := po) hlt hb hpl hpc hpb HLA.out G3.out)
            refine ⟨⟨k + 1, xs ++ [m], r, .slice a3 (xs ++ [m]).length cap3, by go_num, by omega, by simp; omega, ?_, ?_⟩, by simp [intOf]; omega⟩
            · rw [HDK.out, show n - k = (n - (k + 1)) + 1 by omega, decS, HM.out]
              simp only [Option.bind_some, Option.map_map]
              congr 1
              funext q
              simp
            · have hl3 := HL3.out
              rw [show (xs ++ [m]).length = k + 1 by simp; omega] at hl3 ⊢
              exact hl3
        · have h0 : Hid (decI rs = none) := by
            show _ = _; rw [HDK.out, show n - k = (n - (k + 1)) + 1 by omega, decS, hm]; rfl
          have HU4 : Hid (Upd (fun k => k = c ∨ k = pb) w w2) := hidden (HUR.out.trans ((Upd.new (M := fun k => k = c) wr _).trans hu (fun _ _ h => h)) (fun _ _ h => .inl h))
          have HCE : Hid ((∃ x, w2.cell? ⟨pb, po, none⟩ = some x) ∧ w2.frozen? ⟨pb, po, none⟩ = false) := hidden ⟨⟨_, hu.cell hp2 hpc⟩, hu.frozen (by rw [World.size_alloc]; omega) hpf2 hpc⟩
          clear hu hm
          go_wp2_with fail
          exact bodyPost_panic (.inr ⟨h0.out, rfl, HU4.out, HCE.out⟩) rfl
      · have hkn' : k = n := by omega
        subst hkn'
        have h0 : Hid (decI rs = some (xs, cur)) := by show _ = _; rw [HDK.out, Nat.sub_self, decS]; simp
        go_wp2_with fail
        refine ⟨rfl, .tuple #[], by simp [results, Try.results102, go_sem], ?_⟩
        exact Or.inl ⟨xs, cur, v, h0.out, rfl, HLR.out.cod, HLR.out.cell, HLR.out.frz, HLR.out.own, HLR.out.upd⟩
  · have h0 : Hid (decI rs = none) := by show _ = _; unfold decI; rw [hdc]; rfl
    have HU := hidden hu
    have HCE : Hid ((∃ x, w1.cell? ⟨pb, po, none⟩ = some x) ∧ w1.frozen? ⟨pb, po, none⟩ = false) := hidden ⟨⟨_, hu.cell hp hpc⟩, hu.frozen hpl hpf hpc⟩
    clear hu hdc
    go_wp2_with fail
    exact bodyPost_panic (.inr ⟨h0.out, rfl, HU.out.mono (fun _ _ h => .inl h), HCE.out⟩) rfl
end Go.Proofs.Ytekmjegeiminnaa
