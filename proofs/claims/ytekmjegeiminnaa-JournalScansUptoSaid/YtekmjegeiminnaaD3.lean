/- The codec's calls on a variable's parts: nums, texts, value, cell, name, link, walked as runs of calls. -/
import Derived.Test.YtekmjegeiminnaaD2
namespace Go.Proofs.Ytekmjegeiminnaa
open Go.RowKit
set_option linter.unusedVariables false
set_option linter.unusedSimpArgs false

theorem Keeps.range {P : Nat → Prop} {w w' : World} (h : Keeps P w w') {b o : Nat} {cs : List Value} (hb : b < w.heap.size) (hp : P b) (hr : w.rangeAt b o cs) : w'.rangeAt b o cs := fun j v hv => (World.cell?_of_block (h b hb hp)).trans (hr j v hv)
theorem run_head {c pb f o : Nat} {l : List Call} {Q : (Nat → Prop) → Ending → World → Prop} {P : Nat → Prop} {w : World} (h : Run c pb ((f, o, none) :: l) Q P w) :
    Calls Try.prog f #[vP c 0, vP pb o] w fun e w2 => Keeps P w w2 ∧ ((e = unitE ∧ Run c pb l Q P w2) ∨ ((∃ p, e = .panicked p) ∧ Q P e w2)) := h w P (Ext.refl _ _)
theorem run_head3 {c pb f o g : Nat} {l : List Call} {Q : (Nat → Prop) → Ending → World → Prop} {P : Nat → Prop} {w : World} (h : Run c pb ((f, o, some g) :: l) Q P w) :
    Calls Try.prog f #[vP c 0, vP pb o, .func (.func g) #[vP c 0] #[]] w fun e w2 => Keeps P w w2 ∧ ((e = unitE ∧ Run c pb l Q P w2) ∨ ((∃ p, e = .panicked p) ∧ Q P e w2)) := h w P (Ext.refl _ _)

set_option maxRecDepth 100000 in
set_option maxHeartbeats 8000000 in
theorem nums_run (c pb ab : Nat) (os : List Nat) (Q : (Nat → Prop) → Ending → World → Prop) (P : Nat → Prop) (w : World) (hos : os.length ≤ 1000) (hr : w.rangeAt ab 0 (os.map (vP pb ·))) (hp : P ab) (hab : ab < w.heap.size)
    (h : Run c pb (os.map fun o => (103, o, none)) Q P w) :
    Calls Try.prog 126 #[vP c 0, .slice (some ⟨ab, 0, none⟩) os.length os.length] w fun e w' => Q P e w' := by
  have H := hidden h
  have HR := hidden hr
  clear h hr
  go_enter Try.func126, Try.ntmps126
  go_wp2_with fail
  go_loopw [8] (fun s wr => ∃ k : Nat, s = .int .i64 k ∧ k ≤ os.length ∧ wr.rangeAt ab 0 (os.map (vP pb ·)) ∧ ab < wr.heap.size ∧ Run c pb ((os.drop k).map fun o => (103, o, none)) Q P wr) (fun s _ => (os.length - intOf s).toNat)
  case atStart => exact ⟨0, rfl, by omega, HR.out, hab, H.out⟩
  case round =>
    obtain ⟨k, rfl, hk, hr, hab, h⟩ := hrel
    have H1 := hidden h
    have HR1 := hidden hr
    clear h hr
    by_cases hlt : k < os.length
    · have hcell : wr.cell? ⟨ab, k, none⟩ = some (vP pb os[k]) := by
        have := HR1.out k (vP pb os[k]) (by simp [hlt])
        rw [Nat.zero_add] at this; exact this
      have h2 := H1.out
      rw [List.drop_eq_getElem_cons hlt, List.map_cons] at h2
      have H2 := hidden (run_head h2)
      clear h2
      generalize os[k] = o at hcell H2
      go_wp2_with fail
      with_reducible refine H2.out.mono ?_
      rintro e w2 ⟨hk2, ⟨rfl, h3⟩ | ⟨⟨p, rfl⟩, h3⟩⟩
      · have H3 := hidden h3
        have HR2 := hidden (hk2.range hab hp HR1.out)
        have hab2 : Hid (ab < w2.heap.size) := hidden (Nat.lt_of_not_le (fun hge => by
          have := hk2 ab hab hp
          rw [Array.getElem?_eq_none hge] at this
          rw [Array.getElem?_eq_getElem hab] at this
          cases this))
        clear h3 hk2
        go_wp2_with fail
        exact ⟨⟨k + 1, by go_num, by omega, HR2.out, hab2.out, H3.out⟩, by simp [intOf]; omega⟩
      · have H3 := hidden h3
        clear h3 hk2
        go_wp2_with fail
        exact bodyPost_panic H3.out rfl
    · have hk' : k = os.length := by omega
      subst hk'
      have H2 := H1.out
      rw [List.drop_length] at H2
      have H3 := hidden (H2 wr P (Ext.refl _ _))
      clear H2
      go_wp2_with fail
      exact ⟨rfl, .tuple #[], by simp [results, Try.results126, go_sem], H3.out⟩

set_option maxRecDepth 100000 in
set_option maxHeartbeats 8000000 in
theorem texts_run (c pb ab : Nat) (os : List Nat) (Q : (Nat → Prop) → Ending → World → Prop) (P : Nat → Prop) (w : World) (hos : os.length ≤ 1000) (hr : w.rangeAt ab 0 (os.map (vP pb ·))) (hp : P ab) (hab : ab < w.heap.size)
    (h : Run c pb (os.map fun o => (122, o, none)) Q P w) :
    Calls Try.prog 125 #[vP c 0, .slice (some ⟨ab, 0, none⟩) os.length os.length] w fun e w' => Q P e w' := by
  have H := hidden h
  have HR := hidden hr
  clear h hr
  go_enter Try.func125, Try.ntmps125
  go_wp2_with fail
  go_loopw [8] (fun s wr => ∃ k : Nat, s = .int .i64 k ∧ k ≤ os.length ∧ wr.rangeAt ab 0 (os.map (vP pb ·)) ∧ ab < wr.heap.size ∧ Run c pb ((os.drop k).map fun o => (122, o, none)) Q P wr) (fun s _ => (os.length - intOf s).toNat)
  case atStart => exact ⟨0, rfl, by omega, HR.out, hab, H.out⟩
  case round =>
    obtain ⟨k, rfl, hk, hr, hab, h⟩ := hrel
    have H1 := hidden h
    have HR1 := hidden hr
    clear h hr
    by_cases hlt : k < os.length
    · have hcell : wr.cell? ⟨ab, k, none⟩ = some (vP pb os[k]) := by
        have := HR1.out k (vP pb os[k]) (by simp [hlt])
        rw [Nat.zero_add] at this; exact this
      have h2 := H1.out
      rw [List.drop_eq_getElem_cons hlt, List.map_cons] at h2
      have H2 := hidden (run_head h2)
      clear h2
      generalize os[k] = o at hcell H2
      go_wp2_with fail
      with_reducible refine H2.out.mono ?_
      rintro e w2 ⟨hk2, ⟨rfl, h3⟩ | ⟨⟨p, rfl⟩, h3⟩⟩
      · have H3 := hidden h3
        have HR2 := hidden (hk2.range hab hp HR1.out)
        have hab2 : Hid (ab < w2.heap.size) := hidden (Nat.lt_of_not_le (fun hge => by
          have := hk2 ab hab hp
          rw [Array.getElem?_eq_none hge] at this
          rw [Array.getElem?_eq_getElem hab] at this
          cases this))
        clear h3 hk2
        go_wp2_with fail
        exact ⟨⟨k + 1, by go_num, by omega, HR2.out, hab2.out, H3.out⟩, by simp [intOf]; omega⟩
      · have H3 := hidden h3
        clear h3 hk2
        go_wp2_with fail
        exact bodyPost_panic H3.out rfl
    · have hk' : k = os.length := by omega
      subst hk'
      have H2 := H1.out
      rw [List.drop_length] at H2
      have H3 := hidden (H2 wr P (Ext.refl _ _))
      clear H2
      go_wp2_with fail
      exact ⟨rfl, .tuple #[], by simp [results, Try.results125, go_sem], H3.out⟩

/-- A run's beginning, what is left of it behind. -/
theorem Run.split {c pb : Nat} {Q : (Nat → Prop) → Ending → World → Prop} {l2 : List Call} : ∀ {l1 : List Call} {P : Nat → Prop} {w : World},
    Run c pb (l1 ++ l2) Q P w → Run c pb l1 (fun P1 e w' => (e = unitE ∧ Run c pb l2 Q P1 w') ∨ ((∃ p, e = .panicked p) ∧ Q P1 e w')) P w
  | [], P, w, h => fun w1 P1 he => .inl ⟨rfl, Run.ext (l := l2) h he⟩
  | x :: l, P, w, h => fun w1 P1 he => (h w1 P1 he).mono fun e w2 ⟨h1, h2⟩ => ⟨h1, by
    rcases h2 with ⟨h3, h4⟩ | ⟨h3, h4⟩
    · exact .inl ⟨h3, Run.split h4⟩
    · exact .inr ⟨h3, .inr ⟨h3, h4⟩⟩⟩
/-- What is left of a run behind a call of some of it. -/
def Rest (c pb : Nat) (l2 : List Call) (Q : (Nat → Prop) → Ending → World → Prop) (e : Ending) (w2 : World) : Prop := (e = unitE ∧ ∃ P1, Run c pb l2 Q P1 w2) ∨ ((∃ p, e = .panicked p) ∧ ∃ P1, Q P1 e w2)
theorem rest_of {c pb : Nat} {l2 : List Call} {Q : (Nat → Prop) → Ending → World → Prop} {P1 : Nat → Prop} {e : Ending} {w2 : World} (h : (e = unitE ∧ Run c pb l2 Q P1 w2) ∨ ((∃ p, e = .panicked p) ∧ Q P1 e w2)) : Rest c pb l2 Q e w2 :=
  h.imp (fun ⟨h1, h2⟩ => ⟨h1, _, h2⟩) (fun ⟨h1, h2⟩ => ⟨h1, _, h2⟩)
theorem ext_one {P : Nat → Prop} {w w' : World} (hu : Upd (fun _ => False) w w') (hl : w.heap.size < w'.heap.size) : Ext P w (fun k => P k ∨ k = w.heap.size) w' :=
  ⟨hu, fun k hk => hk.imp (fun h => h) (fun h => by omega)⟩
theorem nums_call {c pb : Nat} (os : List Nat) {l2 : List Call} {Q : (Nat → Prop) → Ending → World → Prop} {P : Nat → Prop} {w w' : World} (hos : os.length ≤ 1000) (h : Run c pb ((os.map fun o => (103, o, none)) ++ l2) Q P w)
    (hu : Upd (fun _ => False) w w') (hl : w.heap.size < w'.heap.size) (hr : w'.rangeAt w.heap.size 0 (os.map (vP pb ·))) :
    Calls Try.prog 126 #[vP c 0, .slice (some ⟨w.heap.size, 0, none⟩) os.length os.length] w' (Rest c pb l2 Q) :=
  (nums_run c pb w.heap.size os _ (fun k => P k ∨ k = w.heap.size) w' hos hr (.inr rfl) hl (Run.split (Run.ext h (ext_one hu hl)))).mono fun e w2 h => rest_of h
theorem texts_call {c pb : Nat} (os : List Nat) {l2 : List Call} {Q : (Nat → Prop) → Ending → World → Prop} {P : Nat → Prop} {w w' : World} (hos : os.length ≤ 1000) (h : Run c pb ((os.map fun o => (122, o, none)) ++ l2) Q P w)
    (hu : Upd (fun _ => False) w w') (hl : w.heap.size < w'.heap.size) (hr : w'.rangeAt w.heap.size 0 (os.map (vP pb ·))) :
    Calls Try.prog 125 #[vP c 0, .slice (some ⟨w.heap.size, 0, none⟩) os.length os.length] w' (Rest c pb l2 Q) :=
  (texts_run c pb w.heap.size os _ (fun k => P k ∨ k = w.heap.size) w' hos hr (.inr rfl) hl (Run.split (Run.ext h (ext_one hu hl)))).mono fun e w2 h => rest_of h
theorem one_call {c pb f o : Nat} {l2 : List Call} {Q : (Nat → Prop) → Ending → World → Prop} {P : Nat → Prop} {w : World} (h : Run c pb ((f, o, none) :: l2) Q P w) : Calls Try.prog f #[vP c 0, vP pb o] w (Rest c pb l2 Q) :=
  (run_head h).mono fun e w2 h => rest_of h.2
theorem one_call3 {c pb f o g : Nat} {l2 : List Call} {Q : (Nat → Prop) → Ending → World → Prop} {P : Nat → Prop} {w : World} (h : Run c pb ((f, o, some g) :: l2) Q P w) : Calls Try.prog f #[vP c 0, vP pb o, .func (.func g) #[vP c 0] #[]] w (Rest c pb l2 Q) :=
  (run_head3 h).mono fun e w2 h => rest_of h.2
theorem rest_end {c pb : Nat} {Q : (Nat → Prop) → Ending → World → Prop} {P : Nat → Prop} {w w' : World} (h : Run c pb [] Q P w) (hu : Upd (fun _ => False) w w') : ∃ P1, Q P1 unitE w' :=
  ⟨_, h w' P ⟨hu, fun k hk => .inl hk⟩⟩
/-- A slice of pointers that has just been made. -/
theorem ptrs_at {w w0 : World} {vs : Array Value} {t : TypeId} (hu : Upd (fun _ => False) w w0) (he : w0.heap.size = w.heap.size) : (w0.alloc (.cells vs t)).rangeAt w.heap.size 0 vs.toList := by
  intro j v hv
  rw [← he, Nat.zero_add, World.cell?_alloc_at _ _ _ _ rfl]
  simpa using hv
theorem ptrs2 (w : World) (t : TypeId) (a b : Value) : (w.alloc (.cells #[a, b] t)).drew.rangeAt w.heap.size 0 [a, b] := ptrs_at (Upd.refl _ _) rfl
theorem ptrs3 (w : World) (t : TypeId) (a b c : Value) : (w.alloc (.cells #[a, b, c] t)).drew.rangeAt w.heap.size 0 [a, b, c] := ptrs_at (Upd.refl _ _) rfl
theorem ptrs4 (w : World) (t : TypeId) (a b c d : Value) : (w.alloc (.cells #[a, b, c, d] t)).drew.rangeAt w.heap.size 0 [a, b, c, d] := ptrs_at (Upd.refl _ _) rfl
theorem ptrs_new (w : World) (vs : Array Value) (t : TypeId) : Upd (fun _ => False) w (w.alloc (.cells vs t)).drew := (Upd.new _ _).trans (Upd.drew _) (fun _ _ h => h)
theorem ptrs_lt (w : World) (vs : Array Value) (t : TypeId) : w.heap.size < (w.alloc (.cells vs t)).drew.heap.size := by simp

end Go.Proofs.Ytekmjegeiminnaa
