/- The codec's struct functions, walked as runs of calls. Printed by gen_d.py. -/
import Derived.Test.YtekmjegeiminnaaD3
namespace Go.Proofs.Ytekmjegeiminnaa
open Go.RowKit
set_option linter.unusedVariables false
set_option linter.unusedSimpArgs false

set_option maxRecDepth 100000 in
set_option maxHeartbeats 8000000 in
theorem value_run (c pb po : Nat) (Q : (Nat → Prop) → Ending → World → Prop) (w : World) (hc : c < w.heap.size) (hpb : pb < w.heap.size)
    (h : Run c pb [(103, po, none), (103, po + 1, none), (122, po + 2, none)] Q (fun _ => False) w) :
    Calls Try.prog 127 #[vP c 0, vP pb po] w fun e w' => ∃ P1, Q P1 e w' := by
  have H := hidden h
  clear h hc hpb
  have HCALL : Hid (∀ w', Upd (fun _ => False) w w' → w.heap.size < w'.heap.size → w'.rangeAt w.heap.size 0 [vP pb po, vP pb (po + 1)] → Calls Try.prog 126 #[vP c 0, .slice (some ⟨w.heap.size, 0, none⟩) 2 2] w' (Rest c pb [(122, po + 2, none)] Q)) := hidden (fun w' hu hl hr => nums_call [po, po + 1] (by simp) H.out hu hl hr)
  go_enter Try.func127, Try.ntmps127
  go_wp2_with fail
  go_region_with ((go_at_call 126; go_loud ((with_reducible refine (HCALL.out _ (ptrs_new _ _ _) (ptrs_lt _ _ _) (ptrs2 _ _ _ _)).mono ?_); rintro e w1 (⟨rfl, P1, h3⟩ | ⟨⟨p, rfl⟩, P1, h3⟩); rotate_left; exact bodyPost_panic ⟨P1, h3⟩ rfl; dsimp only)))
  clear HCALL H
  have H := hidden h3
  clear h3
  have HCALL : Hid (Calls Try.prog 122 #[vP c 0, vP pb (po + 2)] w1 (Rest c pb [] Q)) := hidden (one_call H.out)
  go_wp2_with fail
  (with_reducible refine HCALL.out.mono ?_)
  rintro e w2 (⟨rfl, P1, h3⟩ | ⟨⟨p, rfl⟩, P1, h3⟩)
  rotate_left
  · have H4 := hidden h3
    clear h3 H HCALL
    go_wp2_with fail
    exact bodyPost_panic ⟨P1, H4.out⟩ rfl
  clear HCALL H
  have H := hidden h3
  clear h3
  go_wp2_with fail
  exact ⟨rfl, .tuple #[], by simp [results, Try.results127, go_sem], rest_end H.out (Upd.refl _ _)⟩

set_option maxRecDepth 100000 in
set_option maxHeartbeats 8000000 in
theorem cell_run (c pb po : Nat) (Q : (Nat → Prop) → Ending → World → Prop) (w : World) (hc : c < w.heap.size) (hpb : pb < w.heap.size)
    (h : Run c pb [(103, po, none), (103, po + 1, none), (122, po + 2, none)] Q (fun _ => False) w) :
    Calls Try.prog 124 #[vP c 0, vP pb po] w fun e w' => ∃ P1, Q P1 e w' := by
  have H := hidden h
  clear h hc hpb
  have HCALL : Hid (∀ w', Upd (fun _ => False) w w' → w.heap.size < w'.heap.size → w'.rangeAt w.heap.size 0 [vP pb po, vP pb (po + 1)] → Calls Try.prog 126 #[vP c 0, .slice (some ⟨w.heap.size, 0, none⟩) 2 2] w' (Rest c pb [(122, po + 2, none)] Q)) := hidden (fun w' hu hl hr => nums_call [po, po + 1] (by simp) H.out hu hl hr)
  go_enter Try.func124, Try.ntmps124
  go_wp2_with fail
  go_region_with ((go_at_call 126; go_loud ((with_reducible refine (HCALL.out _ (ptrs_new _ _ _) (ptrs_lt _ _ _) (ptrs2 _ _ _ _)).mono ?_); rintro e w1 (⟨rfl, P1, h3⟩ | ⟨⟨p, rfl⟩, P1, h3⟩); rotate_left; exact bodyPost_panic ⟨P1, h3⟩ rfl; dsimp only)))
  clear HCALL H
  have H := hidden h3
  clear h3
  have HCALL : Hid (Calls Try.prog 122 #[vP c 0, vP pb (po + 2)] w1 (Rest c pb [] Q)) := hidden (one_call H.out)
  go_wp2_with fail
  (with_reducible refine HCALL.out.mono ?_)
  rintro e w2 (⟨rfl, P1, h3⟩ | ⟨⟨p, rfl⟩, P1, h3⟩)
  rotate_left
  · have H4 := hidden h3
    clear h3 H HCALL
    go_wp2_with fail
    exact bodyPost_panic ⟨P1, H4.out⟩ rfl
  clear HCALL H
  have H := hidden h3
  clear h3
  go_wp2_with fail
  exact ⟨rfl, .tuple #[], by simp [results, Try.results124, go_sem], rest_end H.out (Upd.refl _ _)⟩

set_option maxRecDepth 100000 in
set_option maxHeartbeats 8000000 in
theorem name_run (c pb po : Nat) (Q : (Nat → Prop) → Ending → World → Prop) (w : World) (hc : c < w.heap.size) (hpb : pb < w.heap.size)
    (h : Run c pb [(122, po, none), (122, po + 1, none), (122, po + 2, none)] Q (fun _ => False) w) :
    Calls Try.prog 110 #[vP c 0, vP pb po] w fun e w' => ∃ P1, Q P1 e w' := by
  have H := hidden h
  clear h hc hpb
  have HCALL : Hid (∀ w', Upd (fun _ => False) w w' → w.heap.size < w'.heap.size → w'.rangeAt w.heap.size 0 [vP pb po, vP pb (po + 1), vP pb (po + 2)] → Calls Try.prog 125 #[vP c 0, .slice (some ⟨w.heap.size, 0, none⟩) 3 3] w' (Rest c pb [] Q)) := hidden (fun w' hu hl hr => texts_call [po, po + 1, po + 2] (by simp) H.out hu hl hr)
  go_enter Try.func110, Try.ntmps110
  go_wp2_with fail
  go_region_with ((go_at_call 125; go_loud ((with_reducible refine (HCALL.out _ (ptrs_new _ _ _) (ptrs_lt _ _ _) (ptrs3 _ _ _ _ _)).mono ?_); rintro e w1 (⟨rfl, P1, h3⟩ | ⟨⟨p, rfl⟩, P1, h3⟩); rotate_left; exact bodyPost_panic ⟨P1, h3⟩ rfl; dsimp only)))
  clear HCALL H
  have H := hidden h3
  clear h3
  go_wp2_with fail
  exact ⟨rfl, .tuple #[], by simp [results, Try.results110, go_sem], rest_end H.out (Upd.refl _ _)⟩

set_option maxRecDepth 100000 in
set_option maxHeartbeats 8000000 in
theorem link_run (c pb po : Nat) (Q : (Nat → Prop) → Ending → World → Prop) (w : World) (hc : c < w.heap.size) (hpb : pb < w.heap.size)
    (h : Run c pb [(122, po, none), (122, po + 1, none), (103, po + 2, none), (103, po + 3, none), (127, po + 4, none)] Q (fun _ => False) w) :
    Calls Try.prog 112 #[vP c 0, vP pb po] w fun e w' => ∃ P1, Q P1 e w' := by
  have H := hidden h
  clear h hc hpb
  have HCALL : Hid (∀ w', Upd (fun _ => False) w w' → w.heap.size < w'.heap.size → w'.rangeAt w.heap.size 0 [vP pb po, vP pb (po + 1)] → Calls Try.prog 125 #[vP c 0, .slice (some ⟨w.heap.size, 0, none⟩) 2 2] w' (Rest c pb [(103, po + 2, none), (103, po + 3, none), (127, po + 4, none)] Q)) := hidden (fun w' hu hl hr => texts_call [po, po + 1] (by simp) H.out hu hl hr)
  go_enter Try.func112, Try.ntmps112
  go_wp2_with fail
  go_region_with ((go_at_call 125; go_loud ((with_reducible refine (HCALL.out _ (ptrs_new _ _ _) (ptrs_lt _ _ _) (ptrs2 _ _ _ _)).mono ?_); rintro e w1 (⟨rfl, P1, h3⟩ | ⟨⟨p, rfl⟩, P1, h3⟩); rotate_left; exact bodyPost_panic ⟨P1, h3⟩ rfl; dsimp only)))
  clear HCALL H
  have H := hidden h3
  clear h3
  have HCALL : Hid (∀ w', Upd (fun _ => False) w1 w' → w1.heap.size < w'.heap.size → w'.rangeAt w1.heap.size 0 [vP pb (po + 2), vP pb (po + 3)] → Calls Try.prog 126 #[vP c 0, .slice (some ⟨w1.heap.size, 0, none⟩) 2 2] w' (Rest c pb [(127, po + 4, none)] Q)) := hidden (fun w' hu hl hr => nums_call [po + 2, po + 3] (by simp) H.out hu hl hr)
  go_wp2_with fail
  go_region_with ((go_at_call 126; go_loud ((with_reducible refine (HCALL.out _ (ptrs_new _ _ _) (ptrs_lt _ _ _) (ptrs2 _ _ _ _)).mono ?_); rintro e w2 (⟨rfl, P1, h3⟩ | ⟨⟨p, rfl⟩, P1, h3⟩); rotate_left; exact bodyPost_panic ⟨P1, h3⟩ rfl; dsimp only)))
  clear HCALL H
  have H := hidden h3
  clear h3
  have HCALL : Hid (Calls Try.prog 127 #[vP c 0, vP pb (po + 4)] w2 (Rest c pb [] Q)) := hidden (one_call H.out)
  go_wp2_with fail
  (with_reducible refine HCALL.out.mono ?_)
  rintro e w3 (⟨rfl, P1, h3⟩ | ⟨⟨p, rfl⟩, P1, h3⟩)
  rotate_left
  · have H4 := hidden h3
    clear h3 H HCALL
    go_wp2_with fail
    exact bodyPost_panic ⟨P1, H4.out⟩ rfl
  clear HCALL H
  have H := hidden h3
  clear h3
  go_wp2_with fail
  exact ⟨rfl, .tuple #[], by simp [results, Try.results112, go_sem], rest_end H.out (Upd.refl _ _)⟩

set_option maxRecDepth 100000 in
set_option maxHeartbeats 8000000 in
theorem sheet_run (c pb po : Nat) (Q : (Nat → Prop) → Ending → World → Prop) (w : World) (hc : c < w.heap.size) (hpb : pb < w.heap.size)
    (h : Run c pb [(122, po, none), (123, po + 1, some 124)] Q (fun _ => False) w) :
    Calls Try.prog 108 #[vP c 0, vP pb po] w fun e w' => ∃ P1, Q P1 e w' := by
  have H := hidden h
  clear h hc hpb
  have hmf : ∀ (fn : Fn) (first cap : Array Value) (w : World), (Instr.makeFunc fn first cap).run Try.prog w = .ok (.func fn first cap) w := fun _ _ _ _ => rfl
  have HCALL : Hid (Calls Try.prog 122 #[vP c 0, vP pb (po)] w (Rest c pb [(123, po + 1, some 124)] Q)) := hidden (one_call H.out)
  go_enter Try.func108, Try.ntmps108
  go_wp2_with fail
  (with_reducible refine HCALL.out.mono ?_)
  rintro e w1 (⟨rfl, P1, h3⟩ | ⟨⟨p, rfl⟩, P1, h3⟩)
  rotate_left
  · have H4 := hidden h3
    clear h3 H HCALL
    go_wp2_with fail
    exact bodyPost_panic ⟨P1, H4.out⟩ rfl
  clear HCALL H
  have H := hidden h3
  clear h3
  have HCALL : Hid (Calls Try.prog 123 #[vP c 0, vP pb (po + 1), .func (.func 124) #[vP c 0] #[]] w1 (Rest c pb [] Q)) := hidden (one_call3 H.out)
  go_wp2_with fail
  (with_reducible refine HCALL.out.mono ?_)
  rintro e w2 (⟨rfl, P1, h3⟩ | ⟨⟨p, rfl⟩, P1, h3⟩)
  rotate_left
  · have H4 := hidden h3
    clear h3 H HCALL
    go_wp2_with fail
    exact bodyPost_panic ⟨P1, H4.out⟩ rfl
  clear HCALL H
  have H := hidden h3
  clear h3
  go_wp2_with fail
  exact ⟨rfl, .tuple #[], by simp [results, Try.results108, go_sem], rest_end H.out (Upd.refl _ _)⟩

set_option maxRecDepth 100000 in
set_option maxHeartbeats 8000000 in
theorem op_run (c pb po : Nat) (Q : (Nat → Prop) → Ending → World → Prop) (w : World) (hc : c < w.heap.size) (hpb : pb < w.heap.size)
    (h : Run c pb [(103, po, none), (122, po + 1, none), (122, po + 2, none), (103, po + 3, none), (103, po + 4, none), (103, po + 5, none), (103, po + 6, none), (122, po + 7, none), (110, po + 8, none), (112, po + 11, none), (123, po + 18, some 124)] Q (fun _ => False) w) :
    Calls Try.prog 116 #[vP c 0, vP pb po] w fun e w' => ∃ P1, Q P1 e w' := by
  have H := hidden h
  clear h hc hpb
  have hmf : ∀ (fn : Fn) (first cap : Array Value) (w : World), (Instr.makeFunc fn first cap).run Try.prog w = .ok (.func fn first cap) w := fun _ _ _ _ => rfl
  have HCALL : Hid (Calls Try.prog 103 #[vP c 0, vP pb (po)] w (Rest c pb [(122, po + 1, none), (122, po + 2, none), (103, po + 3, none), (103, po + 4, none), (103, po + 5, none), (103, po + 6, none), (122, po + 7, none), (110, po + 8, none), (112, po + 11, none), (123, po + 18, some 124)] Q)) := hidden (one_call H.out)
  go_enter Try.func116, Try.ntmps116
  go_wp2_with fail
  (with_reducible refine HCALL.out.mono ?_)
  rintro e w1 (⟨rfl, P1, h3⟩ | ⟨⟨p, rfl⟩, P1, h3⟩)
  rotate_left
  · have H4 := hidden h3
    clear h3 H HCALL
    go_wp2_with fail
    exact bodyPost_panic ⟨P1, H4.out⟩ rfl
  clear HCALL H
  have H := hidden h3
  clear h3
  have HCALL : Hid (∀ w', Upd (fun _ => False) w1 w' → w1.heap.size < w'.heap.size → w'.rangeAt w1.heap.size 0 [vP pb (po + 1), vP pb (po + 2)] → Calls Try.prog 125 #[vP c 0, .slice (some ⟨w1.heap.size, 0, none⟩) 2 2] w' (Rest c pb [(103, po + 3, none), (103, po + 4, none), (103, po + 5, none), (103, po + 6, none), (122, po + 7, none), (110, po + 8, none), (112, po + 11, none), (123, po + 18, some 124)] Q)) := hidden (fun w' hu hl hr => texts_call [po + 1, po + 2] (by simp) H.out hu hl hr)
  go_wp2_with fail
  go_region_with ((go_at_call 125; go_loud ((with_reducible refine (HCALL.out _ (ptrs_new _ _ _) (ptrs_lt _ _ _) (ptrs2 _ _ _ _)).mono ?_); rintro e w2 (⟨rfl, P1, h3⟩ | ⟨⟨p, rfl⟩, P1, h3⟩); rotate_left; exact bodyPost_panic ⟨P1, h3⟩ rfl; dsimp only)))
  clear HCALL H
  have H := hidden h3
  clear h3
  have HCALL : Hid (∀ w', Upd (fun _ => False) w2 w' → w2.heap.size < w'.heap.size → w'.rangeAt w2.heap.size 0 [vP pb (po + 3), vP pb (po + 4), vP pb (po + 5), vP pb (po + 6)] → Calls Try.prog 126 #[vP c 0, .slice (some ⟨w2.heap.size, 0, none⟩) 4 4] w' (Rest c pb [(122, po + 7, none), (110, po + 8, none), (112, po + 11, none), (123, po + 18, some 124)] Q)) := hidden (fun w' hu hl hr => nums_call [po + 3, po + 4, po + 5, po + 6] (by simp) H.out hu hl hr)
  go_wp2_with fail
  go_region_with ((go_at_call 126; go_loud ((with_reducible refine (HCALL.out _ (ptrs_new _ _ _) (ptrs_lt _ _ _) (ptrs4 _ _ _ _ _ _)).mono ?_); rintro e w3 (⟨rfl, P1, h3⟩ | ⟨⟨p, rfl⟩, P1, h3⟩); rotate_left; exact bodyPost_panic ⟨P1, h3⟩ rfl; dsimp only)))
  clear HCALL H
  have H := hidden h3
  clear h3
  have HCALL : Hid (Calls Try.prog 122 #[vP c 0, vP pb (po + 7)] w3 (Rest c pb [(110, po + 8, none), (112, po + 11, none), (123, po + 18, some 124)] Q)) := hidden (one_call H.out)
  go_wp2_with fail
  (with_reducible refine HCALL.out.mono ?_)
  rintro e w4 (⟨rfl, P1, h3⟩ | ⟨⟨p, rfl⟩, P1, h3⟩)
  rotate_left
  · have H4 := hidden h3
    clear h3 H HCALL
    go_wp2_with fail
    exact bodyPost_panic ⟨P1, H4.out⟩ rfl
  clear HCALL H
  have H := hidden h3
  clear h3
  have HCALL : Hid (Calls Try.prog 110 #[vP c 0, vP pb (po + 8)] w4 (Rest c pb [(112, po + 11, none), (123, po + 18, some 124)] Q)) := hidden (one_call H.out)
  go_wp2_with fail
  (with_reducible refine HCALL.out.mono ?_)
  rintro e w5 (⟨rfl, P1, h3⟩ | ⟨⟨p, rfl⟩, P1, h3⟩)
  rotate_left
  · have H4 := hidden h3
    clear h3 H HCALL
    go_wp2_with fail
    exact bodyPost_panic ⟨P1, H4.out⟩ rfl
  clear HCALL H
  have H := hidden h3
  clear h3
  have HCALL : Hid (Calls Try.prog 112 #[vP c 0, vP pb (po + 11)] w5 (Rest c pb [(123, po + 18, some 124)] Q)) := hidden (one_call H.out)
  go_wp2_with fail
  (with_reducible refine HCALL.out.mono ?_)
  rintro e w6 (⟨rfl, P1, h3⟩ | ⟨⟨p, rfl⟩, P1, h3⟩)
  rotate_left
  · have H4 := hidden h3
    clear h3 H HCALL
    go_wp2_with fail
    exact bodyPost_panic ⟨P1, H4.out⟩ rfl
  clear HCALL H
  have H := hidden h3
  clear h3
  have HCALL : Hid (Calls Try.prog 123 #[vP c 0, vP pb (po + 18), .func (.func 124) #[vP c 0] #[]] w6 (Rest c pb [] Q)) := hidden (one_call3 H.out)
  go_wp2_with fail
  (with_reducible refine HCALL.out.mono ?_)
  rintro e w7 (⟨rfl, P1, h3⟩ | ⟨⟨p, rfl⟩, P1, h3⟩)
  rotate_left
  · have H4 := hidden h3
    clear h3 H HCALL
    go_wp2_with fail
    exact bodyPost_panic ⟨P1, H4.out⟩ rfl
  clear HCALL H
  have H := hidden h3
  clear h3
  go_wp2_with fail
  exact ⟨rfl, .tuple #[], by simp [results, Try.results116, go_sem], rest_end H.out (Upd.refl _ _)⟩

set_option maxRecDepth 100000 in
set_option maxHeartbeats 8000000 in
theorem book_run (c pb po : Nat) (Q : (Nat → Prop) → Ending → World → Prop) (w : World) (hc : c < w.heap.size) (hpb : pb < w.heap.size)
    (h : Run c pb [(107, po, some 108), (109, po + 1, some 110), (111, po + 2, some 112)] Q (fun _ => False) w) :
    Calls Try.prog 82 #[vP c 0, vP pb po] w fun e w' => ∃ P1, Q P1 e w' := by
  have H := hidden h
  clear h hc hpb
  have hmf : ∀ (fn : Fn) (first cap : Array Value) (w : World), (Instr.makeFunc fn first cap).run Try.prog w = .ok (.func fn first cap) w := fun _ _ _ _ => rfl
  have HCALL : Hid (Calls Try.prog 107 #[vP c 0, vP pb (po), .func (.func 108) #[vP c 0] #[]] w (Rest c pb [(109, po + 1, some 110), (111, po + 2, some 112)] Q)) := hidden (one_call3 H.out)
  go_enter Try.func82, Try.ntmps82
  go_wp2_with fail
  (with_reducible refine HCALL.out.mono ?_)
  rintro e w1 (⟨rfl, P1, h3⟩ | ⟨⟨p, rfl⟩, P1, h3⟩)
  rotate_left
  · have H4 := hidden h3
    clear h3 H HCALL
    go_wp2_with fail
    exact bodyPost_panic ⟨P1, H4.out⟩ rfl
  clear HCALL H
  have H := hidden h3
  clear h3
  have HCALL : Hid (Calls Try.prog 109 #[vP c 0, vP pb (po + 1), .func (.func 110) #[vP c 0] #[]] w1 (Rest c pb [(111, po + 2, some 112)] Q)) := hidden (one_call3 H.out)
  go_wp2_with fail
  (with_reducible refine HCALL.out.mono ?_)
  rintro e w2 (⟨rfl, P1, h3⟩ | ⟨⟨p, rfl⟩, P1, h3⟩)
  rotate_left
  · have H4 := hidden h3
    clear h3 H HCALL
    go_wp2_with fail
    exact bodyPost_panic ⟨P1, H4.out⟩ rfl
  clear HCALL H
  have H := hidden h3
  clear h3
  have HCALL : Hid (Calls Try.prog 111 #[vP c 0, vP pb (po + 2), .func (.func 112) #[vP c 0] #[]] w2 (Rest c pb [] Q)) := hidden (one_call3 H.out)
  go_wp2_with fail
  (with_reducible refine HCALL.out.mono ?_)
  rintro e w3 (⟨rfl, P1, h3⟩ | ⟨⟨p, rfl⟩, P1, h3⟩)
  rotate_left
  · have H4 := hidden h3
    clear h3 H HCALL
    go_wp2_with fail
    exact bodyPost_panic ⟨P1, H4.out⟩ rfl
  clear HCALL H
  have H := hidden h3
  clear h3
  go_wp2_with fail
  exact ⟨rfl, .tuple #[], by simp [results, Try.results82, go_sem], rest_end H.out (Upd.refl _ _)⟩

end Go.Proofs.Ytekmjegeiminnaa
