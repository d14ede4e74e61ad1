/- The law BytesReads, walked. -/
import Derived.Test.YtekmjegeiminnaaF6
import Derived.Test.YtekmjegeiminnaaE7
import Derived.Deep.RegionHeld3
import Derived.Deep.DrawnRows
namespace Go.Proofs.Ytekmjegeiminnaa
open Go.RowKit
set_option linter.unusedVariables false
set_option linter.unusedSimpArgs false
attribute [local go_sem ↓] Go.wp_at_zero Go.wp_at_succ

theorem book_nil_ok : tBook.cod.ok ([], [], []) := ⟨⟨by simp, fun x hx => by cases hx⟩, ⟨by simp, fun x hx => by cases hx⟩, ⟨by simp, fun x hx => by cases hx⟩⟩
theorem list_nil_rep {α : Type} (A : Ty α) (S : Nat → Prop) (w : World) : (tList A).rep S w [.slice none 0 0] [] := ⟨none, 0, rfl, Nat.le_refl _, by decide, fun i hi => by simp at hi⟩
theorem book_nil_rep (S : Nat → Prop) (w : World) : tBook.rep S w [.slice none 0 0, .slice none 0 0, .slice none 0 0] ([], [], []) :=
  ⟨[.slice none 0 0], _, rfl, list_nil_rep _ _ _, [.slice none 0 0], _, rfl, list_nil_rep _ _ _, list_nil_rep _ _ _⟩
theorem encN_zero_len : (encN 0).length ≤ 10 := encN_length ⟨by decide, by decide⟩
/-- What a reader of a book answers, in one form. -/
def BookAns (bs : List UInt8) (w' : World) (c : Int) (X : BookD) (us : List Value) : Prop :=
  tBook.rep (· < w'.heap.size) w' us X ∧ tBook.cod.ok X ∧ (tBook.cod.enc X).length ≤ bs.length + 100 ∧ ((c = 0 ∧ whole tBook.cod bs = some X ∧ bs = tBook.cod.enc X) ∨ (c = 12 ∧ whole tBook.cod bs = none ∧ X = ([], [], [])))
theorem ReadB.ans {bs : List UInt8} {w w' : World} {e : Ending} (h : ReadB bs w e w') : Below w.heap.size w w' ∧ ∃ (c : Int) (X : BookD) (a1 : Option Addr) (l1 c1 : Nat) (a2 : Option Addr) (l2 c2 : Nat) (a3 : Option Addr) (l3 c3 : Nat), e = .returned (.tuple #[.agg #[.slice a1 l1 c1, .slice a2 l2 c2, .slice a3 l3 c3], .int .i64 c]) ∧ BookAns bs w' c X [.slice a1 l1 c1, .slice a2 l2 c2, .slice a3 l3 c3] := by
  obtain ⟨hb, ⟨X, vs, hw, rfl, hr⟩ | ⟨hw, rfl⟩⟩ := h
  · obtain ⟨a1, l1, c1, a2, l2, c2, a3, l3, c3, rfl⟩ := book_cells hr
    obtain ⟨e1, e2⟩ := enc_whole _ hw
    refine ⟨hb, 0, X, a1, l1, c1, a2, l2, c2, a3, l3, c3, rfl, tBook.mono hr (fun k hk => hk.2), e2, by rw [← e1]; omega, .inl ⟨rfl, hw, e1⟩⟩
  · refine ⟨hb, 12, ([], [], []), none, 0, 0, none, 0, 0, none, 0, 0, rfl, book_nil_rep _ _, book_nil_ok, ?_, .inr ⟨rfl, hw, rfl⟩⟩
    have := encN_zero_len
    show ((encN 0 ++ encM tSheet.cod []) ++ ((encN 0 ++ encM tName.cod []) ++ (encN 0 ++ encM tLink.cod []))).length ≤ _
    simp only [List.length_append, encM, List.map_nil, List.flatten_nil, List.length_nil]
    omega
theorem BookAns.same {bs : List UInt8} {w w' : World} {c d : Int} {X Y : BookD} {us vs : List Value} (h : BookAns bs w c X us) (k : BookAns bs w' d Y vs) : d = c ∧ Y = X := by
  rcases h.2.2.2 with ⟨rfl, h1, -⟩ | ⟨rfl, h1, rfl⟩ <;> rcases k.2.2.2 with ⟨rfl, k1, -⟩ | ⟨rfl, k1, rfl⟩
  · rw [h1] at k1; cases k1; exact ⟨rfl, rfl⟩
  · rw [h1] at k1; cases k1
  · rw [h1] at k1; cases k1
  · exact ⟨rfl, rfl⟩

/-- What a reader of changes answers, in one form. -/
def OpsAns (bs : List UInt8) (w' : World) (c : Int) (X : List OpD) (us : List Value) : Prop :=
  tOps.rep (· < w'.heap.size) w' us X ∧ tOps.cod.ok X ∧ (tOps.cod.enc X).length ≤ bs.length + 100 ∧ ((c = 0 ∧ whole tOps.cod bs = some X ∧ bs = tOps.cod.enc X) ∨ (c = 12 ∧ whole tOps.cod bs = none ∧ X = []))
theorem ReadO.ans {bs : List UInt8} {w w' : World} {e : Ending} (h : ReadO bs w e w') : Below w.heap.size w w' ∧ ∃ (c : Int) (X : List OpD) (a1 : Option Addr) (l1 c1 : Nat), e = .returned (.tuple #[.slice a1 l1 c1, .int .i64 c]) ∧ OpsAns bs w' c X [.slice a1 l1 c1] := by
  obtain ⟨hb, ⟨X, v, hw, rfl, hr⟩ | ⟨hw, rfl⟩⟩ := h
  · obtain ⟨e1, e2⟩ := enc_whole _ hw
    have hr' := hr
    obtain ⟨a1, c1, hv, -⟩ := hr'
    cases hv
    exact ⟨hb, 0, X, a1, _, c1, rfl, tOps.mono hr (fun k hk => hk.2), e2, by rw [← e1]; omega, .inl ⟨rfl, hw, e1⟩⟩
  · refine ⟨hb, 12, [], none, 0, 0, rfl, list_nil_rep _ _ _, ⟨by simp, fun x hx => by cases hx⟩, ?_, .inr ⟨rfl, hw, rfl⟩⟩
    have := encN_zero_len
    show (encN 0 ++ encM tOp.cod []).length ≤ _
    simp only [List.length_append, encM, List.map_nil, List.flatten_nil, List.length_nil]
    omega
theorem OpsAns.same {bs : List UInt8} {w w' : World} {c d : Int} {X Y : List OpD} {us vs : List Value} (h : OpsAns bs w c X us) (k : OpsAns bs w' d Y vs) : d = c ∧ Y = X := by
  rcases h.2.2.2 with ⟨rfl, h1, -⟩ | ⟨rfl, h1, rfl⟩ <;> rcases k.2.2.2 with ⟨rfl, k1, -⟩ | ⟨rfl, k1, rfl⟩
  · rw [h1] at k1; cases k1; exact ⟨rfl, rfl⟩
  · rw [h1] at k1; cases k1
  · rw [h1] at k1; cases k1
  · exact ⟨rfl, rfl⟩
/-- What a reader of ints answers, in one form. -/
def IntsAns (bs : List UInt8) (c : Int) (X : List Int) : Prop := (c = 0 ∧ readI bs = some X) ∨ (c = 12 ∧ readI bs = none ∧ X = [])
theorem readI_len {bs : List UInt8} {xs : List Int} (h : readI bs = some xs) : xs.length ≤ bs.length := by
  have h' : whole (cList cN) bs = some xs := by
    unfold whole
    unfold readI at h
    rw [← decL_decI] at h; exact h
  have := (enc_whole _ h').1
  have h2 := encM_ge cN xs
  rw [this]
  show _ ≤ (encN xs.length ++ encM cN xs).length
  rw [List.length_append]; omega
theorem ReadI.ans {bs : List UInt8} {w w' : World} {e : Ending} (h : ReadI bs w e w') : Below w.heap.size w w' ∧ ∃ (c : Int) (X : List Int) (v : Value), e = .returned (.tuple #[v, .int .i64 c]) ∧ (∃ a cap, v = .slice a X.length cap ∧ IntsAt w' a X ∧ X.length ≤ bs.length) ∧ IntsAns bs c X := by
  obtain ⟨hb, ⟨X, v, hw, rfl, ho⟩ | ⟨hw, rfl⟩⟩ := h
  · obtain ⟨a, cap, hv, h1, -, -⟩ := ho.reads
    exact ⟨hb, 0, X, v, rfl, ⟨a, cap, hv, h1, readI_len hw⟩, .inl ⟨rfl, hw⟩⟩
  · exact ⟨hb, 12, [], _, rfl, ⟨none, 0, rfl, fun i hi => by simp at hi, by simp⟩, .inr ⟨rfl, hw, rfl⟩⟩
theorem ReadIR.ans {bs : List UInt8} {w w' : World} {e : Ending} (h : ReadIR bs w e w') : Below w.heap.size w w' ∧ ∃ (c : Int) (X : List Int) (v : Value), e = .returned (.tuple #[v, .int .i64 c]) ∧ (∃ a cap, v = .slice a X.length cap ∧ IntsAt w' a X ∧ X.length ≤ bs.length) ∧ IntsAns bs c X := by
  obtain ⟨hb, ⟨X, v, hw, rfl, a, cap, hv, h1, -⟩ | ⟨hw, rfl⟩⟩ := h
  · exact ⟨hb, 0, X, v, rfl, ⟨a, cap, hv, h1, readI_len hw⟩, .inl ⟨rfl, hw⟩⟩
  · exact ⟨hb, 12, [], _, rfl, ⟨none, 0, rfl, fun i hi => by simp at hi, by simp⟩, .inr ⟨rfl, hw, rfl⟩⟩
theorem IntsAns.same {bs : List UInt8} {c d : Int} {X Y : List Int} (h : IntsAns bs c X) (k : IntsAns bs d Y) : d = c ∧ Y = X := by
  rcases h with ⟨rfl, h1⟩ | ⟨rfl, h1, rfl⟩ <;> rcases k with ⟨rfl, k1⟩ | ⟨rfl, k1, rfl⟩
  · rw [h1] at k1; cases k1; exact ⟨rfl, rfl⟩
  · rw [h1] at k1; cases k1
  · rw [h1] at k1; cases k1
  · exact ⟨rfl, rfl⟩
theorem six_of {w : World} {b b2 : Nat} {x y z p q r : Value} (h : Three w b x y z ∧ Three w b2 p q r) : w.cell? ⟨b, 0, none⟩ = some x ∧ w.cell? ⟨b, 1, none⟩ = some y ∧ w.cell? ⟨b, 2, none⟩ = some z ∧ w.cell? ⟨b2, 0, none⟩ = some p ∧ w.cell? ⟨b2, 1, none⟩ = some q ∧ w.cell? ⟨b2, 2, none⟩ = some r :=
  ⟨h.1.1, h.1.2.1, h.1.2.2, h.2.1, h.2.2.1, h.2.2.2⟩
set_option maxRecDepth 100000 in
set_option maxHeartbeats 32000000 in
theorem reads_law (a : Option Addr) (cap : Nat) (bs : List UInt8) (w : World) (h : BytesAt w a bs) (hcap : bs.length ≤ cap) (hc2 : (cap : Int) ≤ 9223372036854775807) (ha : ∀ A, a = some A → A.block < w.heap.size) :
    Calls Try.prog 12 #[.slice a bs.length cap] w fun e w' => e = .returned (.bool true) ∧ Below w.heap.size w w' := by
  have HQ := hidden h
  have HA := hidden ha
  clear h ha
  by_cases hbig : 20000 < bs.length
  · go_enter Try.func12, Try.ntmps12
    go_wp2_with fail
    with_reducible refine (lives_02 w).mono ?_
    rintro e w1 ⟨rfl, hb⟩
    have B := hidden hb
    clear hb
    go_wp2_with fail
    go_ret
    exact ⟨rfl, B.out⟩
  · go_enter Try.func12, Try.ntmps12
    go_wp2_with fail
    with_reducible refine (readbook_any a _ cap bs w HQ.out rfl hcap hc2 (by omega) HA.out).mono ?_
    rintro e w1 hr
    obtain ⟨hb, c, X, a1, l1, c1, a2, l2, c2, a3, l3, c3, rfl, hans⟩ := ReadB.ans hr
    have hb1 : Below w1.heap.size w1 (w1.alloc (.cells #[.slice a1 l1 c1, .slice a2 l2 c2, .slice a3 l3 c3] 68)) := (Below.refl _ _).alloc (Nat.le_refl _) _
    have B1 := hidden (hb.trans (hb1.mono hb.size))
    have HANS := hidden hans
    have T1 : Hid (Three (w1.alloc (.cells #[.slice a1 l1 c1, .slice a2 l2 c2, .slice a3 l3 c3] 68)) w1.heap.size (.slice a1 l1 c1) (.slice a2 l2 c2) (.slice a3 l3 c3)) := hidden (three_cells (new_range w1 [.slice a1 l1 c1, .slice a2 l2 c2, .slice a3 l3 c3] 68))
    have R1 : Hid (tBook.rep (· < (w1.alloc (.cells #[.slice a1 l1 c1, .slice a2 l2 c2, .slice a3 l3 c3] 68)).heap.size) (w1.alloc (.cells #[.slice a1 l1 c1, .slice a2 l2 c2, .slice a3 l3 c3] 68)) [.slice a1 l1 c1, .slice a2 l2 c2, .slice a3 l3 c3] X) := hidden (rep_on hans.1 hb1)
    have Q1 : Hid (BytesAt (w1.alloc (.cells #[.slice a1 l1 c1, .slice a2 l2 c2, .slice a3 l3 c3] 68)) a bs) := hidden (HQ.out.on' B1.out)
    have A1 : Hid (∀ A, a = some A → A.block < (w1.alloc (.cells #[.slice a1 l1 c1, .slice a2 l2 c2, .slice a3 l3 c3] 68)).heap.size) := hidden (fun A hA => Nat.lt_of_lt_of_le (HA.out A hA) B1.out.size)
    have hp1 : 0 < (w1.alloc (.cells #[.slice a1 l1 c1, .slice a2 l2 c2, .slice a3 l3 c3] 68)).heap.size := by rw [World.size_alloc]; omega
    have hbx : w1.heap.size < (w1.alloc (.cells #[.slice a1 l1 c1, .slice a2 l2 c2, .slice a3 l3 c3] 68)).heap.size := by rw [World.size_alloc]; omega
    clear hr hb hb1 hans
    go_wp2_with fail
    generalize w1.alloc (.cells #[.slice a1 l1 c1, .slice a2 l2 c2, .slice a3 l3 c3] 68) = W1 at *
    generalize w1.heap.size = bx at *
    with_reducible refine (readbook_rd a cap bs W1 Q1.out hcap hc2 (by omega) A1.out hp1).mono ?_
    rintro e w2 hr
    obtain ⟨hb, d, Y, p1, m1, d1, p2, m2, d2, p3, m3, d3, rfl, hans⟩ := ReadB.ans hr
    obtain ⟨rfl, rfl⟩ := HANS.out.same hans
    have hb1 : Below w2.heap.size w2 (w2.alloc (.cells #[.slice p1 m1 d1, .slice p2 m2 d2, .slice p3 m3 d3] 68)) := (Below.refl _ _).alloc (Nat.le_refl _) _
    have hb2 := hb.trans (hb1.mono hb.size)
    have B2 := hidden (B1.out.trans (hb2.mono B1.out.size))
    have T2 : Hid (Three (w2.alloc (.cells #[.slice p1 m1 d1, .slice p2 m2 d2, .slice p3 m3 d3] 68)) bx (.slice a1 l1 c1) (.slice a2 l2 c2) (.slice a3 l3 c3)) := hidden (T1.out.on hb2)
    have S2 : Hid (Three (w2.alloc (.cells #[.slice p1 m1 d1, .slice p2 m2 d2, .slice p3 m3 d3] 68)) w2.heap.size (.slice p1 m1 d1) (.slice p2 m2 d2) (.slice p3 m3 d3)) := hidden (three_cells (new_range w2 [.slice p1 m1 d1, .slice p2 m2 d2, .slice p3 m3 d3] 68))
    have R2 := hidden (rep_on R1.out hb2)
    have Y2 : Hid (tBook.rep (· < (w2.alloc (.cells #[.slice p1 m1 d1, .slice p2 m2 d2, .slice p3 m3 d3] 68)).heap.size) (w2.alloc (.cells #[.slice p1 m1 d1, .slice p2 m2 d2, .slice p3 m3 d3] 68)) [.slice p1 m1 d1, .slice p2 m2 d2, .slice p3 m3 d3] Y) := hidden (rep_on hans.1 hb1)
    have Q2 : Hid (BytesAt (w2.alloc (.cells #[.slice p1 m1 d1, .slice p2 m2 d2, .slice p3 m3 d3] 68)) a bs) := hidden (HQ.out.on' B2.out)
    have A2 : Hid (∀ A, a = some A → A.block < (w2.alloc (.cells #[.slice p1 m1 d1, .slice p2 m2 d2, .slice p3 m3 d3] 68)).heap.size) := hidden (fun A hA => Nat.lt_of_lt_of_le (HA.out A hA) B2.out.size)
    have hp2 : 0 < (w2.alloc (.cells #[.slice p1 m1 d1, .slice p2 m2 d2, .slice p3 m3 d3] 68)).heap.size := by rw [World.size_alloc]; omega
    have HAN := HANS.out.2
    have HAN2 := hidden HAN
    clear hr hb hb1 hb2 hans HAN HANS T1 R1 Q1 A1 hp1 hbx
    go_upto_region 5 with fail
    generalize w2.alloc (.cells #[.slice p1 m1 d1, .slice p2 m2 d2, .slice p3 m3 d3] 68) = W2 at *
    generalize w2.heap.size = by2 at *
    go_cut [46] from 25 to 45 (fun s46 wx => s46 = .bool false ∧ Below W2.heap.size W2 wx)
    case first =>
      obtain ⟨hok, hlen, hcase⟩ := HAN2.out
      have HCX : Hid (∀ W, Below W2.heap.size W2 W → Calls Try.prog 48 #[.agg #[.slice a1 l1 c1, .slice a2 l2 c2, .slice a3 l3 c3]] W fun e w' => Below W.heap.size W w' ∧ ∃ v, e = .returned v ∧ OwnB W.heap.size w' v (tBook.cod.enc Y)) := hidden (fun W hW => refbook [.slice a1 l1 c1, .slice a2 l2 c2, .slice a3 l3 c3] Y W (rep_on R2.out hW) hok (by omega))
      have HCY : Hid (∀ W, Below W2.heap.size W2 W → Calls Try.prog 48 #[.agg #[.slice p1 m1 d1, .slice p2 m2 d2, .slice p3 m3 d3]] W fun e w' => Below W.heap.size W w' ∧ ∃ v, e = .returned v ∧ OwnB W.heap.size w' v (tBook.cod.enc Y)) := hidden (fun W hW => refbook [.slice p1 m1 d1, .slice p2 m2 d2, .slice p3 m3 d3] Y W (rep_on Y2.out hW) hok (by omega))
      have HCB : Hid (∀ W, Below W2.heap.size W2 W → Calls Try.prog 47 #[.agg #[.slice a1 l1 c1, .slice a2 l2 c2, .slice a3 l3 c3]] W fun e w' => Below W.heap.size W w' ∧ ∃ v, e = .returned v ∧ OwnB W.heap.size w' v (tBook.cod.enc Y)) := hidden (fun W hW => book_any [.slice a1 l1 c1, .slice a2 l2 c2, .slice a3 l3 c3] Y W (rep_on R2.out hW) hok (by omega))
      have HSS : Hid (∀ W, Below W2.heap.size W2 W → Three W bx (.slice a1 l1 c1) (.slice a2 l2 c2) (.slice a3 l3 c3) ∧ Three W by2 (.slice p1 m1 d1) (.slice p2 m2 d2) (.slice p3 m3 d3)) := hidden (fun W hW => ⟨T2.out.on hW, S2.out.on hW⟩)
      have HB : Hid (Below W2.heap.size W2 W2.drew) := hidden (below_drew W2)
      have QB : Hid (BytesAt W2.drew a bs) := hidden (Q2.out.on' (below_drew W2))
      generalize hfs : tBook.cod.enc Y = fs at HCX HCY HCB hcase
      clear hfs hok hlen
      rcases hcase with ⟨rfl, -, hbf⟩ | ⟨rfl, -, -⟩
      · subst hbf
        go_region_held3 (fun w' => w'.cell? ⟨bx, 0, none⟩ = some (.slice a1 l1 c1) ∧ w'.cell? ⟨bx, 1, none⟩ = some (.slice a2 l2 c2) ∧ w'.cell? ⟨bx, 2, none⟩ = some (.slice a3 l3 c3) ∧ w'.cell? ⟨by2, 0, none⟩ = some (.slice p1 m1 d1) ∧ w'.cell? ⟨by2, 1, none⟩ = some (.slice p2 m2 d2) ∧ w'.cell? ⟨by2, 2, none⟩ = some (.slice p3 m3 d3)) (first | exact six_of (HSS.out _ HB.out) | go_keep)
          (first
            | (go_at_call_of 48 (Value.agg #[.slice a1 l1 c1, .slice a2 l2 c2, .slice a3 l3 c3]); (with_reducible refine (HCX.out _ HB.out).mono ?_); rintro e wx ⟨hb, vx, rfl, ho⟩; obtain ⟨ax, cx, rfl, qx, -, -⟩ := ho.reads; (try (replace qy := qy.on' hb)); (try (replace QB := hidden (QB.out.on' hb))); replace HB := hidden (HB.out.trans (hb.mono HB.out.size)); clear hb ho)
            | (go_at_call_of 48 (Value.agg #[.slice p1 m1 d1, .slice p2 m2 d2, .slice p3 m3 d3]); (with_reducible refine (HCY.out _ HB.out).mono ?_); rintro e wy ⟨hb, vy, rfl, ho⟩; obtain ⟨ay, cy, rfl, qy, -, -⟩ := ho.reads; (try (replace qx := qx.on' hb)); (try (replace QB := hidden (QB.out.on' hb))); replace HB := hidden (HB.out.trans (hb.mono HB.out.size)); clear hb ho)
            | (go_at_call 47; (with_reducible refine (HCB.out _ HB.out).mono ?_); rintro e wz ⟨hb, vz, rfl, ho⟩; obtain ⟨az, cz, rfl, qz, -, -⟩ := ho.reads; (try (replace qx := qx.on' hb)); (try (replace qy := qy.on' hb)); (try (replace QB := hidden (QB.out.on' hb))); replace HB := hidden (HB.out.trans (hb.mono HB.out.size)); clear hb ho)
            | (go_at_call_of 22 ax; (with_reducible refine (same_eq _ _ _ _ _ _ bs _ qx qy rfl rfl).mono ?_); rintro e w9 ⟨rfl, rfl⟩; clear qx qy)
            | (go_at_call 22; (with_reducible refine (same_eq _ _ _ _ _ _ bs _ qz QB.out rfl rfl).mono ?_); rintro e w9 ⟨rfl, rfl⟩; clear qz)
            | fail)
        all_goals
          go_wp2_with fail
          go_meet
          exact ⟨rfl, HB.out⟩
      · obtain ⟨k0, k1, k2, k3, k4, k5⟩ := six_of (HSS.out _ HB.out)
        first
        | (go_region_law (go_simp; first
            | (go_at_call_of 48 (Value.agg #[.slice a1 l1 c1, .slice a2 l2 c2, .slice a3 l3 c3]); (with_reducible refine (HCX.out _ HB.out).mono ?_); rintro e wx ⟨hb, vx, rfl, ho⟩; obtain ⟨ax, cx, rfl, qx, -, -⟩ := ho.reads; (try (replace qy := qy.on' hb)); replace HB := hidden (HB.out.trans (hb.mono HB.out.size)); clear hb ho k0 k1 k2 k3 k4 k5; obtain ⟨k0, k1, k2, k3, k4, k5⟩ := six_of (HSS.out _ HB.out))
            | (go_at_call_of 48 (Value.agg #[.slice p1 m1 d1, .slice p2 m2 d2, .slice p3 m3 d3]); (with_reducible refine (HCY.out _ HB.out).mono ?_); rintro e wy ⟨hb, vy, rfl, ho⟩; obtain ⟨ay, cy, rfl, qy, -, -⟩ := ho.reads; (try (replace qx := qx.on' hb)); replace HB := hidden (HB.out.trans (hb.mono HB.out.size)); clear hb ho k0 k1 k2 k3 k4 k5; obtain ⟨k0, k1, k2, k3, k4, k5⟩ := six_of (HSS.out _ HB.out))
            | (go_at_call 22; (with_reducible refine (same_eq _ _ _ _ _ _ fs _ qx qy rfl rfl).mono ?_); rintro e w9 ⟨rfl, rfl⟩; clear qx qy)
            | fail))
        | fail
        all_goals
          go_wp2_with fail
          go_meet
          exact ⟨rfl, HB.out⟩
    case rest =>
      obtain ⟨hs46, hbc⟩ := hcut
      subst hs46
      have B3 := hidden (B2.out.trans (hbc.mono B2.out.size))
      have hp3 : 0 < wc.heap.size := Nat.lt_of_lt_of_le hp2 hbc.size
      clear hbc HAN2 T2 S2 R2 Y2 Q2 A2 hp2 B2
      obtain ⟨W3, hW3⟩ : ∃ W3 : World, W3 = wc := ⟨_, rfl⟩
      subst hW3
      go_wp2_with fail
      with_reducible refine (readops_any a _ cap bs W3 (HQ.out.on' B3.out) rfl hcap hc2 (by omega) (fun A hA => Nat.lt_of_lt_of_le (HA.out A hA) B3.out.size)).mono ?_
      rintro e w4 hr
      obtain ⟨hb, c, X, a1, l1, c1, rfl, hans⟩ := ReadO.ans hr
      have B4 := hidden (B3.out.trans (hb.mono B3.out.size))
      have hp4 : 0 < w4.heap.size := Nat.lt_of_lt_of_le hp3 hb.size
      have HANS := hidden hans
      clear hr hb hans
      go_wp2_with fail
      with_reducible refine (readops_rd a cap bs w4 (HQ.out.on' B4.out) hcap hc2 (by omega) (fun A hA => Nat.lt_of_lt_of_le (HA.out A hA) B4.out.size) hp4).mono ?_
      rintro e w5 hr
      obtain ⟨hb, d, Y, p1, m1, d1, rfl, hans⟩ := ReadO.ans hr
      obtain ⟨rfl, rfl⟩ := HANS.out.same hans
      have B5 := hidden (B4.out.trans (hb.mono B4.out.size))
      have hp5 : 0 < w5.heap.size := Nat.lt_of_lt_of_le hp4 hb.size
      have R5 := hidden (rep_on HANS.out.1 hb)
      have Y5 := hidden hans.1
      have HAN2 := hidden hans.2
      clear hr hb hans HANS hp4
      go_upto_region 9 with fail
      go_cut [78] from 57 to 77 (fun s78 wx => s78 = .bool false ∧ Below w5.heap.size w5 wx)
      case first =>
        obtain ⟨hok, hlen, hcase⟩ := HAN2.out
        have HCX : Hid (∀ W, Below w5.heap.size w5 W → Calls Try.prog 51 #[.slice a1 l1 c1] W fun e w' => Below W.heap.size W w' ∧ ∃ v, e = .returned v ∧ OwnB W.heap.size w' v (tOps.cod.enc Y)) := hidden (fun W hW => refops _ Y W (rep_on R5.out hW) hok (by omega))
        have HCY : Hid (∀ W, Below w5.heap.size w5 W → Calls Try.prog 51 #[.slice p1 m1 d1] W fun e w' => Below W.heap.size W w' ∧ ∃ v, e = .returned v ∧ OwnB W.heap.size w' v (tOps.cod.enc Y)) := hidden (fun W hW => refops _ Y W (rep_on Y5.out hW) hok (by omega))
        have HCB : Hid (∀ W, Below w5.heap.size w5 W → Calls Try.prog 50 #[.slice a1 l1 c1] W fun e w' => Below W.heap.size W w' ∧ ∃ v, e = .returned v ∧ OwnB W.heap.size w' v (tOps.cod.enc Y)) := hidden (fun W hW => ops_any _ Y W (rep_on R5.out hW) hok (by omega))
        have QB : Hid (BytesAt w5 a bs) := hidden (HQ.out.on' B5.out)
        generalize hfs : tOps.cod.enc Y = fs at HCX HCY HCB hcase
        clear hfs hok hlen
        rcases hcase with ⟨rfl, -, hbf⟩ | ⟨rfl, -, -⟩
        · subst hbf
          go_wp2_with fail
          with_reducible refine (HCX.out _ (Below.refl _ _)).mono ?_
          rintro e w6 ⟨hb, vx, rfl, ho⟩
          obtain ⟨ax, cx, rfl, qx, -, -⟩ := ho.reads
          have B6 := hidden hb
          have Q6 := hidden qx
          clear hb ho qx
          go_wp2_with fail
          with_reducible refine (HCY.out _ B6.out).mono ?_
          rintro e w7 ⟨hb, vy, rfl, ho⟩
          obtain ⟨ay, cy, rfl, qy, -, -⟩ := ho.reads
          have B7 := hidden (B6.out.trans (hb.mono B6.out.size))
          have Q7 := hidden (Q6.out.on' hb)
          clear hb ho
          go_wp2_with fail
          with_reducible refine (same_eq _ _ _ _ _ _ bs _ Q7.out qy rfl rfl).mono ?_
          rintro e w8 ⟨rfl, rfl⟩
          clear qy
          go_wp2_with fail
          with_reducible refine (HCB.out _ B7.out).mono ?_
          rintro e w8 ⟨hb, vz, rfl, ho⟩
          obtain ⟨az, cz, rfl, qz, -, -⟩ := ho.reads
          have B8 := hidden (B7.out.trans (hb.mono B7.out.size))
          clear hb ho
          go_wp2_with fail
          with_reducible refine (same_eq _ _ _ _ _ _ bs _ qz (QB.out.on' B8.out) rfl rfl).mono ?_
          rintro e w9 ⟨rfl, rfl⟩
          clear qz
          go_wp2_with fail
          go_meet
          exact ⟨rfl, B8.out⟩
        · go_wp2_with fail
          with_reducible refine (HCX.out _ (Below.refl _ _)).mono ?_
          rintro e w6 ⟨hb, vx, rfl, ho⟩
          obtain ⟨ax, cx, rfl, qx, -, -⟩ := ho.reads
          have B6 := hidden hb
          have Q6 := hidden qx
          clear hb ho qx
          go_wp2_with fail
          with_reducible refine (HCY.out _ B6.out).mono ?_
          rintro e w7 ⟨hb, vy, rfl, ho⟩
          obtain ⟨ay, cy, rfl, qy, -, -⟩ := ho.reads
          have B7 := hidden (B6.out.trans (hb.mono B6.out.size))
          have Q7 := hidden (Q6.out.on' hb)
          clear hb ho
          go_wp2_with fail
          with_reducible refine (same_eq _ _ _ _ _ _ fs _ Q7.out qy rfl rfl).mono ?_
          rintro e w8 ⟨rfl, rfl⟩
          clear qy
          go_wp2_with fail
          go_meet
          exact ⟨rfl, B7.out⟩
      case rest =>
        obtain ⟨hs78, hbc⟩ := hcut
        subst hs78
        have B6 := hidden (B5.out.trans (hbc.mono B5.out.size))
        have hp6 : 0 < wc.heap.size := Nat.lt_of_lt_of_le hp5 hbc.size
        clear hbc HAN2 R5 Y5 B5 hp5
        obtain ⟨W6, hW6⟩ : ∃ W6 : World, W6 = wc := ⟨_, rfl⟩
        subst hW6
        go_wp2_with fail
        with_reducible refine (readints_any a _ cap bs W6 (HQ.out.on' B6.out) rfl hcap hc2 (by omega) (fun A hA => Nat.lt_of_lt_of_le (HA.out A hA) B6.out.size)).mono ?_
        rintro e w7 hr
        obtain ⟨hb, c, X, v, rfl, hans⟩ := ReadI.ans hr
        obtain ⟨ax, cx, rfl, ix, hlx⟩ := hans.1
        have B7 := hidden (B6.out.trans (hb.mono B6.out.size))
        have hp7 : 0 < w7.heap.size := Nat.lt_of_lt_of_le hp6 hb.size
        have HANS := hidden hans.2
        have IX := hidden ix
        clear hr hb hans ix
        go_wp2_with fail
        with_reducible refine (readints_rd a cap bs w7 (HQ.out.on' B7.out) hcap hc2 (by omega) (fun A hA => Nat.lt_of_lt_of_le (HA.out A hA) B7.out.size) hp7).mono ?_
        rintro e w8 hr
        obtain ⟨hb, d, Y, v, rfl, hans⟩ := ReadIR.ans hr
        obtain ⟨ay, cy, rfl, iy, hly⟩ := hans.1
        obtain ⟨rfl, rfl⟩ := IntsAns.same HANS.out hans.2
        have B8 := hidden (B7.out.trans (hb.mono B7.out.size))
        have IX8 := hidden (IX.out.on' hb)
        have IY := hidden iy
        clear hr hb hans iy HANS
        go_wp2_with fail
        with_reducible refine (ints_same _ _ _ _ _ _ Y _ IX8.out IY.out rfl rfl (by omega)).mono ?_
        rintro e w9 ⟨rfl, hb⟩
        have B9 := hidden (B8.out.trans (hb.mono B8.out.size))
        clear hb
        go_wp2_with fail
        with_reducible refine (lives_02 _).mono ?_
        rintro e w10 ⟨rfl, hb⟩
        have B10 := hidden (B9.out.trans (hb.mono B9.out.size))
        clear hb
        go_wp2_with fail
        go_ret
        exact ⟨rfl, B10.out⟩
end Go.Proofs.Ytekmjegeiminnaa
