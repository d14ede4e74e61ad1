/- Appends of bytes, as laws; both Frames, walked. -/
import Derived.Test.YtekmjegeiminnaaB4
namespace Go.Proofs.Ytekmjegeiminnaa
open Go.RowKit
set_option linter.unusedVariables false
set_option linter.unusedSimpArgs false

section
variable {P : Program} (w : World)
theorem run_append_nothing (base : Nat) (t ty e : TypeId) (i : TypeInfo) (size : Nat) (ht : P.underlying t = some (.slice e)) (hi : P.info? e = some i)
    (v : Value) (n : Nat) (xs : List Value) (hown : w.ownsRow base e size v n xs) (c : Nat) : (Builtin.append_ #[t, t] ty #[v, .slice none 0 c]).run P w = .ok v w := by
  rcases hown.2 with ⟨rfl, rfl⟩ | ⟨g, cap, cur, rfl, _, _, hnc, _⟩
  · simp [Builtin.append_, run_underlying ht, sizeOf, typeInfo, hi, Builtin.lenOf, Builtin.firstCells]
  · simp [Builtin.append_, run_underlying ht, sizeOf, typeInfo, hi, Builtin.lenOf, Builtin.firstCells, hnc, storeCells]
end

/-- An append of bytes onto a row of the calls' own: its run. -/
theorem run_append_B {w : World} {ty : TypeId} {B : Nat} {v : Value} {bs cs : List UInt8} (ho : OwnB B w v bs) {A : Option Addr} {m c : Nat} (hm : m = cs.length) (hr : BytesAt w A cs) (hl : bs.length + cs.length ≤ 140737488355328) (hB : B ≤ w.heap.size) :
    ∃ v' w', (Builtin.append_ #[22, 22] ty #[v, .slice A m c]).run Try.prog w = .ok v' w' ∧ Grew B v v' (bs ++ cs) w w' := by
  subst hm
  obtain ⟨i0, hi, hz0, hz1, hz2⟩ := info_parts Try.info5
  cases A with
  | none =>
    have hn : cs = [] := by
      cases cs with
      | nil => rfl
      | cons x r => obtain ⟨b, o, e, _⟩ := hr 0 (by simp); cases e
    subst hn
    refine ⟨v, w, run_append_nothing w B 22 ty 5 i0 1 Try.underlying22 hi v bs.length (byteVs bs) ho c, ?_, Upd.refl _ _, .inl rfl⟩
    rw [List.append_nil]; exact ho
  | some A =>
    obtain ⟨v', w', hrun, h2, h3, _, h5⟩ := run_append_own_at (P := Try.prog) w B 22 ty 5 i0 (.int .u8 0) 1 1 Try.underlying22 hi hz0 hz1 hz2 rfl (by decide) v bs.length (byteVs bs) ho A cs.length c (byteVs cs)
      (by rw [byteVs_length, Nat.mul_one]) hr.news (byteVs_one cs) (by unfold maxLen; omega) (by omega) hB
    exact ⟨v', w', hrun, Grew.mk' (Upd.refl _ _) (fun k hk => (ho.lt k hk).2) h2 rfl h3 h5⟩
theorem wp_append_B {o : Oper} {a : Act} {K : Act → World → Prop} {Q : Exit → Act → World → Prop} {w : World} (s x : Operand)
    (hop : o.op = .call { callee := .builtin .append, args := #[s, x], argTypes := #[22, 22] })
    {B : Nat} {v : Value} {bs cs : List UInt8} (hs : a.eval s = v) (ho : OwnB B w v bs) {A : Option Addr} {m c : Nat} (hx : a.eval x = .slice A m c) (hm : m = cs.length) (hr : BytesAt w A cs)
    (hl : bs.length + cs.length ≤ 140737488355328) (hB : B ≤ w.heap.size) (h : ∀ v' w', Grew B v v' (bs ++ cs) w w' → K (a.put o.dst v') w') : o.wp Try.prog a w K Q := by
  obtain ⟨v', w', hrun, hg⟩ := run_append_B (ty := o.type) ho (c := c) hm hr hl hB
  unfold Oper.wp execOp
  simp only [hop, resolve, invoke, builtin, Sem.run_bind, Sem.run_pure, Result.andThen_ok, List.map_toArray, List.map_cons, List.map_nil, hs, hx, hrun]
  exact h v' w' hg
theorem wpList_append_B {ops : Array Oper} {rest : List Oper} {o : Oper} {a : Act} {Q : Exit → Act → World → Prop} {w : World} (hgd : o.guard = none) (s x : Operand)
    (hop : o.op = .call { callee := .builtin .append, args := #[s, x], argTypes := #[22, 22] })
    {B : Nat} {v : Value} {bs cs : List UInt8} (hs : a.eval s = v) (ho : OwnB B w v bs) {A : Option Addr} {m c : Nat} (hx : a.eval x = .slice A m c) (hm : m = cs.length) (hr : BytesAt w A cs)
    (hl : bs.length + cs.length ≤ 140737488355328) (hB : B ≤ w.heap.size) (h : ∀ v' w', Grew B v v' (bs ++ cs) w w' → wpList Try.prog ops Q rest (a.put o.dst v') w') : wpList Try.prog ops Q (o :: rest) a w :=
  wpList_plain hgd fun _ hK => wp_append_B s x hop hs ho hx hm hr hl hB fun v' w' hg => hK _ _ (h v' w' hg)

theorem Grew.below {B C : Nat} {v v' : Value} {bs : List UInt8} {w w' : World} (h : Grew B v v' bs w w') (hC : C ≤ w.heap.size) (hv : ∀ k, v.ownBlock = some k → C ≤ k) : Below C w w' :=
  h.upd.toBelow hC (fun k hk e => by have := hv k e.symm; omega)

def frameL (bs : List UInt8) : List UInt8 := le4 bs.length ++ bs ++ le4 (crc32 (le4 bs.length ++ bs))
theorem le4_length (n : Nat) : (le4 n).length = 4 := rfl
theorem frameL_length (bs : List UInt8) : (frameL bs).length = bs.length + 8 := by simp [frameL, le4_length]; omega

/-- What Frame answers. -/
def Framed (bs : List UInt8) (w : World) (e : Ending) (w' : World) : Prop :=
  Below w.heap.size w w' ∧ ∃ v, e = .returned v ∧ OwnB w.heap.size w' v (if bs.length ≤ 131072 then frameL bs else [])

set_option maxRecDepth 100000 in
set_option maxHeartbeats 4000000 in
theorem frame_any (a : Option Addr) (len cap : Nat) (bs : List UInt8) (w : World) (h : BytesAt w a bs) (hlen : len = bs.length) (hl : len ≤ 140737488351232) :
    Calls Try.prog 23 #[.slice a len cap] w (Framed bs w) := by
  subst hlen
  by_cases hbig : 131072 < bs.length
  · go_enter Try.func23, Try.ntmps23
    go_wp2
    go_ret
    exact ⟨Below.refl _ _, _, rfl, by rw [if_neg (by omega)]; exact OwnB.nil _ _⟩
  · obtain ⟨i0, hi, hz0, hz1, hz2⟩ := info_parts Try.info5
    have H := hidden h
    have hsm : bs.length ≤ 131072 := by omega
    clear h hbig
    go_enter Try.func23, Try.ntmps23
    go_wp2_with (first | (at_make; go_loud (refine wpList_make_own _ rfl _ _ 22 rfl w.heap.size 5 i0 (.int .u8 0) 1 Try.underlying22 hi hz0 hz1 .i64 .i64 _ (bs.length + 8) rfl rfl (by omega) (by rw [hz2]; omega) (by unfold maxLen; omega) (Nat.le_refl _) ?_); intro w1 hown1 hgr1))
    have O1 : OwnB w.heap.size w1 (.slice (some ⟨w.heap.size, 0, none⟩) 0 (bs.length + 8)) [] := hown1
    have B1 : Hid (Below w.heap.size w w1) := (Below.refl _ _).grown hgr1 (Nat.le_refl _) (fun k hk => by cases hk)
    refine (four_any w.heap.size _ [] bs.length w1 (by omega) O1 B1.out.size (by simp)).mono ?_
    rintro e w2 ⟨v2, rfl, g2⟩
    rw [List.nil_append] at g2
    have B2 : Hid (Below w.heap.size w w2) := B1.out.trans (g2.below B1.out.size (fun k hk => (O1.lt k hk).1))
    have G2 := hidden g2.own
    clear hown1 hgr1 O1 g2
    go_wp2_with (at_builtin; go_loud (refine wpList_append_B rfl (.tmp 14) (.tmp 15) rfl rfl G2.out rfl rfl (H.out.on' B2.out) (by simp [le4_length]; omega) B2.out.size ?_); intro v3 w3 g3)
    have B3 : Hid (Below w.heap.size w w3) := B2.out.trans (g3.below B2.out.size (fun k hk => (G2.out.lt k hk).1))
    have G3 := hidden g3.own
    obtain ⟨a3, c3, rfl, r3, _, _⟩ := g3.own.reads
    have hlen3 : (le4 bs.length ++ bs).length = bs.length + 4 := by simp [le4_length]; omega
    clear g3
    rw [hlen3] at G3 ⊢
    with_reducible refine (sum_any a3 _ c3 (le4 bs.length ++ bs) w3 r3 hlen3.symm (by omega)).mono ?_
    rintro e w4 ⟨rfl, rfl⟩
    clear r3
    have hcr := crc32_lt (le4 bs.length ++ bs)
    obtain ⟨cr, ecr⟩ : ∃ cr, crc32 (le4 bs.length ++ bs) = cr := ⟨_, rfl⟩
    rw [ecr] at hcr ⊢
    have ECR := hidden ecr
    clear ecr
    go_wp2_with fail
    with_reducible refine (four_any w.heap.size _ _ cr w3 hcr G3.out B3.out.size (by rw [hlen3]; omega)).mono ?_
    rintro e w4 ⟨v4, rfl, g4⟩
    have B4 : Hid (Below w.heap.size w w4) := B3.out.trans (g4.below B3.out.size (fun k hk => (G3.out.lt k hk).1))
    have G4 := hidden g4.own
    clear g4
    go_wp2
    go_ret
    exact ⟨B4.out, v4, rfl, by rw [if_pos hsm, frameL, ECR.out]; exact G4.out⟩

set_option maxRecDepth 100000 in
set_option maxHeartbeats 4000000 in
theorem frame_ref (a : Option Addr) (len cap : Nat) (bs : List UInt8) (w : World) (h : BytesAt w a bs) (hlen : len = bs.length) (hl : len ≤ 140737488351232) :
    Calls Try.prog 24 #[.slice a len cap] w (Framed bs w) := by
  subst hlen
  by_cases hbig : 131072 < bs.length
  · go_enter Try.func24, Try.ntmps24
    go_wp2
    go_ret
    exact ⟨Below.refl _ _, _, rfl, by rw [if_neg (by omega)]; exact OwnB.nil _ _⟩
  · have H := hidden h
    have hsm : bs.length ≤ 131072 := by omega
    clear h hbig
    go_enter Try.func24, Try.ntmps24
    go_wp2_with fail
    refine (four_ref bs.length w (by omega)).mono ?_
    rintro e w2 ⟨v2, rfl, g2⟩
    have B2 : Hid (Below w.heap.size w w2) := g2.below (Nat.le_refl _) (fun k hk => by cases hk)
    have G2 := hidden g2.own
    clear g2
    go_wp2_with (at_builtin; go_loud (refine wpList_append_B rfl (.tmp 10) (.tmp 11) rfl rfl G2.out rfl rfl (H.out.on' B2.out) (by simp [le4_length]; omega) B2.out.size ?_); intro v3 w3 g3)
    have B3 : Hid (Below w.heap.size w w3) := B2.out.trans (g3.below B2.out.size (fun k hk => (G2.out.lt k hk).1))
    have G3 := hidden g3.own
    obtain ⟨a3, c3, rfl, r3, _, _⟩ := g3.own.reads
    have hlen3 : (le4 bs.length ++ bs).length = bs.length + 4 := by simp [le4_length]; omega
    clear g3
    rw [hlen3] at G3 ⊢
    with_reducible refine (sum_ref a3 _ c3 (le4 bs.length ++ bs) w3 r3 hlen3.symm (by omega)).mono ?_
    rintro e w4 ⟨rfl, rfl⟩
    clear r3
    have hcr := crc32_lt (le4 bs.length ++ bs)
    obtain ⟨cr, ecr⟩ : ∃ cr, crc32 (le4 bs.length ++ bs) = cr := ⟨_, rfl⟩
    rw [ecr] at hcr ⊢
    have ECR := hidden ecr
    clear ecr
    go_wp2_with fail
    with_reducible refine (four_ref cr w3 hcr).mono ?_
    rintro e w4 ⟨v4, rfl, g4⟩
    have B4 : Hid (Below w3.heap.size w3 w4) := g4.below (Nat.le_refl _) (fun k hk => by cases hk)
    have G34 := hidden (G3.out.on (Upd.ofNew (M := fun _ => False) B4.out) (fun _ _ h => h))
    obtain ⟨a4, c4, rfl, r4, _, _⟩ := g4.own.reads
    have R4 := hidden r4
    clear g4 r4
    have hl4 : (le4 cr).length = 4 := rfl
    go_wp2_with (at_builtin; go_loud (refine wpList_append_B rfl (.tmp 13) (.tmp 16) rfl rfl G34.out rfl rfl R4.out (by rw [hlen3, hl4]; omega) (Nat.le_trans B3.out.size B4.out.size) ?_); intro v5 w5 g5)
    have B5 : Hid (Below w.heap.size w w5) := (B3.out.trans (B4.out.mono B3.out.size)).trans (g5.below (Nat.le_trans B3.out.size B4.out.size) (fun k hk => (G34.out.lt k hk).1))
    have G5 := hidden g5.own
    clear g5
    go_ret
    exact ⟨B5.out, v5, rfl, by rw [if_pos hsm, frameL, ECR.out]; exact G5.out⟩
end Go.Proofs.Ytekmjegeiminnaa
