/- Numbers in four bytes, read and written: the reference's Four, both Fourths. -/
import Derived.Test.YtekmjegeiminnaaB1
import Derived.Laws.IdiomStrings
import Derived.Laws.BytesArg
namespace Go.Proofs.Ytekmjegeiminnaa
open Go.RowKit
set_option linter.unusedVariables false
set_option linter.unusedSimpArgs false

set_option maxRecDepth 100000 in
set_option maxHeartbeats 4000000 in
theorem four_ref (n : Nat) (w : World) (hn : n < 4294967296) :
    Calls Try.prog 68 #[.int .u32 n] w fun e w' => ∃ v', e = .returned v' ∧ Grew w.heap.size (.slice none 0 0) v' (le4 n) w w' := by
  go_enter Try.func68, Try.ntmps68
  go_wp2
  go_ret
  refine ⟨_, rfl, ?_, Upd.new _ _, .inr ⟨w.heap.size, rfl, Nat.le_refl _⟩⟩
  unfold OwnB
  rw [le4_vals n hn]
  exact World.ownsRow_lit _ #[.int .u8 ((n : Int) % 256), .int .u8 ((n : Int) / 256 % 256), .int .u8 ((n : Int) / 65536 % 256), .int .u8 ((n : Int) / 16777216)] 4 (Nat.le_refl _) (by decide) rfl

/-- The number of bytes, the lowest first. -/
def ofLe : List UInt8 → Nat
  | [] => 0
  | x :: r => x.toNat + 256 * ofLe r
theorem ofLe_lt : ∀ (l : List UInt8), ofLe l < 256 ^ l.length
  | [] => by simp [ofLe]
  | x :: r => by have := ofLe_lt r; have hx := x.toNat_lt; simp [ofLe, Nat.pow_succ]; omega
theorem ofLe_snoc : ∀ (l : List UInt8) (x : UInt8), ofLe (l ++ [x]) = ofLe l + 256 ^ l.length * x.toNat
  | [], x => by simp [ofLe]
  | y :: r, x => by
    simp only [List.cons_append, ofLe, ofLe_snoc r x, List.length_cons, Nat.pow_succ, Nat.mul_add, ← Nat.add_assoc, ← Nat.mul_assoc]
    rw [Nat.mul_comm 256 (256 ^ r.length)]
theorem ofLe_le4 (n : Nat) (h : n < 4294967296) : ofLe (le4 n) = n := by
  simp [ofLe, le4, UInt8.toNat_ofNat']; omega

theorem pow_256 (k : Nat) : 2 ^ (8 * k) = 256 ^ k := by rw [Nat.pow_mul]
/-- One byte more, in the walk's own spelling. -/
theorem or_walk {c k x : Nat} (hk : k < 4) (hc : c < 256 ^ k) (hx : x < 256) : bits .or .u32 (c : Int) ((x : Int) * 2 ^ (8 * k) % 4294967296) = ((c + 256 ^ k * x : Nat) : Int) := by
  have hp : 256 ^ k ≤ 16777216 := by
    have : 256 ^ k ≤ 256 ^ 3 := Nat.pow_le_pow_right (by decide) (by omega)
    simpa using this
  have hm : 256 ^ k * x ≤ 16777216 * 255 := Nat.mul_le_mul hp (by omega)
  have e : (x : Int) * 2 ^ (8 * k) % 4294967296 = ((256 ^ k * x : Nat) : Int) := by
    have e1 : (x : Int) * 2 ^ (8 * k) = ((256 ^ k * x : Nat) : Int) := by rw [← pow_256, Nat.mul_comm (2 ^ (8 * k)) x]; norm_cast
    rw [e1]; generalize 256 ^ k * x = y at hm; omega
  rw [e, u32_or_nat _ _ (by omega) (by omega)]
  have h := Nat.shiftLeft_add_eq_or_of_lt (b := c) (i := 8 * k) (by rw [pow_256]; exact hc) x
  rw [Nat.shiftLeft_eq, pow_256, Nat.mul_comm x] at h
  rw [Nat.or_comm, ← h, Nat.add_comm]

set_option maxRecDepth 100000 in
set_option maxHeartbeats 4000000 in
theorem fourth_any (a : Option Addr) (len cap : Nat) (bs : List UInt8) (w : World) (h : BytesAt w a bs) (h4 : 4 ≤ bs.length) (hlen : len = bs.length) (hl : len ≤ 140737488351232) :
    Calls Try.prog 69 #[.slice a len cap] w fun e w' => e = .returned (.int .u32 (ofLe (bs.take 4) : Nat)) ∧ w = w' := by
  subst hlen
  have H := hidden h
  clear h
  go_enter Try.func69, Try.ntmps69
  go_wp2_with fail
  go_loop [3, 5] (fun s i => ∃ (k c : Nat), i = .int .i64 k ∧ k ≤ 4 ∧ s = .int .u32 c ∧ c < 256 ^ k ∧ c = ofLe (bs.take k)) (fun _ i => 4 - (intOf i).toNat)
  case atStart => exact ⟨0, 0, rfl, Nat.zero_le _, rfl, by decide, rfl⟩
  case round =>
    obtain ⟨k, c, rfl, hk, rfl, hc, hcr⟩ := hrel
    have HCR := hidden hcr
    have HCL := hidden hc
    clear hcr hc
    by_cases hlt : k < 4
    · obtain ⟨b, o, rfl, hcell⟩ := H.out k (by omega)
      have hx : bs[k].toNat < 256 := bs[k].toNat_lt
      have HX : Hid (bs.take (k + 1) = bs.take k ++ [bs[k]]) := by show _ = _; rw [List.take_succ_eq_append_getElem (by omega)]
      have hkl : (k : Int) < (bs.length : Int) := by omega
      generalize bs[k] = x at hcell hx HX
      have HO := hidden (or_walk hlt HCL.out hx)
      go_wp2
      refine ⟨⟨k + 1, c + 256 ^ k * x.toNat, by go_num, by omega, by rw [HO.out], ?_, ?_⟩, by simp [intOf]; omega⟩
      · have h1 := HCL.out
        have : 256 ^ k * x.toNat ≤ 256 ^ k * 255 := Nat.mul_le_mul_left _ (by omega)
        rw [Nat.pow_succ]; omega
      · rw [HX.out, ofLe_snoc, HCR.out]; rw [List.length_take, show min k bs.length = k by omega]
    · have hnot : ¬ (k : Int) < 4 := by omega
      have HK : Hid (k = 4) := by show _ = _; omega
      go_wp2
      go_ret
      exact ⟨ret_u32 (by rw [HCR.out, HK.out]), rfl⟩

theorem or_add {c k x : Nat} (hk : k < 4) (hc : c < 256 ^ k) (hx : x < 256) : bits .or .u32 (c : Int) ((x * 256 ^ k : Nat) : Int) = ((c + x * 256 ^ k : Nat) : Int) := by
  have h := or_walk hk hc hx
  have hp : 256 ^ k ≤ 16777216 := by
    have : 256 ^ k ≤ 256 ^ 3 := Nat.pow_le_pow_right (by decide) (by omega)
    simpa using this
  have hm : x * 256 ^ k ≤ 255 * 16777216 := Nat.mul_le_mul (by omega) hp
  have e : (x : Int) * 2 ^ (8 * k) % 4294967296 = ((x * 256 ^ k : Nat) : Int) := by
    have e1 : (x : Int) * 2 ^ (8 * k) = ((x * 256 ^ k : Nat) : Int) := by rw [← pow_256]; norm_cast
    rw [e1]; generalize x * 256 ^ k = y at hm; omega
  rw [e, Nat.mul_comm (256 ^ k) x] at h
  exact h
theorem take_four {bs : List UInt8} (h : 4 ≤ bs.length) : bs.take 4 = [bs[0], bs[1], bs[2], bs[3]] := by
  match bs, h with
  | x0 :: x1 :: x2 :: x3 :: r, _ => rfl

set_option maxRecDepth 100000 in
set_option maxHeartbeats 4000000 in
theorem fourth_ref (a : Option Addr) (len cap : Nat) (bs : List UInt8) (w : World) (h : BytesAt w a bs) (h4 : 4 ≤ bs.length) (hlen : len = bs.length) (hl : len ≤ 140737488351232) :
    Calls Try.prog 70 #[.slice a len cap] w fun e w' => e = .returned (.int .u32 (ofLe (bs.take 4) : Nat)) ∧ ∃ n, w' = w.drewN n := by
  subst hlen
  obtain ⟨b, o, rfl, c0⟩ := h 0 (by omega)
  obtain ⟨b1, o1, e1, c1⟩ := h 1 (by omega)
  obtain ⟨b2, o2, e2, c2⟩ := h 2 (by omega)
  obtain ⟨b3, o3, e3, c3⟩ := h 3 (by omega)
  cases e1; cases e2; cases e3
  rw [Nat.add_zero] at c0
  have hx0 := bs[0].toNat_lt
  have hx1 := bs[1].toNat_lt
  have hx2 := bs[2].toNat_lt
  have hx3 := bs[3].toNat_lt
  have HT : Hid (bs.take 4 = [bs[0], bs[1], bs[2], bs[3]]) := by
    exact take_four h4
  generalize bs[0] = x0 at *
  generalize bs[1] = x1 at *
  generalize bs[2] = x2 at *
  generalize bs[3] = x3 at *
  have i0 : (0 : Int) < (bs.length : Int) := by omega
  have i1 : (1 : Int) < (bs.length : Int) := by omega
  have i2 : (2 : Int) < (bs.length : Int) := by omega
  have i3 : (3 : Int) < (bs.length : Int) := by omega
  clear h
  go_enter Try.func70, Try.ntmps70
  go_wp2_with fail
  go_quiet (fail)
  go_wp2
  go_ret
  refine ⟨ret_u32 ?_, _, rfl⟩
  have q1 : bits .or .u32 (x0.toNat : Int) ((x1.toNat : Int) * 256) = ((x0.toNat + x1.toNat * 256 : Nat) : Int) := or_add (k := 1) (c := x0.toNat) (x := x1.toNat) (by omega) (by simpa using hx0) (by simpa using hx1)
  have q2 : bits .or .u32 ((x0.toNat + x1.toNat * 256 : Nat) : Int) ((x2.toNat : Int) * 65536) = ((x0.toNat + x1.toNat * 256 + x2.toNat * 65536 : Nat) : Int) := or_add (k := 2) (x := x2.toNat) (by omega) (by simp at hx0 hx1 ⊢; omega) (by simpa using hx2)
  have q3 : bits .or .u32 ((x0.toNat + x1.toNat * 256 + x2.toNat * 65536 : Nat) : Int) ((x3.toNat : Int) * 16777216) = ((x0.toNat + x1.toNat * 256 + x2.toNat * 65536 + x3.toNat * 16777216 : Nat) : Int) := or_add (k := 3) (x := x3.toNat) (by omega) (by simp at hx0 hx1 hx2 ⊢; omega) (by simpa using hx3)
  rw [q1, q2, q3, HT.out]
  simp only [ofLe]; omega
end Go.Proofs.Ytekmjegeiminnaa

/- Appends of bytes, as laws; both Frames, walked. -/
namespace Go.Proofs.Ytekmjegeiminnaa
open Go.RowKit
set_option linter.unusedVariables false
set_option linter.unusedSimpArgs false

section
variable {P : Program} (w : World)
theorem run_append_nothing (base : Nat) (t ty e : TypeId) (i : TypeInfo) (size : Nat) (ht : P.underlying t = some (.slice e)) (hi : P.info? e = some i)
    (v : Value) (n : Nat) (xs : List Value) (hown : w.ownsRow base e size v n xs) (c : Nat) : (Builtin.append_ #[t, t] ty #[v, .slice none 0 c]).run P w = .ok v w := by
  rcases hown.2 with ⟨rfl, rfl⟩ | ⟨g, cap, cur, rfl, _, _, hnc, _⟩
  · simp [Builtin.append_, run_underlying ht, sizeOf, typeInfo, hi, Builtin.lenOf, Builtin.firstCells]
  · simp [Builtin.append_, run_underlying ht, sizeOf, typeInfo, hi, Builtin.lenOf, Builtin.firstCells, hnc, storeCells]
end

/-- An append of bytes onto a row of the calls' own: its run. -/
theorem run_append_B {w : World} {ty : TypeId} {B : Nat} {v : Value} {bs cs : List UInt8} (ho : OwnB B w v bs) {A : Option Addr} {m c : Nat} (hm : m = cs.length) (hr : BytesAt w A cs) (hl : bs.length + cs.length ≤ 140737488355328) (hB : B ≤ w.heap.size) :
    ∃ v' w', (Builtin.append_ #[22, 22] ty #[v, .slice A m c]).run Try.prog w = .ok v' w' ∧ Grew B v v' (bs ++ cs) w w' := by
  subst hm
  obtain ⟨i0, hi, hz0, hz1, hz2⟩ := info_parts Try.info5
  cases A with
  | none =>
    have hn : cs = [] := by
      cases cs with
      | nil => rfl
      | cons x r => obtain ⟨b, o, e, _⟩ := hr 0 (by simp); cases e
    subst hn
    refine ⟨v, w, run_append_nothing w B 22 ty 5 i0 1 Try.underlying22 hi v bs.length (byteVs bs) ho c, ?_, Upd.refl _ _, .inl rfl⟩
    rw [List.append_nil]; exact ho
  | some A =>
    obtain ⟨v', w', hrun, h2, h3, _, h5⟩ := run_append_own_at (P := Try.prog) w B 22 ty 5 i0 (.int .u8 0) 1 1 Try.underlying22 hi hz0 hz1 hz2 rfl (by decide) v bs.length (byteVs bs) ho A cs.length c (byteVs cs)
      (by rw [byteVs_length, Nat.mul_one]) hr.news (byteVs_one cs) (by unfold maxLen; omega) (by omega) hB
    exact ⟨v', w', hrun, Grew.mk' (Upd.refl _ _) (fun k hk => (ho.lt k hk).2) h2 rfl h3 h5⟩
theorem wp_append_B {o : Oper} {a : Act} {K : Act → World → Prop} {Q : Exit → Act → World → Prop} {w : World} (s x : Operand)
    (hop : o.op = .call { callee := .builtin .append, args := #[s, x], argTypes := #[22, 22] })
    {B : Nat} {v : Value} {bs cs : List UInt8} (hs : a.eval s = v) (ho : OwnB B w v bs) {A : Option Addr} {m c : Nat} (hx : a.eval x = .slice A m c) (hm : m = cs.length) (hr : BytesAt w A cs)
    (hl : bs.length + cs.length ≤ 140737488355328) (hB : B ≤ w.heap.size) (h : ∀ v' w', Grew B v v' (bs ++ cs) w w' → K (a.put o.dst v') w') : o.wp Try.prog a w K Q := by
  obtain ⟨v', w', hrun, hg⟩ := run_append_B (ty := o.type) ho (c := c) hm hr hl hB
  unfold Oper.wp execOp
  simp only [hop, resolve, invoke, builtin, Sem.run_bind, Sem.run_pure, Result.andThen_ok, List.map_toArray, List.map_cons, List.map_nil, hs, hx, hrun]
  exact h v' w' hg
theorem wpList_append_B {ops : Array Oper} {rest : List Oper} {o : Oper} {a : Act} {Q : Exit → Act → World → Prop} {w : World} (hgd : o.guard = none) (s x : Operand)
    (hop : o.op = .call { callee := .builtin .append, args := #[s, x], argTypes := #[22, 22] })
    {B : Nat} {v : Value} {bs cs : List UInt8} (hs : a.eval s = v) (ho : OwnB B w v bs) {A : Option Addr} {m c : Nat} (hx : a.eval x = .slice A m c) (hm : m = cs.length) (hr : BytesAt w A cs)
    (hl : bs.length + cs.length ≤ 140737488355328) (hB : B ≤ w.heap.size) (h : ∀ v' w', Grew B v v' (bs ++ cs) w w' → wpList Try.prog ops Q rest (a.put o.dst v') w') : wpList Try.prog ops Q (o :: rest) a w :=
  wpList_plain hgd fun _ hK => wp_append_B s x hop hs ho hx hm hr hl hB fun v' w' hg => hK _ _ (h v' w' hg)

theorem Grew.below {B C : Nat} {v v' : Value} {bs : List UInt8} {w w' : World} (h : Grew B v v' bs w w') (hC : C ≤ w.heap.size) (hv : ∀ k, v.ownBlock = some k → C ≤ k) : Below C w w' :=
  h.upd.toBelow hC (fun k hk e => by have := hv k e.symm; omega)

def frameL (bs : List UInt8) : List UInt8 := le4 bs.length ++ bs ++ le4 (crc32 (le4 bs.length ++ bs))
theorem le4_length (n : Nat) : (le4 n).length = 4 := rfl
theorem frameL_length (bs : List UInt8) : (frameL bs).length = bs.length + 8 := by simp [frameL, le4_length]; omega

/-- What Frame answers. -/
def Framed (bs : List UInt8) (w : World) (e : Ending) (w' : World) : Prop :=
  Below w.heap.size w w' ∧ ∃ v, e = .returned v ∧ OwnB w.heap.size w' v (if bs.length ≤ 131072 then frameL bs else [])

set_option maxRecDepth 100000 in
set_option maxHeartbeats 4000000 in
theorem frame_any (a : Option Addr) (len cap : Nat) (bs : List UInt8) (w : World) (h : BytesAt w a bs) (hlen : len = bs.length) (hl : len ≤ 140737488351232) :
    Calls Try.prog 23 #[.slice a len cap] w (Framed bs w) := by
  subst hlen
  by_cases hbig : 131072 < bs.length
  · go_enter Try.func23, Try.ntmps23
    go_wp2
    go_ret
    exact ⟨Below.refl _ _, _, rfl, by rw [if_neg (by omega)]; exact OwnB.nil _ _⟩
  · obtain ⟨i0, hi, hz0, hz1, hz2⟩ := info_parts Try.info5
    have H := hidden h
    have hsm : bs.length ≤ 131072 := by omega
    clear h hbig
    go_enter Try.func23, Try.ntmps23
    go_wp2_with (first | (at_make; go_loud (refine wpList_make_own _ rfl _ _ 22 rfl w.heap.size 5 i0 (.int .u8 0) 1 Try.underlying22 hi hz0 hz1 .i64 .i64 _ (bs.length + 8) rfl rfl (by omega) (by rw [hz2]; omega) (by unfold maxLen; omega) (Nat.le_refl _) ?_); intro w1 hown1 hgr1))
    have O1 : OwnB w.heap.size w1 (.slice (some ⟨w.heap.size, 0, none⟩) 0 (bs.length + 8)) [] := hown1
    have B1 : Hid (Below w.heap.size w w1) := (Below.refl _ _).grown hgr1 (Nat.le_refl _) (fun k hk => by cases hk)
    refine (four_any w.heap.size _ [] bs.length w1 (by omega) O1 B1.out.size (by simp)).mono ?_
    rintro e w2 ⟨v2, rfl, g2⟩
    rw [List.nil_append] at g2
    have B2 : Hid (Below w.heap.size w w2) := B1.out.trans (g2.below B1.out.size (fun k hk => (O1.lt k hk).1))
    have G2 := hidden g2.own
    clear hown1 hgr1 O1 g2
    go_wp2_with (at_builtin; go_loud (refine wpList_append_B rfl (.tmp 14) (.tmp 15) rfl rfl G2.out rfl rfl (H.out.on' B2.out) (by simp [le4_length]; omega) B2.out.size ?_); intro v3 w3 g3)
    have B3 : Hid (Below w.heap.size w w3) := B2.out.trans (g3.below B2.out.size (fun k hk => (G2.out.lt k hk).1))
    have G3 := hidden g3.own
    obtain ⟨a3, c3, rfl, r3, _, _⟩ := g3.own.reads
    have hlen3 : (le4 bs.length ++ bs).length = bs.length + 4 := by simp [le4_length]; omega
    clear g3
    rw [hlen3] at G3 ⊢
    with_reducible refine (sum_any a3 _ c3 (le4 bs.length ++ bs) w3 r3 hlen3.symm (by omega)).mono ?_
    rintro e w4 ⟨rfl, rfl⟩
    clear r3
    have hcr := crc32_lt (le4 bs.length ++ bs)
    obtain ⟨cr, ecr⟩ : ∃ cr, crc32 (le4 bs.length ++ bs) = cr := ⟨_, rfl⟩
    rw [ecr] at hcr ⊢
    have ECR := hidden ecr
    clear ecr
    go_wp2_with fail
    with_reducible refine (four_any w.heap.size _ _ cr w3 hcr G3.out B3.out.size (by rw [hlen3]; omega)).mono ?_
    rintro e w4 ⟨v4, rfl, g4⟩
    have B4 : Hid (Below w.heap.size w w4) := B3.out.trans (g4.below B3.out.size (fun k hk => (G3.out.lt k hk).1))
    have G4 := hidden g4.own
    clear g4
    go_wp2
    go_ret
    exact ⟨B4.out, v4, rfl, by rw [if_pos hsm, frameL, ECR.out]; exact G4.out⟩

set_option maxRecDepth 100000 in
set_option maxHeartbeats 4000000 in
theorem frame_ref (a : Option Addr) (len cap : Nat) (bs : List UInt8) (w : World) (h : BytesAt w a bs) (hlen : len = bs.length) (hl : len ≤ 140737488351232) :
    Calls Try.prog 24 #[.slice a len cap] w (Framed bs w) := by
  subst hlen
  by_cases hbig : 131072 < bs.length
  · go_enter Try.func24, Try.ntmps24
    go_wp2
    go_ret
    exact ⟨Below.refl _ _, _, rfl, by rw [if_neg (by omega)]; exact OwnB.nil _ _⟩
  · have H := hidden h
    have hsm : bs.length ≤ 131072 := by omega
    clear h hbig
    go_enter Try.func24, Try.ntmps24
    go_wp2_with fail
    refine (four_ref bs.length w (by omega)).mono ?_
    rintro e w2 ⟨v2, rfl, g2⟩
    have B2 : Hid (Below w.heap.size w w2) := g2.below (Nat.le_refl _) (fun k hk => by cases hk)
    have G2 := hidden g2.own
    clear g2
    go_wp2_with (at_builtin; go_loud (refine wpList_append_B rfl (.tmp 10) (.tmp 11) rfl rfl G2.out rfl rfl (H.out.on' B2.out) (by simp [le4_length]; omega) B2.out.size ?_); intro v3 w3 g3)
    have B3 : Hid (Below w.heap.size w w3) := B2.out.trans (g3.below B2.out.size (fun k hk => (G2.out.lt k hk).1))
    have G3 := hidden g3.own
    obtain ⟨a3, c3, rfl, r3, _, _⟩ := g3.own.reads
    have hlen3 : (le4 bs.length ++ bs).length = bs.length + 4 := by simp [le4_length]; omega
    clear g3
    rw [hlen3] at G3 ⊢
    with_reducible refine (sum_ref a3 _ c3 (le4 bs.length ++ bs) w3 r3 hlen3.symm (by omega)).mono ?_
    rintro e w4 ⟨rfl, rfl⟩
    clear r3
    have hcr := crc32_lt (le4 bs.length ++ bs)
    obtain ⟨cr, ecr⟩ : ∃ cr, crc32 (le4 bs.length ++ bs) = cr := ⟨_, rfl⟩
    rw [ecr] at hcr ⊢
    have ECR := hidden ecr
    clear ecr
    go_wp2_with fail
    with_reducible refine (four_ref cr w3 hcr).mono ?_
    rintro e w4 ⟨v4, rfl, g4⟩
    have B4 : Hid (Below w3.heap.size w3 w4) := g4.below (Nat.le_refl _) (fun k hk => by cases hk)
    have G34 := hidden (G3.out.on (Upd.ofNew (M := fun _ => False) B4.out) (fun _ _ h => h))
    obtain ⟨a4, c4, rfl, r4, _, _⟩ := g4.own.reads
    have R4 := hidden r4
    clear g4 r4
    have hl4 : (le4 cr).length = 4 := rfl
    go_wp2_with (at_builtin; go_loud (refine wpList_append_B rfl (.tmp 13) (.tmp 16) rfl rfl G34.out rfl rfl R4.out (by rw [hlen3, hl4]; omega) (Nat.le_trans B3.out.size B4.out.size) ?_); intro v5 w5 g5)
    have B5 : Hid (Below w.heap.size w w5) := (B3.out.trans (B4.out.mono B3.out.size)).trans (g5.below (Nat.le_trans B3.out.size B4.out.size) (fun k hk => (G34.out.lt k hk).1))
    have G5 := hidden g5.own
    clear g5
    go_ret
    exact ⟨B5.out, v5, rfl, by rw [if_pos hsm, frameL, ECR.out]; exact G5.out⟩
end Go.Proofs.Ytekmjegeiminnaa

/- The law's helpers Same, Lend and Kept, walked. -/
namespace Go.Proofs.Ytekmjegeiminnaa
open Go.RowKit
set_option linter.unusedVariables false
set_option linter.unusedSimpArgs false

abbrev strOf (bs : List UInt8) : ByteArray := ⟨bs.toArray⟩
/-- Bytes as a text. -/
theorem run_str {w : World} {a : Option Addr} {bs : List UInt8} (h : BytesAt w a bs) (len cap : Nat) (hl : len = bs.length) : (convert 22 9 (.slice a len cap)).run Try.prog w = .ok (.string (strOf bs)) w := by
  subst hl
  cases a with
  | none =>
    have hn : bs = [] := by
      cases bs with
      | nil => rfl
      | cons x r => obtain ⟨b, o, e, _⟩ := h 0 (by simp); cases e
    subst hn
    exact run_convert_bytes_nil w 22 5 Try.underlying22 Try.underlying5 _ _ 9 Try.underlying9
  | some A =>
    refine run_convert_bytes_back w 22 9 5 A cap bs Try.underlying22 Try.underlying5 Try.underlying9 (fun j hj => ?_)
    exact h.news j _ (byteVs_get bs j hj)

set_option maxHeartbeats 4000000 in
theorem same_eq (a1 a2 : Option Addr) (l1 l2 c1 c2 : Nat) (bs : List UInt8) (w : World) (h1 : BytesAt w a1 bs) (h2 : BytesAt w a2 bs) (e1 : l1 = bs.length) (e2 : l2 = bs.length) :
    Calls Try.prog 22 #[.slice a1 l1 c1, .slice a2 l2 c2] w fun e w' => e = .returned (.bool true) ∧ w = w' := by
  have r1 := run_str h1 l1 c1 e1
  have r2 := run_str h2 l2 c2 e2
  clear h1 h2 e1 e2
  generalize strOf bs = s at r1 r2
  go_enter Try.func22, Try.ntmps22
  go_wp2
  go_ret
  exact ⟨rfl, rfl⟩

/-- A row of the calls' own, cell by cell. -/
def RowF (w : World) (g n : Nat) (f : Nat → Value) : Prop := ∀ j, j < n → w.cell? ⟨g, j, none⟩ = some (f j) ∧ w.frozen? ⟨g, j, none⟩ = false
theorem RowF.set {w : World} {g n : Nat} {f : Nat → Value} (h : RowF w g n f) (i : Nat) (v : Value) : RowF (w.setCell ⟨g, i, none⟩ v) g n (fun j => if j = i then v else f j) := by
  intro j hj
  obtain ⟨h1, h2⟩ := h j hj
  refine ⟨?_, (World.frozen?_setCell _ _ _ _).trans h2⟩
  by_cases e : j = i
  · subst e; simp only [if_true]; exact World.cell?_setCell_same _ _ _ h1
  · simp only [if_neg e]; exact (World.cell?_setCell_other _ _ _ _ (by intro h; cases h; exact e rfl)).trans h1
theorem RowF.congr {w : World} {g n : Nat} {f f' : Nat → Value} (h : RowF w g n f) (e : ∀ j, j < n → f j = f' j) : RowF w g n f' := fun j hj => by rw [← e j hj]; exact h j hj

/-- What Lend writes: behind k bytes. -/
def lent (bs : List UInt8) (k : Nat) (j : Nat) : Value :=
  if j = 0 then .int .u8 165 else if j = bs.length + 1 then .int .u8 90 else if j ≤ k then bV (bs.getD (j - 1) 0) else .int .u8 0

theorem made_row {w : World} {B g n : Nat} (h : w.ownsRow B 5 1 (.slice (some ⟨g, 0, none⟩) n n) n (madeCells (Value.int .u8 0).cells (n * 1)).toList) : RowF w g n (fun _ => .int .u8 0) := fun j hj => by
  refine ⟨?_, h.frozenAt j⟩
  have := h.cellAt j (by omega)
  rw [this]
  show (madeCells #[.int .u8 0] (n * 1)).toList[j]? = _
  rw [toList_madeCells_one, List.getElem?_replicate, if_pos (by omega)]

set_option maxRecDepth 100000 in
set_option maxHeartbeats 4000000 in
theorem lend_any (a : Option Addr) (len cap : Nat) (bs : List UInt8) (w : World) (h : BytesAt w a bs) (hlen : len = bs.length) (hl : len ≤ 150000) :
    Calls Try.prog 19 #[.slice a len cap] w fun e w' => e = .returned (.tuple #[.slice (some ⟨w.heap.size, 0, none⟩) (len + 2) (len + 2), .slice (some ⟨w.heap.size, 1, none⟩) len (len + 1)]) ∧
      Below w.heap.size w w' ∧ w.heap.size < w'.heap.size ∧ RowF w' w.heap.size (len + 2) (lent bs len) := by
  subst hlen
  obtain ⟨i0, hi, hz0, hz1, hz2⟩ := info_parts Try.info5
  have H := hidden h
  clear h
  go_enter Try.func19, Try.ntmps19
  go_wp2_with (first | (at_make; go_loud (refine wpList_make_full _ rfl _ _ 22 rfl w.heap.size 5 i0 (.int .u8 0) 1 Try.underlying22 hi hz0 hz1 .i64 .i64 _ _ (bs.length + 2) rfl rfl (by omega) (by omega) (by rw [hz2]; omega) (by unfold maxLen; omega) (Nat.le_refl _) ?_); intro w1 hown1 hgr1; have R0 := made_row hown1; obtain ⟨p0, q0⟩ := R0 0 (by omega); obtain ⟨p1, q1⟩ := R0 (bs.length + 1) (by omega)))
  have HB : Hid (Below w.heap.size w ((w1.setCell ⟨w.heap.size, 0, none⟩ (.int .u8 165)).setCell ⟨w.heap.size, bs.length + 1, none⟩ (.int .u8 90))) :=
    ((Below.refl _ _).grown hgr1 (Nat.le_refl _) (fun k hk => by cases hk)).setCell (Nat.le_refl _) _ |>.setCell (Nat.le_refl _) _
  have HZ : Hid (w.heap.size < w1.heap.size) := World.block_lt_of_cell? w1 _ p0
  have HR : Hid (RowF ((w1.setCell ⟨w.heap.size, 0, none⟩ (.int .u8 165)).setCell ⟨w.heap.size, bs.length + 1, none⟩ (.int .u8 90)) w.heap.size (bs.length + 2) (lent bs 0)) := by
    refine ((R0.set 0 (.int .u8 165)).set (bs.length + 1) (.int .u8 90)).congr (fun j hj => ?_)
    unfold lent
    by_cases e1 : j = bs.length + 1
    · rw [if_pos e1, if_neg (by omega), if_pos e1]
    · by_cases e2 : j = 0
      · rw [if_neg e1, if_pos e2, if_pos e2]
      · rw [if_neg e1, if_neg e2, if_neg e2, if_neg e1, if_neg (by omega)]
  clear R0 p0 p1 q0 q1 hown1 hgr1
  go_loopw [20] (fun i wr => ∃ k : Nat, i = .int .i64 k ∧ k ≤ bs.length ∧ Below w.heap.size w wr ∧ w.heap.size < wr.heap.size ∧ RowF wr w.heap.size (bs.length + 2) (lent bs k)) (fun i _ => bs.length - (intOf i).toNat)
  case atStart => exact ⟨0, rfl, Nat.zero_le _, HB.out, by simpa [World.setCell] using HZ.out, HR.out⟩
  case round =>
    clear HB HZ HR
    obtain ⟨k, rfl, hk, hb, hz, hr⟩ := hrel
    have HB := hidden hb
    have HR := hidden hr
    have HZ := hidden hz
    clear hb hr hz
    by_cases hlt : k < bs.length
    · obtain ⟨b, o, rfl, hc⟩ := (H.out.on' HB.out) k hlt
      obtain ⟨p0, q0⟩ := HR.out (k + 1) (by omega)
      have HX : Hid (bs.getD k 0 = bs[k]) := by show _ = _; simp [hlt]
      have hk2 : (k : Int) < (bs.length : Int) := by omega
      have hk3 : (k : Int) + 1 < (bs.length : Int) + 2 := by omega
      generalize bs[k] = x at hc HX
      go_wp2
      refine ⟨⟨k + 1, by go_num, by omega, HB.out.setCell (Nat.le_refl _) _, by simpa [World.setCell] using HZ.out, (HR.out.set (k + 1) (bV x)).congr (fun j hj => ?_)⟩, by simp [intOf]; omega⟩
      unfold lent
      by_cases e1 : j = k + 1
      · rw [if_pos e1, if_neg (by omega), if_neg (by omega), if_pos (by omega), show j - 1 = k by omega, HX.out]
      · rw [if_neg e1]
        have e2 : (j ≤ k) ↔ (j ≤ k + 1) := by omega
        simp only [e2]
    · have hk2 : ¬ (k : Int) < (bs.length : Int) := by omega
      have HK : Hid (k = bs.length) := by show _ = _; omega
      go_wp2_with fail
      go_quiet (fail)
      go_wp2
      go_ret2
      exact ⟨rfl, below_dn HB.out _, HZ.out, by have := HR.out; rw [HK.out] at this; exact this⟩

theorem RowF.upd {M : Nat → Prop} {w w' : World} {g n : Nat} {f : Nat → Value} (h : RowF w g n f) (hu : Upd M w w') (hm : ¬ M g) : RowF w' g n f := fun j hj => by
  obtain ⟨h1, h2⟩ := h j hj
  have hlt := World.block_lt_of_cell? w _ h1
  exact ⟨hu.cell h1 hm, by rw [World.frozen?_of_block (w := w) (hu.block g hlt hm)]; exact h2⟩
/-- Of what Lend has made: the part that is lent reads as the bytes. -/
theorem lent_own {w : World} {g : Nat} {bs : List UInt8} (h : RowF w g (bs.length + 2) (lent bs bs.length)) : BytesAt w (some ⟨g, 1, none⟩) bs := fun i hi => by
  refine ⟨g, 1, rfl, ?_⟩
  rw [(h (1 + i) (by omega)).1]
  unfold lent
  rw [if_neg (by omega), if_neg (by omega), if_pos (by omega), show 1 + i - 1 = i by omega]
  simp [hi]

set_option maxRecDepth 100000 in
set_option maxHeartbeats 4000000 in
theorem kept_any (g : Nat) (a : Option Addr) (len cap : Nat) (bs : List UInt8) (w : World) (h : BytesAt w a bs) (hr : RowF w g (bs.length + 2) (lent bs bs.length)) (hlen : len = bs.length) (hl : len ≤ 150000) :
    Calls Try.prog 25 #[.slice (some ⟨g, 0, none⟩) (len + 2) (len + 2), .slice a len cap] w fun e w' => e = .returned (.bool true) ∧ ∃ n, w' = w.drewN n := by
  subst hlen
  have p0 : w.cell? ⟨g, 0, none⟩ = some (.int .u8 165) := (hr 0 (by omega)).1
  have p1 : w.cell? ⟨g, bs.length + 1, none⟩ = some (.int .u8 90) := by
    rw [(hr (bs.length + 1) (by omega)).1]; unfold lent; rw [if_neg (by omega), if_pos rfl]
  have r1 : ∀ n, (convert 22 9 (.slice (some ⟨g, 1, none⟩) bs.length (bs.length + 1))).run Try.prog (w.drewN n) = .ok (.string (strOf bs)) (w.drewN n) :=
    fun n => run_str ((lent_own hr).upd (Upd.drewN (M := fun _ => False) _ _) (fun _ _ h => h)) _ _ rfl
  have r2 : ∀ n, (convert 22 9 (.slice a bs.length cap)).run Try.prog (w.drewN n) = .ok (.string (strOf bs)) (w.drewN n) :=
    fun n => run_str (h.upd (Upd.drewN (M := fun _ => False) _ _) (fun _ _ h => h)) _ _ rfl
  clear h hr
  generalize strOf bs = s at r1 r2
  have i1 : (0 : Int) < (bs.length : Int) + 2 := by omega
  have i2 : (bs.length : Int) + 1 < (bs.length : Int) + 2 := by omega
  have i3 : (1 : Int) ≤ (bs.length : Int) + 1 := by omega
  have i4 : (bs.length : Int) + 1 ≤ (bs.length : Int) + 2 := by omega
  have i5 : IntKind.i64.wrap ((bs.length : Int) + 1) = (bs.length : Int) + 1 := IntWalk.i64_in _ (by omega)
  have i6 : IntKind.i64.wrap ((bs.length : Int) + 2) = (bs.length : Int) + 2 := IntWalk.i64_in _ (by omega)
  have i7 : (0 : Int) ≤ (bs.length : Int) + 1 := by omega
  have i8 : ((bs.length : Int) + 1).toNat = bs.length + 1 := by omega
  go_enter Try.func25, Try.ntmps25
  go_wp2_with fail
  go_quiet (fail)
  go_wp2
  go_ret
  exact ⟨rfl, _, rfl⟩
end Go.Proofs.Ytekmjegeiminnaa

/- Both Unframes, walked. -/
namespace Go.Proofs.Ytekmjegeiminnaa
open Go.RowKit
set_option linter.unusedVariables false
set_option linter.unusedSimpArgs false

theorem BytesAt.drop {w : World} {b o : Nat} {bs : List UInt8} (h : BytesAt w (some ⟨b, o, none⟩) bs) (k : Nat) : BytesAt w (some ⟨b, o + k, none⟩) (bs.drop k) := fun i hi => by
  have hi' : i < bs.length - k := by simpa using hi
  obtain ⟨b', o', e, hc⟩ := h (k + i) (by omega)
  cases e
  exact ⟨b, o + k, rfl, by rw [Nat.add_assoc, hc]; simp⟩
theorem BytesAt.take {w : World} {a : Option Addr} {bs : List UInt8} (h : BytesAt w a bs) (k : Nat) : BytesAt w a (bs.take k) := fun i hi => by
  have hi' : i < bs.length := by simp at hi; omega
  obtain ⟨b, o, e, hc⟩ := h i hi'
  exact ⟨b, o, e, by rw [hc]; simp⟩

/-- What bytes begin with: the error's number, the content, the length. -/
def unfE (bs : List UInt8) : Nat :=
  if bs.length < 4 then 16 else if 131072 < ofLe (bs.take 4) then 9 else if bs.length < ofLe (bs.take 4) + 8 then 16
  else if crc32 (bs.take (ofLe (bs.take 4) + 4)) = ofLe ((bs.drop (ofLe (bs.take 4) + 4)).take 4) then 0 else 12
def unfC (bs : List UInt8) : List UInt8 := if unfE bs = 0 then (bs.drop 4).take (ofLe (bs.take 4)) else []
def unfN (bs : List UInt8) : Nat := if unfE bs = 0 then ofLe (bs.take 4) + 8 else 0
def Unframed (bs : List UInt8) (w : World) (e : Ending) (w' : World) : Prop :=
  Below w.heap.size w w' ∧ ∃ v, e = .returned (.tuple #[v, .int .i64 (unfN bs : Nat), .int .i64 (unfE bs : Nat)]) ∧ OwnB w.heap.size w' v (unfC bs)
theorem Unframed.err {bs : List UInt8} {w w' : World} {k : Nat} (hb : Below w.heap.size w w') (h : unfE bs = k) (hk : k ≠ 0) :
    Unframed bs w (.returned (.tuple #[.slice none 0 0, .int .i64 0, .int .i64 (k : Nat)])) w' := by
  subst h
  exact ⟨hb, _, by rw [unfN, if_neg hk]; rfl, by rw [unfC, if_neg hk]; exact OwnB.nil _ _⟩

theorem quiet_eq {P : Program} {f : FuncId} {args : Array Value} {w : World} {n : Nat} {v : Value} (h : Calls P f args (w.drewN n) fun e w' => e = .returned v ∧ w.drewN n = w') :
    Calls P f args (w.drewN n) fun e w'' => e = .returned v ∧ ∃ m, w'' = w.drewN m := h.mono fun _ _ ⟨he, hm⟩ => ⟨he, n, hm.symm⟩
theorem quiet_dn {P : Program} {f : FuncId} {args : Array Value} {w : World} {n : Nat} {v : Value} (h : Calls P f args (w.drewN n) fun e w' => e = .returned v ∧ ∃ m, w' = (w.drewN n).drewN m) :
    Calls P f args (w.drewN n) fun e w'' => e = .returned v ∧ ∃ m, w'' = w.drewN m := Calls.quiet_of h
theorem BytesAt.drewN {w : World} {a : Option Addr} {bs : List UInt8} (h : BytesAt w a bs) (n : Nat) : BytesAt (w.drewN n) a bs := h.upd (Upd.drewN (M := fun _ => False) _ _) (fun _ _ h => h)

set_option maxRecDepth 100000 in
set_option maxHeartbeats 8000000 in
theorem unframe_any (a : Option Addr) (len cap : Nat) (bs : List UInt8) (w : World) (h : BytesAt w a bs) (hlen : len = bs.length) (hcap : len ≤ cap) (hl : (cap : Int) ≤ 9223372036854775807) (hl2 : len ≤ 140737488351232) :
    Calls Try.prog 26 #[.slice a len cap] w (Unframed bs w) := by
  subst hlen
  by_cases h4 : bs.length < 4
  · go_enter Try.func26, Try.ntmps26
    go_wp2
    go_ret3
    exact Unframed.err (k := 16) (Below.refl _ _) (by rw [unfE, if_pos h4]) (by decide)
  · obtain ⟨b, o, rfl, -⟩ := h 0 (by omega)
    have H := hidden h
    clear h
    have hf : ofLe (bs.take 4) < 4294967296 := by
      have := ofLe_lt (bs.take 4)
      rw [List.length_take, show min 4 bs.length = 4 by omega] at this; simpa using this
    obtain ⟨n, en⟩ : ∃ n, ofLe (bs.take 4) = n := ⟨_, rfl⟩
    rw [en] at hf
    have EN := hidden en
    have h4' : 4 ≤ bs.length := by omega
    have FE : Hid (unfE bs = if 131072 < n then 9 else if bs.length < n + 8 then 16 else if crc32 (bs.take (n + 4)) = ofLe ((bs.drop (n + 4)).take 4) then 0 else 12) := by
      show _ = _; rw [unfE, if_neg h4, en]
    clear en h4
    go_enter Try.func26, Try.ntmps26
    go_wp2_with fail
    with_reducible refine (fourth_any (some ⟨b, o, none⟩) bs.length cap bs w H.out h4' rfl (by omega)).mono ?_
    rintro e w1 ⟨rfl, rfl⟩
    rw [EN.out]
    by_cases h9 : 131072 < n
    · go_wp2
      go_ret3
      exact Unframed.err (k := 9) (Below.refl _ _) (by rw [FE.out, if_pos h9]) (by decide)
    · have h9' : n ≤ 131072 := by omega
      clear h9
      by_cases h16 : bs.length < n + 8
      · have h16' : (bs.length : Int) - 8 < (n : Int) := by omega
        go_wp2
        go_ret3
        exact Unframed.err (k := 16) (Below.refl _ _) (by rw [FE.out, if_neg (by omega), if_pos h16]) (by decide)
      · have h16' : n + 8 ≤ bs.length := by omega
        clear h16
        have i1 : ¬ cap = n + 4 := by omega
        have i2 : (n : Int) + 4 ≤ (bs.length : Int) := by omega
        have i3 : (bs.length : Int) ≤ (cap : Int) := by omega
        have i4 : ((n : Int) + 4).toNat = n + 4 := by omega
        have i5 : (0 : Int) ≤ (n : Int) + 4 := by omega
        have i6 : IntKind.i64.wrap ((n : Int) + 4) = (n : Int) + 4 := IntWalk.i64_in _ (by omega)
        go_wp2_with fail
        go_quiet ((first
          | (go_at_call 69; with_reducible exact quiet_eq (fourth_any (some ⟨b, o + (n + 4), none⟩) (bs.length - (n + 4)) (cap - (n + 4)) (bs.drop (n + 4)) _ ((H.out.drop (n + 4)).drewN _) (by rw [List.length_drop]; omega) (by rw [List.length_drop]) (by omega)))
          | (go_at_call 20; with_reducible exact quiet_eq (sum_any (some ⟨b, o, none⟩) (n + 4) cap (bs.take (n + 4)) _ ((H.out.take (n + 4)).drewN _) (by rw [List.length_take]; omega) (by omega)))))
        obtain ⟨cr, ecr⟩ : ∃ cr, crc32 (bs.take (n + 4)) = cr := ⟨_, rfl⟩
        obtain ⟨fo, efo⟩ : ∃ fo, ofLe ((bs.drop (n + 4)).take 4) = fo := ⟨_, rfl⟩
        rw [ecr, efo]
        have ECR := hidden ecr
        have EFO := hidden efo
        clear ecr efo
        by_cases hne : cr = fo
        · have HEQ := hidden hne
          subst hne
          have i7 : ¬ cap = 4 := by omega
          have i8 : (4 : Int) ≤ (n : Int) + 4 := by omega
          have HD := (H.out.drop 4).take n
          have HDN := hidden (HD.drewN nq)
          clear HD
          go_wp2_with (at_builtin; go_loud (refine wpList_append_B rfl (.const (.slice none 0 0)) (.tmp 36) rfl rfl (OwnB.nil w.heap.size _) rfl (by rw [List.length_take, List.length_drop]; omega) HDN.out (by rw [List.length_take, List.length_drop]; simp; omega) (Nat.le_refl _) ?_); intro v' w1 g1)
          go_ret3
          have FE0 : unfE bs = 0 := by rw [FE.out, if_neg (by omega), if_neg (by omega), if_pos (by rw [ECR.out, EFO.out])]
          refine ⟨(below_dn (Below.refl _ _) nq).trans (g1.below (Nat.le_refl _) (fun k hk => by cases hk)), v', ?_, ?_⟩
          · rw [unfN, if_pos FE0, FE0, EN.out]; rfl
          · rw [unfC, if_pos FE0, EN.out]; exact g1.own
        · have hne1 : ((fo : Int) != (cr : Int)) = true := by rw [bne_iff_ne]; omega
          have HNE := hidden hne
          clear hne
          go_wp2
          go_ret3
          exact Unframed.err (k := 12) (below_dn (Below.refl _ _) nq) (by rw [FE.out, if_neg (by omega), if_neg (by omega), if_neg (by rw [ECR.out, EFO.out]; exact HNE.out)]) (by decide)
set_option maxRecDepth 100000 in
set_option maxHeartbeats 8000000 in
theorem unframe_ref (a : Option Addr) (len cap : Nat) (bs : List UInt8) (w : World) (h : BytesAt w a bs) (hlen : len = bs.length) (hcap : len ≤ cap) (hl : (cap : Int) ≤ 9223372036854775807) (hl2 : len ≤ 140737488351232) :
    Calls Try.prog 27 #[.slice a len cap] w (Unframed bs w) := by
  subst hlen
  by_cases h4 : bs.length < 4
  · go_enter Try.func27, Try.ntmps27
    go_wp2
    go_ret3
    exact Unframed.err (k := 16) (Below.refl _ _) (by rw [unfE, if_pos h4]) (by decide)
  · obtain ⟨b, o, rfl, -⟩ := h 0 (by omega)
    have H := hidden h
    clear h
    have hf : ofLe (bs.take 4) < 4294967296 := by
      have := ofLe_lt (bs.take 4)
      rw [List.length_take, show min 4 bs.length = 4 by omega] at this; simpa using this
    obtain ⟨n, en⟩ : ∃ n, ofLe (bs.take 4) = n := ⟨_, rfl⟩
    rw [en] at hf
    have EN := hidden en
    have h4' : 4 ≤ bs.length := by omega
    have FE : Hid (unfE bs = if 131072 < n then 9 else if bs.length < n + 8 then 16 else if crc32 (bs.take (n + 4)) = ofLe ((bs.drop (n + 4)).take 4) then 0 else 12) := by
      show _ = _; rw [unfE, if_neg h4, en]
    clear en h4
    go_enter Try.func27, Try.ntmps27
    go_wp2_with fail
    with_reducible refine (fourth_ref (some ⟨b, o, none⟩) bs.length cap bs w H.out h4' rfl (by omega)).mono ?_
    rintro e w0 ⟨rfl, nd, hw0⟩
    have HB0 : Hid (Below w.heap.size w w0) := by rw [hw0]; exact below_dn (Below.refl _ _) nd
    have H0 : Hid (BytesAt w0 (some ⟨b, o, none⟩) bs) := H.out.on' HB0.out
    clear hw0
    rw [EN.out]
    by_cases h9 : 131072 < n
    · go_wp2
      go_ret3
      exact Unframed.err (k := 9) HB0.out (by rw [FE.out, if_pos h9]) (by decide)
    · have h9' : n ≤ 131072 := by omega
      clear h9
      by_cases h16 : bs.length < n + 8
      · have h16' : (bs.length : Int) < (n : Int) + 8 := by omega
        go_wp2
        go_ret3
        exact Unframed.err (k := 16) HB0.out (by rw [FE.out, if_neg (by omega), if_pos h16]) (by decide)
      · have h16' : n + 8 ≤ bs.length := by omega
        clear h16
        have i1 : ¬ cap = n + 4 := by omega
        have i2 : (n : Int) + 4 ≤ (bs.length : Int) := by omega
        have i3 : (bs.length : Int) ≤ (cap : Int) := by omega
        have i4 : ((n : Int) + 4).toNat = n + 4 := by omega
        have i5 : (0 : Int) ≤ (n : Int) + 4 := by omega
        have i6 : IntKind.i64.wrap ((n : Int) + 4) = (n : Int) + 4 := IntWalk.i64_in _ (by omega)
        go_wp2_with fail
        have j1 : IntKind.i64.wrap ((n : Int) + 8) = (n : Int) + 8 := IntWalk.i64_in _ (by omega)
        have j2 : (n : Int) + 4 ≤ (n : Int) + 8 := by omega
        have j3 : (n : Int) + 8 ≤ (cap : Int) := by omega
        have j4 : ((n : Int) + 8).toNat = n + 8 := by omega
        have j5 : (0 : Int) ≤ (n : Int) + 8 := by omega
        have j6 : n + 8 - (n + 4) = 4 := by omega
        have j7 : (n : Int) + 4 ≤ (cap : Int) := by omega
        go_quiet ((first
          | (go_at_call 70; with_reducible exact quiet_dn (fourth_ref (some ⟨b, o + (n + 4), none⟩) 4 (cap - (n + 4)) ((bs.drop (n + 4)).take 4) _ (((H0.out.drop (n + 4)).take 4).drewN _) (by rw [List.length_take, List.length_drop]; omega) (by rw [List.length_take, List.length_drop]; omega) (by omega)))
          | (go_at_call 21; with_reducible exact quiet_eq (sum_ref (some ⟨b, o, none⟩) (n + 4) cap (bs.take (n + 4)) _ ((H0.out.take (n + 4)).drewN _) (by rw [List.length_take]; omega) (by omega)))))
        rw [List.take_take, Nat.min_self]
        clear j1 j2 j3 j4 j5 j6
        obtain ⟨cr, ecr⟩ : ∃ cr, crc32 (bs.take (n + 4)) = cr := ⟨_, rfl⟩
        obtain ⟨fo, efo⟩ : ∃ fo, ofLe ((bs.drop (n + 4)).take 4) = fo := ⟨_, rfl⟩
        rw [ecr, efo]
        have ECR := hidden ecr
        have EFO := hidden efo
        clear ecr efo
        by_cases hne : cr = fo
        · have HEQ := hidden hne
          subst hne
          have i7 : ¬ cap = 4 := by omega
          have i8 : (4 : Int) ≤ (n : Int) + 4 := by omega
          have OE : ∀ W : World, OwnB W.heap.size (W.alloc (.cells #[] 5)) (.slice (some ⟨W.heap.size, 0, none⟩) 0 0) [] := fun W => World.ownsRow_lit W #[] 0 (Nat.le_refl _) (by decide) rfl
          have HOE := hidden OE
          clear OE
          have HD := (H0.out.drop 4).take n
          have HDN := hidden (HD.drewN nq)
          clear HD
          go_wp2_with (at_builtin; go_loud (refine wpList_append_B rfl (.tmp 35) (.tmp 39) rfl rfl (HOE.out _) rfl (by rw [List.length_take, List.length_drop]; omega) (HDN.out.on' ((Below.refl _ _).alloc (Nat.le_refl _) _)) (by rw [List.length_take, List.length_drop]; simp; omega) (by rw [World.size_alloc]; exact Nat.le_succ _) ?_); intro v' w1 g1)
          go_ret3
          have FE0 : unfE bs = 0 := by rw [FE.out, if_neg (by omega), if_neg (by omega), if_pos (by rw [ECR.out, EFO.out])]
          refine ⟨((below_dn HB0.out nq).alloc HB0.out.size _).trans (g1.below (by rw [World.size_alloc]; exact Nat.le_succ_of_le HB0.out.size) (fun k hk => by cases hk; exact HB0.out.size)), v', ?_, ?_⟩
          · rw [unfN, if_pos FE0, FE0, EN.out]; rfl
          · rw [unfC, if_pos FE0, EN.out]; exact g1.own.weaken HB0.out.size
        · have hne1 : ((cr : Int) != (fo : Int)) = true := by rw [bne_iff_ne]; omega
          have HNE := hidden hne
          clear hne
          go_wp2
          go_ret3
          exact Unframed.err (k := 12) (below_dn HB0.out nq) (by rw [FE.out, if_neg (by omega), if_neg (by omega), if_neg (by rw [ECR.out, EFO.out]; exact HNE.out)]) (by decide)
end Go.Proofs.Ytekmjegeiminnaa
