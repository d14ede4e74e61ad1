/- box's numbers in four bytes, Ids, HasPrefix, walked; appends of texts. -/
import Derived.Test.YtekmjegeiminnaaC3
import Derived.Lib.AppendStr
namespace Go.Proofs.Ytekmjegeiminnaa
open Go.RowKit
set_option linter.unusedVariables false
set_option linter.unusedSimpArgs false

theorem strCells_of (t : List UInt8) : Lib.strCells (strOf t) = byteVs t := by simp [Lib.strCells, byteVs, bV]
theorem size_strOf (t : List UInt8) : (strOf t).size = t.length := by simp [ByteArray.size]
/-- An append of a text's bytes onto a row of the calls' own: its run. -/
theorem run_append_S {w : World} {ty : TypeId} {B : Nat} {v : Value} {bs t : List UInt8} (ho : OwnB B w v bs) (hl : bs.length + t.length ≤ 140737488355328) (hB : B ≤ w.heap.size) :
    ∃ v' w', (Builtin.append_ #[22, 9] ty #[v, .string (strOf t)]).run Try.prog w = .ok v' w' ∧ Grew B v v' (bs ++ t) w w' := by
  obtain ⟨i0, hi, hz0, hz1, hz2⟩ := info_parts Try.info5
  have hsz := size_strOf t
  obtain ⟨v', w', hr, h2, h3, h4⟩ := Lib.run_append_own_string (P := Try.prog) w B 22 9 ty 5 i0 Try.underlying22 Try.underlying9 hi hz0 hz1 hz2 v bs.length (byteVs bs) ho (strOf t) (by rw [hsz]; unfold maxLen; omega) (by rw [hsz]; omega) hB
  have hat : v'.ownBlock = v.ownBlock ∨ ∃ g, v'.ownBlock = some g ∧ w.heap.size ≤ g := by
    rcases ho.2 with ⟨rfl, hn⟩ | ⟨g, cap, cur, rfl, hb, hg, hnc, hcm, hcs, htake⟩
    · by_cases hm : (strOf t).size = 0
      · left; rw [h4.2 ⟨rfl, hm⟩]
      · have hr2 := run_append_nil_string (P := Try.prog) w 22 9 ty 5 i0 (.int .u8 0) Try.underlying22 Try.underlying9 hi hz0 (strOf t) (by omega) (by omega) (by rw [hz2]; omega)
        rw [hr2] at hr
        injection hr with hr _
        subst hr
        exact .inr ⟨_, rfl, Nat.le_refl _⟩
    · by_cases hroom : bs.length + (strOf t).size ≤ cap
      · have hr2 := Lib.run_append_room_string (P := Try.prog) w 22 9 ty 5 i0 Try.underlying22 Try.underlying9 hi hz1 g bs.length cap cur hg (strOf t) hroom (by omega)
        rw [hr2] at hr
        injection hr with hr _
        subst hr
        exact .inl rfl
      · have holds : ∀ j u, (byteVs bs)[j]? = some u → w.cell? ((⟨g, 0, none⟩ : Addr).add j) = some u := World.ownsRow.cells (g := g) ho rfl
        have hr2 := Lib.run_append_grow_string (P := Try.prog) w 22 9 ty 5 i0 (.int .u8 0) Try.underlying22 Try.underlying9 hi hz0 ⟨g, 0, none⟩ bs.length cap (byteVs bs) (by rw [hz1, byteVs_length, Nat.mul_one]) holds (strOf t) (by omega) (by omega) (by rw [hz2]; exact growslice_fits (by omega) (by omega))
        rw [hr2] at hr
        injection hr with hr _
        subst hr
        exact .inr ⟨_, rfl, Nat.le_refl _⟩
  refine ⟨v', w', hr, ?_, Upd.ofGrown h3, hat⟩
  rw [hsz, strCells_of] at h2
  unfold OwnB
  rw [List.length_append, byteVs_append]
  exact h2
theorem wp_append_S {o : Oper} {a : Act} {K : Act → World → Prop} {Q : Exit → Act → World → Prop} {w : World} (s x : Operand)
    (hop : o.op = .call { callee := .builtin .append, args := #[s, x], argTypes := #[22, 9] })
    {B : Nat} {v : Value} {bs t : List UInt8} (hs : a.eval s = v) (ho : OwnB B w v bs) (hx : a.eval x = .string (strOf t))
    (hl : bs.length + t.length ≤ 140737488355328) (hB : B ≤ w.heap.size) (h : ∀ v' w', Grew B v v' (bs ++ t) w w' → K (a.put o.dst v') w') : o.wp Try.prog a w K Q := by
  obtain ⟨v', w', hrun, hg⟩ := run_append_S (ty := o.type) (t := t) ho hl hB
  unfold Oper.wp execOp
  simp only [hop, resolve, invoke, builtin, Sem.run_bind, Sem.run_pure, Result.andThen_ok, List.map_toArray, List.map_cons, List.map_nil, hs, hx, hrun]
  exact h v' w' hg
theorem wpList_append_S {ops : Array Oper} {rest : List Oper} {o : Oper} {a : Act} {Q : Exit → Act → World → Prop} {w : World} (hgd : o.guard = none) (s x : Operand)
    (hop : o.op = .call { callee := .builtin .append, args := #[s, x], argTypes := #[22, 9] })
    {B : Nat} {v : Value} {bs t : List UInt8} (hs : a.eval s = v) (ho : OwnB B w v bs) (hx : a.eval x = .string (strOf t))
    (hl : bs.length + t.length ≤ 140737488355328) (hB : B ≤ w.heap.size) (h : ∀ v' w', Grew B v v' (bs ++ t) w w' → wpList Try.prog ops Q rest (a.put o.dst v') w') : wpList Try.prog ops Q (o :: rest) a w :=
  wpList_plain hgd fun _ hK => wp_append_S s x hop hs ho hx hl hB fun v' w' hg => hK _ _ (h v' w' hg)
theorem step_append_S {ops : Array Oper} {o : Oper} {a : Act} {K : Act → World → Prop} {Q : Exit → Act → World → Prop} {E : Prop} {w : World} (hgd : o.guard = none) (s x : Operand)
    (hop : o.op = .call { callee := .builtin .append, args := #[s, x], argTypes := #[22, 9] })
    {B : Nat} {v : Value} {bs t : List UInt8} (hs : a.eval s = v) (ho : OwnB B w v bs) (hx : a.eval x = .string (strOf t))
    (hl : bs.length + t.length ≤ 140737488355328) (hB : B ≤ w.heap.size) (h : ∀ v' w', Grew B v v' (bs ++ t) w w' → K (a.put o.dst v') w') :
    if Region.wanted o (yielded ops a.tmps) = true then Oper.wp Try.prog o a w K Q else E := by
  have hw : Region.wanted o (yielded ops a.tmps) = true := by simp [Region.wanted, hgd]
  rw [if_pos hw]
  exact wp_append_S s x hop hs ho hx hl hB h

set_option maxRecDepth 100000 in
set_option maxHeartbeats 4000000 in
theorem four_box (B : Nat) (v : Value) (bs : List UInt8) (n : Nat) (w : World) (hn : n < 4294967296) (ho : OwnB B w v bs) (hB : B ≤ w.heap.size) (hl : bs.length ≤ 1000000000) :
    Calls Try.prog 76 #[v, .int .i64 n] w fun e w' => ∃ v', e = .returned v' ∧ Grew B v v' (bs ++ le4 n) w w' := by
  obtain ⟨i0, hi, hz0, hz1, hz2⟩ := info_parts Try.info5
  have HO := hidden ho
  clear ho
  go_enter Try.func76, Try.ntmps76
  go_wp2_with (at_builtin; go_loud (refine wpList_append_own_at _ rfl (.tmp 5) (.tmp 17) 22 rfl B 5 i0 (.int .u8 0) 1 1 Try.underlying22 hi hz0 hz1 hz2 rfl (by decide) v bs.length (byteVs bs) rfl (HO.out.on (M := fun _ => False) (Upd.new _ _) (fun _ _ h => h)) ⟨w.heap.size, 0, none⟩ 4 4 [.int .u8 ((n : Int) % 256), .int .u8 ((n : Int) / 256 % 256), .int .u8 ((n : Int) / 65536 % 256), .int .u8 ((n : Int) / 16777216)] rfl rfl (news_at #[.int .u8 ((n : Int) % 256), .int .u8 ((n : Int) / 256 % 256), .int .u8 ((n : Int) / 65536 % 256), .int .u8 ((n : Int) / 16777216)] rfl) (four_ones _ _ _ _) (by unfold maxLen; omega) (by omega) (by simp; omega) ?_); intro v' w1 hown' hgrow hnil hblk)
  go_ret
  rw [← le4_vals n hn] at hown'
  exact ⟨v', rfl, Grew.mk' (Upd.new _ _) (fun k hk => (HO.out.lt k hk).2) hown' rfl hgrow hblk⟩
theorem ret_i64 {a b : Int} (h : a = b) : Ending.returned (.int .i64 a) = .returned (.int .i64 b) := by rw [h]
theorem ofInt_i64 (a : Nat) (ha : a < 9223372036854775808) : (BitVec.ofInt 64 (a : Int)).toNat = a := by
  rw [BitVec.ofInt_natCast, BitVec.toNat_ofNat]; exact Nat.mod_eq_of_lt (by omega)
theorem i64_or_nat (a b : Nat) (ha : a < 9223372036854775808) (hb : b < 9223372036854775808) : bits .or .i64 (a : Int) (b : Int) = ((a ||| b : Nat) : Int) := by
  have hx : a ||| b < 2 ^ 63 := Nat.or_lt_two_pow (by omega) (by omega)
  show IntKind.i64.wrap ((BitVec.ofInt 64 (a : Int) ||| BitVec.ofInt 64 (b : Int)).toNat : Int) = _
  rw [BitVec.toNat_or, ofInt_i64 a ha, ofInt_i64 b hb, IntKind.wrap_i64]
  omega
theorem or_add64 {c k x : Nat} (hk : k < 4) (hc : c < 256 ^ k) (hx : x < 256) : bits .or .i64 (c : Int) ((x * 256 ^ k : Nat) : Int) = ((c + x * 256 ^ k : Nat) : Int) := by
  have hp : 256 ^ k ≤ 16777216 := by
    have : 256 ^ k ≤ 256 ^ 3 := Nat.pow_le_pow_right (by decide) (by omega)
    simpa using this
  have hm : x * 256 ^ k ≤ 255 * 16777216 := Nat.mul_le_mul (by omega) hp
  rw [i64_or_nat _ _ (by omega) (by omega)]
  have h := Nat.shiftLeft_add_eq_or_of_lt (b := c) (i := 8 * k) (by rw [pow_256]; exact hc) x
  rw [Nat.shiftLeft_eq, pow_256] at h
  rw [Nat.or_comm, ← h, Nat.add_comm]
set_option maxRecDepth 100000 in
set_option maxHeartbeats 4000000 in
theorem fourth_box (a : Option Addr) (len cap : Nat) (bs : List UInt8) (w : World) (h : BytesAt w a bs) (h4 : 4 ≤ bs.length) (hlen : len = bs.length) (hl : len ≤ 140737488351232) :
    Calls Try.prog 78 #[.slice a len cap] w fun e w' => e = .returned (.int .i64 (ofLe (bs.take 4) : Nat)) ∧ ∃ n, w' = w.drewN n := by
  subst hlen
  obtain ⟨b, o, rfl, c0⟩ := h 0 (by omega)
  obtain ⟨b1, o1, e1, c1⟩ := h 1 (by omega)
  obtain ⟨b2, o2, e2, c2⟩ := h 2 (by omega)
  obtain ⟨b3, o3, e3, c3⟩ := h 3 (by omega)
  cases e1; cases e2; cases e3
  rw [Nat.add_zero] at c0
  have hx0 := bs[0].toNat_lt
  have hx1 := bs[1].toNat_lt
  have hx2 := bs[2].toNat_lt
  have hx3 := bs[3].toNat_lt
  have HT : Hid (bs.take 4 = [bs[0], bs[1], bs[2], bs[3]]) := by
    exact take_four h4
  generalize bs[0] = x0 at *
  generalize bs[1] = x1 at *
  generalize bs[2] = x2 at *
  generalize bs[3] = x3 at *
  have i0 : (0 : Int) < (bs.length : Int) := by omega
  have i1 : (1 : Int) < (bs.length : Int) := by omega
  have i2 : (2 : Int) < (bs.length : Int) := by omega
  have i3 : (3 : Int) < (bs.length : Int) := by omega
  clear h
  go_enter Try.func78, Try.ntmps78
  go_wp2_with fail
  go_quiet (fail)
  go_wp2
  go_ret
  refine ⟨ret_i64 ?_, _, rfl⟩
  have q1 : bits .or .i64 (x0.toNat : Int) ((x1.toNat : Int) * 256) = ((x0.toNat + x1.toNat * 256 : Nat) : Int) := or_add64 (k := 1) (c := x0.toNat) (x := x1.toNat) (by omega) (by simpa using hx0) (by simpa using hx1)
  have q2 : bits .or .i64 ((x0.toNat + x1.toNat * 256 : Nat) : Int) ((x2.toNat : Int) * 65536) = ((x0.toNat + x1.toNat * 256 + x2.toNat * 65536 : Nat) : Int) := or_add64 (k := 2) (x := x2.toNat) (by omega) (by simp at hx0 hx1 ⊢; omega) (by simpa using hx2)
  have q3 : bits .or .i64 ((x0.toNat + x1.toNat * 256 + x2.toNat * 65536 : Nat) : Int) ((x3.toNat : Int) * 16777216) = ((x0.toNat + x1.toNat * 256 + x2.toNat * 65536 + x3.toNat * 16777216 : Nat) : Int) := or_add64 (k := 3) (x := x3.toNat) (by omega) (by simp at hx0 hx1 hx2 ⊢; omega) (by simpa using hx3)
  rw [q1, q2, q3, HT.out]
  simp only [ofLe]; omega
set_option maxRecDepth 100000 in
set_option maxHeartbeats 4000000 in
theorem hasprefix_any (bs pre : List UInt8) (w : World) (hs : bs.length ≤ 140737488351232) (ht : pre.length ≤ 140737488351232) :
    Calls Try.prog 77 #[.string (strOf bs), .string (strOf pre)] w fun e w' => e = .returned (.bool (bs.take pre.length == pre)) ∧ w = w' := by
  have z1 := size_strOf bs
  have z2 := size_strOf pre
  have HE : Hid (∀ n, n ≤ bs.length → (strOf bs).extract 0 n = strOf (bs.take n)) := hidden (fun n hn => by
    apply ByteArray.ext
    simp [ByteArray.data_extract])
  go_enter Try.func77, Try.ntmps77
  go_wp2_with fail
  refine Calls.mono (R := fun e w' => e = .returned (.bool (bs.take pre.length == pre)) ∧ w = w') ?_ ?_
  · by_cases hle : pre.length ≤ bs.length
    · go_enter Try.func105, Try.ntmps105
      go_wp2_with fail
      go_ret
      refine ⟨?_, rfl⟩
      have e : (((strOf bs).extract 0 pre.length).toList == pre) = (bs.take pre.length == pre) := by rw [HE.out _ hle, ByteArray.toList_eq]
      rw [← e]; rfl
    · have e : (bs.take pre.length == pre) = false := by
        rw [beq_eq_false_iff_ne]; intro h
        have := congrArg List.length h
        rw [List.length_take] at this; omega
      have HF := hidden e
      clear e
      go_enter Try.func105, Try.ntmps105
      go_wp2_with fail
      go_ret
      exact ⟨by rw [HF.out]; rfl, rfl⟩
  · rintro e w1 ⟨rfl, rfl⟩
    go_wp2_with fail
    go_ret
    exact ⟨rfl, rfl⟩

set_option maxRecDepth 100000 in
set_option maxHeartbeats 4000000 in
theorem id_any (a : Option Addr) (len cap : Nat) (bs : List UInt8) (w : World) (h : BytesAt w a bs) (hlen : len = bs.length) (hl : len ≤ 140737488351232) :
    Calls Try.prog 39 #[.slice a len cap] w fun e w' => e = .returned (.int .i64 (crc32 bs : Nat)) ∧ w = w' := by
  subst hlen
  have hcr := crc32_lt bs
  go_enter Try.func39, Try.ntmps39
  go_wp2_with fail
  with_reducible refine (sum_any a _ cap bs w h rfl hl).mono ?_
  rintro e w1 ⟨rfl, rfl⟩
  clear h
  obtain ⟨cr, ecr⟩ : ∃ cr, crc32 bs = cr := ⟨_, rfl⟩
  rw [ecr] at hcr ⊢
  have E := hidden ecr
  clear ecr
  go_wp2_with fail
  go_ret
  exact ⟨by rw [E.out]; rfl, rfl⟩
set_option maxRecDepth 100000 in
set_option maxHeartbeats 4000000 in
theorem id_ref (a : Option Addr) (len cap : Nat) (bs : List UInt8) (w : World) (h : BytesAt w a bs) (hlen : len = bs.length) (hl : len ≤ 140737488351232) :
    Calls Try.prog 40 #[.slice a len cap] w fun e w' => e = .returned (.int .i64 (crc32 bs : Nat)) ∧ w = w' := by
  subst hlen
  have hcr := crc32_lt bs
  go_enter Try.func40, Try.ntmps40
  go_wp2_with fail
  with_reducible refine (sum_ref a _ cap bs w h rfl hl).mono ?_
  rintro e w1 ⟨rfl, rfl⟩
  clear h
  obtain ⟨cr, ecr⟩ : ∃ cr, crc32 bs = cr := ⟨_, rfl⟩
  rw [ecr] at hcr ⊢
  have E := hidden ecr
  clear ecr
  go_wp2_with fail
  go_ret
  exact ⟨by rw [E.out]; rfl, rfl⟩
end Go.Proofs.Ytekmjegeiminnaa
