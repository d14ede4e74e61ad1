/- What it is that a slice of bytes reads as a list of bytes; the program's Sum and the reference's, walked. -/
import Derived.Test.YtekmjegeiminnaaRows
import Derived.Test.YtekmjegeiminnaaP1
import Derived.WalkKit
import Derived.Deep.QuietTactic
import Derived.BigQuiet
import Derived.Laws.BitsAllLaws
import Derived.Maps.AppendAt
import Derived.Deep.AppendLies
import Derived.Laws.OwnMore
namespace Go.Proofs.Ytekmjegeiminnaa
open Go.RowKit
set_option linter.unusedVariables false
set_option linter.unusedSimpArgs false

theorem hidden {p : Prop} (h : p) : Hid p := h
theorem below_dn {B : Nat} {a w : World} (h : Below B a w) (n : Nat) : Below B a (w.drewN n) := h.trans ⟨rfl, rfl, rfl, Nat.le_refl _, fun _ _ => rfl⟩
theorem below_grown {w w' : World} (h : Below w.heap.size w w') (row : Option Nat) : w.grownBy w' row := ⟨h.os, h.tape, h.output, h.size, fun k hk _ => h.block k hk⟩
abbrev bV (x : UInt8) : Value := .int .u8 (x.toNat : Int)
def byteVs (bs : List UInt8) : List Value := bs.map bV
/-- The slice's bytes. -/
def BytesAt (w : World) (a : Option Addr) (bs : List UInt8) : Prop :=
  ∀ (i : Nat) (h : i < bs.length), ∃ b o, a = some ⟨b, o, none⟩ ∧ w.cell? ⟨b, o + i, none⟩ = some (bV bs[i])
theorem BytesAt.on {B : Nat} {w w' : World} {a : Option Addr} {bs : List UInt8} (h : BytesAt w a bs) (hb : Below B w w') (hB : ∀ A, a = some A → A.block < B) : BytesAt w' a bs := fun i hi => by
  obtain ⟨b, o, ha, hc⟩ := h i hi
  exact ⟨b, o, ha, (hb.cell (by show b < B; exact hB ⟨b, o, none⟩ ha)).trans hc⟩
theorem BytesAt.on' {w w' : World} {a : Option Addr} {bs : List UInt8} (h : BytesAt w a bs) (hb : Below w.heap.size w w') : BytesAt w' a bs := fun i hi => by
  obtain ⟨b, o, ha, hc⟩ := h i hi
  exact ⟨b, o, ha, (hb.cell (by exact World.block_lt_of_cell? w _ hc)).trans hc⟩

theorem ret_u32 {a b : Int} (h : a = b) : Ending.returned (.int .u32 a) = .returned (.int .u32 b) := by rw [h]

/-- The program's step of one bit, in the walk's own spelling. -/
theorem crc1_walk (d : Nat) (h : d < 4294967296) :
    bits .xor .u32 ((d : Int) / 2) (bits .and .u32 3988292384 (-bits .and .u32 (d : Int) 1 % 4294967296)) = (crc1 d : Int) := by
  have h1 : bits .and .u32 (d : Int) 1 = ((d % 2 : Nat) : Int) := by
    have := u32_and_nat d 1 h (by omega)
    rw [show ((1 : Nat) : Int) = 1 from rfl] at this
    rw [this, Nat.and_one_is_mod]
  rw [h1]
  have h2 : ((d : Int) / 2) = ((d / 2 : Nat) : Int) := by omega
  rw [h2]
  unfold crc1
  rcases Nat.mod_two_eq_zero_or_one d with e | e
  · rw [e]
    have : (-((0 : Nat) : Int) % 4294967296) = ((0 : Nat) : Int) := by decide
    rw [this]
    have h3 := u32_and_nat 3988292384 0 (by omega) (by omega)
    rw [show ((3988292384 : Nat) : Int) = 3988292384 from rfl] at h3
    rw [h3, u32_xor_nat _ _ (by omega) (by decide)]
    simp
  · rw [e]
    have : (-((1 : Nat) : Int) % 4294967296) = ((4294967295 : Nat) : Int) := by decide
    rw [this]
    have h3 := u32_and_nat 3988292384 4294967295 (by omega) (by omega)
    rw [show ((3988292384 : Nat) : Int) = 3988292384 from rfl] at h3
    rw [h3, u32_xor_nat _ _ (by omega) (by decide)]
    simp

set_option maxRecDepth 100000 in
set_option maxHeartbeats 4000000 in
theorem sum_any (a : Option Addr) (len cap : Nat) (bs : List UInt8) (w : World) (h : BytesAt w a bs) (hlen : len = bs.length) (hl : len ≤ 140737488351232) :
    Calls Try.prog 20 #[.slice a len cap] w fun e w' => e = .returned (.int .u32 (crc32 bs : Nat)) ∧ w = w' := by
  subst hlen
  have H := hidden h
  clear h
  go_enter Try.func20, Try.ntmps20
  go_wp2_with fail
  go_loop [3, 8] (fun s i => ∃ (k c : Nat), i = .int .i64 k ∧ k ≤ bs.length ∧ s = .int .u32 c ∧ c < 4294967296 ∧ c = crcAll 4294967295 (bs.take k)) (fun _ i => bs.length - (intOf i).toNat)
  case atStart => exact ⟨0, 4294967295, rfl, Nat.zero_le _, rfl, by omega, rfl⟩
  case round =>
    obtain ⟨k, c, rfl, hk, rfl, hc, hcr⟩ := hrel
    have HCR := hidden hcr
    clear hcr
    by_cases hlt : k < bs.length
    · obtain ⟨b, o, rfl, hcell⟩ := H.out k hlt
      have hx : (bs[k].toNat : Int) < 256 := by have := bs[k].toNat_lt; omega
      have hx0 : 0 ≤ (bs[k].toNat : Int) := by omega
      have HX : Hid (bs.take (k + 1) = bs.take k ++ [bs[k]]) := by show _ = _; rw [List.take_succ_eq_append_getElem hlt]
      have hxor : bits .xor .u32 (c : Int) (bs[k].toNat : Int) = ((c ^^^ bs[k].toNat : Nat) : Int) := u32_xor_nat _ _ hc (by have := bs[k].toNat_lt; omega)
      have HS : Hid (crcByte c bs[k] = crc1n 8 (c ^^^ bs[k].toNat)) := rfl
      have hlt32 : c ^^^ bs[k].toNat < 4294967296 := xor_lt32 hc (by have := bs[k].toNat_lt; omega)
      generalize bs[k] = x at hcell hx hx0 HX hxor HS hlt32
      generalize c ^^^ x.toNat = c0 at hxor HS hlt32
      go_wp2_with fail
      go_loop [3, 16] (fun s i => ∃ (j d : Nat), i = .int .i64 j ∧ j ≤ 8 ∧ s = .int .u32 d ∧ d < 4294967296 ∧ d = crc1n j c0) (fun _ i => 8 - (intOf i).toNat)
      case atStart => exact ⟨0, c0, rfl, Nat.zero_le _, rfl, hlt32, rfl⟩
      case round =>
        obtain ⟨j, d, rfl, hj, rfl, hd, hdj⟩ := hrel
        have HDJ := hidden hdj
        clear hdj
        by_cases hlt2 : j < 8
        · have HC1 := hidden (crc1_walk d hd)
          go_wp2
          exact ⟨⟨j + 1, crc1 d, by go_num, by omega, by rw [HC1.out], crc1_lt hd, by rw [HDJ.out]; rfl⟩, by simp [intOf]; omega⟩
        · have hj8 : j = 8 := by omega
          have HJ := hidden hj8
          have hnot : ¬ (j : Int) < 8 := by omega
          clear hj8
          go_wp2
          refine ⟨⟨k + 1, d, by go_num, by omega, rfl, hd, ?_⟩, by simp [intOf]; omega⟩
          rw [HX.out, crcAll_snoc, ← HCR.out, HS.out, HDJ.out, HJ.out]
    · have hnot : ¬ (k : Int) < (bs.length : Int) := by omega
      have HK : Hid (k = bs.length) := by show _ = _; omega
      go_wp2
      go_ret
      refine ⟨ret_u32 ?_, rfl⟩
      show bits .xor .u32 ((4294967295 : Nat) : Int) (c : Int) = _
      rw [u32_xor_nat _ _ (by omega) hc, HCR.out, HK.out, List.take_length, Nat.xor_comm]
      rfl
end Go.Proofs.Ytekmjegeiminnaa

/- The reference's Sum, walked. -/
namespace Go.Proofs.Ytekmjegeiminnaa
open Go.RowKit
set_option linter.unusedVariables false
set_option linter.unusedSimpArgs false

/-- The reference's test of one bit, in the walk's own spelling. -/
theorem ref1_test (d x j : Nat) (hd : d < 4294967296) (hx : x < 256) :
    bits .and .u32 (bits .xor .u32 (d : Int) ((x : Int) / 2 ^ j % 4294967296)) 1 = (((d ^^^ x / 2 ^ j) % 2 : Nat) : Int) := by
  have hle : x / 2 ^ j ≤ x := Nat.div_le_self _ _
  have e : (x : Int) / 2 ^ j % 4294967296 = ((x / 2 ^ j : Nat) : Int) := by
    have e1 : (x : Int) / 2 ^ j = ((x / 2 ^ j : Nat) : Int) := by norm_cast
    rw [e1]; generalize x / 2 ^ j = y at hle; omega
  rw [e, u32_xor_nat _ _ hd (by omega)]
  have := u32_and_nat (d ^^^ x / 2 ^ j) 1 (xor_lt32 hd (by omega)) (by omega)
  rw [show ((1 : Nat) : Int) = 1 from rfl] at this
  rw [this, Nat.and_one_is_mod]
theorem ref1_one {d b : Nat} (h : (d ^^^ b) % 2 = 1) (hd : d < 4294967296) : bits .xor .u32 ((d : Int) / 2) 3988292384 = (ref1 d b : Int) := by
  unfold ref1
  rw [if_pos h, show ((d : Int) / 2) = ((d / 2 : Nat) : Int) by omega]
  have := u32_xor_nat (d / 2) 3988292384 (by omega) (by omega)
  rw [show ((3988292384 : Nat) : Int) = 3988292384 from rfl] at this
  exact this
theorem ref1_zero {d b : Nat} (h : ¬ (d ^^^ b) % 2 = 1) : ((d : Int) / 2) = (ref1 d b : Int) := by
  unfold ref1
  rw [if_neg h]; omega

set_option maxRecDepth 100000 in
set_option maxHeartbeats 4000000 in
theorem sum_ref (a : Option Addr) (len cap : Nat) (bs : List UInt8) (w : World) (h : BytesAt w a bs) (hlen : len = bs.length) (hl : len ≤ 140737488351232) :
    Calls Try.prog 21 #[.slice a len cap] w fun e w' => e = .returned (.int .u32 (crc32 bs : Nat)) ∧ w = w' := by
  subst hlen
  have H := hidden h
  clear h
  go_enter Try.func21, Try.ntmps21
  go_wp2_with fail
  go_loop [3, 10] (fun s i => ∃ (k c : Nat), i = .int .i64 k ∧ k ≤ bs.length ∧ s = .int .u32 c ∧ c < 4294967296 ∧ c = crcAll 4294967295 (bs.take k)) (fun _ i => bs.length - (intOf i).toNat)
  case atStart => exact ⟨0, 4294967295, rfl, Nat.zero_le _, rfl, by omega, rfl⟩
  case round =>
    obtain ⟨k, c, rfl, hk, rfl, hc, hcr⟩ := hrel
    have HCR := hidden hcr
    clear hcr
    by_cases hlt : k < bs.length
    · obtain ⟨b, o, rfl, hcell⟩ := H.out k hlt
      have hx : bs[k].toNat < 256 := bs[k].toNat_lt
      have HX : Hid (bs.take (k + 1) = bs.take k ++ [bs[k]]) := by show _ = _; rw [List.take_succ_eq_append_getElem hlt]
      have HS : Hid (refn 8 c bs[k].toNat = crcByte c bs[k]) := refn_byte c bs[k]
      generalize bs[k] = x at hcell hx HX HS
      go_wp2_with fail
      go_loop [3, 6] (fun s i => ∃ (j d : Nat), i = .int .i64 j ∧ j ≤ 8 ∧ s = .int .u32 d ∧ d < 4294967296 ∧ d = refn j c x.toNat) (fun _ i => 8 - (intOf i).toNat)
      case atStart => exact ⟨0, c, rfl, Nat.zero_le _, rfl, hc, rfl⟩
      case round =>
        obtain ⟨j, d, rfl, hj, rfl, hd, hdj⟩ := hrel
        have HDJ := hidden hdj
        clear hdj
        by_cases hlt2 : j < 8
        · have HT := ref1_test d x.toNat j hd hx
          by_cases hb : (d ^^^ x.toNat / 2 ^ j) % 2 = 1
          · have HT1 : (bits .and .u32 (bits .xor .u32 (d : Int) ((x.toNat : Int) / 2 ^ j % 4294967296)) 1 == 1) = true := by rw [HT, hb]; rfl
            have H1 := hidden (ref1_one hb hd)
            clear HT hb
            go_wp2
            exact ⟨⟨j + 1, ref1 d (x.toNat / 2 ^ j), by go_num, by omega, by rw [H1.out], ref1_lt hd, by rw [HDJ.out]; rfl⟩, by simp [intOf]; omega⟩
          · have HT1 : (bits .and .u32 (bits .xor .u32 (d : Int) ((x.toNat : Int) / 2 ^ j % 4294967296)) 1 == 1) = false := by
              rw [HT]; have : (d ^^^ x.toNat / 2 ^ j) % 2 = 0 := by omega
              rw [this]; rfl
            have H1 := hidden (ref1_zero (d := d) hb)
            clear HT hb
            go_wp2
            exact ⟨⟨j + 1, ref1 d (x.toNat / 2 ^ j), by go_num, by omega, by rw [H1.out], ref1_lt hd, by rw [HDJ.out]; rfl⟩, by simp [intOf]; omega⟩
        · have hj8 : j = 8 := by omega
          have HJ := hidden hj8
          have hnot : ¬ (j : Int) < 8 := by omega
          clear hj8
          go_wp2
          refine ⟨⟨k + 1, d, by go_num, by omega, rfl, hd, ?_⟩, by simp [intOf]; omega⟩
          rw [HX.out, crcAll_snoc, ← HCR.out, ← HS.out, HDJ.out, HJ.out]
    · have hnot : ¬ (k : Int) < (bs.length : Int) := by omega
      have HK : Hid (k = bs.length) := by show _ = _; omega
      go_wp2
      go_ret
      refine ⟨ret_u32 ?_, rfl⟩
      show bits .xor .u32 (c : Int) ((4294967295 : Nat) : Int) = _
      rw [u32_xor_nat _ _ hc (by omega), HCR.out, HK.out, List.take_length]
      rfl
end Go.Proofs.Ytekmjegeiminnaa

/- What a call may have turned in memory ('Upd'); slices of bytes that the calls have made; numbers in four bytes. -/
namespace Go.Proofs.Ytekmjegeiminnaa
open Go.RowKit
set_option linter.unusedVariables false
set_option linter.unusedSimpArgs false

/-- Of the blocks that were there, those alone may have turned of which M says so. -/
structure Upd (M : Nat → Prop) (w w' : World) : Prop where
  os : w'.os = w.os
  tape : w'.tape = w.tape
  output : w'.output = w.output
  size : w.heap.size ≤ w'.heap.size
  block : ∀ k, k < w.heap.size → ¬ M k → w'.heap[k]? = w.heap[k]?
theorem Upd.refl (M : Nat → Prop) (w : World) : Upd M w w := ⟨rfl, rfl, rfl, Nat.le_refl _, fun _ _ _ => rfl⟩
theorem Upd.trans {M N : Nat → Prop} {a b c : World} (h : Upd M a b) (k : Upd N b c) (hN : ∀ i, i < a.heap.size → N i → M i) : Upd M a c :=
  ⟨k.os.trans h.os, k.tape.trans h.tape, k.output.trans h.output, Nat.le_trans h.size k.size,
    fun i hi hm => (k.block i (Nat.lt_of_lt_of_le hi h.size) (fun hn => hm (hN i hi hn))).trans (h.block i hi hm)⟩
theorem Upd.mono {M N : Nat → Prop} {a b : World} (h : Upd M a b) (hN : ∀ i, i < a.heap.size → M i → N i) : Upd N a b :=
  ⟨h.os, h.tape, h.output, h.size, fun i hi hn => h.block i hi (fun hm => hn (hN i hi hm))⟩
theorem Upd.cell {M : Nat → Prop} {w w' : World} (h : Upd M w w') {a : Addr} {v : Value} (hc : w.cell? a = some v) (hm : ¬ M a.block) : w'.cell? a = some v :=
  (World.cell?_of_block (h.block a.block (World.block_lt_of_cell? w a hc) hm)).trans hc
theorem Upd.ofBelow {B : Nat} {w w' : World} (h : Below B w w') : Upd (fun k => B ≤ k) w w' := ⟨h.os, h.tape, h.output, h.size, fun k _ hk => h.block k (Nat.lt_of_not_le hk)⟩
theorem Upd.ofNew {M : Nat → Prop} {w w' : World} (h : Below w.heap.size w w') : Upd M w w' := ⟨h.os, h.tape, h.output, h.size, fun k hk _ => h.block k hk⟩
theorem Upd.ofGrown {row : Option Nat} {w w' : World} (h : w.grownBy w' row) : Upd (fun k => some k = row) w w' := ⟨h.os, h.tape, h.output, h.size, fun k hk hm => h.block k hk hm⟩
theorem Upd.toBelow {M : Nat → Prop} {B : Nat} {w w' : World} (h : Upd M w w') (hB : B ≤ w.heap.size) (hm : ∀ k, k < B → ¬ M k) : Below B w w' :=
  ⟨h.os, h.tape, h.output, h.size, fun k hk => h.block k (Nat.lt_of_lt_of_le hk hB) (hm k hk)⟩
theorem Upd.set {M : Nat → Prop} {w : World} {a : Addr} {v : Value} (hm : M a.block) : Upd M w (w.setCell a v) :=
  ⟨rfl, rfl, rfl, by simp [World.setCell], fun k _ hk => Below.heap_setCell _ _ _ _ (fun e => hk (e ▸ hm))⟩
theorem Upd.new {M : Nat → Prop} (w : World) (o : Obj) : Upd M w (w.alloc o) := Upd.ofNew ((Below.refl _ _).alloc (Nat.le_refl _) _)
theorem Upd.drewN {M : Nat → Prop} (w : World) (n : Nat) : Upd M w (w.drewN n) := Upd.ofNew (below_dn (Below.refl _ _) n)
theorem Upd.drew {M : Nat → Prop} (w : World) : Upd M w w.drew := ⟨rfl, rfl, rfl, Nat.le_refl _, fun _ _ _ => rfl⟩

/-- The slice v, made by the calls from block B on, owns these bytes. -/
def OwnB (B : Nat) (w : World) (v : Value) (bs : List UInt8) : Prop := w.ownsRow B 5 1 v bs.length (byteVs bs)
theorem byteVs_length (bs : List UInt8) : (byteVs bs).length = bs.length := by simp [byteVs]
theorem byteVs_append (bs cs : List UInt8) : byteVs (bs ++ cs) = byteVs bs ++ byteVs cs := by simp [byteVs]
theorem byteVs_one (bs : List UInt8) : ∀ u ∈ byteVs bs, u.oneCell' = true := by
  intro u hu; simp [byteVs] at hu; obtain ⟨x, _, rfl⟩ := hu; rfl
theorem byteVs_get (bs : List UInt8) (i : Nat) (h : i < bs.length) : (byteVs bs)[i]? = some (bV bs[i]) := by simp [byteVs, h]
theorem OwnB.nil (B : Nat) (w : World) : OwnB B w (.slice none 0 0) [] := World.ownsRow_nil _ _ _ _
theorem OwnB.lt {B : Nat} {w : World} {v : Value} {bs : List UInt8} (h : OwnB B w v bs) : ∀ k, v.ownBlock = some k → B ≤ k ∧ k < w.heap.size := World.ownsRow.lt h
theorem OwnB.weaken {B C : Nat} {w : World} {v : Value} {bs : List UInt8} (h : OwnB B w v bs) (hC : C ≤ B) : OwnB C w v bs := by
  obtain ⟨h1, h2 | ⟨g, cap, cur, h2, h3, h4⟩⟩ := h
  · exact ⟨h1, .inl h2⟩
  · exact ⟨h1, .inr ⟨g, cap, cur, h2, Nat.le_trans hC h3, h4⟩⟩
theorem OwnB.on {B : Nat} {M : Nat → Prop} {w w' : World} {v : Value} {bs : List UInt8} (h : OwnB B w v bs) (hu : Upd M w w') (hm : ∀ k, v.ownBlock = some k → ¬ M k) : OwnB B w' v bs := by
  refine ⟨h.1, ?_⟩
  rcases h.2 with hn | ⟨g, cap, cur, rfl, hb, hgg, rest⟩
  · exact .inl hn
  · exact .inr ⟨g, cap, cur, rfl, hb, by rw [hu.block g (Array.getElem?_eq_some_iff.1 hgg).1 (hm g rfl)]; exact hgg, rest⟩
/-- An owned slice reads as its bytes. -/
theorem OwnB.reads {B : Nat} {w : World} {v : Value} {bs : List UInt8} (h : OwnB B w v bs) : ∃ a cap, v = .slice a bs.length cap ∧ BytesAt w a bs ∧ bs.length ≤ cap ∧ (∀ A, a = some A → v.ownBlock = some A.block ∧ A.off = 0 ∧ A.spot = none) := by
  rcases h.2 with ⟨rfl, hn⟩ | ⟨g, cap, cur, rfl, hg, hh, hc, hm, hs, ht⟩
  · exact ⟨none, 0, by rw [hn], fun i hi => by omega, by omega, fun A hA => by cases hA⟩
  · refine ⟨_, _, rfl, fun i hi => ⟨g, 0, rfl, ?_⟩, hc, fun A hA => by cases hA; exact ⟨rfl, rfl, rfl⟩⟩
    have := World.ownsRow.cells (g := g) h rfl i _ (byteVs_get bs i hi)
    have e : (⟨g, 0, none⟩ : Addr).add i = ⟨g, i, none⟩ := by unfold Addr.add; split <;> simp_all
    rw [e] at this
    simpa using this
theorem BytesAt.upd {M : Nat → Prop} {w w' : World} {a : Option Addr} {bs : List UInt8} (h : BytesAt w a bs) (hu : Upd M w w') (hm : ∀ A, a = some A → ¬ M A.block) : BytesAt w' a bs := fun i hi => by
  obtain ⟨b, o, ha, hc⟩ := h i hi
  exact ⟨b, o, ha, hu.cell hc (by show ¬ M b; exact hm ⟨b, o, none⟩ ha)⟩
/-- What is appended, out of a slice that reads as bytes. -/
theorem BytesAt.news {w : World} {A : Addr} {bs : List UInt8} (h : BytesAt w (some A) bs) : ∀ j u, (byteVs bs)[j]? = some u → w.cell? (A.add j) = some u := by
  intro j u hu
  have hj : j < bs.length := by rw [← byteVs_length]; exact (List.getElem?_eq_some_iff.1 hu).1
  obtain ⟨b, o, he, hc⟩ := h j hj
  simp only [Option.some.injEq] at he
  subst he
  rw [byteVs_get bs j hj] at hu
  cases hu
  have e : (⟨b, o, none⟩ : Addr).add j = ⟨b, o + j, none⟩ := by unfold Addr.add; split <;> simp_all
  rw [e]; exact hc

theorem Try.info5 : (Try.prog.info? 5).map (fun i => (i.zero, i.size, i.bytes)) = some (some (.int .u8 0), 1, 1) := by kernel_rfl

/-- A number in four bytes, the lowest first. -/
def le4 (n : Nat) : List UInt8 := [UInt8.ofNat n, UInt8.ofNat (n / 256), UInt8.ofNat (n / 65536), UInt8.ofNat (n / 16777216)]
theorem news_at {w : World} {B : Nat} {t : TypeId} (cs : Array Value) (hB : B = w.heap.size) : ∀ j u, cs.toList[j]? = some u → (w.alloc (.cells cs t)).cell? ((⟨B, 0, none⟩ : Addr).add j) = some u := by
  subst hB; exact World.news_of_block (heap_alloc_new w _)
theorem ofNat_u8 (n : Nat) : ((UInt8.ofNat n).toNat : Int) = (n : Int) % 256 := by
  simp [UInt8.toNat_ofNat']
/-- What an append of bytes leaves. -/
structure Grew (B : Nat) (v v' : Value) (bs : List UInt8) (w w' : World) : Prop where
  own : OwnB B w' v' bs
  upd : Upd (fun k => some k = v.ownBlock) w w'
  at_ : v'.ownBlock = v.ownBlock ∨ ∃ g, v'.ownBlock = some g ∧ w.heap.size ≤ g

theorem le4_vals (n : Nat) (hn : n < 4294967296) : byteVs (le4 n) = [.int .u8 ((n : Int) % 256), .int .u8 ((n : Int) / 256 % 256), .int .u8 ((n : Int) / 65536 % 256), .int .u8 ((n : Int) / 16777216)] := by
  simp only [byteVs, le4, List.map_cons, List.map_nil, bV, ofNat_u8]
  have e1 : ((n / 256 : Nat) : Int) = (n : Int) / 256 := by omega
  have e2 : ((n / 65536 : Nat) : Int) = (n : Int) / 65536 := by omega
  have e3 : ((n / 16777216 : Nat) : Int) % 256 = (n : Int) / 16777216 := by omega
  rw [e1, e2, e3]
theorem four_ones (a b c d : Int) : ∀ u ∈ ([.int .u8 a, .int .u8 b, .int .u8 c, .int .u8 d] : List Value), u.oneCell' = true := by
  intro u hu; simp at hu; rcases hu with rfl | rfl | rfl | rfl <;> rfl
/-- What an append law leaves, put together behind the blocks that were made ahead of it. -/
theorem Grew.mk' {B : Nat} {v v' : Value} {bs cs : List UInt8} {w w1 w' : World} {m : Nat} (h1 : Upd (fun k => some k = v.ownBlock) w w1) (hlt : ∀ k, v.ownBlock = some k → k < w.heap.size)
    (hown : w'.ownsRow B 5 1 v' (bs.length + m) (byteVs bs ++ byteVs cs)) (hm : m = cs.length) (hg : w1.grownBy w' v.ownBlock) (hb : v'.ownBlock = v.ownBlock ∨ v'.ownBlock = some w1.heap.size) : Grew B v v' (bs ++ cs) w w' := by
  subst hm
  refine ⟨?_, h1.trans (Upd.ofGrown hg) (fun k _ h => h), ?_⟩
  · unfold OwnB; rw [List.length_append, byteVs_append]; exact hown
  · rcases hb with hb | hb
    · exact .inl hb
    · exact .inr ⟨_, hb, h1.size⟩

set_option maxRecDepth 100000 in
set_option maxHeartbeats 4000000 in
theorem four_any (B : Nat) (v : Value) (bs : List UInt8) (n : Nat) (w : World) (hn : n < 4294967296) (ho : OwnB B w v bs) (hB : B ≤ w.heap.size) (hl : bs.length ≤ 1000000000) :
    Calls Try.prog 67 #[v, .int .u32 n] w fun e w' => ∃ v', e = .returned v' ∧ Grew B v v' (bs ++ le4 n) w w' := by
  obtain ⟨i0, hi, hz0, hz1, hz2⟩ := info_parts Try.info5
  have HO := hidden ho
  clear ho
  go_enter Try.func67, Try.ntmps67
  go_wp2_with (at_builtin; go_loud (refine wpList_append_own_at _ rfl (.tmp 5) (.tmp 17) 22 rfl B 5 i0 (.int .u8 0) 1 1 Try.underlying22 hi hz0 hz1 hz2 rfl (by decide) v bs.length (byteVs bs) rfl (HO.out.on (M := fun _ => False) (Upd.new _ _) (fun _ _ h => h)) ⟨w.heap.size, 0, none⟩ 4 4 [.int .u8 ((n : Int) % 256), .int .u8 ((n : Int) / 256 % 256), .int .u8 ((n : Int) / 65536 % 256), .int .u8 ((n : Int) / 16777216)] rfl rfl (news_at #[.int .u8 ((n : Int) % 256), .int .u8 ((n : Int) / 256 % 256), .int .u8 ((n : Int) / 65536 % 256), .int .u8 ((n : Int) / 16777216)] rfl) (four_ones _ _ _ _) (by unfold maxLen; omega) (by omega) (by simp; omega) ?_); intro v' w1 hown' hgrow hnil hblk)
  go_ret
  rw [← le4_vals n hn] at hown'
  exact ⟨v', rfl, Grew.mk' (Upd.new _ _) (fun k hk => (HO.out.lt k hk).2) hown' rfl hgrow hblk⟩
end Go.Proofs.Ytekmjegeiminnaa
