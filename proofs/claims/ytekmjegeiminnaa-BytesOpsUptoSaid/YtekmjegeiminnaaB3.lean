/- What a call may have turned in memory ('Upd'); slices of bytes that the calls have made; numbers in four bytes. -/
import Derived.Test.YtekmjegeiminnaaB2
import Derived.Maps.AppendAt
import Derived.Deep.AppendLies
import Derived.Laws.OwnMore
namespace Go.Proofs.Ytekmjegeiminnaa
open Go.RowKit
set_option linter.unusedVariables false
set_option linter.unusedSimpArgs false

/-- Of the blocks that were there, those alone may have turned of which M says so. -/
structure Upd (M : Nat → Prop) (w w' : World) : Prop where
  os : w'.os = w.os
  tape : w'.tape = w.tape
  output : w'.output = w.output
  size : w.heap.size ≤ w'.heap.size
  block : ∀ k, k < w.heap.size → ¬ M k → w'.heap[k]? = w.heap[k]?
theorem Upd.refl (M : Nat → Prop) (w : World) : Upd M w w := ⟨rfl, rfl, rfl, Nat.le_refl _, fun _ _ _ => rfl⟩
theorem Upd.trans {M N : Nat → Prop} {a b c : World} (h : Upd M a b) (k : Upd N b c) (hN : ∀ i, i < a.heap.size → N i → M i) : Upd M a c :=
  ⟨k.os.trans h.os, k.tape.trans h.tape, k.output.trans h.output, Nat.le_trans h.size k.size,
    fun i hi hm => (k.block i (Nat.lt_of_lt_of_le hi h.size) (fun hn => hm (hN i hi hn))).trans (h.block i hi hm)⟩
theorem Upd.mono {M N : Nat → Prop} {a b : World} (h : Upd M a b) (hN : ∀ i, i < a.heap.size → M i → N i) : Upd N a b :=
  ⟨h.os, h.tape, h.output, h.size, fun i hi hn => h.block i hi (fun hm => hn (hN i hi hm))⟩
theorem Upd.cell {M : Nat → Prop} {w w' : World} (h : Upd M w w') {a : Addr} {v : Value} (hc : w.cell? a = some v) (hm : ¬ M a.block) : w'.cell? a = some v :=
  (World.cell?_of_block (h.block a.block (World.block_lt_of_cell? w a hc) hm)).trans hc
theorem Upd.ofBelow {B : Nat} {w w' : World} (h : Below B w w') : Upd (fun k => B ≤ k) w w' := ⟨h.os, h.tape, h.output, h.size, fun k _ hk => h.block k (Nat.lt_of_not_le hk)⟩
theorem Upd.ofNew {M : Nat → Prop} {w w' : World} (h : Below w.heap.size w w') : Upd M w w' := ⟨h.os, h.tape, h.output, h.size, fun k hk _ => h.block k hk⟩
theorem Upd.ofGrown {row : Option Nat} {w w' : World} (h : w.grownBy w' row) : Upd (fun k => some k = row) w w' := ⟨h.os, h.tape, h.output, h.size, fun k hk hm => h.block k hk hm⟩
theorem Upd.toBelow {M : Nat → Prop} {B : Nat} {w w' : World} (h : Upd M w w') (hB : B ≤ w.heap.size) (hm : ∀ k, k < B → ¬ M k) : Below B w w' :=
  ⟨h.os, h.tape, h.output, h.size, fun k hk => h.block k (Nat.lt_of_lt_of_le hk hB) (hm k hk)⟩
theorem Upd.set {M : Nat → Prop} {w : World} {a : Addr} {v : Value} (hm : M a.block) : Upd M w (w.setCell a v) :=
  ⟨rfl, rfl, rfl, by simp [World.setCell], fun k _ hk => Below.heap_setCell _ _ _ _ (fun e => hk (e ▸ hm))⟩
theorem Upd.new {M : Nat → Prop} (w : World) (o : Obj) : Upd M w (w.alloc o) := Upd.ofNew ((Below.refl _ _).alloc (Nat.le_refl _) _)
theorem Upd.drewN {M : Nat → Prop} (w : World) (n : Nat) : Upd M w (w.drewN n) := Upd.ofNew (below_dn (Below.refl _ _) n)
theorem Upd.drew {M : Nat → Prop} (w : World) : Upd M w w.drew := ⟨rfl, rfl, rfl, Nat.le_refl _, fun _ _ _ => rfl⟩

/-- The slice v, made by the calls from block B on, owns these bytes. -/
def OwnB (B : Nat) (w : World) (v : Value) (bs : List UInt8) : Prop := w.ownsRow B 5 1 v bs.length (byteVs bs)
theorem byteVs_length (bs : List UInt8) : (byteVs bs).length = bs.length := by simp [byteVs]
theorem byteVs_append (bs cs : List UInt8) : byteVs (bs ++ cs) = byteVs bs ++ byteVs cs := by simp [byteVs]
theorem byteVs_one (bs : List UInt8) : ∀ u ∈ byteVs bs, u.oneCell' = true := by
  intro u hu; simp [byteVs] at hu; obtain ⟨x, _, rfl⟩ := hu; rfl
theorem byteVs_get (bs : List UInt8) (i : Nat) (h : i < bs.length) : (byteVs bs)[i]? = some (bV bs[i]) := by simp [byteVs, h]
theorem OwnB.nil (B : Nat) (w : World) : OwnB B w (.slice none 0 0) [] := World.ownsRow_nil _ _ _ _
theorem OwnB.lt {B : Nat} {w : World} {v : Value} {bs : List UInt8} (h : OwnB B w v bs) : ∀ k, v.ownBlock = some k → B ≤ k ∧ k < w.heap.size := World.ownsRow.lt h
theorem OwnB.weaken {B C : Nat} {w : World} {v : Value} {bs : List UInt8} (h : OwnB B w v bs) (hC : C ≤ B) : OwnB C w v bs := by
  obtain ⟨h1, h2 | ⟨g, cap, cur, h2, h3, h4⟩⟩ := h
  · exact ⟨h1, .inl h2⟩
  · exact ⟨h1, .inr ⟨g, cap, cur, h2, Nat.le_trans hC h3, h4⟩⟩
theorem OwnB.on {B : Nat} {M : Nat → Prop} {w w' : World} {v : Value} {bs : List UInt8} (h : OwnB B w v bs) (hu : Upd M w w') (hm : ∀ k, v.ownBlock = some k → ¬ M k) : OwnB B w' v bs := by
  refine ⟨h.1, ?_⟩
  rcases h.2 with hn | ⟨g, cap, cur, rfl, hb, hgg, rest⟩
  · exact .inl hn
  · exact .inr ⟨g, cap, cur, rfl, hb, by rw [hu.block g (Array.getElem?_eq_some_iff.1 hgg).1 (hm g rfl)]; exact hgg, rest⟩
/-- An owned slice reads as its bytes. -/
theorem OwnB.reads {B : Nat} {w : World} {v : Value} {bs : List UInt8} (h : OwnB B w v bs) : ∃ a cap, v = .slice a bs.length cap ∧ BytesAt w a bs ∧ bs.length ≤ cap ∧ (∀ A, a = some A → v.ownBlock = some A.block ∧ A.off = 0 ∧ A.spot = none) := by
  rcases h.2 with ⟨rfl, hn⟩ | ⟨g, cap, cur, rfl, hg, hh, hc, hm, hs, ht⟩
  · exact ⟨none, 0, by rw [hn], fun i hi => by omega, by omega, fun A hA => by cases hA⟩
  · refine ⟨_, _, rfl, fun i hi => ⟨g, 0, rfl, ?_⟩, hc, fun A hA => by cases hA; exact ⟨rfl, rfl, rfl⟩⟩
    have := World.ownsRow.cells (g := g) h rfl i _ (byteVs_get bs i hi)
    have e : (⟨g, 0, none⟩ : Addr).add i = ⟨g, i, none⟩ := by unfold Addr.add; split <;> simp_all
    rw [e] at this
    simpa using this
theorem BytesAt.upd {M : Nat → Prop} {w w' : World} {a : Option Addr} {bs : List UInt8} (h : BytesAt w a bs) (hu : Upd M w w') (hm : ∀ A, a = some A → ¬ M A.block) : BytesAt w' a bs := fun i hi => by
  obtain ⟨b, o, ha, hc⟩ := h i hi
  exact ⟨b, o, ha, hu.cell hc (by show ¬ M b; exact hm ⟨b, o, none⟩ ha)⟩
/-- What is appended, out of a slice that reads as bytes. -/
theorem BytesAt.news {w : World} {A : Addr} {bs : List UInt8} (h : BytesAt w (some A) bs) : ∀ j u, (byteVs bs)[j]? = some u → w.cell? (A.add j) = some u := by
  intro j u hu
  have hj : j < bs.length := by rw [← byteVs_length]; exact (List.getElem?_eq_some_iff.1 hu).1
  obtain ⟨b, o, he, hc⟩ := h j hj
  simp only [Option.some.injEq] at he
  subst he
  rw [byteVs_get bs j hj] at hu
  cases hu
  have e : (⟨b, o, none⟩ : Addr).add j = ⟨b, o + j, none⟩ := by unfold Addr.add; split <;> simp_all
  rw [e]; exact hc

theorem Try.info5 : (Try.prog.info? 5).map (fun i => (i.zero, i.size, i.bytes)) = some (some (.int .u8 0), 1, 1) := by kernel_rfl

/-- A number in four bytes, the lowest first. -/
def le4 (n : Nat) : List UInt8 := [UInt8.ofNat n, UInt8.ofNat (n / 256), UInt8.ofNat (n / 65536), UInt8.ofNat (n / 16777216)]
theorem news_at {w : World} {B : Nat} {t : TypeId} (cs : Array Value) (hB : B = w.heap.size) : ∀ j u, cs.toList[j]? = some u → (w.alloc (.cells cs t)).cell? ((⟨B, 0, none⟩ : Addr).add j) = some u := by
  subst hB; exact World.news_of_block (heap_alloc_new w _)
theorem ofNat_u8 (n : Nat) : ((UInt8.ofNat n).toNat : Int) = (n : Int) % 256 := by
  simp [UInt8.toNat_ofNat']
/-- What an append of bytes leaves. -/
structure Grew (B : Nat) (v v' : Value) (bs : List UInt8) (w w' : World) : Prop where
  own : OwnB B w' v' bs
  upd : Upd (fun k => some k = v.ownBlock) w w'
  at_ : v'.ownBlock = v.ownBlock ∨ ∃ g, v'.ownBlock = some g ∧ w.heap.size ≤ g

theorem le4_vals (n : Nat) (hn : n < 4294967296) : byteVs (le4 n) = [.int .u8 ((n : Int) % 256), .int .u8 ((n : Int) / 256 % 256), .int .u8 ((n : Int) / 65536 % 256), .int .u8 ((n : Int) / 16777216)] := by
  simp only [byteVs, le4, List.map_cons, List.map_nil, bV, ofNat_u8]
  have e1 : ((n / 256 : Nat) : Int) = (n : Int) / 256 := by omega
  have e2 : ((n / 65536 : Nat) : Int) = (n : Int) / 65536 := by omega
  have e3 : ((n / 16777216 : Nat) : Int) % 256 = (n : Int) / 16777216 := by omega
  rw [e1, e2, e3]
theorem four_ones (a b c d : Int) : ∀ u ∈ ([.int .u8 a, .int .u8 b, .int .u8 c, .int .u8 d] : List Value), u.oneCell' = true := by
  intro u hu; simp at hu; rcases hu with rfl | rfl | rfl | rfl <;> rfl
/-- What an append law leaves, put together behind the blocks that were made ahead of it. -/
theorem Grew.mk' {B : Nat} {v v' : Value} {bs cs : List UInt8} {w w1 w' : World} {m : Nat} (h1 : Upd (fun k => some k = v.ownBlock) w w1) (hlt : ∀ k, v.ownBlock = some k → k < w.heap.size)
    (hown : w'.ownsRow B 5 1 v' (bs.length + m) (byteVs bs ++ byteVs cs)) (hm : m = cs.length) (hg : w1.grownBy w' v.ownBlock) (hb : v'.ownBlock = v.ownBlock ∨ v'.ownBlock = some w1.heap.size) : Grew B v v' (bs ++ cs) w w' := by
  subst hm
  refine ⟨?_, h1.trans (Upd.ofGrown hg) (fun k _ h => h), ?_⟩
  · unfold OwnB; rw [List.length_append, byteVs_append]; exact hown
  · rcases hb with hb | hb
    · exact .inl hb
    · exact .inr ⟨_, hb, h1.size⟩

set_option maxRecDepth 100000 in
set_option maxHeartbeats 4000000 in
theorem four_any (B : Nat) (v : Value) (bs : List UInt8) (n : Nat) (w : World) (hn : n < 4294967296) (ho : OwnB B w v bs) (hB : B ≤ w.heap.size) (hl : bs.length ≤ 1000000000) :
    Calls Try.prog 67 #[v, .int .u32 n] w fun e w' => ∃ v', e = .returned v' ∧ Grew B v v' (bs ++ le4 n) w w' := by
  obtain ⟨i0, hi, hz0, hz1, hz2⟩ := info_parts Try.info5
  have HO := hidden ho
  clear ho
  go_enter Try.func67, Try.ntmps67
  go_wp2_with (at_builtin; go_loud (refine wpList_append_own_at _ rfl (.tmp 5) (.tmp 17) 22 rfl B 5 i0 (.int .u8 0) 1 1 Try.underlying22 hi hz0 hz1 hz2 rfl (by decide) v bs.length (byteVs bs) rfl (HO.out.on (M := fun _ => False) (Upd.new _ _) (fun _ _ h => h)) ⟨w.heap.size, 0, none⟩ 4 4 [.int .u8 ((n : Int) % 256), .int .u8 ((n : Int) / 256 % 256), .int .u8 ((n : Int) / 65536 % 256), .int .u8 ((n : Int) / 16777216)] rfl rfl (news_at #[.int .u8 ((n : Int) % 256), .int .u8 ((n : Int) / 256 % 256), .int .u8 ((n : Int) / 65536 % 256), .int .u8 ((n : Int) / 16777216)] rfl) (four_ones _ _ _ _) (by unfold maxLen; omega) (by omega) (by simp; omega) ?_); intro v' w1 hown' hgrow hnil hblk)
  go_ret
  rw [← le4_vals n hn] at hown'
  exact ⟨v', rfl, Grew.mk' (Upd.new _ _) (fun k hk => (HO.out.lt k hk).2) hown' rfl hgrow hblk⟩
end Go.Proofs.Ytekmjegeiminnaa
