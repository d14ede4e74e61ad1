/- lives: the package answers at texts that are known. -/
import Derived.Test.YtekmjegeiminnaaB14
import Derived.Lib.SlBytesConst
namespace Go.Proofs.Ytekmjegeiminnaa
open Go.RowKit
set_option linter.unusedVariables false
set_option linter.unusedSimpArgs false

theorem readI_lives : readI [2, 128, 0] = none := by rfl
theorem crc_lives : crc32 [49, 50, 51, 52, 53, 54, 55, 56, 57] = 3421780262 := by kernel_rfl
theorem encI_lives : encI [0, -1, 64] = [6, 0, 1, 128, 1] := by
  have e1 : encN 3 = [6] := by unfold encN; rw [show zig 3 = 6 from rfl, encU_small (by decide)]; rfl
  have e2 : encN 0 = [0] := by unfold encN; rw [show zig 0 = 0 from rfl, encU_small (by decide)]; rfl
  have e3 : encN (-1) = [1] := by unfold encN; rw [show zig (-1) = 1 from rfl, encU_small (by decide)]; rfl
  have e4 : encN 64 = [128, 1] := by unfold encN; rw [show zig 64 = 128 from rfl, encU_big (by decide), encU_small (by decide)]; rfl
  have : encI [0, -1, 64] = encN 3 ++ (encN 0 ++ (encN (-1) ++ (encN 64 ++ []))) := rfl
  rw [this, e1, e2, e3, e4]; rfl
/-- A block of bytes that has just been laid reads as its bytes. -/
theorem bytes_new {w : World} {cs : List UInt8} {vs : Array Value} {t : TypeId} (hv : vs.toList = byteVs cs) (B : Nat) (hB : B = w.heap.size) : BytesAt (w.alloc (.cells vs t)) (some ⟨B, 0, none⟩) cs := fun i hi => by
  refine ⟨B, 0, rfl, ?_⟩
  rw [World.cell?_alloc_at _ _ _ _ hB, ← Array.getElem?_toList, hv]
  simpa using byteVs_get cs i hi
theorem bytes_marked {w : World} {cs : List UInt8} {vs : Array Value} {t : TypeId} {fr : Nat × Nat} (hv : vs.toList = byteVs cs) : BytesAt (w.alloc (.cells vs t fr)) (some ⟨w.heap.size, 0, none⟩) cs := fun i hi => by
  refine ⟨_, 0, rfl, ?_⟩
  rw [World.cell?_alloc_mark, ← Array.getElem?_toList, hv]
  simpa using byteVs_get cs i hi
theorem ints_new {w : World} {cs : List Int} {vs : Array Value} {t : TypeId} (hv : vs.toList = intVs cs) (B : Nat) (hB : B = w.heap.size) : IntsAt (w.alloc (.cells vs t)) (some ⟨B, 0, none⟩) cs := fun i hi => by
  refine ⟨B, 0, rfl, ?_⟩
  rw [World.cell?_alloc_at _ _ _ _ hB, ← Array.getElem?_toList, hv]
  simpa using intVs_get cs i hi

set_option maxRecDepth 100000 in
set_option maxHeartbeats 8000000 in
theorem lives_02 (w : World) : Calls Try.prog 18 #[] w fun e w' => e = .returned (.bool true) ∧ Below w.heap.size w w' := by
  have hz := Below.refl w.heap.size w
  have B0 := hidden hz
  clear hz
  go_enter Try.func18, Try.ntmps18
  go_wp2_with fail
  have b1 : BytesAt (w.alloc (.cells #[.int .u8 2, .int .u8 128, .int .u8 0] 5)) (some ⟨w.heap.size, 0, none⟩) [2, 128, 0] := bytes_new rfl _ rfl
  have B1 := hidden (B0.out.alloc (Nat.le_refl _) (.cells #[.int .u8 2, .int .u8 128, .int .u8 0] 5))
  generalize hwa : (w.alloc (.cells #[.int .u8 2, .int .u8 128, .int .u8 0] 5)) = wa at b1 B1
  have hsa : w.heap.size < wa.heap.size := by subst hwa; simp
  clear hwa
  with_reducible refine (readints_any (some ⟨w.heap.size, 0, none⟩) 3 3 [2, 128, 0] wa b1 rfl (by decide) (by decide) (by decide) (fun A hA => by cases hA; exact hsa)).mono ?_
  rintro e w1 ⟨hb, ⟨xs, v, hr, rfl, ho⟩ | ⟨hr, rfl⟩⟩
  · rw [readI_lives] at hr; cases hr
  have B2 := hidden (B1.out.trans (hb.mono B1.out.size))
  clear b1 hb hr
  go_wp2_with fail
  have b1 : BytesAt (w1.alloc (.cells #[.int .u8 1, .int .u8 2, .int .u8 3] 5)) (some ⟨w1.heap.size, 0, none⟩) [1, 2, 3] := bytes_new rfl _ rfl
  have B3 := hidden (B2.out.alloc B2.out.size (.cells #[.int .u8 1, .int .u8 2, .int .u8 3] 5))
  generalize (w1.alloc (.cells #[.int .u8 1, .int .u8 2, .int .u8 3] 5)) = wb at b1 B3
  with_reducible refine (unframe_any (some ⟨w1.heap.size, 0, none⟩) 3 3 [1, 2, 3] wb b1 rfl (by decide) (by decide) (by decide)).mono ?_
  rintro e w2 ⟨hb, v2, rfl, ho⟩
  have B4 := hidden (B3.out.trans (hb.mono B3.out.size))
  rw [show unfN [1, 2, 3] = 0 from rfl, show unfE [1, 2, 3] = 16 from rfl]
  clear b1 hb ho
  go_wp2_with fail
  have b1 : IntsAt (w2.alloc (.cells #[.int .i64 0, .int .i64 (-1), .int .i64 64] 3)) (some ⟨w2.heap.size, 0, none⟩) [0, -1, 64] := ints_new rfl _ rfl
  have B5 := hidden (B4.out.alloc B4.out.size (.cells #[.int .i64 0, .int .i64 (-1), .int .i64 64] 3))
  generalize (w2.alloc (.cells #[.int .i64 0, .int .i64 (-1), .int .i64 64] 3)) = wc at b1 B5
  have hx : ∀ x ∈ ([0, -1, 64] : List Int), I64 x := by intro x hx; simp at hx; unfold I64; omega
  with_reducible refine (ints_any (some ⟨w2.heap.size, 0, none⟩) 3 3 [0, -1, 64] wc hx b1 rfl (by decide) (by decide)).mono ?_
  rintro e w3 ⟨hb, v3, rfl, ho⟩
  have B6 := hidden (B5.out.trans (hb.mono B5.out.size))
  rw [encI_lives] at ho
  have O6 := hidden ho
  obtain ⟨a3, c3, rfl, -, -, -⟩ := ho.reads
  clear b1 hb ho hx
  go_wp2_with fail
  have r1 := ((O6.out.on (Upd.new (M := fun _ => False) w3 (.cells #[.int .u8 6, .int .u8 0, .int .u8 1, .int .u8 128, .int .u8 1] 5)) (fun _ _ h => h)).reads)
  have b1 : BytesAt (w3.alloc (.cells #[.int .u8 6, .int .u8 0, .int .u8 1, .int .u8 128, .int .u8 1] 5)) (some ⟨w3.heap.size, 0, none⟩) [6, 0, 1, 128, 1] := bytes_new rfl _ rfl
  have B7 := hidden (B6.out.alloc B6.out.size (.cells #[.int .u8 6, .int .u8 0, .int .u8 1, .int .u8 128, .int .u8 1] 5))
  generalize (w3.alloc (.cells #[.int .u8 6, .int .u8 0, .int .u8 1, .int .u8 128, .int .u8 1] 5)) = wd at b1 B7 r1
  obtain ⟨a3', c3', e3, r1, -, -⟩ := r1
  injection e3 with e3 _ e4
  subst e3; subst e4
  with_reducible refine (same_eq a3 (some ⟨w3.heap.size, 0, none⟩) 5 5 c3 5 [6, 0, 1, 128, 1] wd r1 b1 rfl rfl).mono ?_
  rintro e w4 ⟨rfl, rfl⟩
  clear r1 b1
  go_wp2_with fail
  have b1 : BytesAt wd none [] := fun i hi => by simp at hi
  with_reducible refine (frame_any none 0 0 [] wd b1 rfl (by decide)).mono ?_
  rintro e w5 ⟨hb, v5, rfl, ho⟩
  have B8 := hidden (B7.out.trans (hb.mono B7.out.size))
  have hl5 : (if ([] : List UInt8).length ≤ 131072 then frameL [] else []).length = 8 := by rw [if_pos (by decide), frameL_length]; rfl
  obtain ⟨a5, c5, rfl, -, -, -⟩ := ho.reads
  rw [hl5]
  clear b1 hb ho hl5
  have hcv := Lib.run_convert_bytes_const (P := Try.prog) w5 22 5 #[.int .u8 49, .int .u8 50, .int .u8 51, .int .u8 52, .int .u8 53, .int .u8 54, .int .u8 55, .int .u8 56, .int .u8 57] 9 9 Try.underlying22 Try.underlying5
  have hsz : (#[.int .u8 49, .int .u8 50, .int .u8 51, .int .u8 52, .int .u8 53, .int .u8 54, .int .u8 55, .int .u8 56, .int .u8 57] : Array Value).size = 9 := rfl
  rw [hsz] at hcv
  clear hsz
  go_wp2_with fail
  have b1 : BytesAt (w5.alloc (.cells #[.int .u8 49, .int .u8 50, .int .u8 51, .int .u8 52, .int .u8 53, .int .u8 54, .int .u8 55, .int .u8 56, .int .u8 57] 5 (9, 10))) (some ⟨w5.heap.size, 0, none⟩) [49, 50, 51, 52, 53, 54, 55, 56, 57] := bytes_marked rfl
  have B9 := hidden (B8.out.alloc B8.out.size (.cells #[.int .u8 49, .int .u8 50, .int .u8 51, .int .u8 52, .int .u8 53, .int .u8 54, .int .u8 55, .int .u8 56, .int .u8 57] 5 (9, 10)))
  generalize (w5.alloc (.cells #[.int .u8 49, .int .u8 50, .int .u8 51, .int .u8 52, .int .u8 53, .int .u8 54, .int .u8 55, .int .u8 56, .int .u8 57] 5 (9, 10))) = we at b1 B9
  with_reducible refine (sum_any (some ⟨w5.heap.size, 0, none⟩) 9 9 [49, 50, 51, 52, 53, 54, 55, 56, 57] we b1 rfl (by decide)).mono ?_
  rintro e w6 ⟨rfl, rfl⟩
  rw [crc_lives]
  clear b1
  go_wp2_with fail
  go_ret
  exact ⟨rfl, B9.out⟩
end Go.Proofs.Ytekmjegeiminnaa
