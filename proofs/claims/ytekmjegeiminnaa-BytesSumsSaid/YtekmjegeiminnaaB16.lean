/- BytesSums, walked. -/
import Derived.Test.YtekmjegeiminnaaB15
namespace Go.Proofs.Ytekmjegeiminnaa
open Go.RowKit
set_option linter.unusedVariables false
set_option linter.unusedSimpArgs false

set_option maxRecDepth 100000 in
set_option maxHeartbeats 8000000 in
theorem sums_law (a : Option Addr) (len cap : Nat) (bs : List UInt8) (w : World) (h : BytesAt w a bs) (hlen : len = bs.length) :
    Calls Try.prog 3 #[.slice a len cap] w fun e w' => e = .returned (.bool true) ∧ Below w.heap.size w w' := by
  subst hlen
  have H := hidden h
  clear h
  by_cases hbig : 150000 < bs.length
  · go_enter Try.func3, Try.ntmps3
    go_wp2_with fail
    with_reducible refine (lives_02 w).mono ?_
    rintro e w1 ⟨rfl, hb⟩
    have B := hidden hb
    clear hb
    go_wp2_with fail
    go_ret
    exact ⟨rfl, B.out⟩
  · have hle : bs.length ≤ 150000 := by omega
    go_enter Try.func3, Try.ntmps3
    go_wp2_with fail
    with_reducible refine (lend_any a _ cap bs w H.out rfl hle).mono ?_
    rintro e w1 ⟨rfl, hb, hg, hr⟩
    have B1 := hidden hb
    have R1 := hidden hr
    have r1 := lent_own hr
    have q1 := H.out.on' hb
    clear hb hr
    go_wp2_with fail
    with_reducible refine (sum_any _ _ _ bs w1 r1 rfl (by omega)).mono ?_
    rintro e w2 ⟨rfl, rfl⟩
    go_wp2_with fail
    with_reducible refine (sum_ref _ _ _ bs w1 q1 rfl (by omega)).mono ?_
    rintro e w2 ⟨rfl, rfl⟩
    have hcr := crc32_lt bs
    generalize crc32 bs = cr at hcr
    clear r1 q1
    go_wp2_with fail
    with_reducible refine (frame_any _ _ _ bs w1 (lent_own R1.out) rfl (by omega)).mono ?_
    rintro e w2 ⟨hb, v2, rfl, ho⟩
    have B2 := hidden (B1.out.trans (hb.mono B1.out.size))
    have R2 := hidden (R1.out.upd (Upd.ofNew (M := fun _ => False) hb) (fun h => h))
    have O2 := hidden ho
    clear hb ho
    go_wp2_with fail
    with_reducible refine (frame_ref _ _ _ bs w2 (H.out.on' B2.out) rfl (by omega)).mono ?_
    rintro e w3 ⟨hb, v3, rfl, ho⟩
    have B3 := hidden (B2.out.trans (hb.mono B2.out.size))
    have R3 := hidden (R2.out.upd (Upd.ofNew (M := fun _ => False) hb) (fun h => h))
    obtain ⟨a2, c2, rfl, q2, -, -⟩ := (O2.out.on (Upd.ofNew (M := fun _ => False) hb) (fun _ _ h => h)).reads
    obtain ⟨a3, c3, rfl, q3, -, -⟩ := ho.reads
    clear hb ho O2
    generalize (if bs.length ≤ 131072 then frameL bs else []) = fs at q2 q3
    go_wp2_with fail
    with_reducible refine (same_eq _ _ _ _ _ _ fs w3 q2 q3 rfl rfl).mono ?_
    rintro e w4 ⟨rfl, rfl⟩
    clear q2 q3
    go_wp2_with fail
    with_reducible refine (kept_any w.heap.size a bs.length cap bs w3 (H.out.on' B3.out) R3.out rfl hle).mono ?_
    rintro e w4 ⟨rfl, n, rfl⟩
    have B4 := hidden (below_dn B3.out n)
    generalize w3.drewN n = w4 at B4
    go_wp2_with fail
    with_reducible refine (lives_02 w4).mono ?_
    rintro e w5 ⟨rfl, hb⟩
    have B5 := hidden (B4.out.trans (hb.mono B4.out.size))
    clear hb
    go_wp2_with fail
    go_ret
    exact ⟨rfl, B5.out⟩
end Go.Proofs.Ytekmjegeiminnaa
