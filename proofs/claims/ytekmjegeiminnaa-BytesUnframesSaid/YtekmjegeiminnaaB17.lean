/- BytesUnframes, walked. -/
import Derived.Test.YtekmjegeiminnaaB15
namespace Go.Proofs.Ytekmjegeiminnaa
open Go.RowKit
set_option linter.unusedVariables false
set_option linter.unusedSimpArgs false

set_option maxRecDepth 100000 in
set_option maxHeartbeats 8000000 in
theorem unframes_law (a : Option Addr) (len cap : Nat) (bs : List UInt8) (w : World) (h : BytesAt w a bs) (hlen : len = bs.length) (hcap : len ≤ cap) (hl : cap ≤ 140737488351232) :
    Calls Try.prog 4 #[.slice a len cap] w fun e w' => e = .returned (.bool true) ∧ Below w.heap.size w w' := by
  subst hlen
  have H := hidden h
  clear h
  by_cases hbig : 150000 < bs.length
  · go_enter Try.func4, Try.ntmps4
    go_wp2_with fail
    with_reducible refine (lives_02 w).mono ?_
    rintro e w1 ⟨rfl, hb⟩
    have B := hidden hb
    clear hb
    go_wp2_with fail
    go_ret
    exact ⟨rfl, B.out⟩
  · go_enter Try.func4, Try.ntmps4
    go_wp2_with fail
    with_reducible refine (unframe_any a _ cap bs w H.out rfl hcap hl).mono ?_
    rintro e w1 ⟨hb, v1, rfl, ho⟩
    have B1 := hidden hb
    have O1 := hidden ho
    clear hb ho
    go_wp2_with fail
    with_reducible refine (unframe_ref a _ cap bs w1 (H.out.on' B1.out) rfl hcap hl).mono ?_
    rintro e w2 ⟨hb, v2, rfl, ho⟩
    have B2 := hidden (B1.out.trans (hb.mono B1.out.size))
    have O2 := hidden (O1.out.on (Upd.ofNew (M := fun _ => False) hb) (fun _ _ h => h))
    obtain ⟨a1, c1, e1, q1, hc1, hA1⟩ := O2.out.reads
    subst e1
    obtain ⟨a2, c2, rfl, q2, -, -⟩ := ho.reads
    clear hb ho O1
    have hfs : (unfC bs).length ≤ 150000 := by
      unfold unfC
      split
      · simp only [List.length_take, List.length_drop]; omega
      · simp
    generalize unfC bs = fs at q1 q2 hc1 O2 hfs
    generalize unfN bs = nn
    generalize unfE bs = ne
    go_wp2_with fail
    with_reducible refine (same_eq _ _ _ _ _ _ fs w2 q1 q2 rfl rfl).mono ?_
    rintro e w3 ⟨rfl, rfl⟩
    clear q2
    have Q1 := hidden q1
    clear q1
    go_wp2_with fail
    have hrow : Hid (0 < fs.length → ∃ g, a1 = some ⟨g, 0, none⟩ ∧ w.heap.size ≤ g ∧ ∃ f, RowF w2 g fs.length f) := hidden (fun h0 => by
      obtain ⟨b, o, e, -⟩ := Q1.out 0 h0
      obtain ⟨h1, h2, -⟩ := hA1 _ e
      simp only at h2; subst h2; subst e
      have hO := O2.out
      exact ⟨b, rfl, (hO.lt b h1).1, fun j => bV (fs.getD j 0), fun j hj => ⟨by
        obtain ⟨b', o', e', hc⟩ := Q1.out j hj
        cases e'
        rw [Nat.zero_add] at hc
        rw [hc]; simp [List.getD, hj], World.ownsRow.frozenAt hO j⟩⟩)
    go_loopw [42] (fun s wr => ∃ (k : Nat), s = .int .i64 k ∧ k ≤ fs.length ∧ (0 < fs.length → ∃ g, a1 = some ⟨g, 0, none⟩ ∧ w.heap.size ≤ g ∧ ∃ f, RowF wr g fs.length f) ∧ Below w.heap.size w wr) (fun s _ => (fs.length - intOf s).toNat)
    case atStart => exact ⟨0, rfl, by omega, hrow.out, B2.out⟩
    case round =>
      obtain ⟨k, rfl, hk, ho, hb⟩ := hrel
      have HB := hidden hb
      clear hb
      by_cases hlt : k < fs.length
      · obtain ⟨g, rfl, hg, f, hr⟩ := ho (by omega)
        obtain ⟨g1, g2⟩ := hr k hlt
        have HR := hidden hr
        clear hr
        go_wp2_with fail
        exact ⟨⟨k + 1, by go_num, by omega, fun _ => ⟨g, rfl, hg, _, HR.out.set k (.int .u8 7)⟩, HB.out.setCell (by exact hg) _⟩, by simp [intOf]; omega⟩
      · clear ho
        go_wp2_with fail
        with_reducible refine (lives_02 wr).mono ?_
        rintro e w5 ⟨rfl, hb⟩
        have B5 := hidden (HB.out.trans (hb.mono HB.out.size))
        clear hb
        go_wp2_with fail
        go_ret
        exact ⟨rfl, B5.out⟩
end Go.Proofs.Ytekmjegeiminnaa
