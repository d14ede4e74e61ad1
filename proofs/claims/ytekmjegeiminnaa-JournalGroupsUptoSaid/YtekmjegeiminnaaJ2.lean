/- The program's parse and next, walked. -/
import Derived.Test.YtekmjegeiminnaaJ1
import Derived.Test.YtekmjegeiminnaaF7
import Derived.Deep.CutRange
namespace Go.Proofs.Ytekmjegeiminnaa
open Go.RowKit
set_option linter.unusedVariables false
set_option linter.unusedSimpArgs false

/-- A record in an interface value. -/
def RecAt (S : Nat → Prop) (w : World) (v : Value) : Rec → Prop
  | .none => v = .nilIface
  | .header id => v = .iface 154 (.agg #[.int .i64 id]) ∧ (-9223372036854775808 ≤ id ∧ id ≤ 9223372036854775807)
  | .group s l => ∃ u, v = .iface 159 (.agg #[.int .i64 s, u]) ∧ tOps.rep S w [u] l ∧ tOps.cod.ok l ∧ (-9223372036854775808 ≤ s ∧ s ≤ 9223372036854775807)
def ParseP (bs : List UInt8) (w : World) (e : Ending) (w' : World) : Prop :=
  Below w.heap.size w w' ∧ ∃ v, e = .returned v ∧ RecAt (fun k => w.heap.size ≤ k ∧ k < w'.heap.size) w' v (parseJ bs)
/-- Are these ints a header's? -/
def hdrB (c : Int) (X : List Int) : Bool := decide (c = 0) && match X with
  | [m, _] => decide (m = 7)
  | _ => false
theorem hdrB_true {bs : List UInt8} {c : Int} {X : List Int} (h : IntsAns bs c X) (hb : hdrB c X = true) : ∃ id, X = [7, id] ∧ readI bs = some [7, id] := by
  unfold hdrB at hb
  rw [Bool.and_eq_true] at hb
  obtain ⟨h1, h2⟩ := hb
  have h1 : c = 0 := by simpa using h1
  match X, h, h2 with
  | [m, id], h, h2 =>
    have h2 : m = 7 := by simpa using h2
    subst h2
    rcases h with ⟨-, h⟩ | ⟨e, -, -⟩
    · exact ⟨id, rfl, h⟩
    · omega
theorem hdrB_false {bs : List UInt8} {c : Int} {X : List Int} (h : IntsAns bs c X) (hb : hdrB c X = false) : ∀ id, readI bs ≠ some [7, id] := by
  intro id hr
  rcases h with ⟨rfl, h⟩ | ⟨-, h, -⟩
  · rw [hr] at h
    cases h
    simp [hdrB] at hb
  · rw [hr] at h; cases h

theorem ReadO.ans' {bs : List UInt8} {w w' : World} {e : Ending} (h : ReadO bs w e w') : Below w.heap.size w w' ∧ ∃ (c : Int) (X : List OpD) (a1 : Option Addr) (l1 c1 : Nat), e = .returned (.tuple #[.slice a1 l1 c1, .int .i64 c]) ∧ tOps.rep (fun k => w.heap.size ≤ k ∧ k < w'.heap.size) w' [.slice a1 l1 c1] X ∧ tOps.cod.ok X ∧ ((c = 0 ∧ whole tOps.cod bs = some X) ∨ (c = 12 ∧ whole tOps.cod bs = none)) := by
  obtain ⟨hb, ⟨X, v, hw, rfl, hr⟩ | ⟨hw, rfl⟩⟩ := h
  · obtain ⟨e1, e2⟩ := enc_whole _ hw
    have hr' := hr
    obtain ⟨a1, c1, hv, -⟩ := hr'
    cases hv
    exact ⟨hb, 0, X, a1, _, c1, rfl, hr, e2, .inl ⟨rfl, hw⟩⟩
  · exact ⟨hb, 12, [], none, 0, 0, rfl, list_nil_rep _ _ _, ⟨by simp, fun x hx => by cases hx⟩, .inr ⟨rfl, hw⟩⟩

set_option maxRecDepth 100000 in
set_option maxHeartbeats 32000000 in
theorem parse_any (a : Option Addr) (cap : Nat) (bs : List UInt8) (w : World) (h : BytesAt w a bs) (hcap : bs.length ≤ cap) (hc2 : (cap : Int) ≤ 9223372036854775807) (hl : bs.length ≤ 100000000) (ha : ∀ A, a = some A → A.block < w.heap.size) :
    Calls Try.prog 119 #[.slice a bs.length cap] w (ParseP bs w) := by
  have HQ := hidden h
  have HA := hidden ha
  clear h ha
  go_enter Try.func119, Try.ntmps119
  go_wp2_with fail
  with_reducible refine (readints_any a _ cap bs w HQ.out rfl hcap hc2 (by omega) HA.out).mono ?_
  rintro e w1 hr
  obtain ⟨hb, c, X, v, rfl, ⟨ax, cx, rfl, ix, hlx⟩, hans⟩ := ReadI.ans hr
  have HB1 := hidden hb
  have HX := hidden ix
  have HANS := hidden hans
  clear hr hb ix hans
  go_upto_region 2 with fail
  go_cut [27] from 15 to 26 (fun s27 wx => s27 = .bool (hdrB c X) ∧ wx = w1)
  case first =>
    rcases HANS.out with ⟨rfl, -⟩ | ⟨rfl, -, rfl⟩
    · by_cases h2 : X.length = 2
      · match X, h2 with
        | [m, id], _ =>
          obtain ⟨b, o, rfl, hc0⟩ := HX.out 0 (by simp)
          simp only [Nat.add_zero, List.getElem_cons_zero] at hc0
          by_cases hm : m = 7
          · subst hm
            go_wp2_with fail
            go_meet
            exact ⟨by simp [hdrB], rfl⟩
          · have hm' : (m == 7) = false := by rw [beq_eq_false_iff_ne]; exact hm
            clear hm
            go_wp2_with fail
            go_meet
            exact ⟨by simp only [hdrB]; simp; simpa using hm', rfl⟩
      · have h2' : ((X.length : Int) == 2) = false := by rw [beq_eq_false_iff_ne]; omega
        have HF : Hid (hdrB 0 X = false) := hidden (by
          match X, h2 with
          | [], _ => rfl
          | [_], _ => rfl
          | [_, _], h => exact absurd rfl h
          | _ :: _ :: _ :: _, _ => rfl)
        clear h2
        go_wp2_with fail
        go_meet
        exact ⟨by rw [HF.out], rfl⟩
    · go_wp2_with fail
      go_meet
      exact ⟨rfl, rfl⟩
  case rest =>
    obtain ⟨hs27, hw⟩ := hcut
    subst hw
    subst hs27
    cases hhb : hdrB c X with
    | true =>
      obtain ⟨id, rfl, hr⟩ := hdrB_true HANS.out hhb
      obtain ⟨b, o, rfl, hc0⟩ := HX.out 1 (by simp)
      simp only [List.getElem_cons_succ, List.getElem_cons_zero] at hc0
      have HP := hidden (parseJ_header hr)
      have HI := hidden ((enc_readI hr).2 id (by simp))
      clear hr hhb
      go_wp2_with fail
      go_ret
      refine ⟨HB1.out, _, rfl, ?_⟩
      rw [HP.out]
      exact ⟨rfl, HI.out⟩
    | false =>
      have HP := hidden (parseJ_other (hdrB_false HANS.out hhb))
      clear hhb HANS HX
      go_wp2_with fail
      go_loopw [5] (fun s5 wk => ∃ (n : Nat), s5 = .int .i64 n ∧ 2 ≤ n ∧ n ≤ 12 ∧ Below w.heap.size w wk ∧ (∀ m seq, 2 ≤ m → m < n → readI (bs.take m) ≠ some [seq])) (fun s5 _ => (12 - intOf s5).toNat)
      case atStart => exact ⟨2, rfl, by omega, by omega, HB1.out, fun m seq h1 h2 => by omega⟩
      case round =>
        obtain ⟨n, rfl, hn2, hn12, hb, hno⟩ := hrel
        have HB := hidden hb
        have HNO := hidden hno
        clear hb hno
        by_cases hgo : n ≤ bs.length ∧ n ≤ 11
        · obtain ⟨hnl, hn11⟩ := hgo
          obtain ⟨b, o, rfl, -⟩ := HQ.out 0 (by omega)
          have hcn : n ≤ cap := by omega
          have HT : Hid (BytesAt wr (some ⟨b, o, none⟩) (bs.take n)) := hidden ((HQ.out.on' HB.out).take n)
          have htl : (bs.take n).length = n := by rw [List.length_take]; omega
          have HTL := hidden htl
          have HRI : Hid (Calls Try.prog 29 #[.slice (some ⟨b, o, none⟩) n cap] wr (ReadI (bs.take n) wr)) := hidden (readints_any _ n cap _ wr HT.out htl.symm hcn hc2 (by omega) (fun A hA => Nat.lt_of_lt_of_le (HA.out A hA) HB.out.size))
          clear htl
          go_wp2_with fail
          with_reducible refine HRI.out.mono ?_
          rintro e w2 hr
          obtain ⟨hb, c2, Y, v2, rfl, ⟨ay, cy, rfl, iy, hly⟩, hans⟩ := ReadI.ans hr
          have HB2 := hidden (HB.out.trans (hb.mono HB.out.size))
          have HY := hidden iy
          have HANY := hidden hans
          clear hr hb iy hans HRI
          by_cases hone : c2 = 0 ∧ Y.length = 1
          · obtain ⟨rfl, hY1⟩ := hone
            match Y, hY1 with
            | [seq], _ =>
              have hrd : readI (bs.take n) = some [seq] := by
                rcases HANY.out with ⟨-, h⟩ | ⟨e, -, -⟩
                · exact h
                · omega
              have HPG := hidden (HP.out.trans (parseG_found hrd))
              have HSB := hidden ((enc_readI hrd).2 seq (by simp))
              obtain ⟨by0, oy, rfl, hcy⟩ := HY.out 0 (by simp)
              simp only [Nat.add_zero, List.getElem_cons_zero] at hcy
              have hby := World.block_lt_of_cell? w2 _ hcy
              simp only at hby
              clear hrd
              have key : ∀ A', (A' = some (⟨b, o, none⟩ : Addr) ∧ cap = n ∨ A' = some ⟨b, o + n, none⟩) → Calls Try.prog 52 #[.slice A' (bs.length - n) (cap - n)] w2 (ReadO (bs.drop n) w2) := by
                intro A' hA'
                refine readops_any A' _ _ (bs.drop n) w2 ?_ (by rw [List.length_drop]) (by omega) (by omega) (by omega) ?_
                · rcases hA' with ⟨rfl, hc⟩ | rfl
                  · rw [List.drop_of_length_le (by omega)]
                    exact bytes_nil _ _
                  · exact (HQ.out.on' HB2.out).drop n
                · have := HA.out _ rfl
                  have h2 := HB2.out.size
                  intro A hA
                  rcases hA' with ⟨rfl, hc⟩ | rfl <;> (cases hA; exact Nat.lt_of_lt_of_le this h2)
              have KEY := hidden key
              clear key
              by_cases hcn0 : cap = n
              · have HRO : Hid (Calls Try.prog 52 #[.slice (some ⟨b, o, none⟩) (bs.length - n) 0] w2 (ReadO (bs.drop n) w2)) := hidden (by have h := KEY.out (some ⟨b, o, none⟩) (.inl ⟨rfl, hcn0⟩); rw [hcn0, Nat.sub_self] at h; exact h)
                go_wp2_with fail
                with_reducible refine HRO.out.mono ?_
                rintro e w3 hr
                obtain ⟨hb, c3, L, al, ll, cl, rfl, hans⟩ := ReadO.ans' hr
                have HB3 := hidden (HB2.out.trans (hb.mono HB2.out.size))
                have hcy3 : w3.cell? ⟨by0, oy, none⟩ = some (.int .i64 seq) := (hb.cell (p := ⟨by0, oy, none⟩) hby).trans hcy
                have HANS := hidden hans
                clear hr hb hcy HRO KEY
                rcases HANS.out with ⟨hrep, hok, ⟨rfl, hw⟩ | ⟨rfl, hw⟩⟩
                · obtain ⟨a9, c9, he9, -⟩ := hrep
                  cases he9
                  match L, HANS, hw with
                  | [], HANS, hw =>
                    have HPN : Hid (parseJ bs = .none) := hidden (by rw [HPG.out, hw])
                    clear hw
                    go_wp2_with fail
                    go_ret
                    exact ⟨HB3.out, _, rfl, by rw [HPN.out]; rfl⟩
                  | g :: L, HANS, hw =>
                    have HPN : Hid (parseJ bs = .group seq (g :: L)) := hidden (by rw [HPG.out, hw])
                    have hpos : 0 < (g :: L).length := by simp
                    have HG2 := hidden HANS.out.1
                    generalize (g :: L).length = gl at hpos HG2 ⊢
                    clear hw
                    go_wp2_with fail
                    go_ret
                    refine ⟨HB3.out, _, rfl, ?_⟩
                    rw [HPN.out]
                    exact ⟨_, rfl, tOps.mono HG2.out (fun k hk => ⟨by have := HB2.out.size; omega, hk.2⟩), HANS.out.2.1, HSB.out⟩
                · have HPN : Hid (parseJ bs = .none) := hidden (by rw [HPG.out, hw])
                  clear hw
                  go_wp2_with fail
                  go_ret
                  exact ⟨HB3.out, _, rfl, by rw [HPN.out]; rfl⟩
              · have HRO := hidden (KEY.out (some ⟨b, o + n, none⟩) (.inr rfl))
                go_wp2_with fail
                with_reducible refine HRO.out.mono ?_
                rintro e w3 hr
                obtain ⟨hb, c3, L, al, ll, cl, rfl, hans⟩ := ReadO.ans' hr
                have HB3 := hidden (HB2.out.trans (hb.mono HB2.out.size))
                have hcy3 : w3.cell? ⟨by0, oy, none⟩ = some (.int .i64 seq) := (hb.cell (p := ⟨by0, oy, none⟩) hby).trans hcy
                have HANS := hidden hans
                clear hr hb hcy HRO KEY
                rcases HANS.out with ⟨hrep, hok, ⟨rfl, hw⟩ | ⟨rfl, hw⟩⟩
                · obtain ⟨a9, c9, he9, -⟩ := hrep
                  cases he9
                  match L, HANS, hw with
                  | [], HANS, hw =>
                    have HPN : Hid (parseJ bs = .none) := hidden (by rw [HPG.out, hw])
                    clear hw
                    go_wp2_with fail
                    go_ret
                    exact ⟨HB3.out, _, rfl, by rw [HPN.out]; rfl⟩
                  | g :: L, HANS, hw =>
                    have HPN : Hid (parseJ bs = .group seq (g :: L)) := hidden (by rw [HPG.out, hw])
                    have hpos : 0 < (g :: L).length := by simp
                    have HG2 := hidden HANS.out.1
                    generalize (g :: L).length = gl at hpos HG2 ⊢
                    clear hw
                    go_wp2_with fail
                    go_ret
                    refine ⟨HB3.out, _, rfl, ?_⟩
                    rw [HPN.out]
                    exact ⟨_, rfl, tOps.mono HG2.out (fun k hk => ⟨by have := HB2.out.size; omega, hk.2⟩), HANS.out.2.1, HSB.out⟩
                · have HPN : Hid (parseJ bs = .none) := hidden (by rw [HPG.out, hw])
                  clear hw
                  go_wp2_with fail
                  go_ret
                  exact ⟨HB3.out, _, rfl, by rw [HPN.out]; rfl⟩
          · have HNX : Hid (∀ m seq, 2 ≤ m → m < n + 1 → readI (bs.take m) ≠ some [seq]) := hidden (fun m seq h1 h2 => by
              by_cases hm : m < n
              · exact HNO.out m seq h1 hm
              · have : m = n := by omega
                subst this
                intro h
                rcases HANY.out with ⟨e, h'⟩ | ⟨-, h', -⟩
                · rw [h] at h'; cases h'; exact hone ⟨e, rfl⟩
                · rw [h] at h'; cases h')
            rcases HANY.out with ⟨rfl, -⟩ | ⟨rfl, -, rfl⟩
            · have h1 : ((Y.length : Int) != 1) = true := by rw [bne_iff_ne]; intro h; exact hone ⟨rfl, by omega⟩
              clear hone
              go_wp2_with fail
              exact ⟨⟨n + 1, by go_num, by omega, by omega, HB2.out, HNX.out⟩, by simp [intOf]; omega⟩
            · clear hone
              go_wp2_with fail
              exact ⟨⟨n + 1, by go_num, by omega, by omega, HB2.out, HNX.out⟩, by simp [intOf]; omega⟩
        · have HPN : Hid (parseJ bs = .none) := hidden (HP.out.trans (parseG_none (fun m seq h1 h2 h3 => HNO.out m seq h1 (by omega))))
          by_cases hnl : n ≤ bs.length
          · have hn11 : ¬ n ≤ 11 := fun h => hgo ⟨hnl, h⟩
            clear hgo
            go_wp2_with fail
            go_ret
            exact ⟨HB.out, _, rfl, by rw [HPN.out]; rfl⟩
          · clear hgo
            go_wp2_with fail
            go_ret
            exact ⟨HB.out, _, rfl, by rw [HPN.out]; rfl⟩

def NextP (bs : List UInt8) (w : World) (e : Ending) (w' : World) : Prop :=
  Below w.heap.size w w' ∧ ∃ v, e = .returned (.tuple #[v, .int .i64 ((nextJ bs).2 : Nat)]) ∧ RecAt (fun k => w.heap.size ≤ k ∧ k < w'.heap.size) w' v (nextJ bs).1
theorem RecAt.mono {S S' : Nat → Prop} {w : World} {v : Value} {r : Rec} (h : RecAt S w v r) (hs : ∀ k, S k → S' k) : RecAt S' w v r := by
  cases r with
  | none => exact h
  | header id => exact h
  | group s l => obtain ⟨u, h1, h2, h3⟩ := h; exact ⟨u, h1, tOps.mono h2 hs, h3⟩

set_option maxRecDepth 100000 in
set_option maxHeartbeats 32000000 in
theorem next_any (a : Option Addr) (cap : Nat) (bs : List UInt8) (w : World) (h : BytesAt w a bs) (hcap : bs.length ≤ cap) (hc2 : (cap : Int) ≤ 9223372036854775807) (hl : bs.length ≤ 100000000) :
    Calls Try.prog 97 #[.slice a bs.length cap] w (NextP bs w) := by
  have HQ := hidden h
  clear h
  go_enter Try.func97, Try.ntmps97
  go_wp2_with fail
  with_reducible refine (unframe_any a _ cap bs w HQ.out rfl hcap hc2 (by omega)).mono ?_
  rintro e w1 ⟨hb, v, rfl, ho⟩
  have HB1 := hidden hb
  obtain ⟨a1, c1, rfl, q, hc, hA⟩ := ho.reads
  have Q := hidden q
  have hm := own_cap ho rfl
  have HA1 : Hid (∀ A, a1 = some A → A.block < w1.heap.size) := hidden (fun A hA' => (ho.lt _ (hA A hA').1).2)
  have hcl : (unfC bs).length ≤ 100000000 := by have := unfC_le bs; omega
  clear hb ho q hA
  by_cases hE : unfE bs = 0
  · have HN : Hid (nextJ bs = (parseJ (unfC bs), unfN bs)) := hidden (by unfold nextJ; rw [if_pos hE])
    rw [hE]
    clear hE
    generalize unfC bs = cs at Q hc hcl HN
    generalize unfN bs = un at HN
    go_wp2_with fail
    with_reducible refine (parse_any a1 c1 cs w1 Q.out hc hm hcl HA1.out).mono ?_
    rintro e w2 ⟨hb, v, rfl, hr⟩
    have HE : Hid (NextP bs w (.returned (.tuple #[v, .int .i64 un])) w2) := hidden ⟨HB1.out.trans (hb.mono HB1.out.size), v, by rw [HN.out], by rw [HN.out]; exact hr.mono (fun k hk => ⟨Nat.le_trans HB1.out.size hk.1, hk.2⟩)⟩
    clear hb hr
    go_wp2_with fail
    go_ret2
    exact HE.out
  · have HN : Hid (nextJ bs = (.none, 0)) := hidden (by unfold nextJ; rw [if_neg hE])
    have hE' : (((unfE bs : Nat) : Int) != 0) = true := by rw [bne_iff_ne]; omega
    clear hE
    go_wp2_with fail
    go_ret2
    exact ⟨HB1.out, _, by rw [HN.out]; rfl, by rw [HN.out]; rfl⟩
end Go.Proofs.Ytekmjegeiminnaa
