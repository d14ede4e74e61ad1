/- The codec's lists, walked: both modes. Printed by gen_l.py. -/
import Derived.Test.YtekmjegeiminnaaD9
import Derived.Deep.RegionLaw
namespace Go.Proofs.Ytekmjegeiminnaa
open Go.RowKit
set_option linter.unusedVariables false
set_option linter.unusedSimpArgs false

theorem row108 : ((Try.prog.underlying 108).map TypeDesc.isRow, (Try.prog.info? 108).map (·.size)) = (some true, some 19) := by kernel_rfl
set_option maxRecDepth 100000 in
set_option maxHeartbeats 8000000 in
theorem lop_w (c pb po : Nat) (a : Option Addr) (cap : Nat) (xs : List OpD) (v : Value) (bs : List UInt8) (w : World) (hp : WPre c pb v bs (fun _ => False) w) (hc : w.cell? ⟨pb, po, none⟩ = some (.slice a xs.length cap)) (hcap : xs.length ≤ cap) (he : Elems tOp (· < c) w a xs) (hok : ∀ x ∈ xs, tOp.cod.ok x) (hl : bs.length + (encL tOp.cod xs).length ≤ 140737488354000) (hxl : xs.length ≤ 140737488354000) :
    Calls Try.prog 115 #[vP c 0, vP pb po, .func (.func 116) #[vP c 0] #[]] w fun e w' => e = unitE ∧ ∃ v', Wrote c v v' (bs ++ encL tOp.cod xs) w w' := by
  have HP := hidden hp
  have HE := hidden he
  have HOK := hidden hok
  have HL := hidden hl
  have hle : (encN (xs.length : Int)).length + (encM tOp.cod xs).length = (encL tOp.cod xs).length := by unfold encL; rw [List.length_append]
  have HLE := hidden hle
  clear hp he hok hl hle
  go_enter Try.func115, Try.ntmps115
  go_wp2_with fail
  with_reducible refine (count_w c v bs _ w (by omega) HP.out.cod HP.out.own (by have := HL.out; have := HLE.out; omega)).mono ?_
  rintro e w1 ⟨rfl, v1, hw⟩
  have hc1 := hw.upd.cell hc HP.out.inner.2
  have HW := hidden hw
  obtain ⟨c0, c1, c2, cf⟩ := hw.cod.facts
  clear hw hc
  go_wp2_with fail
  go_loopw [25] (fun s wr => ∃ (k : Nat) (v' : Value), s = .int .i64 k ∧ k ≤ xs.length ∧ Wrote c v v' (bs ++ encN xs.length ++ encM tOp.cod (xs.take k)) w wr) (fun s _ => (xs.length - intOf s).toNat)
  case atStart => exact ⟨0, v1, rfl, by omega, by simpa [encM] using HW.out⟩
  case round =>
    obtain ⟨k, v', rfl, hk, hr⟩ := hrel
    have HR := hidden hr
    clear hr c0 c1 c2 cf hc1
    by_cases hlt : k < xs.length
    · obtain ⟨b, o, us, rfl, hS, hrg, hrep⟩ := (HE.out.upd HR.out.upd HP.out.inner.1) k hlt
      have hxk : xs.take (k + 1) = xs.take k ++ [xs[k]] := by rw [List.take_succ_eq_append_getElem hlt]
      have hxok := HOK.out _ (List.getElem_mem hlt)
      generalize xs[k] = x at hrep hxk hxok
      have HXK : Hid (bs ++ encN xs.length ++ encM tOp.cod (xs.take (k + 1)) = bs ++ encN xs.length ++ encM tOp.cod (xs.take k) ++ tOp.cod.enc x) := by
        show _ = _; rw [hxk, encM_append, encM_one]; simp only [List.append_assoc]
      have hlen : (bs ++ encN (xs.length : Int) ++ encM tOp.cod (xs.take k)).length + (tOp.cod.enc x).length ≤ 140737488354000 := by
        have h1 := encM_take_le tOp.cod xs (k + 1)
        rw [hxk, encM_append, encM_one, List.length_append] at h1
        have := HL.out
        have := HLE.out
        rw [List.length_append, List.length_append]; omega
      have HIT : Hid (∀ (vs : Array Value) t, vs.size = 19 → Calls Try.prog 116 #[vP c 0, vP wr.heap.size 0] ((wr.alloc (.cells vs t)).setCells wr.heap.size 0 us) fun e w' => e = unitE ∧ ∃ v2, Wrote c v' v2 (bs ++ encN xs.length ++ encM tOp.cod (xs.take k) ++ tOp.cod.enc x) wr w') :=
        hidden (fun vs t h => item_w op_W HR.out.cod HR.out.own hrep hxok hlen vs t h)
      have HRG : Hid (wr.rangeAt b (o + k * 19) us) := hidden hrg
      obtain ⟨d, hu, hd, hi⟩ := row_of row108
      have hul : us.length = 19 := tOp.len hrep
      have HU := hidden hu
      have HDR := hidden hd
      have HI : Hid ((Try.prog.info? 108).map (·.size) = some us.length) := hidden (by rw [hul]; exact hi)
      have HI2 : Hid ((Try.prog.info? 108).map (·.size) = some us.toArray.size) := hidden (by rw [List.size_toArray]; exact HI.out)
      have HONE := hidden (all_oneCell_toArray (tOp.one hrep))
      have hus : 19 = us.toArray.size := by rw [List.size_toArray]; exact hul.symm
      have HTH : Hid (∀ (vs : Array Value) t, vs.size = 19 → (wr.alloc (.cells vs t)).there wr.heap.size 0 us.toArray.size) := hidden (fun vs t h => by rw [← hus, ← h]; exact there_new wr vs t)
      have ltc := HR.out.cod.lt
      clear hu hd hi hul hus hrg hrep hxok hxk hlen
      go_wp2_with (first
        | ((with_reducible refine wpList_load_mid (op := ⟨some 28, .load 108 (.tmp 27), _, _, _, _⟩) ?_ 108 (.tmp 27) ?_ b (o + k * 19) ?_ us d HRG.out HU.out HDR.out HI.out ?_); rfl; rfl; rfl)
        | ((with_reducible refine wpList_store_mid (op := ⟨none, .store 108 (.tmp 8) (.tmp 28), _, _, _, _⟩) ?_ 108 (.tmp 8) (.tmp 28) ?_ wr.heap.size 0 us.toArray ?_ ?_ (HTH.out _ _ ?_) HI2.out HONE.out ?_); rfl; rfl; rfl; rfl; rfl))
      (with_reducible refine (HIT.out _ _ ?_).mono ?_)
      · rfl
      rintro e w2 ⟨rfl, v2, hw2⟩
      have HW2 := hidden (HR.out.trans hw2)
      clear hw2
      go_wp2_with fail
      exact ⟨⟨k + 1, v2, by go_num, by omega, by rw [HXK.out]; exact HW2.out⟩, by simp [intOf]; omega⟩
    · have hk' : k = xs.length := by omega
      subst hk'
      have HF := HR.out
      rw [List.take_length, List.append_assoc] at HF
      have HF2 := hidden HF
      clear HF
      go_wp2_with fail
      exact ⟨rfl, .tuple #[], by simp [results, Try.results115, go_sem], rfl, v', HF2.out⟩
theorem lop_W : WFun 115 (some 116) (tList tOp) := by
  intro c pb po v bs x w hp ha ho hl
  obtain ⟨vs, h1, a, cap, rfl, h2, h3, h4⟩ := ha
  have hge := encM_ge tOp.cod x
  have hle : (encN (x.length : Int)).length + (encM tOp.cod x).length = (encL tOp.cod x).length := by unfold encL; rw [List.length_append]
  have hl' : bs.length + (encL tOp.cod x).length ≤ 140737488354000 := hl
  exact lop_w c pb po a cap x v bs w hp (range_one.1 h1) h2 h4 ho.2 hl (by omega)

end Go.Proofs.Ytekmjegeiminnaa
