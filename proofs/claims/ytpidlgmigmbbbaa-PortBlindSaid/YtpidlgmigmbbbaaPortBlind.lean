/-
  The walk of PortBlind.
-/
import Derived.Test.YtpidlgmigmbbbaaPBlindR
import Derived.Deep.DeepCutAuto
set_option linter.unusedVariables false
set_option linter.unusedSimpArgs false
namespace Go.Proofs.Ytpidlgmigmbbbaa
open Go.RowKit

set_option maxRecDepth 100000 in
set_option maxHeartbeats 8000000 in
theorem portBlind_any (z0 z1 z2 full : Int) (hz0 : 0 ≤ z0 ∧ z0 ≤ 255) (hz1 : 0 ≤ z1 ∧ z1 ≤ 255) (hz2 : 0 ≤ z2 ∧ z2 ≤ 255) (hfull : 0 ≤ full ∧ full ≤ 255) (lv : Value) (F0 : Nat → Prop) (l : List Op23) (hlok : ∀ x ∈ l, x.ok) (w : World) (h0 : Op23sAt w F0 lv l) :
    Calls Try.prog 4 #[.agg #[.int .u8 z0, .int .u8 z1, .int .u8 z2], .int .u8 full, lv] w fun e w' => e = .returned (.bool true) ∧ Below w.heap.size w w' := by
  obtain ⟨A, cap, rfl⟩ := h0.slice
  have HL := Lib.hid h0
  have HLO := Lib.hid hlok
  obtain ⟨z00, z01⟩ := hz0
  obtain ⟨z10, z11⟩ := hz1
  obtain ⟨z20, z21⟩ := hz2
  obtain ⟨f0, f1⟩ := hfull
  clear h0 hlok
  by_cases hlen : l.length ≤ 60
  · go_enter Try.func4, Try.ntmps4
    go_wp2_with fail
    go_at_call 9
    refine (awake23_any _).mono ?_
    rintro e w1 ⟨rfl, hb1⟩
    have hb1' : Below (w.heap.size + 1) (w.alloc (.cells #[.int .u8 z0, .int .u8 z1, .int .u8 z2] 55)) w1 := hb1.mono (by simp)
    have HB1 := Lib.hid hb1'
    have x0 := (box_cells hb1').1
    have z9 : w.heap.size < w1.heap.size := by have := hb1'.size; rw [World.size_alloc] at this; omega
    clear hb1 hb1'
    have y1 : w.heap.size < w1.heap.size + 1 := by omega
    have y2 : w.heap.size < w1.heap.size + 1 + 1 := by omega
    have y3 : w.heap.size < w1.heap.size + 1 + 1 + 1 := by omega
    have y4 : w.heap.size < w1.heap.size + 1 + 1 + 1 + 1 := by omega
    have y5 : w.heap.size < w1.heap.size + 1 + 1 + 1 + 1 + 1 := by omega
    have y6 : w.heap.size < w1.heap.size + 1 + 1 + 1 + 1 + 1 + 1 := by omega
    have y7 : w.heap.size < w1.heap.size + 1 + 1 + 1 + 1 + 1 + 1 + 1 := by omega
    have hs0 : 1 ≤ 1 + z0 % 16 ∧ 1 + z0 % 16 ≤ 16 := by omega
    have hs1 : 1 ≤ 1 + z1 % 16 ∧ 1 + z1 % 16 ≤ 16 := by omega
    have hs2 : 1 ≤ 1 + z2 % 16 ∧ 1 + z2 % 16 ≤ 16 := by omega
    go_upto_region 5 with (fail)
    go_cut [7, 8, 9] (fun x y z wx => ∃ ob tb hb, x = .pointer (some ⟨ob, 0, none⟩) ∧ y = .pointer (some ⟨tb, 0, none⟩) ∧ z = .pointer (some ⟨hb, 0, none⟩) ∧ Hid (BoxP wx ob (onePart (1 + z0 % 16))) ∧ Hid (BoxP wx tb (twoPart (1 + z1 % 16))) ∧ Hid (BoxP wx hb (threePart (1 + z2 % 16))) ∧ Hid (Below w.heap.size w wx))
    case first =>
      go_wp2_with fail
      go_meet
      have hp := blind_parts w1 (1 + z0 % 16) (1 + z1 % 16) (1 + z2 % 16) _ rfl
      exact ⟨_, _, _, rfl, rfl, rfl, Lib.hid hp.1, Lib.hid hp.2.1, Lib.hid hp.2.2.1, Lib.hid ((below_box HB1.out).trans (hp.2.2.2.mono (by omega)))⟩
    case rest =>
    obtain ⟨ob, tb, hb, rfl, rfl, rfl, HO, HT, HH, HW⟩ := hcut
    clear x0 z9 y1 y2 y3 y4 y5 y6 y7 HB1
    generalize 1 + z0 % 16 = s0 at *
    generalize 1 + z1 % 16 = s1 at *
    generalize 1 + z2 % 16 = s2 at *
    obtain ⟨p1, p2, hob, hop⟩ := HO.out
    have zo := lt_of_block hob
    have rO := row_of hob
    have HOb := Lib.hid hob
    have HNA := Lib.hid (newBench_made (onePart s0) _ _ (onePart_ok s0) (onePart_right s0 hs0.1 hs0.2) wc.drew (hop.kept (fun k hk _ => rfl)) |>.mono (fun e w' h => (⟨h.choose, h.choose_spec.1, h.choose_spec.2.1, (Below.refl wc.heap.size wc).drew.trans h.choose_spec.2.2⟩ : ∃ A : Bn, e = .returned (.pointer (some ⟨A.bb, 0, none⟩)) ∧ Made wc.heap.size w'.heap.size (onePart s0) w' A ∧ Below wc.heap.size wc w')))
    have HNB := Lib.hid (fun (W : World) (hb : Below wc.heap.size wc W) => newBench_made (onePart s0) _ _ (onePart_ok s0) (onePart_right s0 hs0.1 hs0.2) W (hop.kept (fun k hk _ => hb.block k hk)))
    clear hob hop
    go_wp2_with fail
    go_cut [10, 11] (fun x y wx => ∃ (A B : Bn) (EA BB : Nat), x = .pointer (some ⟨A.bb, 0, none⟩) ∧ y = .pointer (some ⟨B.bb, 0, none⟩) ∧ EA ≤ BB ∧ Hid (Made wc.heap.size EA (onePart s0) wx A) ∧ Hid (Made BB wx.heap.size (onePart s0) wx B) ∧ Hid (Below wc.heap.size wc wx))
    case first =>
      go_region_held3 (fun w' => ∀ k, w'.cell? ⟨ob, k, none⟩ = #[p1, p2][k]?)
        ((with_reducible first | assumption | exact keepDr (by assumption)))
        (first
          | (go_at_call 10; refine HNA.out.mono ?_; rintro e w3 ⟨A3, rfl, hA3, hb3⟩; have HA3 := Lib.hid hA3; have HB3 := Lib.hid hb3; have r3 := row_of ((hb3.block _ zo).trans HOb.out); have HNB3 := Lib.hid (HNB.out w3 hb3); clear hA3 hb3 HNA)
          | (go_at_call 10; refine HNB3.out.mono ?_; rintro e w4 ⟨A4, rfl, hA4, hb4⟩; have HA4 := Lib.hid hA4; have HB4 := Lib.hid hb4; have r4 := row_of ((hb4.block _ (Nat.lt_of_lt_of_le zo HB3.out.size)).trans ((HB3.out.block _ zo).trans HOb.out)); clear hA4 hb4))
      all_goals
        go_wp2_with fail
        go_meet
        exact ⟨A3, A4, _, _, rfl, rfl, Nat.le_refl _, Lib.hid (HA3.out.later HB4.out), HA4, Lib.hid (HB3.out.trans (HB4.out.mono HB3.out.size))⟩
    case rest =>
    obtain ⟨A1, A2, E1, B2, rfl, rfl, hn1, HA1, HA2, HW2⟩ := hcut
    obtain ⟨w0, rfl⟩ : ∃ x, x = wc := ⟨wc, rfl⟩
    have hw2' := HW2.out
    obtain ⟨p3, p4, htb, htp⟩ := HT.out.later hw2'
    obtain ⟨p5, p6, hhb, hhp⟩ := HH.out.later hw2'
    have zt := lt_of_block htb
    have zh := lt_of_block hhb
    have rT := row_of htb
    have rH := row_of hhb
    have HTb := Lib.hid htb
    have HHb := Lib.hid hhb
    have HWc := Lib.hid (HW.out.trans (hw2'.mono HW.out.size))
    have hwc := HW.out.size
    clear hw2' rO HNA HNB HOb HO HT HH HW HW2 zo
    have HNC := Lib.hid (newBench_made (twoPart s1) _ _ (twoPart_ok s1) (twoPart_right s1 hs1.1 hs1.2) w0.drew (htp.kept (fun k hk _ => rfl)) |>.mono (fun e w' h => (⟨h.choose, h.choose_spec.1, h.choose_spec.2.1, (Below.refl w0.heap.size w0).drew.trans h.choose_spec.2.2⟩ : ∃ A : Bn, e = .returned (.pointer (some ⟨A.bb, 0, none⟩)) ∧ Made w0.heap.size w'.heap.size (twoPart s1) w' A ∧ Below w0.heap.size w0 w')))
    have HND := Lib.hid (fun (W : World) (hb : Below w0.heap.size w0 W) => newBench_made (threePart s2) _ _ (threePart_ok s2) (threePart_right s2 hs2.1 hs2.2) W (hhp.kept (fun k hk _ => hb.block k hk)))
    clear htb htp hhb hhp
    go_wp2_with fail
    go_cut [12, 13] (fun x y wx => ∃ (A B : Bn) (EA BB : Nat), x = .pointer (some ⟨A.bb, 0, none⟩) ∧ y = .pointer (some ⟨B.bb, 0, none⟩) ∧ EA ≤ BB ∧ Hid (Made w0.heap.size EA (twoPart s1) wx A) ∧ Hid (Made BB wx.heap.size (threePart s2) wx B) ∧ Hid (Below w0.heap.size w0 wx))
    case first =>
      go_region_held3 (fun w' => (∀ k, w'.cell? ⟨tb, k, none⟩ = #[p3, p4][k]?) ∧ (∀ k, w'.cell? ⟨hb, k, none⟩ = #[p5, p6][k]?))
        ((with_reducible first | exact ⟨by assumption, by assumption⟩ | exact ⟨keepDr (by assumption), keepDr (by assumption)⟩))
        (first
          | (go_at_call 10; refine HNC.out.mono ?_; rintro e w3 ⟨A3, rfl, hA3, hb3⟩; have HA3 := Lib.hid hA3; have HB3 := Lib.hid hb3; have r3 := row_of ((hb3.block _ zt).trans HTb.out); have r4 := row_of ((hb3.block _ zh).trans HHb.out); have HND3 := Lib.hid (HND.out w3 hb3); clear hA3 hb3 HNC)
          | (go_at_call 10; refine HND3.out.mono ?_; rintro e w4 ⟨A4, rfl, hA4, hb4⟩; have HA4 := Lib.hid hA4; have HB4 := Lib.hid hb4; have r5 := row_of ((hb4.block _ (Nat.lt_of_lt_of_le zt HB3.out.size)).trans ((HB3.out.block _ zt).trans HTb.out)); have r6 := row_of ((hb4.block _ (Nat.lt_of_lt_of_le zh HB3.out.size)).trans ((HB3.out.block _ zh).trans HHb.out)); clear hA4 hb4))
      all_goals
        go_wp2_with fail
        go_meet
        exact ⟨A3, A4, _, _, rfl, rfl, Nat.le_refl _, Lib.hid (HA3.out.later HB4.out), HA4, Lib.hid (HB3.out.trans (HB4.out.mono HB3.out.size))⟩
    case rest =>
    rename_i hKK
    obtain ⟨A3, A4, E3, B4, rfl, rfl, hn3, HA3, HA4, HW4⟩ := hcut
    obtain ⟨w4, rfl⟩ : ∃ x, x = wc := ⟨wc, rfl⟩
    obtain ⟨T, hTlow, hF, hPo, hFill, hmA, hmB, hmC⟩ := blind_four hs0 hs1 hs2 (HA1.out.later HW4.out) (HA2.out.later HW4.out) hn1 HA3.out (Nat.le_refl _) HA4.out hn3
    have hw4 : Below w.heap.size w w4 := HWc.out.trans (HW4.out.mono HWc.out.size)
    have hTw : ∀ k, T k → w.heap.size ≤ k := fun k hk => Nat.le_trans hwc (hTlow k hk)
    have HKL := Lib.hid (fun (W : World) (hc : ChgT T w4 W) => (Reads.kept HL.out (fun k hk _ => (hc.block k (by have := hw4.size; omega) (fun e => by have := hTw k e; omega)).trans (hw4.block k hk)) : Op23sAt W F0 (.slice A l.length cap) l))
    have HEND := Lib.hid (fun (W : World) (hc : ChgT T w4 W) => (hw4.trans ⟨hc.os, hc.tape, hc.output, hc.size, fun j hj => hc.block j (by have := hw4.size; omega) (fun e => by have := hTw j e; omega)⟩ : Below w.heap.size w W))
    have HF := Lib.hid hF
    have HPO := Lib.hid hPo
    have HFI := Lib.hid hFill
    have HMA := Lib.hid hmA
    have HMB := Lib.hid hmB
    have HMC := Lib.hid hmC
    refine hKK _ _ ?_
    exact pb_rest full f0 f1 l hlen HLO A cap F0 w w4 A1 A2 A3 A4 T s0 s1 s2 hs2 HKL HEND HF HPO HFI HMA HMB HMC _ _ _ _ _ _ _ _ _ _ _ _ _ _ _ _ _ _ _ _ _ _ _ _ _ _ _ _ _ _ _ _ _ _ _ _ _ _ _ _ _ _ _ _ _ _ _ _ _ _ _ _ _ _ _ _ _ _ _ _ _ _ _ _ _ _ _ _ _ _ _ _ _ _ _ _ _ _ _ _ _ _ _ _ _ _ _ _ _ _ _ _ _ _ _ _ _ _ _ _ _ _ _ _ _ _ _ _ _ _ _ _ _ _ _ _ _ _ _ _ _ _ _ _ _ _ _ _ _ _ _ _ _ _ _ _ _ _ _ _ _ _ _ _ _ _ _ _ _ _ _ _ _ _ _ _ _ _ _ _ _ _ _ _ _ _ _ _ _ _ _ _ _ _ _ _ _ _ _ _ _ _ _ _ _ _ _ _ _ _ _ _ _ _ _ _ _ _ _ _ _ _ _ _ _ _ _ _ _ _ _ _
  · go_enter Try.func4, Try.ntmps4
    go_wp2_with fail
    go_at_call 9
    refine (awake23_any _).mono ?_
    rintro e w1 ⟨rfl, hb1⟩
    have HB1 := Lib.hid ((below_alloc w _).trans (hb1.mono (by simp)))
    clear hb1
    have hgt : (60 : Int) < (l.length : Int) := by omega
    go_wp2_with fail
    go_at_call 9
    refine (awake23_any _).mono ?_
    rintro e w2 ⟨rfl, hb2⟩
    have HB2 := Lib.hid (HB1.out.trans (hb2.mono HB1.out.size))
    clear hb2
    go_wp2
    go_ret
    exact ⟨rfl, HB2.out⟩
end Go.Proofs.Ytpidlgmigmbbbaa
