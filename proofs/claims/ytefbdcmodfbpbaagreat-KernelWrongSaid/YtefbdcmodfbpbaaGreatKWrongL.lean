/-
  KernelWrong: its walk.
-/
import Derived.Test.YtefbdcmodfbpbaaGreatKWrong
import Derived.Test.YtefbdcmodfbpbaaGreatKNil
import Derived.Test.YtefbdcmodfbpbaaGreatFew
import Derived.Deep.DeepCutAuto
set_option linter.unusedVariables false
set_option linter.unusedSimpArgs false
namespace Go.Proofs.YtefbdcmodfbpbaaGreat
open Go.RowKit

theorem IntsAt.word' {w : World} {F : Nat → Prop} {v : Value} {m : Mem} (h : IntsAt w F v m) (hn : 0 < m.length) : ∃ b o c, v = .slice (some ⟨b, o, none⟩) m.length c ∧ F b ∧ b < w.heap.size ∧ ∀ k : Nat, k < m.length → w.cell? ⟨b, o + k, none⟩ = some (.int .i64 (rdM m k)) := by
  obtain ⟨b, o, c, e, hF, hc⟩ := IntsAt.cells h hn
  have h0 := hc 0 m[0] (List.getElem?_eq_getElem hn)
  refine ⟨b, o, c, e, hF, World.block_lt_of_cell? w _ h0, fun k hk => ?_⟩
  have h1 := hc k m[k] (List.getElem?_eq_getElem hk)
  have h2 : rdM m k = m[k] := by unfold rdM; rw [if_pos (by omega), Int.toNat_natCast, List.getD_eq_getElem?_getD, List.getElem?_eq_getElem hk]; rfl
  rw [h2]; exact h1

set_option maxRecDepth 100000 in
set_option maxHeartbeats 1600000 in
theorem newBench_no (P : PartD) (pv : Value) (F : Nat → Prop) (hok : PartOk P) (hw : partWrong P ≠ 0) (w : World) (h : PartAt w F pv P) :
    Calls Tryz.prog 25 #[pv] w fun e w' => e = .returned (.pointer none) ∧ Below w.heap.size w w' := by
  have HO := Lib.hid (fun (W : World) (hb : Below w.heap.size w W) => planOf_no P pv F hok hw W (h.kept (fun k hk _ => hb.block k hk)))
  obtain ⟨v1, v3, rfl, h1, h2⟩ := h
  obtain ⟨A1, c1, rfl⟩ := h1.slice
  obtain ⟨A2, c2, rfl⟩ := ObjsAt.slice h2
  unfold zeroPlan at HO
  clear h1 h2 hok hw
  go_enter Tryz.func25, Tryz.ntmps25
  go_wp2_with fail
  go_at_call 70
  refine (HO.out _ ((Below.refl _ _).alloc (Nat.le_refl _) _)).mono ?_
  rintro e w3 ⟨rfl, hb3⟩
  have HB3 := Lib.hid (below_end ((Below.refl _ _).alloc (Nat.le_refl _) _) (Nat.le_refl _) hb3 : Below w.heap.size w w3)
  clear hb3
  go_wp2
  go_ret
  exact ⟨rfl, HB3.out.alloc HB3.out.size _⟩

theorem wrap64_one : wrap64 (0 + 1) = 1 := (wrap64_i64 (i64_small (by omega) (by omega))).trans (by omega)
theorem two_box {w W : World} {a1 a2 : Array Value} {t1 t2 : TypeId} (h : Below (w.heap.size + 2) ((w.alloc (.cells a1 t1)).alloc (.cells a2 t2)) W) :
    (∀ k, W.cell? ⟨w.heap.size, k, none⟩ = a1[k]?) ∧ (∀ k, W.cell? ⟨w.heap.size + 1, k, none⟩ = a2[k]?) ∧ w.heap.size < W.heap.size ∧ w.heap.size + 1 < W.heap.size ∧ Below w.heap.size w W := by
  have hs := h.size
  simp only [World.size_alloc] at hs
  refine ⟨fun k => ?_, fun k => ?_, by omega, by omega, (((Below.refl _ _).alloc (Nat.le_refl _) _).alloc (by simp) _).trans (h.mono (by omega))⟩
  · exact (World.cell?_of_block (a := ⟨w.heap.size, k, none⟩) (h.block w.heap.size (by omega))).trans (row_of (two_first w _ _) k)
  · exact (World.cell?_of_block (a := ⟨w.heap.size + 1, k, none⟩) (h.block (w.heap.size + 1) (by omega))).trans (row_of (two_second w _ _) k)
theorem two_next {w W W' : World} {o1 o2 : Obj} (h : Below (w.heap.size + 2) ((w.alloc o1).alloc o2) W) (h' : Below W.heap.size W W') : Below (w.heap.size + 2) ((w.alloc o1).alloc o2) W' :=
  h.trans (h'.mono (by have := h.size; simp only [World.size_alloc] at this; omega))

set_option maxRecDepth 100000 in
set_option maxHeartbeats 16000000 in
theorem kernelWrong_any (P : PartD) (pv : Value) (F0 : Nat → Prop) (hc : CapsOk P.thr) (w : World) (h0 : PartAt w F0 pv P) (t : Int) (c : CallD) (wv : Value) (F1 : Nat → Prop) (hw0 : IntsAt w F1 wv c.words) :
    Calls Tryz.prog 5 #[pv, .int .i64 t, .agg (callCells c wv).toArray] w fun e w' => e = .returned (.bool true) ∧ Below w.heap.size w w' := by
  obtain ⟨F, hFl, h⟩ : ∃ F : Nat → Prop, (∀ k, F k → k < w.heap.size) ∧ PartAt w F pv P := ⟨_, fun k hk => hk.2, h0.inn⟩
  have HFew := Lib.hid (fun (W : World) (hb : Below w.heap.size w W) => fewPart_any P pv F W (h.kept (fun k hk _ => hb.block k hk)))
  have HNo := Lib.hid (fun (hf : fewB P = true) (hw : partWrong P ≠ 0) (W : World) (hb : Below w.heap.size w W) => newBench_no P pv F (fewB_partOk hf hc) hw W (h.kept (fun k hk _ => hb.block k hk)))
  have HYes := Lib.hid (fun (hf : fewB P = true) (hw : partWrong P = 0) (W : World) (hb : Below w.heap.size w W) => newBench_yes P pv F (fewB_partOk hf hc) hw W (h.kept (fun k hk _ => hb.block k hk)))
  have HCK := Lib.hid (fun (tn : Nat) (htn : tn < P.thr.length) (hq6 : P.thr.length ≤ 6) (hq8 : P.obj.length ≤ 8) (hl : c.words.length ≤ 20) (W : World) (hb : Below w.heap.size w W) => by
    obtain ⟨u1, u2, e, g1, g2⟩ := h
    subst e
    exact checkG_any P c F F1 u1 u2 wv W tn htn (by omega) (by omega) hc (by omega) (g1.kept (fun k hk _ => hb.block k hk)) (ObjsAt.kept (fun k hk _ => hb.block k hk) g2) (Reads.kept hw0 (fun k hk _ => hb.block k hk)) : ∀ (tn : Nat) (htn : tn < P.thr.length) (hq6 : P.thr.length ≤ 6) (hq8 : P.obj.length ≤ 8) (hl : c.words.length ≤ 20) (W : World) (hb : Below w.heap.size w W), Calls Tryz.prog 26 #[pv, .int .i64 tn, .agg (callCells c wv).toArray] W fun e w' => e = .returned (.int .i64 (checkV P tn c)) ∧ Below W.heap.size W w')
  have HKW := Lib.hid (fun (W : World) (hb : Below w.heap.size w W) => (Reads.kept hw0 (fun k hk _ => hb.block k hk) : IntsAt W F1 wv c.words))
  have HC := Lib.hid hc
  obtain ⟨v1, v3, rfl, h1, h2⟩ := h
  obtain ⟨A1, c1, rfl⟩ := h1.slice
  obtain ⟨A2, c2, rfl⟩ := ObjsAt.slice h2
  obtain ⟨A3, c3, rfl⟩ := IntsAt.slice hw0
  clear h1 h2 hc hFl h0 hw0
  simp only [callCells] at HCK ⊢
  go_enter Tryz.func5, Tryz.ntmps5
  go_wp2_with fail
  go_at_call 22
  refine (awake25_any _).mono ?_
  rintro e w1 ⟨rfl, hb1⟩
  have ht1 : Below (w.heap.size + 2) ((w.alloc (.cells #[.slice A1 P.thr.length c1, .slice A2 P.obj.length c2] 25)).alloc (.cells #[.int .i64 c.kind, .int .i64 c.handle, .int .i64 c.a, .int .i64 c.b, .slice A3 c.words.length c3, .int .i64 c.timeout] 28)) w1 := two_next (Below.refl _ _) hb1
  obtain ⟨p, q, z0, z1, hB⟩ := two_box ht1
  have HT1 := Lib.hid ht1
  have HB1 := Lib.hid hB
  clear ht1 hb1 hB
  go_wp2_with fail
  go_at_call 10
  refine (HFew.out _ HB1.out).mono ?_
  rintro e w2 ⟨rfl, hb2⟩
  have HT2 := Lib.hid (two_next HT1.out hb2)
  clear p q z0 z1 hb2
  obtain ⟨p, q, z0, z1, hB⟩ := two_box HT2.out
  have HB2 := Lib.hid hB
  clear hB HT1 HB1 HFew
  cases hf : fewB P with
  | false =>
    clear HNo HYes hf
    go_wp2_with fail
    go_at_call 22
    refine (awake25_any _).mono ?_
    rintro e w9 ⟨rfl, hb9⟩
    have HB9 := Lib.hid (below_end (two_box HT2.out).2.2.2.2 (Nat.le_refl _) hb9)
    clear hb9
    go_wp2
    go_ret
    exact ⟨rfl, HB9.out⟩
  | true =>
    by_cases hlen : 20 < c.words.length
    · have hlen1 : (20 : Int) < (c.words.length : Int) := by omega
      clear HNo HYes hf
      go_wp2_with fail
      go_at_call 22
      refine (awake25_any _).mono ?_
      rintro e w9 ⟨rfl, hb9⟩
      have HB9 := Lib.hid (below_end (two_box HT2.out).2.2.2.2 (Nat.le_refl _) hb9)
      clear hb9
      go_wp2
      go_ret
      exact ⟨rfl, HB9.out⟩
    · have hlen1 : ¬ (20 : Int) < (c.words.length : Int) := by omega
      have hlen2 : decide ((20 : Int) < (c.words.length : Int)) = false := by simpa using hlen1
      by_cases ht0 : t < 0
      · clear HNo HYes hf
        go_wp2_with fail
        go_at_call 22
        refine (awake25_any _).mono ?_
        rintro e w9 ⟨rfl, hb9⟩
        have HB9 := Lib.hid (below_end (two_box HT2.out).2.2.2.2 (Nat.le_refl _) hb9)
        clear hb9
        go_wp2
        go_ret
        exact ⟨rfl, HB9.out⟩
      · by_cases htn : (P.thr.length : Int) ≤ t
        · clear HNo HYes hf
          go_wp2_with fail
          go_at_call 22
          refine (awake25_any _).mono ?_
          rintro e w9 ⟨rfl, hb9⟩
          have HB9 := Lib.hid (below_end (two_box HT2.out).2.2.2.2 (Nat.le_refl _) hb9)
          clear hb9
          go_wp2
          go_ret
          exact ⟨rfl, HB9.out⟩
        · by_cases hw : partWrong P = 0
          · have HY := Lib.hid (HYes.out hf hw)
            clear HNo HYes
            obtain ⟨q6, q1, q8, qp, qo⟩ := partRight hw
            obtain ⟨tn, rfl⟩ : ∃ n : Nat, t = (n : Int) := ⟨t.toNat, by omega⟩
            have htn' : tn < P.thr.length := by omega
            have QP := Lib.hid qp
            clear qp qo hw hf
            go_wp2_with fail
            go_at_call 25
            refine (HY.out _ HB2.out).mono ?_
            rintro e w3 ⟨FB, S, bb, mb, wb, md, sT, sO, u1, u2, rfl, hBN, hb3⟩
            have HT3 := Lib.hid (two_next HT2.out hb3)
            clear p q z0 z1 hb3 HY
            obtain ⟨p, q, z0, z1, hB⟩ := two_box HT3.out
            have HB3 := Lib.hid hB
            have HBN := Lib.hid hBN
            have r3 := row_of hBN.blk
            have y3 := lt_of_block hBN.blk
            have hba := hBN.base
            have hs2 := HB2.out.size
            have HBA := Lib.hid (⟨by omega, by omega, by omega⟩ : w.heap.size ≤ bb ∧ w.heap.size ≤ mb ∧ w.heap.size ≤ wb)
            unfold benchArr at r3
            clear hB hBN hba hs2 HT2 HB2
            have hck64 : True := trivial
            by_cases hck : checkV P tn c = 0
            · have HK := Lib.hid (fun W hb => HCK.out tn htn' q6 q8 (by omega) W hb)
              rw [hck] at HK
              go_wp2_with fail
              go_at_call 26
              refine (HK.out _ HB3.out).mono ?_
              rintro e w9 ⟨rfl, hb9⟩
              have HB9 := Lib.hid (below_end HB3.out (Nat.le_refl _) hb9)
              clear hb9
              go_wp2
              go_ret
              exact ⟨rfl, HB9.out⟩
            · have HK := Lib.hid (fun W hb => HCK.out tn htn' q6 q8 (by omega) W hb)
              have HKC := Lib.hid (fun (W : World) (pv' : Value) (hPV : PlanVal W FB pv' P) (hIW : IntsAt W F1 (.slice A3 c.words.length c3) c.words) => kcallWrong_any P pv' FB q6 q8 HC.out 0 tn htn' c (by omega) hck _ F1 W hPV hIW)
              have HRUN := Lib.hid (fun (ob : Nat) (Fx : Nat → Prop) (sT sO v1 v2 wv : Value) (Wd : Int) (body : Value) (mb wb : Nat) (m : Mem) (W : World) hm hmx h0 hx hF hI hx0 hx1 => wrongRun P q6 q8 HC.out tn htn' c (by omega) ob Fx sT sO v1 v2 wv Wd 0 0 body mb wb m W hm hmx h0 hx hF hI 0 hx0 hx1 (i64_small (by omega) (by omega)))
              generalize hec : checkV P tn c = ec at *
              have hec0 : ¬ ec = 0 := hck
              clear hck HCK hec
              simp only [callCells] at HKC
              go_wp2_with fail
              go_at_call 26
              refine (HK.out _ HB3.out).mono ?_
              rintro e w4 ⟨rfl, hb4⟩
              have HT4 := Lib.hid (two_next HT3.out hb4)
              clear p q z0 z1
              obtain ⟨p, q, z0, z1, hB⟩ := two_box HT4.out
              have HB4 := Lib.hid hB
              have r4 := fun k => (World.cell?_of_block (a := ⟨bb, k, none⟩) (hb4.block bb y3)).trans (r3 k)
              have y4 := Nat.lt_of_lt_of_le y3 hb4.size
              have hm3 := HBN.out.mem
              have hm4 := hm3.kept (hb4.block _ (lt_of_block hm3.st)) (hb4.block _ (lt_of_block hm3.ws))
              have HM4 := Lib.hid hm4
              have HP4 := Lib.hid (HBN.out.plan.kept (w' := w4) (fun k hk _ => hb4.block k hk))
              have hs4 := hb4.size
              have HS4 := Lib.hid hs4
              clear r3 hb4 hB HT3 HB3 hm3 hm4 HK y3 hs4
              go_wp2_with fail
              go_at_call 27
              refine (mwords_any mb wb (bootM P) w4 HM4.out).mono ?_
              rintro e w5 ⟨vw5, rfl, hi5, hb5⟩
              have HT5 := Lib.hid (two_next HT4.out hb5)
              clear p q z0 z1
              obtain ⟨p, q, z0, z1, hB⟩ := two_box HT5.out
              have HB5 := Lib.hid hB
              have r5 := fun k => (World.cell?_of_block (a := ⟨bb, k, none⟩) (hb5.block bb y4)).trans (r4 k)
              have y5 := Nat.lt_of_lt_of_le y4 hb5.size
              have HM5 := Lib.hid (HM4.out.kept (hb5.block _ (lt_of_block HM4.out.st)) (hb5.block _ (lt_of_block HM4.out.ws)))
              have HP5 := Lib.hid (HP4.out.kept (w' := w5) (fun k hk _ => hb5.block k hk))
              have HI5 := Lib.hid (Reads.inn hi5 (by omega))
              have HS5 := Lib.hid hb5.size
              obtain ⟨A5, c5, rfl⟩ := IntsAt.slice hi5
              clear r4 hb5 hB HT4 HB4 HM4 HP4 hi5
              have HKW5 := Lib.hid (HKW.out _ HB5.out)
              have HKC5 := Lib.hid (HKC.out w5.drew _ (HP5.out.kept (w' := w5.drew) (fun _ _ _ => rfl)) (Reads.kept (w' := w5.drew) HKW5.out (fun _ _ _ => rfl)))
              unfold planArr at HKC5
              go_wp2_with fail
              go_region_held3 (fun w' => (∀ k, w'.cell? ⟨bb, k, none⟩ = #[.int .i64 0, .int .i64 2, .int .i64 4, .int .i64 3, .int .i64 5, .int .i64 6, .int .i64 8, .int .i64 41, .int .i64 43, sT, sO, .int .i64 (planWords P), u1, u2, .pointer (some ⟨mb, 0, none⟩), .pointer (some ⟨md, 0, none⟩)][k]?) ∧ (∀ k, w'.cell? ⟨w.heap.size + 1, k, none⟩ = #[.int .i64 c.kind, .int .i64 c.handle, .int .i64 c.a, .int .i64 c.b, .slice A3 c.words.length c3, .int .i64 c.timeout][k]?))
                (((try dsimp only); (try go_split_ands); (with_reducible repeat' apply And.intro); all_goals (with_reducible first | assumption | exact keepDrC (by assumption))))
                (first
                  | ((try go_split_ands); go_at_call 28; refine HKC5.out.mono ?_; rintro e w6 ⟨ob, sT', sO', u1', u2', A6, c6, he6, rfl, hob, hb6, hiw6, hx6⟩; have HB6 := Lib.hid (⟨hb6.os, hb6.tape, hb6.output, hb6.size, hb6.block⟩ : Below w5.heap.size w5 w6); have HE6 := Lib.hid he6; have HOB := Lib.hid hob; have HIW6 := Lib.hid hiw6; have HX6 := Lib.hid hx6; have r6 := fun k => (World.cell?_of_block (a := ⟨bb, k, none⟩) (HB6.out.block bb y5)).trans (r5 k); have q6' := fun k => (World.cell?_of_block (a := ⟨w.heap.size + 1, k, none⟩) (HB6.out.block (w.heap.size + 1) z1)).trans (q k); clear he6 hob hb6 hiw6 hx6))
              all_goals
                have e6 := HE6.out
                cases e6
                have hob : w5.heap.size ≤ ob := HOB.out
                have hlow := bootM_at P q6 q8 QP.out
                have hl0 : rdM (bootM P) 0 = 0 := hlow.low 0 (by omega) (by omega) (by omega)
                have hl1 : rdM (bootM P) 1 = 0 := hlow.low 1 (by omega) (by omega) (by omega)
                have hlen6 := bootM_length P
                have hpw : planWords P = 51 + 24 * (P.thr.length + P.obj.length) := rfl
                have hm6 := HM5.out.kept (w' := w6) (HB6.out.block _ (lt_of_block HM5.out.st)) (HB6.out.block _ (lt_of_block HM5.out.ws))
                have lmb := lt_of_block HM5.out.st
                have lwb := lt_of_block HM5.out.ws
                have hwi : WrongIn (fun k => FB k ∨ (w5.heap.size ≤ k ∧ k < ob)) P u1 u2 (.slice A6 c.words.length c6) c.words w6 := by
                  obtain ⟨_, _, _, _, e, _, _, x1, x2, e0, g5, g6⟩ := HP5.out
                  unfold planArr at e
                  cases e
                  cases e0
                  exact ⟨(g5.kept (w' := w6) (fun k hk _ => HB6.out.block k hk)).wider (fun k hk => .inl hk), Reads.wider (ObjsAt.kept (w' := w6) (fun k hk _ => HB6.out.block k hk) g6) (fun k hk => .inl hk), Reads.wider HIW6.out (fun k hk => .inr hk)⟩
                have hFx : ∀ k, (FB k ∨ (w5.heap.size ≤ k ∧ k < ob)) → k < w6.heap.size ∧ k ≠ wb ∧ k ≠ ob := by
                  intro k hk
                  have hs6 := HB6.out.size
                  have hob6 := lt_of_block HX6.out
                  rcases hk with hk | hk
                  · have hsf := HBN.out.sepF k hk
                    have hs3 : w3.heap.size ≤ w5.heap.size := Nat.le_trans HS4.out HS5.out
                    exact ⟨by omega, hsf.2.2.2.2, by omega⟩
                  · exact ⟨by omega, by omega, by omega⟩
                have HR := Lib.hid (benchRun bb mb _ _ w6 ((r6 14).trans rfl) _ (HRUN.out ob _ sT sO u1 u2 (.slice A6 c.words.length c6) (planWords P) _ mb wb (bootM P) w6 hm6 (by omega) HX6.out ⟨by omega, by omega⟩ hFx hwi hl0 hl1))
                have qo := row_of HX6.out
                have yo := lt_of_block HX6.out
                have y6 := Nat.lt_of_lt_of_le y5 HB6.out.size
                unfold opArr at qo
                have HL0 := Lib.hid (⟨hl0, hl1, hlen6⟩ : rdM (bootM P) 0 = 0 ∧ rdM (bootM P) 1 = 0 ∧ (bootM P).length = planWords P)
                have HL1 := Lib.hid (⟨lmb, lwb, hob⟩ : mb < w5.heap.size ∧ wb < w5.heap.size ∧ w5.heap.size ≤ ob)
                have hpw1 : 51 ≤ planWords P ∧ planWords P ≤ 400 := by omega
                obtain ⟨hpw1, hpw2⟩ := hpw1
                clear hwi hFx hm6 hlow hl0 hl1 hlen6 hpw lmb lwb hob HRUN HKC HKC5 HKW HKW5 p q z0 r5 y5 HE6 HOB HIW6 HC q6'
                go_wp2_with (go_at_call 24; refine (body_any _ _ _ ((qo 24).trans rfl)).mono ?_; rintro e wq ⟨rfl, rfl⟩)
                go_at_call 29
                refine HR.out.mono ?_
                rintro e w7 ⟨rfl, hL7, ⟨m7, hm7, hr7, hlm7⟩, hx7⟩
                have hs7 := hL7.size
                have hbne : bb ≠ wb ∧ bb ≠ ob := ⟨HBN.out.sep.2, by have := HL1.out; have := HBN.out.blk; have := lt_of_block this; have := HS4.out; have := HS5.out; omega⟩
                have r7 := fun k => (World.cell?_of_block (a := ⟨bb, k, none⟩) (hL7.block bb y6 hbne.1 hbne.2)).trans (r6 k)
                have y7 := Nat.lt_of_lt_of_le y6 hs7
                have hwb4 : wb < w4.heap.size := Nat.lt_of_lt_of_le (lt_of_block HBN.out.mem.ws) HS4.out
                have hob5 := HL1.out.2.2
                have hwb5 := HL1.out.2.1
                have HI7 := Lib.hid (Reads.kept (w' := w7) (Reads.kept (w' := w6) HI5.out (fun k hk _ => HB6.out.block k hk)) (fun k hk hF => hL7.block k hk (by have := hF.1; omega) (by have := hF.2; omega)))
                have HM7 := Lib.hid hm7
                have HR7 := Lib.hid hr7
                have HX7 := Lib.hid hx7
                have HB7 := Lib.hid (((below_end HB5.out (Nat.le_refl _) HB6.out).trans (hL7.below (by have := HB5.out.size; have := HB6.out.size; omega) HBA.out.2.2 (by intro k hk; have := HL1.out; have := HB5.out.size; omega))) : Below w.heap.size w w7)
                have hlm : m7.length = planWords P := hlm7.trans HL0.out.2.2
                clear hL7 hm7 hr7 hx7 hlm7 hs7 hwb4 hob5 hwb5 qo yo r6 y6 HR HX6 HI5 HM5 HP5 HB5
                go_wp2_with fail
                go_at_call 27
                refine (mwords_any mb wb m7 w7 HM7.out).mono ?_
                rintro e w8 ⟨vw8, rfl, hi8, hb8⟩
                have r8 := fun k => (World.cell?_of_block (a := ⟨bb, k, none⟩) (hb8.block bb y7)).trans (r7 k)
                have y8 := Nat.lt_of_lt_of_le y7 hb8.size
                have hx8 := (hb8.block ob (lt_of_block HX7.out)).trans HX7.out
                have HX8 := Lib.hid hx8
                have hi58 := Reads.kept (w' := w8) HI7.out (fun k hk _ => hb8.block k hk)
                have HB8 := Lib.hid (below_end HB7.out (Nat.le_refl _) hb8)
                obtain ⟨b5, o5, c5', e5, _, l5, k5⟩ := IntsAt.word' hi58 (by rw [HL0.out.2.2]; omega)
                obtain ⟨b8, o8, c8', e8, _, l8, k8⟩ := IntsAt.word' hi8 (by omega)
                cases e5
                subst e8
                rw [HL0.out.2.2] at k5
                rw [hlm] at k8
                have K5 := Lib.hid k5
                have K8 := Lib.hid (fun (k : Nat) hk => by
                  have h := k8 k hk
                  rw [HR7.out] at h
                  exact h : ∀ k : Nat, k < planWords P → w8.cell? ⟨b8, o8 + k, none⟩ = some (.int .i64 (upd (upd (rdM (bootM P)) 0 (wrap64 (0 + 1))) 1 (wrap64 (0 + 1)) k)))
                have hlb : (bootM P).length = planWords P := HL0.out.2.2
                clear r7 y7 hx8 hi58 hi8 hb8 k5 k8 HI7 HM7 HX7 HR7
                rw [hlm]
                rw [hlb]
                go_wp2_with fail
                obtain ⟨nW, hnW⟩ : ∃ n, n = planWords P := ⟨_, rfl⟩
                have HNW := Lib.hid hnW
                go_loopw [12, 73] (fun _ i wr => ∃ k n : Nat, k ≤ planWords P ∧ i = .int .i64 k ∧ wr = w8.drewN n) (fun _ i _ => planWords P - (intOf i).toNat)
                case atStart => exact ⟨0, 0, Nat.zero_le _, rfl, rfl⟩
                case round =>
                  obtain ⟨k, n, hk, rfl, rfl⟩ := hrel
                  by_cases hlt : k < planWords P
                  · have hlc : (k : Int) < ((planWords P : Nat) : Int) := by omega
                    have g5 := K5.out k hlt
                    have g8 := K8.out k hlt
                    have hkt : ((k : Int)).toNat = k := by omega
                    rcases Nat.lt_or_ge k 2 with hk2 | hk2
                    · have hk3 : k = 0 ∨ k = 1 := by omega
                      rcases hk3 with rfl | rfl
                      · have e8 : upd (upd (rdM (bootM P)) 0 (wrap64 (0 + 1))) 1 (wrap64 (0 + 1)) ((0 : Nat) : Int) = 1 := by
                          rw [upd_other _ _ _ _ (by decide)]; show upd _ 0 _ 0 = 1; rw [upd_same]; exact wrap64_one
                        have e5 : rdM (bootM P) ((0 : Nat) : Int) = 0 := HL0.out.1
                        rw [e8] at g8
                        rw [e5, Nat.add_zero] at g5
                        rw [Nat.add_zero] at g8
                        have i0 : (0 : Int) < ((planWords P : Nat) : Int) := by omega
                        clear e8 e5 hk2 hlc hkt
                        go_wp2
                        go_quiet (fail)
                        go_wp2
                        go_roundw
                        case rel => exact ⟨1, _, by omega, by go_num, rfl⟩
                        case measure => simp [intOf]; omega
                      · have e8 : upd (upd (rdM (bootM P)) 0 (wrap64 (0 + 1))) 1 (wrap64 (0 + 1)) ((1 : Nat) : Int) = 1 := by
                          show upd _ 1 _ 1 = 1; rw [upd_same]; exact wrap64_one
                        have e5 : rdM (bootM P) ((1 : Nat) : Int) = 0 := HL0.out.2.1
                        rw [e8] at g8
                        rw [e5] at g5
                        have i0 : (1 : Int) < ((planWords P : Nat) : Int) := by omega
                        clear e8 e5 hk2 hlc hkt
                        go_wp2
                        go_quiet (fail)
                        go_wp2
                        go_roundw
                        case rel => exact ⟨2, _, by omega, by go_num, rfl⟩
                        case measure => simp [intOf]; omega
                    · have e8 : upd (upd (rdM (bootM P)) 0 (wrap64 (0 + 1))) 1 (wrap64 (0 + 1)) (k : Int) = rdM (bootM P) k := by
                        rw [upd_other _ _ _ _ (by omega), upd_other _ _ _ _ (by omega)]
                      rw [e8] at g8
                      generalize rdM (bootM P) (k : Int) = x at *
                      have hxx : (x != x) = false := by simp
                      have i0 : (0 : Int) ≤ (k : Int) := by omega
                      clear e8
                      go_wp2
                      go_quiet (fail)
                      go_wp2
                      go_roundw
                      case rel => exact ⟨k + 1, _, by omega, by go_num, rfl⟩
                      case measure => simp [intOf]; omega
                  · have hge : ¬ (k : Int) < ((planWords P : Nat) : Int) := by omega
                    have HO := Lib.hid (outcome_any ob _ _ _ _ _ _ _ _ _ _ _ _ _ _ _ _ _ _ _ _ _ _ _ _ _ _ [] (fun _ => True) (by simp) (w8.drewN n) HX8.out ⟨rfl, none, 0, rfl, fun h => absurd h (by simp)⟩)
                    go_wp2_with fail
                    go_at_call 23
                    refine HO.out.mono ?_
                    rintro e w9 ⟨ws9, rfl, hi9, hb9⟩
                    obtain ⟨A9, c9, rfl⟩ := IntsAt.slice hi9
                    have r9 := fun k => (World.cell?_of_block (a := ⟨bb, k, none⟩) (hb9.block bb y8)).trans (r8 k)
                    have y9 := Nat.lt_of_lt_of_le y8 hb9.size
                    have hb89 : Below w8.heap.size w8 w9 := ⟨hb9.os, hb9.tape, hb9.output, hb9.size, hb9.block⟩
                    have HB9 := Lib.hid (below_end HB8.out (Nat.le_refl _) hb89)
                    have l9 := Nat.lt_of_lt_of_le l8 hb9.size
                    have e0 : upd (upd (rdM (bootM P)) 0 (wrap64 (0 + 1))) 1 (wrap64 (0 + 1)) ((0 : Nat) : Int) = 1 := by
                      rw [upd_other _ _ _ _ (by decide)]; show upd _ 0 _ 0 = 1; rw [upd_same]; exact wrap64_one
                    have e1 : upd (upd (rdM (bootM P)) 0 (wrap64 (0 + 1))) 1 (wrap64 (0 + 1)) ((1 : Nat) : Int) = 1 := by
                      show upd _ 1 _ 1 = 1; rw [upd_same]; exact wrap64_one
                    have g0 := (World.cell?_of_block (a := ⟨b8, o8 + 0, none⟩) (hb9.block b8 l8)).trans (K8.out 0 (by omega))
                    have g1 := (World.cell?_of_block (a := ⟨b8, o8 + 1, none⟩) (hb9.block b8 l8)).trans (K8.out 1 (by omega))
                    rw [e0, Nat.add_zero] at g0
                    rw [e1] at g1
                    have i0 : (0 : Int) < ((planWords P : Nat) : Int) := by omega
                    have i1 : (1 : Int) < ((planWords P : Nat) : Int) := by omega
                    have hee : (ec == ec) = true := by simp
                    clear hb9 hi9 hb89 r8 y8 e0 e1 l8 HO
                    go_wp2
                    go_ret
                    exact ⟨rfl, HB9.out.alloc HB9.out.size _⟩
          · have HN := Lib.hid (HNo.out hf hw)
            clear HNo HYes hf hw
            go_wp2_with fail
            go_at_call 25
            refine (HN.out _ HB2.out).mono ?_
            rintro e w9 ⟨rfl, hb9⟩
            have HB9 := Lib.hid (below_end HB2.out (Nat.le_refl _) hb9)
            clear hb9
            go_wp2
            go_ret
            exact ⟨rfl, HB9.out⟩
end Go.Proofs.YtefbdcmodfbpbaaGreat
