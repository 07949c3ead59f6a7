/-
  The walk of ThreadBoots.
-/
import Derived.Test.YtnedofoenkmjaaaActRun
import Derived.Test.YtnedofoenkmjaaaBootLaw3
import Derived.Test.YtnedofoenkmjaaaOdd2
set_option linter.unusedVariables false
set_option linter.unusedSimpArgs false
namespace Go.Proofs.Ytnedofoenkmjaaa
open Go.RowKit

theorem below_box {w W : World} {o : Obj} (h : Below (w.heap.size + 1) (w.alloc o) W) : Below w.heap.size w W := ((Below.refl _ _).alloc (Nat.le_refl _) _).trans (h.mono (by omega))
theorem below_next {w W W' : World} {o : Obj} (h : Below (w.heap.size + 1) (w.alloc o) W) (h' : Below W.heap.size W W') : Below (w.heap.size + 1) (w.alloc o) W' := h.trans (h'.mono (by have := h.size; simpa using this))
theorem box_cells {w W : World} {cs : Array Value} {t : TypeId} (h : Below (w.heap.size + 1) (w.alloc (.cells cs t)) W) : (∀ k, W.cell? ⟨w.heap.size, k, none⟩ = cs[k]?) ∧ (∀ k, W.frozen? ⟨w.heap.size, k, none⟩ = false) :=
  below_cells h (b := w.heap.size) (by omega) (heap_alloc_new w _)
theorem PlanVal.act {w3 wx : World} {F : Nat → Prop} {P : PartD} {sT sO v1 v2 : Value} (h : PlanVal w3 F (.agg (planArr sT sO v1 v2 (planWords P))) P) (hb : ∀ k, k < w3.heap.size → F k → wx.heap[k]? = w3.heap[k]?) (xb : Nat) (t field v : Int) (set : Bool) (got : Int)
    (hx : wx.heap[xb]? = some (.cells (actArr sT sO v1 v2 (planWords P) t field v set got) 51 (0, 0))) : ActAt wx F xb P t field v set got := by
  obtain ⟨sT', sO', v1', v2', e, h1, h2, h3⟩ := h.kept hb
  simp only [planArr, Value.agg.injEq, Array.mk.injEq, List.cons.injEq, true_and, and_true] at e
  obtain ⟨rfl, rfl, rfl, rfl⟩ := e
  exact ⟨_, _, _, _, hx, h1, h2, h3⟩
theorem Left.below {S : Nat → Prop} {wb B : Nat} {w w' : World} (h : Left S wb w w') (hB : B ≤ w.heap.size) (h1 : B ≤ wb) (h2 : ∀ k, S k → B ≤ k) : Below B w w' :=
  ⟨h.os, h.tape, h.output, h.size, fun k hk => h.block k (by omega) (by omega) (fun hs => by have := h2 k hs; omega)⟩
set_option maxRecDepth 100000 in
set_option maxHeartbeats 4000000 in
theorem boots_any (P : PartD) (pv : Value) (F : Nat → Prop) (hc : CapsOk P.thr) (w : World) (h : PartAt w F pv P) :
    Calls Try.prog 6 #[pv] w fun e w' => e = .returned (.bool true) ∧ Below w.heap.size w w' := by
  have HFew := Lib.hid (fun (W : World) (hb : Below w.heap.size w W) => fewPart_any P pv F W (h.kept (fun k hk _ => hb.block k hk)))
  have HNo := Lib.hid (fun (hf : fewB P = true) (hw : partWrong P ≠ 0) (W : World) (hb : Below w.heap.size w W) => of13_no P pv F (fewB_partOk hf hc) hw W (h.kept (fun k hk _ => hb.block k hk)))
  have HYes := Lib.hid (fun (hf : fewB P = true) (hw : partWrong P = 0) (W : World) (hb : Below w.heap.size w W) => of13_yes P pv F (fewB_partOk hf hc) hw W (h.kept (fun k hk _ => hb.block k hk)))
  obtain ⟨v1, v3, rfl, h1, h2⟩ := h
  obtain ⟨A1, c1, rfl⟩ := h1.slice
  obtain ⟨A2, c2, rfl⟩ := ObjsAt.slice h2
  have HTS := Lib.hid h1
  clear h1 h2
  clear hc
  go_enter Try.func6, Try.ntmps6
  go_wp2_with fail
  go_at_call 19
  refine (awake13_any _).mono ?_
  rintro e w1 ⟨rfl, hb⟩
  simp only [World.size_alloc] at hb
  obtain ⟨p1, p2⟩ := box_cells hb
  have Hb1 := Lib.hid hb
  clear hb
  go_wp2_with fail
  go_at_call 12
  refine (HFew.out _ (below_box Hb1.out)).mono ?_
  rintro e w2 ⟨rfl, hb2⟩
  have hb2' := below_next Hb1.out hb2
  obtain ⟨p3, p4⟩ := box_cells hb2'
  have Hb2 := Lib.hid hb2'
  clear hb2 hb2' HFew p1 p2
  cases hf : fewB P with
  | false =>
    clear HNo HYes hf
    go_wp2_with fail
    go_at_call 19
    refine (awake13_any _).mono ?_
    rintro e w3 ⟨rfl, hb3⟩
    have Hb3 := Lib.hid (below_next Hb2.out hb3)
    clear hb3
    go_wp2
    go_ret
    exact ⟨rfl, below_box Hb3.out⟩
  | true =>
    by_cases hw : partWrong P = 0
    · have HY := Lib.hid (HYes.out hf hw)
      obtain ⟨q6, q1, q8, qp, qo⟩ := partRight hw
      have QP := Lib.hid qp
      have QO := Lib.hid qo
      clear HNo HYes hf hw qp qo
      go_wp2_with fail
      go_at_call 20
      refine (HY.out _ (below_box Hb2.out)).mono ?_
      rintro e w3 ⟨pv, rfl, hP, hb3⟩
      replace hP := hP.inn
      have hP0 := hP
      obtain ⟨sT, sO, u1, u2, rfl, g1, g2, g3⟩ := hP
      obtain ⟨B1, d1, e1⟩ := g1.slice
      obtain ⟨B2, d2, e2⟩ := g2.slice
      obtain ⟨x1, x2, e0, g5, g6⟩ := g3
      cases e0
      obtain ⟨B3, d3, rfl⟩ := g5.slice
      obtain ⟨B4, d4, rfl⟩ := ObjsAt.slice g6
      subst e1 e2
      have HP := Lib.hid hP0
      have hb3' := below_next Hb2.out hb3
      obtain ⟨p1, p2⟩ := box_cells hb3'
      have hsz : w.heap.size < w3.heap.size := by have := hb3'.size; rw [World.size_alloc] at this; omega
      have Hb3 := Lib.hid hb3'
      clear hb3 hb3' hP0 g1 g2 g5 g6 HY p3 p4
      simp only [planArr] at HP ⊢
      have hw4 : Below (w3.heap.size + 1) (w3.alloc (.cells #[.int .i64 0, .int .i64 2, .int .i64 4, .int .i64 3, .int .i64 5, .int .i64 6, .int .i64 8, .int .i64 41, .int .i64 43, .slice B1 (thAts P.thr.length).length d1, .slice B2 (obAts P.thr.length P.obj.length).length d2, .int .i64 (planWords P), .slice B3 P.thr.length d3, .slice B4 P.obj.length d4] 31)) (w3.alloc (.cells #[.int .i64 0, .int .i64 2, .int .i64 4, .int .i64 3, .int .i64 5, .int .i64 6, .int .i64 8, .int .i64 41, .int .i64 43, .slice B1 (thAts P.thr.length).length d1, .slice B2 (obAts P.thr.length P.obj.length).length d2, .int .i64 (planWords P), .slice B3 P.thr.length d3, .slice B4 P.obj.length d4] 31)) := Below.refl _ _
      obtain ⟨w4, hW4⟩ : ∃ x, x = w3.alloc (.cells #[.int .i64 0, .int .i64 2, .int .i64 4, .int .i64 3, .int .i64 5, .int .i64 6, .int .i64 8, .int .i64 41, .int .i64 43, .slice B1 (thAts P.thr.length).length d1, .slice B2 (obAts P.thr.length P.obj.length).length d2, .int .i64 (planWords P), .slice B3 P.thr.length d3, .slice B4 P.obj.length d4] 31) := ⟨_, rfl⟩
      have hs4 : w4.heap.size = w3.heap.size + 1 := by rw [hW4, World.size_alloc]
      have hq4 : w4.heap[w3.heap.size]? = some (.cells #[.int .i64 0, .int .i64 2, .int .i64 4, .int .i64 3, .int .i64 5, .int .i64 6, .int .i64 8, .int .i64 41, .int .i64 43, .slice B1 (thAts P.thr.length).length d1, .slice B2 (obAts P.thr.length P.obj.length).length d2, .int .i64 (planWords P), .slice B3 P.thr.length d3, .slice B4 P.obj.length d4] 31 (0, 0)) := by rw [hW4]; exact heap_alloc_new _ _
      have HP4 := Lib.hid (HP.out.kept (w' := w4) (fun k hk hF => by rw [hW4]; exact Below.heap_alloc _ _ _ hk))
      have hbx : Below (w.heap.size + 1) (w.alloc (.cells #[.slice A1 P.thr.length c1, .slice A2 P.obj.length c2] 25)) w4 := by
        rw [hW4]; exact Hb3.out.alloc (by have := Hb3.out.size; rw [World.size_alloc] at this; exact this) _
      have HBX := Lib.hid hbx
      have HQ4 := Lib.hid hq4
      have HW4 := Lib.hid hW4
      clear hbx hw4 hW4
      go_wp2_with fail
      rw [← HW4.out]
      go_at_call 14
      refine (planBoot_any P _ _ q6 q8 QP.out QO.out w4 HP4.out).mono ?_
      rintro e w5 ⟨mb, wb, rfl, hm, hb5, lm, lw⟩
      have HB5 := Lib.hid hb5
      have HM5 := Lib.hid hm
      have r1 := (box_cells (HBX.out.trans (hb5.mono (by omega)))).1
      have hlaw := Lib.hid (bootM_at P q6 q8 QP.out)
      clear hm hb5 hq4 p1 p2
      go_wp2
      go_loopw [30, 33] (fun i _ wr => ∃ k : Nat, k ≤ P.thr.length ∧ i = .int .i64 k ∧ Hid (Below w4.heap.size w4 wr) ∧ Hid (MemAt wr mb wb (bootM P))) (fun i _ _ => P.thr.length - (intOf i).toNat)
      case atStart => exact ⟨0, Nat.zero_le _, rfl, HB5, HM5⟩
      case round =>
        clear r1
        obtain ⟨k, hk, rfl, hb, hm⟩ := hrel
        have hsz := hb.out.size
        by_cases hlt : k < P.thr.length
        · have hlc : (k : Int) < (P.thr.length : Int) := by omega
          have hth : P.thr[k]? = some P.thr[k] := List.getElem?_eq_getElem hlt
          have hfld := Lib.hid (hlaw.out.field k P.thr[k] hth)
          have HTH := Lib.hid hth
          clear hth
          generalize P.thr[k] = th at *
          go_wp2
          go_loopw [33] (fun i wr => ∃ c : Nat, c ≤ 19 ∧ i = .int .i64 c ∧ Hid (Below w4.heap.size w4 wr) ∧ Hid (MemAt wr mb wb (bootM P))) (fun i _ => 19 - (intOf i).toNat)
          case atStart => exact ⟨0, Nat.zero_le _, rfl, hb, hm⟩
          case round =>
            clear hb hm
            obtain ⟨c, hc, rfl, hb, hm⟩ := hrel
            have hsz := hb.out.size
            by_cases hltc : c < 19
            · have hlcc : (c : Int) < 19 := by omega
              have r3 := row_of ((hb.out.block w3.heap.size (by omega)).trans HQ4.out)
              have z3 : w3.heap.size < wr.heap.size := by omega
              have z1 : w.heap.size < wr.heap.size := by omega
              have hal : ActAt (wr.alloc (.cells #[.int .i64 0, .int .i64 2, .int .i64 4, .int .i64 3, .int .i64 5, .int .i64 6, .int .i64 8, .int .i64 41, .int .i64 43, .slice B1 (thAts P.thr.length).length d1, .slice B2 (obAts P.thr.length P.obj.length).length d2, .int .i64 (planWords P), .slice B3 P.thr.length d3, .slice B4 P.obj.length d4, .int .i64 k, .int .i64 c, .int .i64 0, .bool false, .int .i64 0] 51)) (fun k => w2.heap.size ≤ k ∧ k < w3.heap.size) wr.heap.size P k c 0 false 0 := HP4.out.act (fun q hq _ => (Below.heap_alloc wr _ q (by omega)).trans (hb.out.block q hq)) wr.heap.size k c 0 false 0 (heap_alloc_new _ _)
              have hma : MemAt (wr.alloc (.cells #[.int .i64 0, .int .i64 2, .int .i64 4, .int .i64 3, .int .i64 5, .int .i64 6, .int .i64 8, .int .i64 41, .int .i64 43, .slice B1 (thAts P.thr.length).length d1, .slice B2 (obAts P.thr.length P.obj.length).length d2, .int .i64 (planWords P), .slice B3 P.thr.length d3, .slice B4 P.obj.length d4, .int .i64 k, .int .i64 c, .int .i64 0, .bool false, .int .i64 0] 51)) mb wb (bootM P) := hm.out.kept (Below.heap_alloc _ _ _ (lt_of_block hm.out.st)) (Below.heap_alloc _ _ _ (lt_of_block hm.out.ws))
              have lmb := lt_of_block hm.out.st
              have lwb := lt_of_block hm.out.ws
              have hfb : fieldB P.thr.length k c = true := by simp only [fieldB, hasB, Bool.and_eq_true, decide_eq_true_eq]; omega
              have HR := Lib.hid (actGetRun P q6 (fun k => w2.heap.size ≤ k ∧ k < w3.heap.size) wr.heap.size mb wb (fun q hq => by have := hq.2; omega) k c 0 0 hfb (bootM P) (wr.alloc (.cells #[.int .i64 0, .int .i64 2, .int .i64 4, .int .i64 3, .int .i64 5, .int .i64 6, .int .i64 8, .int .i64 41, .int .i64 43, .slice B1 (thAts P.thr.length).length d1, .slice B2 (obAts P.thr.length P.obj.length).length d2, .int .i64 (planWords P), .slice B3 P.thr.length d3, .slice B4 P.obj.length d4, .int .i64 k, .int .i64 c, .int .i64 0, .bool false, .int .i64 0] 51)) hma hal ⟨by omega, fun q hq => ⟨by have := hq.2; omega, by have := hq.2; rw [World.size_alloc]; omega⟩, by omega⟩)
              have hgot := hfld.out c (by omega) hlcc
              rw [hgot] at HR
              have HBw := Lib.hid hb.out
              clear hal hma lmb lwb hfb hgot
              have rb := (box_cells (HBX.out.trans (hb.out.mono (by omega)))).1
              by_cases hc12 : (c : Int) < 12
              · by_cases hc1 : (c : Int) = 1 ∨ (c : Int) = 2
                · rw [if_pos hc1] at HR
                  obtain ⟨g, o, c', e, hFg, hcells⟩ := HTS.out.cells (by omega)
                  cases e
                  obtain ⟨pv, _, d0, _, _, _⟩ := hcells k th HTH.out
                  have lg : g < w.heap.size := World.block_lt_of_cell? w _ d0
                  have hww : wr.heap[g]? = w.heap[g]? := (hb.out.block g (by omega)).trans ((HBX.out.block g (by omega)).trans (Below.heap_alloc _ _ _ lg))
                  rw [← World.cell?_of_block hww] at d0
                  have lgr : g < wr.heap.size := by omega
                  clear hcells hww
                  rcases hc1 with h1 | h1
                  · have t1 : ((c : Int) == 1) = true := by simpa using h1
                    clear h1
                    go_wp2_with fail
                    go_at_call 21
                    refine HR.out.mono ?_
                    rintro e w6 ⟨rfl, hm6, hc6, hL6⟩
                    have hbn := Lib.hid (HBw.out.trans (((Below.refl w4.heap.size wr).alloc (by omega) _).trans (hL6.below (by rw [World.size_alloc]; omega) (by omega) (fun q hq => by omega))))
                    have hmn := Lib.hid hm6
                    have hlt6 : wr.heap.size < w6.heap.size := World.block_lt_of_cell? w6 _ hc6
                    clear hm6 hL6 HR
                    go_wp2
                    go_roundw
                    case rel => exact ⟨c + 1, by omega, by go_num, hbn, hmn⟩
                    case measure => simp [intOf]; omega
                  · have t1 : ((c : Int) == 1) = false := by rw [beq_eq_false_iff_ne]; omega
                    have t2 : ((c : Int) == 2) = true := by simpa using h1
                    clear h1
                    go_wp2_with fail
                    go_at_call 21
                    refine HR.out.mono ?_
                    rintro e w6 ⟨rfl, hm6, hc6, hL6⟩
                    have hbn := Lib.hid (HBw.out.trans (((Below.refl w4.heap.size wr).alloc (by omega) _).trans (hL6.below (by rw [World.size_alloc]; omega) (by omega) (fun q hq => by omega))))
                    have hmn := Lib.hid hm6
                    have hlt6 : wr.heap.size < w6.heap.size := World.block_lt_of_cell? w6 _ hc6
                    clear hm6 hL6 HR
                    go_wp2
                    go_roundw
                    case rel => exact ⟨c + 1, by omega, by go_num, hbn, hmn⟩
                    case measure => simp [intOf]; omega
                · rw [if_neg hc1] at HR
                  have t1 : ((c : Int) == 1) = false := by rw [beq_eq_false_iff_ne]; omega
                  have t2 : ((c : Int) == 2) = false := by rw [beq_eq_false_iff_ne]; omega
                  clear hc1
                  go_wp2_with fail
                  go_at_call 21
                  refine HR.out.mono ?_
                  rintro e w6 ⟨rfl, hm6, hc6, hL6⟩
                  have hbn := Lib.hid (HBw.out.trans (((Below.refl w4.heap.size wr).alloc (by omega) _).trans (hL6.below (by rw [World.size_alloc]; omega) (by omega) (fun q hq => by omega))))
                  have hmn := Lib.hid hm6
                  have hlt6 : wr.heap.size < w6.heap.size := World.block_lt_of_cell? w6 _ hc6
                  clear hm6 hL6 HR
                  go_wp2
                  go_roundw
                  case rel => exact ⟨c + 1, by omega, by go_num, hbn, hmn⟩
                  case measure => simp [intOf]; omega
              · have t1 : ((c : Int) == 1) = false := by rw [beq_eq_false_iff_ne]; omega
                have t2 : ((c : Int) == 2) = false := by rw [beq_eq_false_iff_ne]; omega
                have hbn := Lib.hid (hb.out.alloc (show w4.heap.size ≤ wr.heap.size by omega) (.cells #[.int .i64 0, .int .i64 2, .int .i64 4, .int .i64 3, .int .i64 5, .int .i64 6, .int .i64 8, .int .i64 41, .int .i64 43, .slice B1 (thAts P.thr.length).length d1, .slice B2 (obAts P.thr.length P.obj.length).length d2, .int .i64 (planWords P), .slice B3 P.thr.length d3, .slice B4 P.obj.length d4, .int .i64 k, .int .i64 c, .int .i64 0, .bool false, .int .i64 0] 51))
                have hmn := Lib.hid (hm.out.kept (w' := wr.alloc (.cells #[.int .i64 0, .int .i64 2, .int .i64 4, .int .i64 3, .int .i64 5, .int .i64 6, .int .i64 8, .int .i64 41, .int .i64 43, .slice B1 (thAts P.thr.length).length d1, .slice B2 (obAts P.thr.length P.obj.length).length d2, .int .i64 (planWords P), .slice B3 P.thr.length d3, .slice B4 P.obj.length d4, .int .i64 k, .int .i64 c, .int .i64 0, .bool false, .int .i64 0] 51)) (Below.heap_alloc _ _ _ (lt_of_block hm.out.st)) (Below.heap_alloc _ _ _ (lt_of_block hm.out.ws)))
                clear HR
                go_wp2
                go_roundw
                case rel => exact ⟨c + 1, by omega, by go_num, hbn, hmn⟩
                case measure => simp [intOf]; omega
            · have hlcc : ¬ (c : Int) < 19 := by omega
              go_wp2
              go_roundw
              case rel => exact ⟨k + 1, by omega, by go_num, hb, hm⟩
              case measure => simp [intOf]; omega
        · have hlc : ¬ (k : Int) < (P.thr.length : Int) := by omega
          have HEnd := Lib.hid ((((Below.refl _ _).alloc (Nat.le_refl _) _).trans (HBX.out.mono (by omega))).trans (hb.out.mono (show w.heap.size ≤ w4.heap.size by omega)))
          go_wp2
          go_ret
          exact ⟨by simp, HEnd.out⟩
    · have HN := Lib.hid (HNo.out hf hw)
      clear HNo HYes hf hw
      unfold zeroPlan at HN
      go_wp2_with fail
      go_at_call 20
      refine (HN.out _ (below_box Hb2.out)).mono ?_
      rintro e w3 ⟨rfl, hb3⟩
      have Hb3 := Lib.hid (below_next Hb2.out hb3)
      clear hb3
      go_wp2
      go_ret
      refine ⟨rfl, ?_⟩
      exact Below.alloc (below_box Hb3.out) (below_box Hb3.out).size _
end Go.Proofs.Ytnedofoenkmjaaa
