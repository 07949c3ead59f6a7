/-
  box.New: a box of a partition that is right; of one that isn't there is none.
-/
import Derived.Test.YtefbdcmodfbpbaaGreatHist
import Derived.Test.YtefbdcmodfbpbaaGreatBootLaw3
import Derived.Test.YtefbdcmodfbpbaaGreatBoot6
import Derived.Test.YtefbdcmodfbpbaaGreatKWrong
import Derived.Deep.DeepCutAuto
set_option linter.unusedVariables false
set_option linter.unusedSimpArgs false
namespace Go.Proofs.YtefbdcmodfbpbaaGreat
open Go.RowKit

/-- The cells of a box. -/
def boxArr (sT sO v1 v2 : Value) (W : Int) (mb : Nat) (r0 r1 : Int) (t0 t1 ths : Value) (pend : Int) (hv : Value) : Array Value :=
  #[.int .i64 0, .int .i64 2, .int .i64 4, .int .i64 3, .int .i64 5, .int .i64 6, .int .i64 8, .int .i64 41, .int .i64 43, sT, sO, .int .i64 W, v1, v2, .pointer (some ⟨mb, 0, none⟩), .int .i64 r0, .int .i64 r1, t0, t1, ths, .int .i64 pend, hv]
def stateZ : Array Value := #[.int .i64 0, .bool false, .bool false, .int .i64 0, .int .i64 0]
theorem lt_allocW {w : World} {b : Nat} {o : Obj} (h : b < w.heap.size) : b < (w.alloc o).heap.size := by rw [World.size_alloc]; omega
theorem Tryz.infoState : (Tryz.prog.info? 152).map (fun i => (i.zero, i.size, i.bytes)) = some (some (.agg stateZ), 5, 32) := by kernel_rfl
theorem make_states (n : Nat) (hn : n ≤ 1000) (w : World) : (Instr.makeSlice 146 (.int .i64 n) (.int .i64 n)).run Tryz.prog w = .ok (.slice (some ⟨w.heap.size, 0, none⟩) n n) (w.alloc (.cells (madeCells stateZ (n * 5)) 152)) := by
  obtain ⟨i0, hi0, hz0, hz1, hz2⟩ := info_parts Tryz.infoState
  have h := run_make (P := Tryz.prog) w 146 152 i0 (.agg stateZ) Tryz.underlying146 hi0 hz0 .i64 .i64 (n : Int) (n : Int) (by omega) (Int.le_refl _) (by rw [hz2]; omega) (by omega)
  rw [hz1] at h
  exact h

set_option maxHeartbeats 400000 in
theorem load_in (mb wb : Nat) (m : Mem) (a : Int) (w : World) (h : MemAt w mb wb m) (h0 : 0 ≤ a) (h1 : a < m.length) :
    Calls Tryz.prog 90 #[.pointer (some ⟨mb, 0, none⟩), .int .i64 a] w fun e w' => e = .returned (.tuple #[.int .i64 (rdM m a), .int .i64 0]) ∧ w' = w := by
  have hc := h.cellW a h0 h1
  go_enter Tryz.func90, Tryz.ntmps90
  go_wp2_with (go_at_call 167; refine (at_in mb wb m a _ h h0 h1).mono ?_; rintro e w' ⟨rfl, rfl⟩)
  go_ret2
  exact ⟨rfl, rfl⟩

set_option maxRecDepth 100000 in
set_option maxHeartbeats 3200000 in
/-- Whom a core runs at first. -/
theorem boxFirst_any (bb : Nat) (sT sO v1 v2 : Value) (W : Int) (mb wb : Nat) (m : Mem) (r0 r1 : Int) (t0 t1 ths : Value) (pend : Int) (hv : Value) (core : Int) (hc : core = 0 ∨ core = 1) (w : World)
    (h : w.heap[bb]? = some (.cells (boxArr sT sO v1 v2 W mb r0 r1 t0 t1 ths pend hv) 150 (0, 0))) (hm : MemAt w mb wb m) (hl : 51 ≤ m.length) :
    Calls Tryz.prog 93 #[.pointer (some ⟨bb, 0, none⟩), .int .i64 core] w fun e w' => e = .returned (.int .i64 (wrap64 (rdM m (3 + 2 * core) - 1))) ∧ ∃ n, w.drewN n = w' := by
  have r := row_of h
  unfold boxArr at r
  have L3 := Lib.hid (fun n => load_in mb wb m 3 (w.drewN n) (hm.kept rfl rfl) (by omega) (by omega))
  have L5 := Lib.hid (fun n => load_in mb wb m 5 (w.drewN n) (hm.kept rfl rfl) (by omega) (by omega))
  clear h hm
  rcases hc with rfl | rfl
  · go_enter Tryz.func93, Tryz.ntmps93
    go_wp2_with fail
    go_quiet ((go_at_call 90; exact Calls.quiet_of_same (L3.out _)))
    go_wp2
    go_ret
    exact ⟨rfl, _, rfl⟩
  · go_enter Tryz.func93, Tryz.ntmps93
    go_wp2_with fail
    go_quiet ((go_at_call 90; exact Calls.quiet_of_same (L5.out _)))
    go_wp2
    go_ret
    exact ⟨rfl, _, rfl⟩

set_option maxRecDepth 100000 in
set_option maxHeartbeats 1600000 in
theorem boxNew_no (P : PartD) (pv : Value) (F : Nat → Prop) (hok : PartOk P) (hw : partWrong P ≠ 0) (w : World) (h : PartAt w F pv P) :
    Calls Tryz.prog 43 #[pv] w fun e w' => ∃ ec, e = .returned (.tuple #[.pointer none, .int .i64 ec]) ∧ ¬ ec = 0 ∧ Below w.heap.size w w' := by
  have HO := Lib.hid (fun (W : World) (hb : Below w.heap.size w W) => planOf_no P pv F hok hw W (h.kept (fun k hk _ => hb.block k hk)))
  obtain ⟨v1, v3, rfl, h1, h2⟩ := h
  obtain ⟨A1, c1, rfl⟩ := h1.slice
  obtain ⟨A2, c2, rfl⟩ := ObjsAt.slice h2
  unfold zeroPlan at HO
  clear h1 h2 hok hw
  go_enter Tryz.func43, Tryz.ntmps43
  go_wp2_with fail
  go_at_call 70
  refine (HO.out _ ((Below.refl _ _).alloc (Nat.le_refl _) _)).mono ?_
  rintro e w3 ⟨rfl, hb3⟩
  have HB3 := Lib.hid (below_end ((Below.refl _ _).alloc (Nat.le_refl _) _) (Nat.le_refl _) hb3 : Below w.heap.size w w3)
  clear hb3
  go_wp2
  go_ret2
  exact ⟨_, rfl, by omega, HB3.out.alloc HB3.out.size _⟩

set_option maxRecDepth 100000 in
set_option maxHeartbeats 8000000 in
theorem boxNew_yes (P : PartD) (pv : Value) (F0 : Nat → Prop) (hok : PartOk P) (hw : partWrong P = 0) (w : World) (h0 : PartAt w F0 pv P) :
    Calls Tryz.prog 43 #[pv] w fun e w' => ∃ F bb mb wb sb sT sO v1 v2, e = .returned (.tuple #[.pointer (some ⟨bb, 0, none⟩), .int .i64 0]) ∧
      w'.heap[bb]? = some (.cells (boxArr sT sO v1 v2 (planWords P) mb (wrap64 (rdM (bootM P) 3 - 1)) (wrap64 (rdM (bootM P) 5 - 1)) (.pointer none) (.pointer none) (.slice (some ⟨sb, 0, none⟩) P.thr.length P.thr.length) 0 (.slice none 0 0)) 150 (0, 0)) ∧
      PlanVal w' F (.agg (planArr sT sO v1 v2 (planWords P))) P ∧ MemAt w' mb wb (bootM P) ∧ w'.heap[sb]? = some (.cells (madeCells stateZ (P.thr.length * 5)) 152 (0, 0)) ∧ Below w.heap.size w w' ∧
      (w.heap.size ≤ bb ∧ w.heap.size ≤ mb ∧ w.heap.size ≤ wb ∧ w.heap.size ≤ sb) ∧ (bb ≠ mb ∧ bb ≠ wb ∧ bb ≠ sb ∧ sb ≠ mb ∧ sb ≠ wb) ∧ ∀ k, F k → k < w'.heap.size ∧ k ≠ bb ∧ k ≠ mb ∧ k ≠ wb ∧ k ≠ sb := by
  obtain ⟨FP, hFl, h⟩ : ∃ F : Nat → Prop, (∀ k, F k → k < w.heap.size) ∧ PartAt w F pv P := ⟨_, fun k hk => hk.2, h0.inn⟩
  have HO := Lib.hid (fun (W : World) (hb : Below w.heap.size w W) => planOf_yes P pv FP hok hw W (h.kept (fun k hk _ => hb.block k hk)))
  obtain ⟨q6, q1, q8, qp, qo⟩ := partRight hw
  have QP := Lib.hid qp
  have QO := Lib.hid qo
  obtain ⟨v1, v3, rfl, h1, h2⟩ := h
  obtain ⟨A1, c1, rfl⟩ := h1.slice
  obtain ⟨A2, c2, rfl⟩ := ObjsAt.slice h2
  have hmk := make_states P.thr.length (by omega)
  clear h1 h2 hok hFl hw h0 qp qo
  go_enter Tryz.func43, Tryz.ntmps43
  go_wp2_with fail
  go_at_call 70
  refine (HO.out _ ((Below.refl _ _).alloc (Nat.le_refl _) _)).mono ?_
  rintro e w3 ⟨pv, rfl, hP, hb3⟩
  rw [World.size_alloc] at hP
  replace hP := hP.inn
  have hP0 := hP
  obtain ⟨sT, sO, u1, u2, rfl, g1, g2, g3⟩ := hP
  obtain ⟨B1, d1, e1⟩ := g1.slice
  obtain ⟨B2, d2, e2⟩ := g2.slice
  obtain ⟨x1, x2, e0, g5, g6⟩ := g3
  cases e0
  obtain ⟨B3, d3, rfl⟩ := g5.slice
  obtain ⟨B4, d4, rfl⟩ := ObjsAt.slice g6
  rw [thAts_length] at e1
  rw [obAts_length] at e2
  subst e1 e2
  have hsz : w.heap.size < w3.heap.size := by have := hb3.size; rw [World.size_alloc] at this; omega
  have HP := Lib.hid hP0
  have p1 := fun k => (World.cell?_of_block (a := ⟨w.heap.size, k, none⟩) (hb3.block w.heap.size (by simp))).trans (row_of (heap_alloc_new w (.cells #[.slice A1 P.thr.length c1, .slice A2 P.obj.length c2] 25)) k)
  have HB3 := Lib.hid (below_end ((Below.refl _ _).alloc (Nat.le_refl _) _) (Nat.le_refl _) hb3 : Below w.heap.size w w3)
  clear hb3 hP0 g1 g2 g5 g6 HO
  simp only [planArr] at HP ⊢
  obtain ⟨w4, hW4⟩ : ∃ x, x = w3.alloc (.cells #[.int .i64 0, .int .i64 2, .int .i64 4, .int .i64 3, .int .i64 5, .int .i64 6, .int .i64 8, .int .i64 41, .int .i64 43, .slice B1 P.thr.length d1, .slice B2 P.obj.length d2, .int .i64 (planWords P), .slice B3 P.thr.length d3, .slice B4 P.obj.length d4] 61) := ⟨_, rfl⟩
  have hs4 : w4.heap.size = w3.heap.size + 1 := by rw [hW4, World.size_alloc]
  have hq4 : w4.heap[w3.heap.size]? = some (.cells #[.int .i64 0, .int .i64 2, .int .i64 4, .int .i64 3, .int .i64 5, .int .i64 6, .int .i64 8, .int .i64 41, .int .i64 43, .slice B1 P.thr.length d1, .slice B2 P.obj.length d2, .int .i64 (planWords P), .slice B3 P.thr.length d3, .slice B4 P.obj.length d4] 61 (0, 0)) := by rw [hW4]; exact heap_alloc_new _ _
  have HP4 := Lib.hid (HP.out.kept (w' := w4) (fun k hk hF => by rw [hW4]; exact Below.heap_alloc _ _ _ hk))
  have HB4 := Lib.hid (show Below w.heap.size w w4 by rw [hW4]; exact HB3.out.alloc (by omega) _)
  have r1 : ∀ k, w4.cell? ⟨w.heap.size, k, none⟩ = #[.slice A1 P.thr.length c1, .slice A2 P.obj.length c2][k]? := by rw [hW4]; exact keepAllC p1 hsz
  have r4 := row_of hq4
  have HW4 := Lib.hid hW4
  have z4 : w3.heap.size < w4.heap.size := by omega
  have z4' : w.heap.size < w4.heap.size := by omega
  have y4 : w3.heap.size < (w4.alloc (.cells (madeCells stateZ (P.thr.length * 5)) 152)).heap.size := by rw [World.size_alloc]; omega
  have y4' : w.heap.size < (w4.alloc (.cells (madeCells stateZ (P.thr.length * 5)) 152)).heap.size := by rw [World.size_alloc]; omega
  have a4 := keepAllC (o := .cells (madeCells stateZ (P.thr.length * 5)) 152) r4 z4
  have a4' := keepAllC (o := .cells (madeCells stateZ (P.thr.length * 5)) 152) r1 z4'
  clear hW4 hq4 p1
  go_wp2_with fail
  rw [← HW4.out]
  have HBOOT := Lib.hid (fun (W : World) (hb : Below w4.heap.size w4 W) => planBoot_any P _ _ q6 q8 QP.out QO.out W (HP4.out.kept (fun k hk _ => hb.block k hk)))
  go_cut [6] (fun x wx => ∃ bb mb wb sb, x = .pointer (some ⟨bb, 0, none⟩) ∧ Hid (wx.heap[bb]? = some (.cells (boxArr (.slice B1 P.thr.length d1) (.slice B2 P.obj.length d2) (.slice B3 P.thr.length d3) (.slice B4 P.obj.length d4) (planWords P) mb 0 0 (.pointer none) (.pointer none) (.slice (some ⟨sb, 0, none⟩) P.thr.length P.thr.length) 0 (.slice none 0 0)) 150 (0, 0))) ∧ Hid (MemAt wx mb wb (bootM P)) ∧
    Hid (wx.heap[sb]? = some (.cells (madeCells stateZ (P.thr.length * 5)) 152 (0, 0))) ∧ Hid (Below w4.heap.size w4 wx) ∧ Hid (w4.heap.size ≤ bb ∧ w4.heap.size ≤ mb ∧ w4.heap.size ≤ wb ∧ w4.heap.size ≤ sb) ∧ Hid (bb ≠ mb ∧ bb ≠ wb ∧ bb ≠ sb ∧ sb ≠ mb ∧ sb ≠ wb))
  case first =>
    go_region_held3 (fun w' => (∀ k, w'.cell? ⟨w3.heap.size, k, none⟩ = #[.int .i64 0, .int .i64 2, .int .i64 4, .int .i64 3, .int .i64 5, .int .i64 6, .int .i64 8, .int .i64 41, .int .i64 43, .slice B1 P.thr.length d1, .slice B2 P.obj.length d2, .int .i64 (planWords P), .slice B3 P.thr.length d3, .slice B4 P.obj.length d4][k]?) ∧ (∀ k, w'.cell? ⟨w.heap.size, k, none⟩ = #[.slice A1 P.thr.length c1, .slice A2 P.obj.length c2][k]?))
      (((try dsimp only); (try go_split_ands); (with_reducible repeat' apply And.intro); all_goals (with_reducible first | assumption | exact keepDrC (by assumption) | exact keepAllC (by assumption) (by assumption) | exact keepAllC (by assumption) (lt_allocW (by assumption)) | exact keepDrC (keepAllC (by assumption) (by assumption)) | exact keepAllC (keepDrC (by assumption)) (by assumption) | exact keepDrC (keepAllC (by assumption) (lt_allocW (by assumption))))))
      (first
        | ((try go_split_ands); go_at_call 71; refine (HBOOT.out _ ((Below.refl _ _).drew)).mono ?_; rintro e w5 ⟨mb, wb, rfl, hm, hb5, lm, lw⟩; have HB5 := Lib.hid (⟨hb5.os, hb5.tape, hb5.output, hb5.size, hb5.block⟩ : Below (w4).heap.size (w4) w5); have hr5 := fun k => (World.cell?_of_block (w := w4) (w' := w5) (a := ⟨w3.heap.size, k, none⟩) (hb5.block w3.heap.size z4)).trans (r4 k); have hr5' := fun k => (World.cell?_of_block (w := w4) (w' := w5) (a := ⟨w.heap.size, k, none⟩) (hb5.block w.heap.size z4')).trans (r1 k); have z5 := Nat.lt_of_lt_of_le z4 hb5.size; have z5' := Nat.lt_of_lt_of_le z4' hb5.size; have HM5 := Lib.hid hm; have HL5 := Lib.hid (⟨lm, lw⟩ : (w4).heap.size ≤ mb ∧ (w4).heap.size ≤ wb); clear hm hb5 lm lw)
        | ((try go_split_ands); go_at_call 71; refine (HBOOT.out _ (((Below.refl _ _).alloc (Nat.le_refl _) (.cells (madeCells stateZ (P.thr.length * 5)) 152)).drew)).mono ?_; rintro e w5 ⟨mb, wb, rfl, hm, hb5, lm, lw⟩; have HB5 := Lib.hid (⟨hb5.os, hb5.tape, hb5.output, hb5.size, hb5.block⟩ : Below (w4.alloc (.cells (madeCells stateZ (P.thr.length * 5)) 152)).heap.size (w4.alloc (.cells (madeCells stateZ (P.thr.length * 5)) 152)) w5); have hr5 := fun k => (World.cell?_of_block (w := w4.alloc (.cells (madeCells stateZ (P.thr.length * 5)) 152)) (w' := w5) (a := ⟨w3.heap.size, k, none⟩) (hb5.block w3.heap.size y4)).trans (a4 k); have hr5' := fun k => (World.cell?_of_block (w := w4.alloc (.cells (madeCells stateZ (P.thr.length * 5)) 152)) (w' := w5) (a := ⟨w.heap.size, k, none⟩) (hb5.block w.heap.size y4')).trans (a4' k); have z5 := Nat.lt_of_lt_of_le y4 hb5.size; have z5' := Nat.lt_of_lt_of_le y4' hb5.size; have HM5 := Lib.hid hm; have HL5 := Lib.hid (⟨lm, lw⟩ : (w4.alloc (.cells (madeCells stateZ (P.thr.length * 5)) 152)).heap.size ≤ mb ∧ (w4.alloc (.cells (madeCells stateZ (P.thr.length * 5)) 152)).heap.size ≤ wb); clear hm hb5 lm lw))
    all_goals
      go_wp2_with fail
      go_meet
      have l1 := lt_of_block HM5.out.st
      have l2 := lt_of_block HM5.out.ws
      have l3 := HM5.out.ne
      have l4 := HL5.out
      have l5 := HB5.out.size
      (try simp only [World.size_alloc] at l4 l5)
      first
      | (have hB : Below w5.heap.size w5 ((w5.alloc (.cells (madeCells stateZ (P.thr.length * 5)) 152)).alloc (.cells (boxArr (.slice B1 P.thr.length d1) (.slice B2 P.obj.length d2) (.slice B3 P.thr.length d3) (.slice B4 P.obj.length d4) (planWords P) mb 0 0 (.pointer none) (.pointer none) (.slice (some ⟨w5.heap.size, 0, none⟩) P.thr.length P.thr.length) 0 (.slice none 0 0)) 150)) := ((Below.refl _ _).alloc (Nat.le_refl _) _).alloc (by simp) _
         exact ⟨_, mb, wb, _, rfl, Lib.hid (two_second w5 _ _), Lib.hid (HM5.out.kept (hB.block mb l1) (hB.block wb l2)), Lib.hid (two_first w5 _ _), Lib.hid (below_end HB5.out (Nat.le_refl _) hB), Lib.hid (by omega), Lib.hid (by omega)⟩)
      | (have hB : Below w5.heap.size w5 (w5.alloc (.cells (boxArr (.slice B1 P.thr.length d1) (.slice B2 P.obj.length d2) (.slice B3 P.thr.length d3) (.slice B4 P.obj.length d4) (planWords P) mb 0 0 (.pointer none) (.pointer none) (.slice (some ⟨w3.heap.size + 1, 0, none⟩) P.thr.length P.thr.length) 0 (.slice none 0 0)) 150)) := (Below.refl _ _).alloc (Nat.le_refl _) _
         have k0 : w5.heap[w3.heap.size + 1]? = some (.cells (madeCells stateZ (P.thr.length * 5)) 152 (0, 0)) := by
           rw [← hs4]
           exact (HB5.out.block w4.heap.size (by simp)).trans (heap_alloc_new w4 _)
         exact ⟨_, mb, wb, _, rfl, Lib.hid (heap_alloc_new w5 _), Lib.hid (HM5.out.kept (hB.block mb l1) (hB.block wb l2)), Lib.hid ((hB.block (w3.heap.size + 1) (by omega)).trans k0), Lib.hid (below_end ((Below.refl _ _).alloc (Nat.le_refl _) _) (Nat.le_refl _) (below_end HB5.out (Nat.le_refl _) hB)), Lib.hid (by omega), Lib.hid (by omega)⟩)
  case rest =>
  obtain ⟨bb, mb, wb, sb, rfl, HX, HM, HS, HBX, HL, HN⟩ := hcut
  obtain ⟨w5, rfl⟩ : ∃ x, x = wc := ⟨wc, rfl⟩
  have lbm : 51 ≤ (bootM P).length := by rw [bootM_length]; unfold planWords; omega
  have F0 := Lib.hid (fun n => boxFirst_any bb _ _ _ _ _ mb wb (bootM P) _ _ _ _ _ _ _ 0 (.inl rfl) (w5.drewN n) HX.out (HM.out.kept rfl rfl) lbm)
  have F1 := Lib.hid (fun n => boxFirst_any bb _ _ _ _ _ mb wb (bootM P) _ _ _ _ _ _ _ 1 (.inr rfl) (w5.drewN n) HX.out (HM.out.kept rfl rfl) lbm)
  have p5 : ∀ n k, (w5.drewN n).cell? ⟨bb, k, none⟩ = (boxArr (.slice B1 P.thr.length d1) (.slice B2 P.obj.length d2) (.slice B3 P.thr.length d3) (.slice B4 P.obj.length d4) (planWords P) mb 0 0 (.pointer none) (.pointer none) (.slice (some ⟨sb, 0, none⟩) P.thr.length P.thr.length) 0 (.slice none 0 0))[k]? := fun n => row_of HX.out
  have f5 : ∀ n k, (w5.drewN n).frozen? ⟨bb, k, none⟩ = false := fun n => free_of_block HX.out
  unfold boxArr at p5
  go_wp2_with fail
  go_at_call 93
  refine (F0.out 0).mono ?_
  rintro e w6 ⟨rfl, n1, rfl⟩
  go_wp2_with fail
  go_at_call 93
  refine (F1.out n1).mono ?_
  rintro e w6 ⟨rfl, n2, rfl⟩
  obtain ⟨w7, hw7⟩ : ∃ x, x = (w5.drewN n1).drewN n2 := ⟨_, rfl⟩
  have p7 := fun k => (show w7.cell? ⟨bb, k, none⟩ = w5.cell? ⟨bb, k, none⟩ by subst hw7; rfl).trans (p5 0 k)
  have f7 : ∀ k, w7.frozen? ⟨bb, k, none⟩ = false := fun k => by subst hw7; exact f5 0 k
  have HW7 := Lib.hid hw7
  rw [← hw7]
  have b7 : ∀ k : Nat, w7.heap[k]? = w5.heap[k]? := fun k => by subst hw7; rfl
  have e7 : w7.os = w5.os ∧ w7.tape = w5.tape ∧ w7.output = w5.output ∧ w7.heap.size = w5.heap.size := by subst hw7; exact ⟨rfl, rfl, rfl, rfl⟩
  clear hw7 p5 f5
  go_wp2
  go_ret2
  have hs7 := ((SameBut.refl bb w7).set 15 (.int .i64 (wrap64 (rdM (bootM P) 3 - 1)))).set 16 (.int .i64 (wrap64 (rdM (bootM P) 5 - 1)))
  have hL := HL.out
  have hN := HN.out
  have hB := HBX.out
  have l1 := lt_of_block HM.out.st
  have l2 := lt_of_block HM.out.ws
  have hbs := hB.size
  refine ⟨_, bb, mb, wb, sb, _, _, _, _, rfl, ?_, HP4.out.kept (fun k hk hF => (hs7.block k (by omega)).trans ((b7 k).trans (hB.block k hk))), HM.out.kept ((hs7.block _ (by omega)).trans (b7 _)) ((hs7.block _ (by omega)).trans (b7 _)), (hs7.block _ (by omega)).trans ((b7 _).trans HS.out), ?_, by omega, by omega, ?_⟩
  · have k := block_setCell (block_setCell ((b7 bb).trans HX.out) 15 (.int .i64 (wrap64 (rdM (bootM P) 3 - 1)))) 16 (.int .i64 (wrap64 (rdM (bootM P) 5 - 1)))
    rw [k]
    unfold boxArr
    simp
  · refine below_end HB4.out (by omega) (hB.trans ⟨hs7.os.trans e7.1, hs7.tape.trans e7.2.1, hs7.output.trans e7.2.2.1, by rw [hs7.size, e7.2.2.2]; exact Nat.le_refl _, fun k hk => (hs7.block k (by omega)).trans (b7 k)⟩)
  · rintro k ⟨k1, k2⟩
    rw [hs7.size, e7.2.2.2]
    omega
end Go.Proofs.YtefbdcmodfbpbaaGreat
