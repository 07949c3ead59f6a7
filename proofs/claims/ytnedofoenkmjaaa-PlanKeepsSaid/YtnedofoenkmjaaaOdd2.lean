/-
  septumlaw13.of; the walk of ThreadOdd.
-/
import Derived.Test.YtnedofoenkmjaaaOdd
set_option linter.unusedVariables false
set_option linter.unusedSimpArgs false
namespace Go.Proofs.Ytnedofoenkmjaaa
open Go.RowKit

set_option maxRecDepth 100000 in
set_option maxHeartbeats 1600000 in
theorem of13_no (P : PartD) (v : Value) (F : Nat → Prop) (hok : PartOk P) (hw : partWrong P ≠ 0) (w : World) (h : PartAt w F v P) :
    Calls Try.prog 20 #[v] w fun e w' => e = .returned (.tuple #[zeroPlan, .bool false]) ∧ Below w.heap.size w w' := by
  have HO := Lib.hid (fun (W : World) (hb : Below w.heap.size w W) => planOf_no P v F hok hw W (h.kept (fun k hk _ => hb.block k hk)))
  obtain ⟨v1, v2, rfl, h1, h2⟩ := h
  obtain ⟨A1, c1, rfl⟩ := h1.slice
  obtain ⟨A2, c2, rfl⟩ := ObjsAt.slice h2
  clear h1 h2 hok hw
  unfold zeroPlan at HO ⊢
  go_enter Try.func20, Try.ntmps20
  go_wp2_with fail
  go_at_call 13
  refine (HO.out _ (((Below.refl _ _).alloc (Nat.le_refl _) _).alloc (by simp) _)).mono ?_
  rintro e w1 ⟨rfl, hb⟩
  obtain ⟨p1, p2⟩ := below_cells hb (b := w.heap.size + 1) (by simp) (two_second _ _ _)
  have hb1 : Below w.heap.size w w1 := (((Below.refl _ _).alloc (Nat.le_refl _) _).alloc (by simp) _).trans (hb.mono (by simp <;> omega))
  have hsz : w.heap.size + 1 < w1.heap.size := by have := hb.size; simp at this; omega
  have Hb1 := Lib.hid hb1
  clear hb hb1
  go_wp2
  refine bodyPost_ret (v := .tuple #[.agg #[.int .i64 0, .int .i64 0, .int .i64 0, .int .i64 0, .int .i64 0, .int .i64 0, .int .i64 0, .int .i64 0, .int .i64 0, .slice none 0 0, .slice none 0 0, .int .i64 0, .slice none 0 0, .slice none 0 0], .bool false]) (by simp [results, Try.results20, go_sem, p1, hsz]) rfl ⟨rfl, ?_⟩
  refine Below.alloc ?_ (by simp only [World.size_setCell]; omega) _
  iterate 14 refine Below.setCell ?_ (by dsimp only; omega) _
  exact Hb1.out

set_option maxRecDepth 100000 in
set_option maxHeartbeats 1600000 in
theorem of13_yes (P : PartD) (v : Value) (F : Nat → Prop) (hok : PartOk P) (hw : partWrong P = 0) (w : World) (h : PartAt w F v P) :
    Calls Try.prog 20 #[v] w fun e w' => ∃ pv, e = .returned (.tuple #[pv, .bool true]) ∧ PlanVal w' (fun k => w.heap.size ≤ k) pv P ∧ Below w.heap.size w w' := by
  have HO := Lib.hid (fun (W : World) (hb : Below w.heap.size w W) => planOf_yes P v F hok hw W (h.kept (fun k hk _ => hb.block k hk)))
  obtain ⟨v1, v2, rfl, h1, h2⟩ := h
  obtain ⟨A1, c1, rfl⟩ := h1.slice
  obtain ⟨A2, c2, rfl⟩ := ObjsAt.slice h2
  clear h1 h2 hok hw
  go_enter Try.func20, Try.ntmps20
  go_wp2_with fail
  go_at_call 13
  refine (HO.out _ (((Below.refl _ _).alloc (Nat.le_refl _) _).alloc (by simp) _)).mono ?_
  rintro e w1 ⟨pv, rfl, hP, hb⟩
  obtain ⟨p1, p2⟩ := below_cells hb (b := w.heap.size + 1) (by simp) (two_second _ _ _)
  have hb1 : Below w.heap.size w w1 := (((Below.refl _ _).alloc (Nat.le_refl _) _).alloc (by simp) _).trans (hb.mono (by simp <;> omega))
  have hsz : w.heap.size + 1 < w1.heap.size := by have := hb.size; simp at this; omega
  have hP0 := hP
  obtain ⟨sT, sO, v1, v2, rfl, h1, h2, h3⟩ := hP
  obtain ⟨B1, d1, e1⟩ := h1.slice
  obtain ⟨B2, d2, e2⟩ := h2.slice
  obtain ⟨u1, u2, e0, h5, h6⟩ := h3
  cases e0
  obtain ⟨B3, d3, rfl⟩ := h5.slice
  obtain ⟨B4, d4, rfl⟩ := ObjsAt.slice h6
  subst e1 e2
  have HP := Lib.hid hP0
  have Hb1 := Lib.hid hb1
  clear hb hb1 hP0 h1 h2 h5 h6
  simp only [planArr] at HP ⊢
  go_wp2
  refine bodyPost_ret (v := .tuple #[.agg (planArr (.slice B1 (thAts P.thr.length).length d1) (.slice B2 (obAts P.thr.length P.obj.length).length d2) (.slice B3 P.thr.length d3) (.slice B4 P.obj.length d4) (planWords P)), .bool true]) (by simp [results, Try.results20, go_sem, p1, hsz, planArr]) rfl ⟨_, rfl, ?_, ?_⟩
  · refine PlanVal.wider (PlanVal.kept HP.out (fun k hk hF => ?_)) (fun k hk => ?_)
    · simp only [World.size_alloc] at hF
      refine (Below.heap_alloc _ _ _ (by simp only [World.size_setCell]; exact hk)).trans ?_
      iterate 14 rw [block_setCell_other _ _ _ (by omega)]
    · simp only [World.size_alloc] at hk
      omega
  · refine Below.alloc ?_ (by simp only [World.size_setCell]; omega) _
    iterate 14 refine Below.setCell ?_ (by dsimp only; omega) _
    exact Hb1.out
end Go.Proofs.Ytnedofoenkmjaaa
