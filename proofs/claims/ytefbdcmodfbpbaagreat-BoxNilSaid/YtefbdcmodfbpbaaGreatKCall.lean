/-
  kernel.Call of a Nop, and of a Clock: the op that it makes.
-/
import Derived.Test.YtefbdcmodfbpbaaGreatCallK
import Derived.Test.YtefbdcmodfbpbaaGreatPlanE
import Derived.Test.YtefbdcmodfbpbaaGreatRun
import Derived.Test.YtefbdcmodfbpbaaGreatOpen
import Derived.Laws.EntriesVeiled
set_option linter.unusedVariables false
set_option linter.unusedSimpArgs false
namespace Go.Proofs.YtefbdcmodfbpbaaGreat
open Go.RowKit

/-- The cells of an op. -/
def opArr (sT sO v1 v2 : Value) (W core t kind handle a b : Int) (wv : Value) (timeout o : Int) (does body : Value) (code count : Int) (ws : Value) (blk spn : Bool) (tk : Int) (mv : Bool) (rn : Int) (an stir : Bool) : Array Value :=
  #[.int .i64 0, .int .i64 2, .int .i64 4, .int .i64 3, .int .i64 5, .int .i64 6, .int .i64 8, .int .i64 41, .int .i64 43, sT, sO, .int .i64 W, v1, v2, .int .i64 core, .int .i64 t, .int .i64 kind, .int .i64 handle, .int .i64 a, .int .i64 b, wv, .int .i64 timeout, .int .i64 o, does, body, .int .i64 code, .int .i64 count, ws, .bool blk, .bool spn, .int .i64 tk, .bool mv, .int .i64 rn, .bool an, .bool stir]
def nilS : Value := .slice none 0 0

theorem kc_next {w1 w2 : World} {b0 b1 ob : Nat} {o1 o2 o3 : Obj} (h : w1.heap[b0]? = some o1 ∧ w1.heap[b1]? = some o2 ∧ w1.heap[ob]? = some o3) (hb : Below w1.heap.size w1 w2) : w2.heap[b0]? = some o1 ∧ w2.heap[b1]? = some o2 ∧ w2.heap[ob]? = some o3 :=
  ⟨(hb.block _ (Array.getElem?_eq_some_iff.1 h.1).1).trans h.1, (hb.block _ (Array.getElem?_eq_some_iff.1 h.2.1).1).trans h.2.1, (hb.block _ (Array.getElem?_eq_some_iff.1 h.2.2).1).trans h.2.2⟩
theorem kc_set {w1 : World} {b0 b1 ob : Nat} {o1 o2 : Obj} {cs : Array Value} {t : TypeId} (k : Nat) (v : Value) (h : w1.heap[b0]? = some o1 ∧ w1.heap[b1]? = some o2 ∧ w1.heap[ob]? = some (.cells cs t (0, 0))) (n0 : b0 ≠ ob) (n1 : b1 ≠ ob) :
    (w1.setCell ⟨ob, k, none⟩ v).heap[b0]? = some o1 ∧ (w1.setCell ⟨ob, k, none⟩ v).heap[b1]? = some o2 ∧ (w1.setCell ⟨ob, k, none⟩ v).heap[ob]? = some (.cells (cs.setIfInBounds k v) t (0, 0)) :=
  ⟨(block_setCell_other _ _ _ n0).trans h.1, (block_setCell_other _ _ _ n1).trans h.2.1, block_setCell h.2.2 k v⟩
theorem kc_rows {w1 : World} {b0 b1 ob : Nat} {c0 c1 c2 : Array Value} {t0 t1 t2 : TypeId} (h : w1.heap[b0]? = some (.cells c0 t0 (0, 0)) ∧ w1.heap[b1]? = some (.cells c1 t1 (0, 0)) ∧ w1.heap[ob]? = some (.cells c2 t2 (0, 0))) :
    (∀ k, w1.cell? ⟨b0, k, none⟩ = c0[k]?) ∧ (∀ k, w1.cell? ⟨b1, k, none⟩ = c1[k]?) ∧ (∀ k, w1.cell? ⟨ob, k, none⟩ = c2[k]?) ∧ (∀ k, w1.frozen? ⟨ob, k, none⟩ = false) ∧ b0 < w1.heap.size ∧ b1 < w1.heap.size ∧ ob < w1.heap.size :=
  ⟨row_of h.1, row_of h.2.1, row_of h.2.2, free_of_block h.2.2, lt_of_block h.1, lt_of_block h.2.1, lt_of_block h.2.2⟩
theorem keepAllC {w : World} {b : Nat} {o : Obj} {cs : Array Value} (h : ∀ k, w.cell? ⟨b, k, none⟩ = cs[k]?) (hb : b < w.heap.size) : ∀ k, (w.alloc o).cell? ⟨b, k, none⟩ = cs[k]? := fun k => (World.cell?_of_block (w := w) (w' := w.alloc o) (a := ⟨b, k, none⟩) (Below.heap_alloc _ _ _ hb)).trans (h k)
theorem keepDrC {w : World} {b : Nat} {cs : Array Value} (h : ∀ k, w.cell? ⟨b, k, none⟩ = cs[k]?) : ∀ k, w.drew.cell? ⟨b, k, none⟩ = cs[k]? := h

set_option maxRecDepth 100000 in
set_option maxHeartbeats 8000000 in
theorem kcallClock_any (P : PartD) (pv : Value) (F : Nat → Prop) (hn : P.thr.length ≤ 6) (core : Int) (t : Nat) (ht : t < P.thr.length) (h a b tm : Int) (xs : List Int) (hxs : xs.length ≤ 1000) (wv : Value) (F2 : Nat → Prop) (w : World) (hP : PlanVal w F pv P) (hw : IntsAt w F2 wv xs) :
    Calls Tryz.prog 28 #[pv, .int .i64 core, .int .i64 t, .agg #[.int .i64 23, .int .i64 h, .int .i64 a, .int .i64 b, wv, .int .i64 tm]] w fun e w' => ∃ ob sT sO v1 v2 A c, pv = .agg (planArr sT sO v1 v2 (planWords P)) ∧ e = .returned (.pointer (some ⟨ob, 0, none⟩)) ∧ w.heap.size ≤ ob ∧ Below w.heap.size w w' ∧
      w'.heap[ob]? = some (.cells (opArr sT sO v1 v2 (planWords P) core t 23 h a b (.slice A xs.length c) tm 0 .nilFunc (bound 81 (.pointer (some ⟨ob, 0, none⟩))) 0 0 nilS false false 0 false 0 false false) 133 (0, 0)) := by
  have HP := Lib.hid hP
  obtain ⟨sT, sO, v1, v2, rfl, g1, g2, g3⟩ := hP
  obtain ⟨B1, d1, e1⟩ := g1.slice
  obtain ⟨B2, d2, e2⟩ := g2.slice
  obtain ⟨x1, x2, e0, g5, g6⟩ := g3
  cases e0
  obtain ⟨B3, d3, rfl⟩ := g5.slice
  obtain ⟨B4, d4, rfl⟩ := ObjsAt.slice g6
  rw [thAts_length] at e1
  rw [obAts_length] at e2
  subst e1 e2
  obtain ⟨A3, c3, rfl⟩ := IntsAt.slice hw
  have HC := Lib.hid (fun (W : World) (hb : Below w.heap.size w W) => cloneCall_any ⟨23, h, a, b, xs, tm⟩ (.slice A3 xs.length c3) F2 hxs W (Reads.kept hw (fun k hk _ => hb.block k hk)))
  have HO := Lib.hid (fun (W : World) => objectPlain_any ⟨23, h, a, b, xs, tm⟩ (by unfold PlainK; simp) .nilFunc B3 B4 P.thr.length P.obj.length d3 d4 W A3 xs.length c3)
  have HK := Lib.hid (fun (W : World) (hb : Below w.heap.size w W) => checkPlain_any ⟨23, h, a, b, xs, tm⟩ (by unfold PlainK; simp) t P F _ ht (by omega) B4 P.obj.length d4 W (g5.kept (w' := W) (fun k hk _ => hb.block k hk)) A3 xs.length c3)
  simp only [callCells] at HC HO HK
  unfold planArr
  clear g1 g2 g5 g6 hw
  have hq : (w.alloc (.cells #[.int .i64 0, .int .i64 2, .int .i64 4, .int .i64 3, .int .i64 5, .int .i64 6, .int .i64 8, .int .i64 41, .int .i64 43, .slice B1 P.thr.length d1, .slice B2 P.obj.length d2, .int .i64 (planWords P), .slice B3 P.thr.length d3, .slice B4 P.obj.length d4] 61)).heap[w.heap.size]? = some (.cells #[.int .i64 0, .int .i64 2, .int .i64 4, .int .i64 3, .int .i64 5, .int .i64 6, .int .i64 8, .int .i64 41, .int .i64 43, .slice B1 P.thr.length d1, .slice B2 P.obj.length d2, .int .i64 (planWords P), .slice B3 P.thr.length d3, .slice B4 P.obj.length d4] 61 (0, 0)) := heap_alloc_new _ _
  obtain ⟨W0, hW0⟩ : ∃ x, x = (w.alloc (.cells #[.int .i64 0, .int .i64 2, .int .i64 4, .int .i64 3, .int .i64 5, .int .i64 6, .int .i64 8, .int .i64 41, .int .i64 43, .slice B1 P.thr.length d1, .slice B2 P.obj.length d2, .int .i64 (planWords P), .slice B3 P.thr.length d3, .slice B4 P.obj.length d4] 61)).alloc (.cells #[.int .i64 23, .int .i64 h, .int .i64 a, .int .i64 b, .slice A3 xs.length c3, .int .i64 tm] 28) := ⟨_, rfl⟩
  have hs0 : W0.heap.size = w.heap.size + 2 := by rw [hW0]; simp
  have hb0 : Below w.heap.size w W0 := by rw [hW0]; exact ((Below.refl _ _).alloc (Nat.le_refl _) _).alloc (by simp) _
  have h00 : W0.heap[w.heap.size]? = some (.cells #[.int .i64 0, .int .i64 2, .int .i64 4, .int .i64 3, .int .i64 5, .int .i64 6, .int .i64 8, .int .i64 41, .int .i64 43, .slice B1 P.thr.length d1, .slice B2 P.obj.length d2, .int .i64 (planWords P), .slice B3 P.thr.length d3, .slice B4 P.obj.length d4] 61 (0, 0)) := by rw [hW0]; exact two_first _ _ _
  have h01 : W0.heap[w.heap.size + 1]? = some (.cells #[.int .i64 23, .int .i64 h, .int .i64 a, .int .i64 b, .slice A3 xs.length c3, .int .i64 tm] 28 (0, 0)) := by rw [hW0]; exact two_second _ _ _
  have HW0 := Lib.hid hW0
  have HB0 := Lib.hid hb0
  have r00 := row_of h00
  have r01 := row_of h01
  have H00 := Lib.hid h00
  have H01 := Lib.hid h01
  have z0 : w.heap.size < W0.heap.size := by omega
  have z1 : w.heap.size + 1 < W0.heap.size := by omega
  clear hW0 hb0 h00 h01 hq
  go_enter Tryz.func28, Tryz.ntmps28
  go_wp2_with fail
  rw [← HW0.out]
  go_region_held3 (fun w' => (∀ k, w'.cell? ⟨w.heap.size, k, none⟩ = #[.int .i64 0, .int .i64 2, .int .i64 4, .int .i64 3, .int .i64 5, .int .i64 6, .int .i64 8, .int .i64 41, .int .i64 43, .slice B1 P.thr.length d1, .slice B2 P.obj.length d2, .int .i64 (planWords P), .slice B3 P.thr.length d3, .slice B4 P.obj.length d4][k]?) ∧ (∀ k, w'.cell? ⟨w.heap.size + 1, k, none⟩ = #[.int .i64 23, .int .i64 h, .int .i64 a, .int .i64 b, .slice A3 xs.length c3, .int .i64 tm][k]?))
    (((try dsimp only); (try go_split_ands); (with_reducible repeat' apply And.intro); all_goals (with_reducible first | assumption | exact keepDrC (by assumption) | exact keepAllC (by assumption) (by assumption))))
    (first
      | ((try go_split_ands); go_at_call 77; refine (HC.out _ HB0.out.drew).mono ?_; rintro e w2 ⟨wv', rfl, hi2, hb2⟩; obtain ⟨A4, c4, rfl⟩ := IntsAt.slice hi2; have HB2 := Lib.hid (⟨hb2.os, hb2.tape, hb2.output, hb2.size, hb2.block⟩ : Below W0.heap.size W0 w2); have r20 := fun k => (World.cell?_of_block (a := ⟨w.heap.size, k, none⟩) (HB2.out.block w.heap.size z0)).trans (r00 k); have r21 := fun k => (World.cell?_of_block (a := ⟨w.heap.size + 1, k, none⟩) (HB2.out.block (w.heap.size + 1) z1)).trans (r01 k); have z20 := Nat.lt_of_lt_of_le z0 HB2.out.size; have z21 := Nat.lt_of_lt_of_le z1 HB2.out.size; clear hi2 hb2))
  all_goals
    obtain ⟨ob, hob⟩ : ∃ x, x = w2.heap.size := ⟨_, rfl⟩
    obtain ⟨w3, hw3⟩ : ∃ x, x = w2.alloc (.cells #[.int .i64 0, .int .i64 2, .int .i64 4, .int .i64 3, .int .i64 5, .int .i64 6, .int .i64 8, .int .i64 41, .int .i64 43, .slice B1 P.thr.length d1, .slice B2 P.obj.length d2, .int .i64 (planWords P), .slice B3 P.thr.length d3, .slice B4 P.obj.length d4, .int .i64 core, .int .i64 t, .int .i64 23, .int .i64 h, .int .i64 a, .int .i64 b, .slice A4 xs.length c4, .int .i64 tm, .int .i64 0, .nilFunc, .nilFunc, .int .i64 0, .int .i64 0, .slice none 0 0, .bool false, .bool false, .int .i64 0, .bool false, .int .i64 0, .bool false, .bool false] 133) := ⟨_, rfl⟩
    have hx3 : w3.heap[w.heap.size]? = _ ∧ w3.heap[w.heap.size + 1]? = _ ∧ w3.heap[ob]? = some (.cells #[.int .i64 0, .int .i64 2, .int .i64 4, .int .i64 3, .int .i64 5, .int .i64 6, .int .i64 8, .int .i64 41, .int .i64 43, .slice B1 P.thr.length d1, .slice B2 P.obj.length d2, .int .i64 (planWords P), .slice B3 P.thr.length d3, .slice B4 P.obj.length d4, .int .i64 core, .int .i64 t, .int .i64 23, .int .i64 h, .int .i64 a, .int .i64 b, .slice A4 xs.length c4, .int .i64 tm, .int .i64 0, .nilFunc, .nilFunc, .int .i64 0, .int .i64 0, .slice none 0 0, .bool false, .bool false, .int .i64 0, .bool false, .int .i64 0, .bool false, .bool false] 133 (0, 0)) :=
      ⟨by rw [hw3, Below.heap_alloc _ _ _ z20, HB2.out.block _ z0, H00.out], by rw [hw3, Below.heap_alloc _ _ _ z21, HB2.out.block _ z1, H01.out], by rw [hw3, hob]; exact heap_alloc_new _ _⟩
    have hne : w.heap.size ≠ ob ∧ w.heap.size + 1 ≠ ob := by have := HB2.out.size; omega
    have hge : w.heap.size + 2 ≤ ob := by have := HB2.out.size; omega
    have HB3 := Lib.hid (show Below w.heap.size w w3 by rw [hw3]; exact (below_end HB0.out (Nat.le_refl _) HB2.out).alloc (by have := HB2.out.size; omega) _)
    have HX3 := Lib.hid hx3
    have HNE := Lib.hid hne
    have HGE := Lib.hid hge
    obtain ⟨r0, r1, r2, f2, y0, y1, y2⟩ := kc_rows hx3
    rw [← hob, ← hw3]
    clear hx3 hne hge hw3 hob r00 r01 r20 r21 z0 z1 z20 z21 HB2 HW0 H00 H01
    have HX4 := Lib.hid (kc_set 24 (bound 78 (.pointer (some ⟨ob, 0, none⟩))) HX3.out HNE.out.1 HNE.out.2)
    have HB4 := Lib.hid (HB3.out.setCell (show w.heap.size ≤ (⟨ob, 24, none⟩ : Addr).block from Nat.le_trans (Nat.le_add_right _ _) HGE.out) (bound 78 (.pointer (some ⟨ob, 0, none⟩))))
    go_wp2_with fail
    go_at_call 58
    refine (HO.out _).mono ?_
    rintro e w5 ⟨rfl, hb5⟩
    have HX5 := Lib.hid (kc_next HX4.out hb5)
    have HB5 := Lib.hid (below_end HB4.out (Nat.le_refl _) hb5)
    clear r0 r1 r2 f2 y0 y1 y2 hb5
    obtain ⟨r0, r1, r2, f2, y0, y1, y2⟩ := kc_rows HX5.out
    clear HX3 HX4 HB3 HB4
    go_wp2_with fail
    go_at_call 26
    refine (HK.out _ HB5.out).mono ?_
    rintro e w6 ⟨rfl, hb6⟩
    have HX6 := Lib.hid (kc_next HX5.out hb6)
    have HB6 := Lib.hid (below_end HB5.out (Nat.le_refl _) hb6)
    clear r0 r1 r2 f2 y0 y1 y2 hb6
    obtain ⟨r0, r1, r2, f2, y0, y1, y2⟩ := kc_rows HX6.out
    clear HX5 HB5
    go_wp2_with fail
    go_ret
    exact ⟨ob, _, _, _, _, _, _, rfl, rfl, Nat.le_trans (Nat.le_add_right _ _) HGE.out, HB6.out.setCell (show w.heap.size ≤ (⟨ob, 24, none⟩ : Addr).block from Nat.le_trans (Nat.le_add_right _ _) HGE.out) _, (kc_set 24 (bound 81 (.pointer (some ⟨ob, 0, none⟩))) HX6.out HNE.out.1 HNE.out.2).2.2⟩

set_option maxRecDepth 100000 in
set_option maxHeartbeats 1600000 in
theorem plainNop_any (ob : Nat) (w : World) (h : w.cell? ⟨ob, 16, none⟩ = some (.int .i64 0)) :
    Calls Tryz.prog 82 #[.pointer (some ⟨ob, 0, none⟩)] w fun e w' => e = .returned (bound 155 (.pointer (some ⟨ob, 0, none⟩))) ∧ w = w' := by
  go_enter Tryz.func82, Tryz.ntmps82
  go_wp2
  go_ret
  exact ⟨rfl, rfl⟩

set_option maxRecDepth 100000 in
set_option maxHeartbeats 8000000 in
theorem kcallNop_any (P : PartD) (pv : Value) (F : Nat → Prop) (hn : P.thr.length ≤ 6) (core : Int) (t : Nat) (ht : t < P.thr.length) (h a b tm : Int) (xs : List Int) (hxs : xs.length ≤ 1000) (wv : Value) (F2 : Nat → Prop) (w : World) (hP : PlanVal w F pv P) (hw : IntsAt w F2 wv xs) :
    Calls Tryz.prog 28 #[pv, .int .i64 core, .int .i64 t, .agg #[.int .i64 0, .int .i64 h, .int .i64 a, .int .i64 b, wv, .int .i64 tm]] w fun e w' => ∃ ob sT sO v1 v2 A c, pv = .agg (planArr sT sO v1 v2 (planWords P)) ∧ e = .returned (.pointer (some ⟨ob, 0, none⟩)) ∧ w.heap.size ≤ ob ∧ Below w.heap.size w w' ∧
      w'.heap[ob]? = some (.cells (opArr sT sO v1 v2 (planWords P) core t 0 h a b (.slice A xs.length c) tm 0 (bound 155 (.pointer (some ⟨ob, 0, none⟩))) (bound 78 (.pointer (some ⟨ob, 0, none⟩))) 0 0 nilS false false 0 false 0 false false) 133 (0, 0)) := by
  have HP := Lib.hid hP
  obtain ⟨sT, sO, v1, v2, rfl, g1, g2, g3⟩ := hP
  obtain ⟨B1, d1, e1⟩ := g1.slice
  obtain ⟨B2, d2, e2⟩ := g2.slice
  obtain ⟨x1, x2, e0, g5, g6⟩ := g3
  cases e0
  obtain ⟨B3, d3, rfl⟩ := g5.slice
  obtain ⟨B4, d4, rfl⟩ := ObjsAt.slice g6
  rw [thAts_length] at e1
  rw [obAts_length] at e2
  subst e1 e2
  obtain ⟨A3, c3, rfl⟩ := IntsAt.slice hw
  have HC := Lib.hid (fun (W : World) (hb : Below w.heap.size w W) => cloneCall_any ⟨0, h, a, b, xs, tm⟩ (.slice A3 xs.length c3) F2 hxs W (Reads.kept hw (fun k hk _ => hb.block k hk)))
  have HO := Lib.hid (fun (W : World) => objectPlain_any ⟨0, h, a, b, xs, tm⟩ (by unfold PlainK; simp) .nilFunc B3 B4 P.thr.length P.obj.length d3 d4 W A3 xs.length c3)
  have HK := Lib.hid (fun (W : World) (hb : Below w.heap.size w W) => checkPlain_any ⟨0, h, a, b, xs, tm⟩ (by unfold PlainK; simp) t P F _ ht (by omega) B4 P.obj.length d4 W (g5.kept (w' := W) (fun k hk _ => hb.block k hk)) A3 xs.length c3)
  simp only [callCells] at HC HO HK
  unfold planArr
  clear g1 g2 g5 g6 hw
  have hq : (w.alloc (.cells #[.int .i64 0, .int .i64 2, .int .i64 4, .int .i64 3, .int .i64 5, .int .i64 6, .int .i64 8, .int .i64 41, .int .i64 43, .slice B1 P.thr.length d1, .slice B2 P.obj.length d2, .int .i64 (planWords P), .slice B3 P.thr.length d3, .slice B4 P.obj.length d4] 61)).heap[w.heap.size]? = some (.cells #[.int .i64 0, .int .i64 2, .int .i64 4, .int .i64 3, .int .i64 5, .int .i64 6, .int .i64 8, .int .i64 41, .int .i64 43, .slice B1 P.thr.length d1, .slice B2 P.obj.length d2, .int .i64 (planWords P), .slice B3 P.thr.length d3, .slice B4 P.obj.length d4] 61 (0, 0)) := heap_alloc_new _ _
  obtain ⟨W0, hW0⟩ : ∃ x, x = (w.alloc (.cells #[.int .i64 0, .int .i64 2, .int .i64 4, .int .i64 3, .int .i64 5, .int .i64 6, .int .i64 8, .int .i64 41, .int .i64 43, .slice B1 P.thr.length d1, .slice B2 P.obj.length d2, .int .i64 (planWords P), .slice B3 P.thr.length d3, .slice B4 P.obj.length d4] 61)).alloc (.cells #[.int .i64 0, .int .i64 h, .int .i64 a, .int .i64 b, .slice A3 xs.length c3, .int .i64 tm] 28) := ⟨_, rfl⟩
  have hs0 : W0.heap.size = w.heap.size + 2 := by rw [hW0]; simp
  have hb0 : Below w.heap.size w W0 := by rw [hW0]; exact ((Below.refl _ _).alloc (Nat.le_refl _) _).alloc (by simp) _
  have h00 : W0.heap[w.heap.size]? = some (.cells #[.int .i64 0, .int .i64 2, .int .i64 4, .int .i64 3, .int .i64 5, .int .i64 6, .int .i64 8, .int .i64 41, .int .i64 43, .slice B1 P.thr.length d1, .slice B2 P.obj.length d2, .int .i64 (planWords P), .slice B3 P.thr.length d3, .slice B4 P.obj.length d4] 61 (0, 0)) := by rw [hW0]; exact two_first _ _ _
  have h01 : W0.heap[w.heap.size + 1]? = some (.cells #[.int .i64 0, .int .i64 h, .int .i64 a, .int .i64 b, .slice A3 xs.length c3, .int .i64 tm] 28 (0, 0)) := by rw [hW0]; exact two_second _ _ _
  have HW0 := Lib.hid hW0
  have HB0 := Lib.hid hb0
  have r00 := row_of h00
  have r01 := row_of h01
  have H00 := Lib.hid h00
  have H01 := Lib.hid h01
  have z0 : w.heap.size < W0.heap.size := by omega
  have z1 : w.heap.size + 1 < W0.heap.size := by omega
  clear hW0 hb0 h00 h01 hq
  go_enter Tryz.func28, Tryz.ntmps28
  go_wp2_with fail
  rw [← HW0.out]
  go_region_held3 (fun w' => (∀ k, w'.cell? ⟨w.heap.size, k, none⟩ = #[.int .i64 0, .int .i64 2, .int .i64 4, .int .i64 3, .int .i64 5, .int .i64 6, .int .i64 8, .int .i64 41, .int .i64 43, .slice B1 P.thr.length d1, .slice B2 P.obj.length d2, .int .i64 (planWords P), .slice B3 P.thr.length d3, .slice B4 P.obj.length d4][k]?) ∧ (∀ k, w'.cell? ⟨w.heap.size + 1, k, none⟩ = #[.int .i64 0, .int .i64 h, .int .i64 a, .int .i64 b, .slice A3 xs.length c3, .int .i64 tm][k]?))
    (((try dsimp only); (try go_split_ands); (with_reducible repeat' apply And.intro); all_goals (with_reducible first | assumption | exact keepDrC (by assumption) | exact keepAllC (by assumption) (by assumption))))
    (first
      | ((try go_split_ands); go_at_call 77; refine (HC.out _ HB0.out.drew).mono ?_; rintro e w2 ⟨wv', rfl, hi2, hb2⟩; obtain ⟨A4, c4, rfl⟩ := IntsAt.slice hi2; have HB2 := Lib.hid (⟨hb2.os, hb2.tape, hb2.output, hb2.size, hb2.block⟩ : Below W0.heap.size W0 w2); have r20 := fun k => (World.cell?_of_block (a := ⟨w.heap.size, k, none⟩) (HB2.out.block w.heap.size z0)).trans (r00 k); have r21 := fun k => (World.cell?_of_block (a := ⟨w.heap.size + 1, k, none⟩) (HB2.out.block (w.heap.size + 1) z1)).trans (r01 k); have z20 := Nat.lt_of_lt_of_le z0 HB2.out.size; have z21 := Nat.lt_of_lt_of_le z1 HB2.out.size; clear hi2 hb2))
  all_goals
    obtain ⟨ob, hob⟩ : ∃ x, x = w2.heap.size := ⟨_, rfl⟩
    obtain ⟨w3, hw3⟩ : ∃ x, x = w2.alloc (.cells #[.int .i64 0, .int .i64 2, .int .i64 4, .int .i64 3, .int .i64 5, .int .i64 6, .int .i64 8, .int .i64 41, .int .i64 43, .slice B1 P.thr.length d1, .slice B2 P.obj.length d2, .int .i64 (planWords P), .slice B3 P.thr.length d3, .slice B4 P.obj.length d4, .int .i64 core, .int .i64 t, .int .i64 0, .int .i64 h, .int .i64 a, .int .i64 b, .slice A4 xs.length c4, .int .i64 tm, .int .i64 0, .nilFunc, .nilFunc, .int .i64 0, .int .i64 0, .slice none 0 0, .bool false, .bool false, .int .i64 0, .bool false, .int .i64 0, .bool false, .bool false] 133) := ⟨_, rfl⟩
    have hx3 : w3.heap[w.heap.size]? = _ ∧ w3.heap[w.heap.size + 1]? = _ ∧ w3.heap[ob]? = some (.cells #[.int .i64 0, .int .i64 2, .int .i64 4, .int .i64 3, .int .i64 5, .int .i64 6, .int .i64 8, .int .i64 41, .int .i64 43, .slice B1 P.thr.length d1, .slice B2 P.obj.length d2, .int .i64 (planWords P), .slice B3 P.thr.length d3, .slice B4 P.obj.length d4, .int .i64 core, .int .i64 t, .int .i64 0, .int .i64 h, .int .i64 a, .int .i64 b, .slice A4 xs.length c4, .int .i64 tm, .int .i64 0, .nilFunc, .nilFunc, .int .i64 0, .int .i64 0, .slice none 0 0, .bool false, .bool false, .int .i64 0, .bool false, .int .i64 0, .bool false, .bool false] 133 (0, 0)) :=
      ⟨by rw [hw3, Below.heap_alloc _ _ _ z20, HB2.out.block _ z0, H00.out], by rw [hw3, Below.heap_alloc _ _ _ z21, HB2.out.block _ z1, H01.out], by rw [hw3, hob]; exact heap_alloc_new _ _⟩
    have hne : w.heap.size ≠ ob ∧ w.heap.size + 1 ≠ ob := by have := HB2.out.size; omega
    have hge : w.heap.size + 2 ≤ ob := by have := HB2.out.size; omega
    have HB3 := Lib.hid (show Below w.heap.size w w3 by rw [hw3]; exact (below_end HB0.out (Nat.le_refl _) HB2.out).alloc (by have := HB2.out.size; omega) _)
    have HX3 := Lib.hid hx3
    have HNE := Lib.hid hne
    have HGE := Lib.hid hge
    obtain ⟨r0, r1, r2, f2, y0, y1, y2⟩ := kc_rows hx3
    rw [← hob, ← hw3]
    clear hx3 hne hge hw3 hob r00 r01 r20 r21 z0 z1 z20 z21 HB2 HW0 H00 H01
    have HX4 := Lib.hid (kc_set 24 (bound 78 (.pointer (some ⟨ob, 0, none⟩))) HX3.out HNE.out.1 HNE.out.2)
    have HB4 := Lib.hid (HB3.out.setCell (show w.heap.size ≤ (⟨ob, 24, none⟩ : Addr).block from Nat.le_trans (Nat.le_add_right _ _) HGE.out) (bound 78 (.pointer (some ⟨ob, 0, none⟩))))
    go_wp2_with fail
    go_at_call 58
    refine (HO.out _).mono ?_
    rintro e w5 ⟨rfl, hb5⟩
    have HX5 := Lib.hid (kc_next HX4.out hb5)
    have HB5 := Lib.hid (below_end HB4.out (Nat.le_refl _) hb5)
    clear r0 r1 r2 f2 y0 y1 y2 hb5
    obtain ⟨r0, r1, r2, f2, y0, y1, y2⟩ := kc_rows HX5.out
    clear HX3 HX4 HB3 HB4
    go_wp2_with fail
    go_at_call 26
    refine (HK.out _ HB5.out).mono ?_
    rintro e w6 ⟨rfl, hb6⟩
    have HX6 := Lib.hid (kc_next HX5.out hb6)
    have HB6 := Lib.hid (below_end HB5.out (Nat.le_refl _) hb6)
    clear r0 r1 r2 f2 y0 y1 y2 hb6
    obtain ⟨r0, r1, r2, f2, y0, y1, y2⟩ := kc_rows HX6.out
    clear HX5 HB5
    go_wp2_with fail
    go_at_call 82
    refine (plainNop_any ob w6 ((r2 16).trans rfl)).mono ?_
    rintro e w7 ⟨rfl, rfl⟩
    go_wp2_with fail
    go_ret
    exact ⟨ob, _, _, _, _, _, _, rfl, rfl, Nat.le_trans (Nat.le_add_right _ _) HGE.out, HB6.out.setCell (show w.heap.size ≤ (⟨ob, 23, none⟩ : Addr).block from Nat.le_trans (Nat.le_add_right _ _) HGE.out) _, (kc_set 23 (bound 155 (.pointer (some ⟨ob, 0, none⟩))) HX6.out HNE.out.1 HNE.out.2).2.2⟩
end Go.Proofs.YtefbdcmodfbpbaaGreat
