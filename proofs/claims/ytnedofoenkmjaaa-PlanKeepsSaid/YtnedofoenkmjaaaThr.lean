/-
  The body of the statements of layer 13: a Get, or a Set, of a field.
-/
import Derived.Test.YtnedofoenkmjaaaThread
import Derived.Test.YtnedofoenkmjaaaFew
import Derived.StillTailTactics
set_option linter.unusedVariables false
set_option linter.unusedSimpArgs false
namespace Go.Proofs.Ytnedofoenkmjaaa
open Go.RowKit

/-- An act's cells. -/
def actArr (sT sO v1 v2 : Value) (W : Int) (t field v : Int) (set : Bool) (got : Int) : Array Value :=
  #[.int .i64 0, .int .i64 2, .int .i64 4, .int .i64 3, .int .i64 5, .int .i64 6, .int .i64 8, .int .i64 41, .int .i64 43, sT, sO, .int .i64 W, v1, v2, .int .i64 t, .int .i64 field, .int .i64 v, .bool set, .int .i64 got]
/-- An act in memory, at block 'xb'. -/
def ActAt (w : World) (F : Nat → Prop) (xb : Nat) (P : PartD) (t field v : Int) (set : Bool) (got : Int) : Prop :=
  ∃ sT sO v1 v2, w.heap[xb]? = some (.cells (actArr sT sO v1 v2 (planWords P) t field v set got) 51 (0, 0)) ∧ IntsAt w F sT (thAts P.thr.length) ∧ IntsAt w F sO (obAts P.thr.length P.obj.length) ∧ PartAt w F (.agg #[v1, v2]) P

set_option maxRecDepth 100000 in
set_option maxHeartbeats 1600000 in
theorem actSet_any (P : PartD) (hn : P.thr.length ≤ 6) (F : Nat → Prop) (xb : Nat) (t field v : Int) (hv : I64 v) (got : Int) (w : World) (g : FG) (sl : Value) (s : FS) (hF : Fr w g sl s) (h : ActAt w F xb P t field v true got) (s' : FS) (hx : exec (kSet P t field v) s = some ((), s')) :
    Calls Try.prog 22 #[.pointer (some ⟨xb, 0, none⟩), .pointer (some ⟨g.fb, 0, none⟩)] w (Posts g sl s' w (.tuple #[])) := by
  obtain ⟨sT, sO, v1, v2, h0, h1, h2, h3⟩ := h
  have hP : PlanVal w F (.agg (planArr sT sO v1 v2 (planWords P))) P := ⟨sT, sO, v1, v2, rfl, h1, h2, h3⟩
  obtain ⟨A1, c1, e1⟩ := h1.slice
  obtain ⟨A2, c2, e2⟩ := h2.slice
  obtain ⟨u1, u2, e0, h5, h6⟩ := h3
  cases e0
  obtain ⟨A3, c3, rfl⟩ := h5.slice
  obtain ⟨A4, c4, rfl⟩ := ObjsAt.slice h6
  subst e1 e2
  have HS := Lib.hid (fun n => set_any P hn _ F t field v hv (w.drewN n) g sl s (hF.drewN n) (hP.kept (fun _ _ _ => rfl)) s' hx)
  have r1 := cell_of_block h0
  unfold actArr at r1
  unfold planArr at HS
  clear h0 h1 h2 hP hF hx h5 h6 hv
  go_enter Try.func22, Try.ntmps22
  go_wp2_with fail
  go_still_tail 17, (by kernel_rfl)
  go_wp2_with (go_at_call 47; refine (HS.out 1).mono ?_; rintro e w1 ⟨rfl, sl', hF1, hE1⟩)
  first | go_end0 | ((try simp only [Exit.inBlock, Exit.then]); refine bodyPost_ret (results_none rfl _ _ _) rfl ?_)
  exact ⟨rfl, sl', hF1, (Ev.drewN g sl w 1).trans hE1⟩

set_option maxRecDepth 100000 in
set_option maxHeartbeats 1600000 in
theorem actGet_any (P : PartD) (hn : P.thr.length ≤ 6) (F : Nat → Prop) (xb : Nat) (t field v : Int) (got : Int) (w : World) (g : FG) (sl : Value) (s : FS) (hF : Fr w g sl s) (h : ActAt w F xb P t field v false got) (hap : xb ≠ g.fb ∧ xb ≠ g.wb ∧ sl.ownBlock ≠ some xb) (r : Int) (s' : FS) (hx : exec (kGet P t field) s = some (r, s')) :
    Calls Try.prog 22 #[.pointer (some ⟨xb, 0, none⟩), .pointer (some ⟨g.fb, 0, none⟩)] w fun e w' => ∃ sl' w1, e = .returned (.tuple #[]) ∧ Fr w1 g sl' s' ∧ Ev g sl sl' w w1 ∧ w1.setCell ⟨xb, 18, none⟩ (.int .i64 r) = w' := by
  obtain ⟨sT, sO, v1, v2, h0, h1, h2, h3⟩ := h
  have hP : PlanVal w F (.agg (planArr sT sO v1 v2 (planWords P))) P := ⟨sT, sO, v1, v2, rfl, h1, h2, h3⟩
  obtain ⟨A1, c1, e1⟩ := h1.slice
  obtain ⟨A2, c2, e2⟩ := h2.slice
  obtain ⟨u1, u2, e0, h5, h6⟩ := h3
  cases e0
  obtain ⟨A3, c3, rfl⟩ := h5.slice
  obtain ⟨A4, c4, rfl⟩ := ObjsAt.slice h6
  subst e1 e2
  have HS := Lib.hid (fun n => get_any P hn _ F t field (w.drewN n) g sl s (hF.drewN n) (hP.kept (fun _ _ _ => rfl)) r s' hx)
  have H0 := Lib.hid h0
  have r1 := cell_of_block h0
  have lx := lt_of_block h0
  unfold actArr at r1
  unfold planArr at HS
  clear h0 h1 h2 hP hF hx h5 h6
  go_enter Try.func22, Try.ntmps22
  go_wp2_with fail
  go_region_with ((go_at_call 48; refine (HS.out 1).mono ?_; rintro e w1 ⟨rfl, sl', hF1, hE1⟩; have hb : w1.heap[xb]? = _ := (hE1.block xb lx hap.1 hap.2.1 hap.2.2).trans H0.out; have q1 := cell_of_block hb; have q2 := free_of_block hb; unfold actArr at q1; have HF1 := Lib.hid hF1; have HE1 := Lib.hid hE1; clear hb hF1 hE1))
  all_goals
    first | go_end0 | ((try simp only [Exit.inBlock, Exit.then]); refine bodyPost_ret (results_none rfl _ _ _) rfl ?_)
    exact ⟨sl', w1, rfl, HF1.out, (Ev.drewN g sl w 1).trans HE1.out, rfl⟩
end Go.Proofs.Ytnedofoenkmjaaa
