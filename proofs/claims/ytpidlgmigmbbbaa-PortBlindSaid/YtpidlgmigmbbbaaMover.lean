/-
  The bodies of a Move: mover.get, mover.put.
-/
import Derived.Test.YtpidlgmigmbbbaaPlanE
import Derived.Test.YtpidlgmigmbbbaaRing
import Derived.Test.YtpidlgmigmbbbaaKeep2
import Derived.Deep.RegionHeld3
set_option linter.unusedVariables false
set_option linter.unusedSimpArgs false
namespace Go.Proofs.Ytpidlgmigmbbbaa
open Go.RowKit

theorem keepK {w : World} {xb n j : Nat} {cs : Array Value} {v : Value} (h : ∀ k, k < n → w.cell? ⟨xb, k, none⟩ = cs[k]?) (hj : n ≤ j) : ∀ k, k < n → (w.setCell ⟨xb, j, none⟩ v).cell? ⟨xb, k, none⟩ = cs[k]? := fun k hk => by
  have hne : (⟨xb, j, none⟩ : Addr) ≠ ⟨xb, k, none⟩ := fun e => by cases e; omega
  rw [World.cell?_setCell_other (h := hne)]; exact h k hk
theorem keepD {w : World} {xb n : Nat} {cs : Array Value} (h : ∀ k, k < n → w.cell? ⟨xb, k, none⟩ = cs[k]?) : ∀ k, k < n → w.drew.cell? ⟨xb, k, none⟩ = cs[k]? := h
theorem keepB {w w' : World} {xb n : Nat} {cs : Array Value} (h : ∀ k, k < n → w.cell? ⟨xb, k, none⟩ = cs[k]?) (hb : w'.heap[xb]? = w.heap[xb]?) : ∀ k, k < n → w'.cell? ⟨xb, k, none⟩ = cs[k]? := fun k hk => by
  rw [World.cell?_of_block (w := w) (w' := w') (a := ⟨xb, k, none⟩) hb]; exact h k hk
def mvArr (sT sO v1 v2 : Value) (W o v : Int) (ok : Bool) : Array Value :=
  #[.int .i64 0, .int .i64 2, .int .i64 4, .int .i64 3, .int .i64 5, .int .i64 6, .int .i64 8, .int .i64 41, .int .i64 43, sT, sO, .int .i64 W, v1, v2, .int .i64 o, .int .i64 v, .bool ok]
def MvAt (w : World) (F : Nat → Prop) (xb : Nat) (P : PartD) (o v : Int) (ok : Bool) : Prop :=
  ∃ sT sO v1 v2, w.heap[xb]? = some (.cells (mvArr sT sO v1 v2 (planWords P) o v ok) 107 (0, 0)) ∧ PlanVal w F (.agg (planArr sT sO v1 v2 (planWords P))) P

set_option maxRecDepth 100000 in
set_option maxHeartbeats 4000000 in
theorem moverGet_any (P : PartD) (hn : P.thr.length ≤ 6) (hn2 : P.obj.length ≤ 8) (hr : RingOk P) (F : Nat → Prop) (xb : Nat) (o v : Int) (ok : Bool) (hk : isKB P o 6 = true) (w : World) (g : FG) (sl : Value) (s : FS) (hF : Fr w g sl s) (h : MvAt w F xb P o v ok)
    (hap : xb ≠ g.fb ∧ xb ≠ g.wb ∧ sl.ownBlock ≠ some xb) (ha : Apart F g sl) (hlt : ∀ k, F k → k < w.heap.size) (r : Int × Bool) (s' : FS) (hx : exec (kRGet (obAt P.thr.length o + 4) (objD P o).size) s = some (r, s')) :
    Calls Try.prog 35 #[.pointer (some ⟨xb, 0, none⟩), .pointer (some ⟨g.fb, 0, none⟩)] w fun e w' => ∃ sl' w1, e = .returned (.tuple #[]) ∧ Fr w1 g sl' s' ∧ Ev g sl sl' w w1 ∧ (w1.setCell ⟨xb, 15, none⟩ (.int .i64 r.1)).setCell ⟨xb, 16, none⟩ (.bool r.2) = w' := by
  obtain ⟨sT, sO, v1, v2, h0, hP⟩ := h
  obtain ⟨o0, o1, -⟩ := isKB_ok hk
  obtain ⟨c0, c1⟩ := hr.get hk (by omega)
  have HTH := Lib.hid (fun (W : World) (hP : PlanVal W F (.agg (planArr sT sO v1 v2 (planWords P))) P) => things_any P _ F hn hn2 o o0 o1 W hP)
  have HSZ := Lib.hid (fun (W : World) (hP : PlanVal W F (.agg (planArr sT sO v1 v2 (planWords P))) P) => size_any P _ F o o0 o1 W hP)
  have HGT := Lib.hid (fun W sl' hF' => rGet_any (obAt P.thr.length o + 4) (objD P o).size (i64_small (by unfold obAt; omega) (by unfold obAt; omega)) (i64_small (by omega) (by omega)) c0 c1 W g sl' s hF' r s' hx)
  have HPL := Lib.hid (fun W slr (hE : Ev g sl slr w W) => hP.ev ha hE)
  have HBK := Lib.hid (fun W slr (hE : Ev g sl slr w W) => (hE.keep (lt_of_block h0) hap).trans h0)
  have HF0 := Lib.hid hF
  have HE0 := Lib.hid (Ev.drew g sl w)
  have r0 : ∀ k, k < 15 → w.cell? ⟨xb, k, none⟩ = (mvArr sT sO v1 v2 (planWords P) o v ok)[k]? := fun k _ => cell_of_block h0 k
  have hx15 := cell_of_block h0 15
  have hx16 := cell_of_block h0 16
  have lx := lt_of_block h0
  obtain ⟨r1, r2⟩ := r
  unfold mvArr at *
  unfold planArr at *
  clear h0 hP hF hx hr hk o0 o1 c0 c1 ha hlt hap
  generalize obAt P.thr.length o + 4 = at9 at *
  generalize (objD P o).size = sz at *
  go_enter Try.func35, Try.ntmps35
  go_region_held3 (fun w' => ∀ k, k < 15 → w'.cell? ⟨xb, k, none⟩ = #[.int .i64 0, .int .i64 2, .int .i64 4, .int .i64 3, .int .i64 5, .int .i64 6, .int .i64 8, .int .i64 41, .int .i64 43, sT, sO, .int .i64 (planWords P), v1, v2, .int .i64 o, .int .i64 v, .bool ok][k]?)
    ((with_reducible first | assumption | exact keepD (by assumption) | exact keepK (by assumption) (by omega)))
    (first
      | (go_at_call 71; refine (HTH.out _ (HPL.out _ _ HE0.out)).mono ?_; rintro e wa ⟨rfl, hba⟩; have HEa := Lib.hid (HE0.out.trans (below_ev hba g sl)); have HFa := Lib.hid (HF0.out.drew.below hba); have ka := keepB r0 ((HBK.out _ _ HEa.out).trans (HBK.out _ _ HE0.out).symm); clear hba)
      | (go_at_call 72; refine (HSZ.out _ (HPL.out _ _ HEa.out)).mono ?_; rintro e wb ⟨rfl, hbb⟩; have HEb := Lib.hid (HEa.out.trans (below_ev hbb g sl)); have HFb := Lib.hid (HFa.out.below hbb); have kb := keepB ka ((HBK.out _ _ HEb.out).trans (HBK.out _ _ HEa.out).symm); clear hbb)
      | (go_at_call 74; refine (HGT.out _ _ HFb.out).mono ?_; rintro e wc ⟨hi, rfl, slc, hFc, hEc⟩; have HEc := Lib.hid (HEb.out.trans hEc); have HFc := Lib.hid hFc; have kc := keepB kb ((HBK.out _ _ HEc.out).trans (HBK.out _ _ HEb.out).symm); have kf := free_of_block (HBK.out _ _ HEc.out); have kx := cell_of_block (HBK.out _ _ HEc.out); clear hFc hEc hi))
  all_goals
    first | go_end0 | ((try simp only [Exit.inBlock, Exit.then]); refine bodyPost_ret (results_none rfl _ _ _) rfl ?_)
    exact ⟨slc, wc, rfl, HFc.out, HEc.out, rfl⟩
set_option maxRecDepth 100000 in
set_option maxHeartbeats 4000000 in
theorem moverPut_any (P : PartD) (hn : P.thr.length ≤ 6) (hn2 : P.obj.length ≤ 8) (hr : RingOk P) (F : Nat → Prop) (xb : Nat) (o v : Int) (ok : Bool) (hv : I64 v) (hk : isKB P o 7 = true) (w : World) (g : FG) (sl : Value) (s : FS) (hF : Fr w g sl s) (h : MvAt w F xb P o v ok)
    (hap : xb ≠ g.fb ∧ xb ≠ g.wb ∧ sl.ownBlock ≠ some xb) (ha : Apart F g sl) (hlt : ∀ k, F k → k < w.heap.size) (r : Bool) (s' : FS) (hx : exec (kRPut (obAt P.thr.length o + 4) (objD P o).size v) s = some (r, s')) :
    Calls Try.prog 36 #[.pointer (some ⟨xb, 0, none⟩), .pointer (some ⟨g.fb, 0, none⟩)] w fun e w' => ∃ sl' w1, e = .returned (.tuple #[]) ∧ Fr w1 g sl' s' ∧ Ev g sl sl' w w1 ∧ w1.setCell ⟨xb, 16, none⟩ (.bool r) = w' := by
  obtain ⟨sT, sO, v1, v2, h0, hP⟩ := h
  obtain ⟨o0, o1, -⟩ := isKB_ok hk
  obtain ⟨c0, c1⟩ := hr.get hk (by omega)
  have HTH := Lib.hid (fun (W : World) (hP : PlanVal W F (.agg (planArr sT sO v1 v2 (planWords P))) P) => things_any P _ F hn hn2 o o0 o1 W hP)
  have HSZ := Lib.hid (fun (W : World) (hP : PlanVal W F (.agg (planArr sT sO v1 v2 (planWords P))) P) => size_any P _ F o o0 o1 W hP)
  have HGT := Lib.hid (fun W sl' hF' => rPut_any (obAt P.thr.length o + 4) (objD P o).size v (i64_small (by unfold obAt; omega) (by unfold obAt; omega)) (i64_small (by omega) (by omega)) hv c0 c1 W g sl' s hF' r s' hx)
  have HPL := Lib.hid (fun W slr (hE : Ev g sl slr w W) => hP.ev ha hE)
  have HBK := Lib.hid (fun W slr (hE : Ev g sl slr w W) => (hE.keep (lt_of_block h0) hap).trans h0)
  have HF0 := Lib.hid hF
  have HE0 := Lib.hid (Ev.drew g sl w)
  have r0 : ∀ k, k < 16 → w.cell? ⟨xb, k, none⟩ = (mvArr sT sO v1 v2 (planWords P) o v ok)[k]? := fun k _ => cell_of_block h0 k
  have hx16 := cell_of_block h0 16
  have lx := lt_of_block h0
  unfold mvArr at *
  unfold planArr at *
  clear h0 hP hF hx hr hk o0 o1 c0 c1 ha hlt hap
  generalize obAt P.thr.length o + 4 = at9 at *
  generalize (objD P o).size = sz at *
  go_enter Try.func36, Try.ntmps36
  go_region_held3 (fun w' => ∀ k, k < 16 → w'.cell? ⟨xb, k, none⟩ = #[.int .i64 0, .int .i64 2, .int .i64 4, .int .i64 3, .int .i64 5, .int .i64 6, .int .i64 8, .int .i64 41, .int .i64 43, sT, sO, .int .i64 (planWords P), v1, v2, .int .i64 o, .int .i64 v, .bool ok][k]?)
    ((with_reducible first | assumption | exact keepD (by assumption) | exact keepK (by assumption) (by omega)))
    (first
      | (go_at_call 71; refine (HTH.out _ (HPL.out _ _ HE0.out)).mono ?_; rintro e wa ⟨rfl, hba⟩; have HEa := Lib.hid (HE0.out.trans (below_ev hba g sl)); have HFa := Lib.hid (HF0.out.drew.below hba); have ka := keepB r0 ((HBK.out _ _ HEa.out).trans (HBK.out _ _ HE0.out).symm); clear hba)
      | (go_at_call 72; refine (HSZ.out _ (HPL.out _ _ HEa.out)).mono ?_; rintro e wb ⟨rfl, hbb⟩; have HEb := Lib.hid (HEa.out.trans (below_ev hbb g sl)); have HFb := Lib.hid (HFa.out.below hbb); have kb := keepB ka ((HBK.out _ _ HEb.out).trans (HBK.out _ _ HEa.out).symm); clear hbb)
      | (go_at_call 70; refine (HGT.out _ _ HFb.out).mono ?_; rintro e wc ⟨hi, rfl, slc, hFc, hEc⟩; have HEc := Lib.hid (HEb.out.trans hEc); have HFc := Lib.hid hFc; have kc := keepB kb ((HBK.out _ _ HEc.out).trans (HBK.out _ _ HEb.out).symm); have kf := free_of_block (HBK.out _ _ HEc.out); have kx := cell_of_block (HBK.out _ _ HEc.out); clear hFc hEc hi))
  all_goals
    first | go_end0 | ((try simp only [Exit.inBlock, Exit.then]); refine bodyPost_ret (results_none rfl _ _ _) rfl ?_)
    exact ⟨slc, wc, rfl, HFc.out, HEc.out, rfl⟩
end Go.Proofs.Ytpidlgmigmbbbaa
