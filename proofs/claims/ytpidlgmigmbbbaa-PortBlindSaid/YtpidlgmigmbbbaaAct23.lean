/-
  The acts of the statements of layer 23: a Post, a Fetch.
-/
import Derived.Test.YtpidlgmigmbbbaaMvRun
import Derived.Test.YtpidlgmigmbbbaaPort
import Derived.Test.YtpidlgmigmbbbaaMover
set_option linter.unusedVariables false
set_option linter.unusedSimpArgs false
namespace Go.Proofs.Ytpidlgmigmbbbaa
open Go.RowKit

def act23 (sT sO v1 v2 : Value) (W : Int) (kind : Int) (sec : Bool) (o inn v got e : Int) : Array Value :=
  #[.int .i64 0, .int .i64 2, .int .i64 4, .int .i64 3, .int .i64 5, .int .i64 6, .int .i64 8, .int .i64 41, .int .i64 43, sT, sO, .int .i64 W, v1, v2, .int .u8 kind, .bool sec, .int .i64 o, .int .i64 inn, .int .i64 v, .int .i64 got, .int .i64 e]
theorem enters_act23 : Enters 12 := by
  intro args w
  go_simp

set_option maxRecDepth 100000 in
set_option maxHeartbeats 4000000 in
theorem act23Post_any (P : PartD) (hn : P.thr.length ≤ 6) (hn2 : P.obj.length ≤ 8) (hr : RingOk P) (F : Nat → Prop) (xb : Nat) (sec : Bool) (o inn v got e0 : Int) (ho : I64 o) (hv : I64 v) (sT sO v1 v2 : Value) (w : World) (g : FG) (sl : Value) (s : FS) (hF : Fr w g sl s)
    (h0 : w.heap[xb]? = some (.cells (act23 sT sO v1 v2 (planWords P) 0 sec o inn v got e0) 49 (0, 0))) (hP : PlanVal w F (.agg (planArr sT sO v1 v2 (planWords P))) P)
    (hap : xb ≠ g.fb ∧ xb ≠ g.wb ∧ sl.ownBlock ≠ some xb) (ha : Apart F g sl) (hlt : ∀ k, F k → k < w.heap.size) (r : Int) (s' : FS) (hx : exec (kPost P o v) s = some (r, s')) :
    Calls Try.prog 12 #[.pointer (some ⟨xb, 0, none⟩), .pointer (some ⟨g.fb, 0, none⟩)] w fun e w' => ∃ sl' w1, e = .returned (.tuple #[]) ∧ Fr w1 g sl' s' ∧ Ev g sl sl' w w1 ∧ w1.setCell ⟨xb, 20, none⟩ (.int .i64 r) = w' := by
  have HC := Lib.hid (fun (W : World) (slr : Value) (hE : Ev g sl slr w W) (hF' : Fr W g slr s) => post_any P _ F hn hn2 hr o v ho hv W g slr s hF' (hP.ev ha hE) (ha.ev hE hlt) (fun k hk => Nat.lt_of_lt_of_le (hlt k hk) hE.size) r s' hx)
  have HBK := Lib.hid (fun W slr (hE : Ev g sl slr w W) => (hE.keep (lt_of_block h0) hap).trans h0)
  have HF0 := Lib.hid hF.drew
  have HE0 := Lib.hid (Ev.drew g sl w)
  have r0 : ∀ k, k < 19 → w.cell? ⟨xb, k, none⟩ = (act23 sT sO v1 v2 (planWords P) 0 sec o inn v got e0)[k]? := fun k _ => cell_of_block h0 k
  have hk := cell_of_block h0 14
  have lx := lt_of_block h0
  unfold act23 at *
  unfold planArr at *
  simp only [List.getElem?_toArray, List.getElem?_cons_succ, List.getElem?_cons_zero] at hk
  clear h0 hP hF hx hr ha hlt hap ho hv
  go_enter Try.func12, Try.ntmps12
  go_wp2_with fail
  go_region_held3 (fun w' => ∀ k, k < 19 → w'.cell? ⟨xb, k, none⟩ = #[.int .i64 0, .int .i64 2, .int .i64 4, .int .i64 3, .int .i64 5, .int .i64 6, .int .i64 8, .int .i64 41, .int .i64 43, sT, sO, .int .i64 (planWords P), v1, v2, .int .u8 0, .bool sec, .int .i64 o, .int .i64 inn, .int .i64 v, .int .i64 got, .int .i64 e0][k]?)
    ((with_reducible first | assumption | exact keepD (by assumption) | exact keepK (by assumption) (by omega)))
    (first
      | (go_at_call 32; refine (HC.out _ _ HE0.out HF0.out).mono ?_; rintro e wc ⟨hi, rfl, slc, hFc, hEc⟩; have HEc := Lib.hid (HE0.out.trans hEc); have HFc := Lib.hid hFc; have kc := keepB r0 ((HBK.out _ _ HEc.out).trans (HBK.out _ _ (Ev.refl g sl w)).symm); have kf := free_of_block (HBK.out _ _ HEc.out); have kx := cell_of_block (HBK.out _ _ HEc.out); clear hFc hEc hi))
  all_goals
    first | go_end0 | ((try simp only [Exit.inBlock, Exit.then]); refine bodyPost_ret (results_none rfl _ _ _) rfl ?_)
    exact ⟨slc, wc, rfl, HFc.out, HEc.out, rfl⟩

set_option maxRecDepth 100000 in
set_option maxHeartbeats 4000000 in
theorem act23Fetch_any (P : PartD) (hn : P.thr.length ≤ 6) (hn2 : P.obj.length ≤ 8) (hr : RingOk P) (F : Nat → Prop) (xb : Nat) (sec : Bool) (o inn v got e0 : Int) (ho : I64 o) (sT sO v1 v2 : Value) (w : World) (g : FG) (sl : Value) (s : FS) (hF : Fr w g sl s)
    (h0 : w.heap[xb]? = some (.cells (act23 sT sO v1 v2 (planWords P) 1 sec o inn v got e0) 49 (0, 0))) (hP : PlanVal w F (.agg (planArr sT sO v1 v2 (planWords P))) P)
    (hap : xb ≠ g.fb ∧ xb ≠ g.wb ∧ sl.ownBlock ≠ some xb) (ha : Apart F g sl) (hlt : ∀ k, F k → k < w.heap.size) (r : Int × Int) (s' : FS) (hx : exec (kFetch P o) s = some (r, s')) :
    Calls Try.prog 12 #[.pointer (some ⟨xb, 0, none⟩), .pointer (some ⟨g.fb, 0, none⟩)] w fun e w' => ∃ sl' w1, e = .returned (.tuple #[]) ∧ Fr w1 g sl' s' ∧ Ev g sl sl' w w1 ∧ (w1.setCell ⟨xb, 19, none⟩ (.int .i64 r.1)).setCell ⟨xb, 20, none⟩ (.int .i64 r.2) = w' := by
  have HC := Lib.hid (fun (W : World) (slr : Value) (hE : Ev g sl slr w W) (hF' : Fr W g slr s) => fetch_any P _ F hn hn2 hr o ho W g slr s hF' (hP.ev ha hE) (ha.ev hE hlt) (fun k hk => Nat.lt_of_lt_of_le (hlt k hk) hE.size) r s' hx)
  have HBK := Lib.hid (fun W slr (hE : Ev g sl slr w W) => (hE.keep (lt_of_block h0) hap).trans h0)
  have HF0 := Lib.hid hF.drew
  have HE0 := Lib.hid (Ev.drew g sl w)
  have r0 : ∀ k, k < 19 → w.cell? ⟨xb, k, none⟩ = (act23 sT sO v1 v2 (planWords P) 1 sec o inn v got e0)[k]? := fun k _ => cell_of_block h0 k
  have hk := cell_of_block h0 14
  have lx := lt_of_block h0
  obtain ⟨r1, r2⟩ := r
  unfold act23 at *
  unfold planArr at *
  simp only [List.getElem?_toArray, List.getElem?_cons_succ, List.getElem?_cons_zero] at hk
  clear h0 hP hF hx hr ha hlt hap ho
  go_enter Try.func12, Try.ntmps12
  go_wp2_with fail
  go_region_held3 (fun w' => ∀ k, k < 19 → w'.cell? ⟨xb, k, none⟩ = #[.int .i64 0, .int .i64 2, .int .i64 4, .int .i64 3, .int .i64 5, .int .i64 6, .int .i64 8, .int .i64 41, .int .i64 43, sT, sO, .int .i64 (planWords P), v1, v2, .int .u8 1, .bool sec, .int .i64 o, .int .i64 inn, .int .i64 v, .int .i64 got, .int .i64 e0][k]?)
    ((with_reducible first | assumption | exact keepD (by assumption) | exact keepK (by assumption) (by omega)))
    (first
      | (go_at_call 33; refine (HC.out _ _ HE0.out HF0.out).mono ?_; rintro e wc ⟨hi, rfl, slc, hFc, hEc⟩; have HEc := Lib.hid (HE0.out.trans hEc); have HFc := Lib.hid hFc; have kc := keepB r0 ((HBK.out _ _ HEc.out).trans (HBK.out _ _ (Ev.refl g sl w)).symm); have kf := free_of_block (HBK.out _ _ HEc.out); have kx := cell_of_block (HBK.out _ _ HEc.out); clear hFc hEc hi))
  all_goals
    first | go_end0 | ((try simp only [Exit.inBlock, Exit.then]); refine bodyPost_ret (results_none rfl _ _ _) rfl ?_)
    exact ⟨slc, wc, rfl, HFc.out, HEc.out, rfl⟩

theorem tot_post (P : PartD) (o v : Int) : Tot (kPost P o v) := by
  unfold kPost
  exact Tot.ite ((tot_rput _ _ _).bind fun _ => Tot.ite (Tot.pure _) (Tot.off.bind fun _ => Tot.ite (Tot.pure _) (Tot.pure _))) (Tot.pure _)
theorem tot_fetch (P : PartD) (o : Int) : Tot (kFetch P o) := by
  unfold kFetch
  exact Tot.ite ((tot_rget _ _).bind fun _ => Tot.ite (Tot.pure _) (Tot.off.bind fun _ => Tot.ite (Tot.pure _) (Tot.pure _))) (Tot.pure _)

theorem postRun (P : PartD) (hn : P.thr.length ≤ 6) (hn2 : P.obj.length ≤ 8) (hr : RingOk P) (F : Nat → Prop) (xb : Nat) (sec : Bool) (o inn v got e0 : Int) (ho : I64 o) (hv : I64 v) (sT sO v1 v2 : Value) (mb wb : Nat) (m : Mem) (w : World) (hm : MemAt w mb wb m)
    (h0 : w.heap[xb]? = some (.cells (act23 sT sO v1 v2 (planWords P) 0 sec o inn v got e0) 49 (0, 0))) (hP : PlanVal w F (.agg (planArr sT sO v1 v2 (planWords P))) P) (hx : xb ≠ mb ∧ xb ≠ wb) (hF : ∀ k, F k → k < w.heap.size ∧ k ≠ wb ∧ k ≠ xb)
    (r : Int) (g : Int → Int) (c : Nat) (hd : Does (kPost P o v) m r g c) (hc : c ≤ 100) :
    Calls Try.prog 22 #[.pointer (some ⟨mb, 0, none⟩), bound 12 (.pointer (some ⟨xb, 0, none⟩)), .int .i64 60000] w (RanB w mb wb xb m.length g (act23 sT sO v1 v2 (planWords P) 0 sec o inn v got r) 49) := by
  obtain ⟨sE, hrun, hov, hg, hl⟩ := hd.runs (tot_post _ _ _) (most := 60000) (by omega) (by omega)
  refine (frunB w mb wb m hm 60000 (by omega) _ (.pointer (some ⟨xb, 0, none⟩)) enters_act23 (kPost P o v) (some r) sE xb F
    (fun w => (∃ e, w.heap[xb]? = some (.cells (act23 sT sO v1 v2 (planWords P) 0 sec o inn v got e) 49 (0, 0))) ∧ PlanVal w F (.agg (planArr sT sO v1 v2 (planWords P))) P)
    (fun r w => w.heap[xb]? = some (.cells (act23 sT sO v1 v2 (planWords P) 0 sec o inn v got r) 49 (0, 0))) ?_ (fun x w1 w2 h h' => h'.trans h) ⟨⟨e0, h0⟩, hP⟩ ⟨lt_of_block h0, hx⟩ (fun k hk => ⟨(hF k hk).1, (hF k hk).2.1⟩) ?_ hrun).mono ?_
  · rintro w1 w2 ⟨⟨e', h1⟩, h2⟩ hk2
    exact ⟨⟨e', (hk2 xb (lt_of_block h1) (.inr rfl)).trans h1⟩, h2.kept (fun k hk hF => hk2 k hk (.inl hF))⟩
  · rintro w1 gg sl s x s1 hFr ⟨⟨e', h1⟩, h2⟩ hap ha hlt hex
    refine (act23Post_any P hn hn2 hr F xb sec o inn v got e' ho hv sT sO v1 v2 w1 gg sl s hFr h1 h2 hap ha hlt x s1 hex).mono ?_
    rintro e w2 ⟨sl2, wc, he, hF2, hE2, rfl⟩
    have hb := (hE2.keep (lt_of_block h1) hap).trans h1
    have hb2 := set_blockK hb 20 (.int .i64 x)
    refine ⟨he, sl2, wc, hF2, hE2, (SameBut.refl _ _).set _ _, ⟨⟨x, hb2⟩, (h2.ev ha hE2).kept (fun k _ hFk => ?_)⟩, hb2⟩
    rw [block_setCell_other _ _ _ (hF k hFk).2.2]
  · rintro e w2 ⟨he, hm2, hR, hL⟩
    exact ⟨by rw [he, hov], sE.mem, hm2, hg, hl, hR r rfl, hL⟩
theorem fetchRun (P : PartD) (hn : P.thr.length ≤ 6) (hn2 : P.obj.length ≤ 8) (hr : RingOk P) (F : Nat → Prop) (xb : Nat) (sec : Bool) (o inn v got e0 : Int) (ho : I64 o) (sT sO v1 v2 : Value) (mb wb : Nat) (m : Mem) (w : World) (hm : MemAt w mb wb m)
    (h0 : w.heap[xb]? = some (.cells (act23 sT sO v1 v2 (planWords P) 1 sec o inn v got e0) 49 (0, 0))) (hP : PlanVal w F (.agg (planArr sT sO v1 v2 (planWords P))) P) (hx : xb ≠ mb ∧ xb ≠ wb) (hF : ∀ k, F k → k < w.heap.size ∧ k ≠ wb ∧ k ≠ xb)
    (r : Int × Int) (g : Int → Int) (c : Nat) (hd : Does (kFetch P o) m r g c) (hc : c ≤ 100) :
    Calls Try.prog 22 #[.pointer (some ⟨mb, 0, none⟩), bound 12 (.pointer (some ⟨xb, 0, none⟩)), .int .i64 60000] w (RanB w mb wb xb m.length g (act23 sT sO v1 v2 (planWords P) 1 sec o inn v r.1 r.2) 49) := by
  obtain ⟨sE, hrun, hov, hg, hl⟩ := hd.runs (tot_fetch _ _) (most := 60000) (by omega) (by omega)
  refine (frunB w mb wb m hm 60000 (by omega) _ (.pointer (some ⟨xb, 0, none⟩)) enters_act23 (kFetch P o) (some r) sE xb F
    (fun w => (∃ got e, w.heap[xb]? = some (.cells (act23 sT sO v1 v2 (planWords P) 1 sec o inn v got e) 49 (0, 0))) ∧ PlanVal w F (.agg (planArr sT sO v1 v2 (planWords P))) P)
    (fun r w => w.heap[xb]? = some (.cells (act23 sT sO v1 v2 (planWords P) 1 sec o inn v r.1 r.2) 49 (0, 0))) ?_ (fun x w1 w2 h h' => h'.trans h) ⟨⟨got, e0, h0⟩, hP⟩ ⟨lt_of_block h0, hx⟩ (fun k hk => ⟨(hF k hk).1, (hF k hk).2.1⟩) ?_ hrun).mono ?_
  · rintro w1 w2 ⟨⟨got', e', h1⟩, h2⟩ hk2
    exact ⟨⟨got', e', (hk2 xb (lt_of_block h1) (.inr rfl)).trans h1⟩, h2.kept (fun k hk hF => hk2 k hk (.inl hF))⟩
  · rintro w1 gg sl s x s1 hFr ⟨⟨got', e', h1⟩, h2⟩ hap ha hlt hex
    refine (act23Fetch_any P hn hn2 hr F xb sec o inn v got' e' ho sT sO v1 v2 w1 gg sl s hFr h1 h2 hap ha hlt x s1 hex).mono ?_
    rintro e w2 ⟨sl2, wc, he, hF2, hE2, rfl⟩
    have hb := (hE2.keep (lt_of_block h1) hap).trans h1
    have hb2 := set_blockK (set_blockK hb 19 (.int .i64 x.1)) 20 (.int .i64 x.2)
    refine ⟨he, sl2, wc, hF2, hE2, ((SameBut.refl _ _).set _ _).set _ _, ⟨⟨x.1, x.2, hb2⟩, (h2.ev ha hE2).kept (fun k _ hFk => ?_)⟩, hb2⟩
    rw [block_setCell_other _ _ _ (hF k hFk).2.2, block_setCell_other _ _ _ (hF k hFk).2.2]
  · rintro e w2 ⟨he, hm2, hR, hL⟩
    exact ⟨by rw [he, hov], sE.mem, hm2, hg, hl, hR r rfl, hL⟩
end Go.Proofs.Ytpidlgmigmbbbaa
