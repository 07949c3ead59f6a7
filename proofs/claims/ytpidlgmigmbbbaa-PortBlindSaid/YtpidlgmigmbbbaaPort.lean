/-
  port.Post, port.Fetch, as programs over words. (Printed by gen_port.py.)
-/
import Derived.Test.YtpidlgmigmbbbaaPlanE
import Derived.Test.YtpidlgmigmbbbaaRing
set_option linter.unusedVariables false
set_option linter.unusedSimpArgs false
namespace Go.Proofs.Ytpidlgmigmbbbaa
open Go.RowKit

def kPost (P : PartD) (o v : Int) : Prog Int := if isKB P o 6 = true then do
    let ok ← kRPut (obAt P.thr.length o + 4) (objD P o).size v
    if ok = true then pure 0 else do
      let off ← isOff
      if off = true then pure 0 else pure 11
  else pure 1
set_option maxRecDepth 100000 in
set_option maxHeartbeats 6000000 in
theorem post_any (P : PartD) (pv : Value) (F : Nat → Prop) (hn : P.thr.length ≤ 6) (hn2 : P.obj.length ≤ 8) (hr : RingOk P) (o : Int) (v : Int) (h_o : I64 o) (h_v : I64 v) (w : World) (g : FG) (sl : Value) (s : FS) (hF : Fr w g sl s) (h : PlanVal w F pv P) (ha : Apart F g sl) (hlt : ∀ k, F k → k < w.heap.size) (r : Int) (s' : FS) (hx : exec (kPost P o v) s = some (r, s')) :
    Calls Try.prog 32 #[.pointer (some ⟨g.fb, 0, none⟩), pv, .int .i64 o, .int .i64 v] w fun e w' => (I64 r) ∧ Posts g sl s' w (.int .i64 r) e w' := by
  have hP0 := h
  obtain ⟨sT, sO, v1, v2, rfl, h1, h2, h3⟩ := h
  have HK := Lib.hid (plan_env hF hP0 ha hlt)
  have HLT := Lib.hid (fun W (hs : w.heap.size ≤ W.heap.size) k (hk : F k) => Nat.lt_of_lt_of_le (hlt k hk) hs : ∀ W : World, w.heap.size ≤ W.heap.size → ∀ k, F k → k < W.heap.size)
  have HF0 := Lib.hid (hF.alloc (.cells (planArr sT sO v1 v2 (planWords P)) 40))
  have HE0 := Lib.hid (Ev.refl g sl (w.alloc (.cells (planArr sT sO v1 v2 (planWords P)) 40)))
  have w_o : wrap64 o = o := wrap64_i64 h_o
  have HI_o := Lib.hid h_o
  have w_v : wrap64 v = v := wrap64_i64 h_v
  have HI_v := Lib.hid h_v
  clear h1 h2 h3 hF hP0 ha hlt h_o h_v
  unfold planArr at *
  unfold kPost at hx
  cases hk : isKB P o 6 with
  | true =>
    have hx := exec_tt hk hx
    have C1 := Lib.hid (fun (W : World) (hP : PlanVal W F (.agg #[.int .i64 0, .int .i64 2, .int .i64 4, .int .i64 3, .int .i64 5, .int .i64 6, .int .i64 8, .int .i64 41, .int .i64 43, sT, sO, .int .i64 (planWords P), v1, v2]) P) => isKind_any P _ F o 6 true hk W hP)
    obtain ⟨o0, o1, -⟩ := isKB_ok hk
    obtain ⟨c0, c1⟩ := hr.get hk (by omega)
    have C2 := Lib.hid (fun (W : World) (hP : PlanVal W F (.agg #[.int .i64 0, .int .i64 2, .int .i64 4, .int .i64 3, .int .i64 5, .int .i64 6, .int .i64 8, .int .i64 41, .int .i64 43, sT, sO, .int .i64 (planWords P), v1, v2]) P) => things_any P _ F hn hn2 o o0 o1 W hP)
    have C3 := Lib.hid (fun (W : World) (hP : PlanVal W F (.agg #[.int .i64 0, .int .i64 2, .int .i64 4, .int .i64 3, .int .i64 5, .int .i64 6, .int .i64 8, .int .i64 41, .int .i64 43, sT, sO, .int .i64 (planWords P), v1, v2]) P) => size_any P _ F o o0 o1 W hP)
    obtain ⟨ok, s4, x4, hx⟩ := exec_bind_some hx
    have C4 := Lib.hid (fun W sl' hF' => rPut_any (obAt P.thr.length o + 4) (objD P o).size v (i64_small (by unfold obAt; omega) (by unfold obAt; omega)) (i64_small (by omega) (by omega)) HI_v.out c0 c1 W g sl' s hF' _ s4 x4)
    clear x4
    cases hok : ok with
    | true =>
      have hx := exec_tt hok hx
      subst hok
      obtain ⟨rfl, rfl⟩ := exec_pure hx
      clear hx
      go_enter Try.func32, Try.ntmps32
      go_wp2_with fail
      go_at_call 34
      refine (C1.out _ (HK.out _ _ HE0.out).1).mono ?_
      rintro e w1 ⟨rfl, hb1⟩
      have HE1 := Lib.hid (HE0.out.trans (below_ev hb1 g sl))
      have HF1 := Lib.hid (HF0.out.below hb1)
      have q1 := row_of (HK.out _ _ HE1.out).2.2
      have z1 := ev_lt HE1.out
      clear hb1
      have HE1d := Lib.hid (HE1.out.trans (Ev.drew g sl w1))
      have HF1d := Lib.hid (HF1.out.drew)
      go_wp2_with fail
      have q1d := row_of (HK.out _ _ HE1d.out).2.2
      first
      | (go_region_with (first
          | (go_at_call 71; refine (C2.out _ (HK.out _ _ HE1d.out).1).mono ?_; rintro e w2 ⟨rfl, hb2⟩; have HE2 := Lib.hid (HE1d.out.trans (below_ev hb2 g sl)); have HF2 := Lib.hid (HF1d.out.below hb2); have q2 := row_of (HK.out _ _ HE2.out).2.2; have z2 := ev_lt HE2.out; clear hb2)
          | (go_at_call 72; refine (C3.out _ (HK.out _ _ HE2.out).1).mono ?_; rintro e w3 ⟨rfl, hb3⟩; have HE3 := Lib.hid (HE2.out.trans (below_ev hb3 g sl)); have HF3 := Lib.hid (HF2.out.below hb3); have q3 := row_of (HK.out _ _ HE3.out).2.2; have z3 := ev_lt HE3.out; clear hb3)
          | (go_at_call 70; refine (C4.out _ _ HF3.out).mono ?_; rintro e w4 ⟨_, rfl, sl4, hF4, hE4⟩; have HF4 := Lib.hid hF4; have HE4 := Lib.hid (HE3.out.trans hE4); have q4 := row_of (HK.out _ _ HE4.out).2.2; have z4 := ev_lt HE4.out; clear hF4 hE4)))
      | fail
      all_goals
        go_wp2
        go_ret
        exact ⟨(i64_small (by omega) (by omega)), by simp, sl4, HF4.out, (Ev.alloc g sl w _).trans HE4.out⟩
    | false =>
      have hx := exec_ff hok hx
      subst hok
      obtain ⟨off, s5, x5, hx⟩ := exec_bind_some hx
      have C5 := Lib.hid (fun W sl' hF' => koff  W g sl' s4 hF' _ s5 x5)
      clear x5
      cases hof : off with
      | true =>
        have hx := exec_tt hof hx
        subst hof
        obtain ⟨rfl, rfl⟩ := exec_pure hx
        clear hx
        go_enter Try.func32, Try.ntmps32
        go_wp2_with fail
        go_at_call 34
        refine (C1.out _ (HK.out _ _ HE0.out).1).mono ?_
        rintro e w1 ⟨rfl, hb1⟩
        have HE1 := Lib.hid (HE0.out.trans (below_ev hb1 g sl))
        have HF1 := Lib.hid (HF0.out.below hb1)
        have q1 := row_of (HK.out _ _ HE1.out).2.2
        have z1 := ev_lt HE1.out
        clear hb1
        have HE1d := Lib.hid (HE1.out.trans (Ev.drew g sl w1))
        have HF1d := Lib.hid (HF1.out.drew)
        go_wp2_with fail
        have q1d := row_of (HK.out _ _ HE1d.out).2.2
        first
        | (go_region_held3 (fun w' => ∀ k, w'.cell? ⟨w.heap.size, k, none⟩ = #[.int .i64 0, .int .i64 2, .int .i64 4, .int .i64 3, .int .i64 5, .int .i64 6, .int .i64 8, .int .i64 41, .int .i64 43, sT, sO, .int .i64 (planWords P), v1, v2][k]?)
          ((with_reducible assumption))
          (first
            | (go_at_call 71; refine (C2.out _ (HK.out _ _ HE1d.out).1).mono ?_; rintro e w2 ⟨rfl, hb2⟩; have HE2 := Lib.hid (HE1d.out.trans (below_ev hb2 g sl)); have HF2 := Lib.hid (HF1d.out.below hb2); have q2 := row_of (HK.out _ _ HE2.out).2.2; have z2 := ev_lt HE2.out; clear hb2)
            | (go_at_call 72; refine (C3.out _ (HK.out _ _ HE2.out).1).mono ?_; rintro e w3 ⟨rfl, hb3⟩; have HE3 := Lib.hid (HE2.out.trans (below_ev hb3 g sl)); have HF3 := Lib.hid (HF2.out.below hb3); have q3 := row_of (HK.out _ _ HE3.out).2.2; have z3 := ev_lt HE3.out; clear hb3)
            | (go_at_call 70; refine (C4.out _ _ HF3.out).mono ?_; rintro e w4 ⟨_, rfl, sl4, hF4, hE4⟩; have HF4 := Lib.hid hF4; have HE4 := Lib.hid (HE3.out.trans hE4); have q4 := row_of (HK.out _ _ HE4.out).2.2; have z4 := ev_lt HE4.out; clear hF4 hE4)
            | (go_at_call 73; refine (C5.out _ _ HF4.out).mono ?_; rintro e w5 ⟨_, rfl, sl5, hF5, hE5⟩; have HF5 := Lib.hid hF5; have HE5 := Lib.hid (HE4.out.trans hE5); have q5 := row_of (HK.out _ _ HE5.out).2.2; have z5 := ev_lt HE5.out; clear hF5 hE5)))
        | fail
        all_goals
          go_wp2
          go_ret
          exact ⟨(i64_small (by omega) (by omega)), by simp, sl5, HF5.out, (Ev.alloc g sl w _).trans HE5.out⟩
      | false =>
        have hx := exec_ff hof hx
        subst hof
        obtain ⟨rfl, rfl⟩ := exec_pure hx
        clear hx
        go_enter Try.func32, Try.ntmps32
        go_wp2_with fail
        go_at_call 34
        refine (C1.out _ (HK.out _ _ HE0.out).1).mono ?_
        rintro e w1 ⟨rfl, hb1⟩
        have HE1 := Lib.hid (HE0.out.trans (below_ev hb1 g sl))
        have HF1 := Lib.hid (HF0.out.below hb1)
        have q1 := row_of (HK.out _ _ HE1.out).2.2
        have z1 := ev_lt HE1.out
        clear hb1
        have HE1d := Lib.hid (HE1.out.trans (Ev.drew g sl w1))
        have HF1d := Lib.hid (HF1.out.drew)
        go_wp2_with fail
        have q1d := row_of (HK.out _ _ HE1d.out).2.2
        first
        | (go_region_held3 (fun w' => ∀ k, w'.cell? ⟨w.heap.size, k, none⟩ = #[.int .i64 0, .int .i64 2, .int .i64 4, .int .i64 3, .int .i64 5, .int .i64 6, .int .i64 8, .int .i64 41, .int .i64 43, sT, sO, .int .i64 (planWords P), v1, v2][k]?)
          ((with_reducible assumption))
          (first
            | (go_at_call 71; refine (C2.out _ (HK.out _ _ HE1d.out).1).mono ?_; rintro e w2 ⟨rfl, hb2⟩; have HE2 := Lib.hid (HE1d.out.trans (below_ev hb2 g sl)); have HF2 := Lib.hid (HF1d.out.below hb2); have q2 := row_of (HK.out _ _ HE2.out).2.2; have z2 := ev_lt HE2.out; clear hb2)
            | (go_at_call 72; refine (C3.out _ (HK.out _ _ HE2.out).1).mono ?_; rintro e w3 ⟨rfl, hb3⟩; have HE3 := Lib.hid (HE2.out.trans (below_ev hb3 g sl)); have HF3 := Lib.hid (HF2.out.below hb3); have q3 := row_of (HK.out _ _ HE3.out).2.2; have z3 := ev_lt HE3.out; clear hb3)
            | (go_at_call 70; refine (C4.out _ _ HF3.out).mono ?_; rintro e w4 ⟨_, rfl, sl4, hF4, hE4⟩; have HF4 := Lib.hid hF4; have HE4 := Lib.hid (HE3.out.trans hE4); have q4 := row_of (HK.out _ _ HE4.out).2.2; have z4 := ev_lt HE4.out; clear hF4 hE4)
            | (go_at_call 73; refine (C5.out _ _ HF4.out).mono ?_; rintro e w5 ⟨_, rfl, sl5, hF5, hE5⟩; have HF5 := Lib.hid hF5; have HE5 := Lib.hid (HE4.out.trans hE5); have q5 := row_of (HK.out _ _ HE5.out).2.2; have z5 := ev_lt HE5.out; clear hF5 hE5)))
        | fail
        all_goals
          go_wp2
          go_ret
          exact ⟨(i64_small (by omega) (by omega)), by simp, sl5, HF5.out, (Ev.alloc g sl w _).trans HE5.out⟩
  | false =>
    have hx := exec_ff hk hx
    have C6 := Lib.hid (fun (W : World) (hP : PlanVal W F (.agg #[.int .i64 0, .int .i64 2, .int .i64 4, .int .i64 3, .int .i64 5, .int .i64 6, .int .i64 8, .int .i64 41, .int .i64 43, sT, sO, .int .i64 (planWords P), v1, v2]) P) => isKind_any P _ F o 6 false hk W hP)
    obtain ⟨rfl, rfl⟩ := exec_pure hx
    clear hx
    go_enter Try.func32, Try.ntmps32
    go_wp2_with fail
    go_at_call 34
    refine (C6.out _ (HK.out _ _ HE0.out).1).mono ?_
    rintro e w6 ⟨rfl, hb6⟩
    have HE6 := Lib.hid (HE0.out.trans (below_ev hb6 g sl))
    have HF6 := Lib.hid (HF0.out.below hb6)
    have q6 := row_of (HK.out _ _ HE6.out).2.2
    have z6 := ev_lt HE6.out
    clear hb6
    go_wp2
    go_ret
    exact ⟨(i64_small (by omega) (by omega)), by simp, sl, HF6.out, (Ev.alloc g sl w _).trans HE6.out⟩
def kFetch (P : PartD) (o : Int) : Prog (Int × Int) := if isKB P o 7 = true then do
    let (v, ok) ← kRGet (obAt P.thr.length o + 4) (objD P o).size
    if ok = true then pure (v, 0) else do
      let off ← isOff
      if off = true then pure (v, 0) else pure (0, 12)
  else pure (0, 1)
set_option maxRecDepth 100000 in
set_option maxHeartbeats 6000000 in
theorem fetch_any (P : PartD) (pv : Value) (F : Nat → Prop) (hn : P.thr.length ≤ 6) (hn2 : P.obj.length ≤ 8) (hr : RingOk P) (o : Int) (h_o : I64 o) (w : World) (g : FG) (sl : Value) (s : FS) (hF : Fr w g sl s) (h : PlanVal w F pv P) (ha : Apart F g sl) (hlt : ∀ k, F k → k < w.heap.size) (r : (Int × Int)) (s' : FS) (hx : exec (kFetch P o) s = some (r, s')) :
    Calls Try.prog 33 #[.pointer (some ⟨g.fb, 0, none⟩), pv, .int .i64 o] w fun e w' => (I64 r.1 ∧ I64 r.2) ∧ Posts g sl s' w (.tuple #[.int .i64 r.1, .int .i64 r.2]) e w' := by
  have hP0 := h
  obtain ⟨sT, sO, v1, v2, rfl, h1, h2, h3⟩ := h
  have HK := Lib.hid (plan_env hF hP0 ha hlt)
  have HLT := Lib.hid (fun W (hs : w.heap.size ≤ W.heap.size) k (hk : F k) => Nat.lt_of_lt_of_le (hlt k hk) hs : ∀ W : World, w.heap.size ≤ W.heap.size → ∀ k, F k → k < W.heap.size)
  have HF0 := Lib.hid (hF.alloc (.cells (planArr sT sO v1 v2 (planWords P)) 40))
  have HE0 := Lib.hid (Ev.refl g sl (w.alloc (.cells (planArr sT sO v1 v2 (planWords P)) 40)))
  have w_o : wrap64 o = o := wrap64_i64 h_o
  have HI_o := Lib.hid h_o
  clear h1 h2 h3 hF hP0 ha hlt h_o
  unfold planArr at *
  unfold kFetch at hx
  cases hk : isKB P o 7 with
  | true =>
    have hx := exec_tt hk hx
    have C1 := Lib.hid (fun (W : World) (hP : PlanVal W F (.agg #[.int .i64 0, .int .i64 2, .int .i64 4, .int .i64 3, .int .i64 5, .int .i64 6, .int .i64 8, .int .i64 41, .int .i64 43, sT, sO, .int .i64 (planWords P), v1, v2]) P) => isKind_any P _ F o 7 true hk W hP)
    obtain ⟨o0, o1, -⟩ := isKB_ok hk
    obtain ⟨c0, c1⟩ := hr.get hk (by omega)
    have C2 := Lib.hid (fun (W : World) (hP : PlanVal W F (.agg #[.int .i64 0, .int .i64 2, .int .i64 4, .int .i64 3, .int .i64 5, .int .i64 6, .int .i64 8, .int .i64 41, .int .i64 43, sT, sO, .int .i64 (planWords P), v1, v2]) P) => things_any P _ F hn hn2 o o0 o1 W hP)
    have C3 := Lib.hid (fun (W : World) (hP : PlanVal W F (.agg #[.int .i64 0, .int .i64 2, .int .i64 4, .int .i64 3, .int .i64 5, .int .i64 6, .int .i64 8, .int .i64 41, .int .i64 43, sT, sO, .int .i64 (planWords P), v1, v2]) P) => size_any P _ F o o0 o1 W hP)
    obtain ⟨⟨v, ok⟩, s4, x4, hx⟩ := exec_bind_some hx
    try dsimp only at hx
    have C4 := Lib.hid (fun W sl' hF' => rGet_any (obAt P.thr.length o + 4) (objD P o).size (i64_small (by unfold obAt; omega) (by unfold obAt; omega)) (i64_small (by omega) (by omega)) c0 c1 W g sl' s hF' _ s4 x4)
    clear x4
    cases hok : ok with
    | true =>
      have hx := exec_tt hok hx
      subst hok
      obtain ⟨rfl, rfl⟩ := exec_pure hx
      clear hx
      go_enter Try.func33, Try.ntmps33
      go_wp2_with fail
      go_at_call 34
      refine (C1.out _ (HK.out _ _ HE0.out).1).mono ?_
      rintro e w1 ⟨rfl, hb1⟩
      have HE1 := Lib.hid (HE0.out.trans (below_ev hb1 g sl))
      have HF1 := Lib.hid (HF0.out.below hb1)
      have q1 := row_of (HK.out _ _ HE1.out).2.2
      have z1 := ev_lt HE1.out
      clear hb1
      have HE1d := Lib.hid (HE1.out.trans (Ev.drew g sl w1))
      have HF1d := Lib.hid (HF1.out.drew)
      go_wp2_with fail
      have q1d := row_of (HK.out _ _ HE1d.out).2.2
      first
      | (go_region_held3 (fun w' => ∀ k, w'.cell? ⟨w.heap.size, k, none⟩ = #[.int .i64 0, .int .i64 2, .int .i64 4, .int .i64 3, .int .i64 5, .int .i64 6, .int .i64 8, .int .i64 41, .int .i64 43, sT, sO, .int .i64 (planWords P), v1, v2][k]?)
        ((with_reducible assumption))
        (first
          | (go_at_call 71; refine (C2.out _ (HK.out _ _ HE1d.out).1).mono ?_; rintro e w2 ⟨rfl, hb2⟩; have HE2 := Lib.hid (HE1d.out.trans (below_ev hb2 g sl)); have HF2 := Lib.hid (HF1d.out.below hb2); have q2 := row_of (HK.out _ _ HE2.out).2.2; have z2 := ev_lt HE2.out; clear hb2)
          | (go_at_call 72; refine (C3.out _ (HK.out _ _ HE2.out).1).mono ?_; rintro e w3 ⟨rfl, hb3⟩; have HE3 := Lib.hid (HE2.out.trans (below_ev hb3 g sl)); have HF3 := Lib.hid (HF2.out.below hb3); have q3 := row_of (HK.out _ _ HE3.out).2.2; have z3 := ev_lt HE3.out; clear hb3)
          | (go_at_call 74; refine (C4.out _ _ HF3.out).mono ?_; rintro e w4 ⟨hi_v, rfl, sl4, hF4, hE4⟩; have HF4 := Lib.hid hF4; have HE4 := Lib.hid (HE3.out.trans hE4); have q4 := row_of (HK.out _ _ HE4.out).2.2; have z4 := ev_lt HE4.out; have w_v : wrap64 v = v := wrap64_i64 hi_v; have HI_v := Lib.hid hi_v; clear hF4 hE4 hi_v)))
      | fail
      all_goals
        go_wp2
        go_ret2
        exact ⟨⟨HI_v.out, (i64_small (by omega) (by omega))⟩, by simp, sl4, HF4.out, (Ev.alloc g sl w _).trans HE4.out⟩
    | false =>
      have hx := exec_ff hok hx
      subst hok
      obtain ⟨off, s5, x5, hx⟩ := exec_bind_some hx
      have C5 := Lib.hid (fun W sl' hF' => koff  W g sl' s4 hF' _ s5 x5)
      clear x5
      cases hof : off with
      | true =>
        have hx := exec_tt hof hx
        subst hof
        obtain ⟨rfl, rfl⟩ := exec_pure hx
        clear hx
        go_enter Try.func33, Try.ntmps33
        go_wp2_with fail
        go_at_call 34
        refine (C1.out _ (HK.out _ _ HE0.out).1).mono ?_
        rintro e w1 ⟨rfl, hb1⟩
        have HE1 := Lib.hid (HE0.out.trans (below_ev hb1 g sl))
        have HF1 := Lib.hid (HF0.out.below hb1)
        have q1 := row_of (HK.out _ _ HE1.out).2.2
        have z1 := ev_lt HE1.out
        clear hb1
        have HE1d := Lib.hid (HE1.out.trans (Ev.drew g sl w1))
        have HF1d := Lib.hid (HF1.out.drew)
        go_wp2_with fail
        have q1d := row_of (HK.out _ _ HE1d.out).2.2
        first
        | (go_region_held3 (fun w' => ∀ k, w'.cell? ⟨w.heap.size, k, none⟩ = #[.int .i64 0, .int .i64 2, .int .i64 4, .int .i64 3, .int .i64 5, .int .i64 6, .int .i64 8, .int .i64 41, .int .i64 43, sT, sO, .int .i64 (planWords P), v1, v2][k]?)
          ((with_reducible assumption))
          (first
            | (go_at_call 71; refine (C2.out _ (HK.out _ _ HE1d.out).1).mono ?_; rintro e w2 ⟨rfl, hb2⟩; have HE2 := Lib.hid (HE1d.out.trans (below_ev hb2 g sl)); have HF2 := Lib.hid (HF1d.out.below hb2); have q2 := row_of (HK.out _ _ HE2.out).2.2; have z2 := ev_lt HE2.out; clear hb2)
            | (go_at_call 72; refine (C3.out _ (HK.out _ _ HE2.out).1).mono ?_; rintro e w3 ⟨rfl, hb3⟩; have HE3 := Lib.hid (HE2.out.trans (below_ev hb3 g sl)); have HF3 := Lib.hid (HF2.out.below hb3); have q3 := row_of (HK.out _ _ HE3.out).2.2; have z3 := ev_lt HE3.out; clear hb3)
            | (go_at_call 74; refine (C4.out _ _ HF3.out).mono ?_; rintro e w4 ⟨hi_v, rfl, sl4, hF4, hE4⟩; have HF4 := Lib.hid hF4; have HE4 := Lib.hid (HE3.out.trans hE4); have q4 := row_of (HK.out _ _ HE4.out).2.2; have z4 := ev_lt HE4.out; have w_v : wrap64 v = v := wrap64_i64 hi_v; have HI_v := Lib.hid hi_v; clear hF4 hE4 hi_v)))
        | fail
        all_goals
          go_wp2_with fail
          go_at_call 73
          refine (C5.out _ _ HF4.out).mono ?_
          rintro e w5 ⟨_, rfl, sl5, hF5, hE5⟩
          have HF5 := Lib.hid hF5
          have HE5 := Lib.hid (HE4.out.trans hE5)
          have q5 := row_of (HK.out _ _ HE5.out).2.2
          have z5 := ev_lt HE5.out
          clear hF5 hE5
          clear q1 z1 q2 z2 q3 z3 q4 z4
          go_wp2
          go_ret2
          exact ⟨⟨HI_v.out, (i64_small (by omega) (by omega))⟩, by simp, sl5, HF5.out, (Ev.alloc g sl w _).trans HE5.out⟩
      | false =>
        have hx := exec_ff hof hx
        subst hof
        obtain ⟨rfl, rfl⟩ := exec_pure hx
        clear hx
        go_enter Try.func33, Try.ntmps33
        go_wp2_with fail
        go_at_call 34
        refine (C1.out _ (HK.out _ _ HE0.out).1).mono ?_
        rintro e w1 ⟨rfl, hb1⟩
        have HE1 := Lib.hid (HE0.out.trans (below_ev hb1 g sl))
        have HF1 := Lib.hid (HF0.out.below hb1)
        have q1 := row_of (HK.out _ _ HE1.out).2.2
        have z1 := ev_lt HE1.out
        clear hb1
        have HE1d := Lib.hid (HE1.out.trans (Ev.drew g sl w1))
        have HF1d := Lib.hid (HF1.out.drew)
        go_wp2_with fail
        have q1d := row_of (HK.out _ _ HE1d.out).2.2
        first
        | (go_region_held3 (fun w' => ∀ k, w'.cell? ⟨w.heap.size, k, none⟩ = #[.int .i64 0, .int .i64 2, .int .i64 4, .int .i64 3, .int .i64 5, .int .i64 6, .int .i64 8, .int .i64 41, .int .i64 43, sT, sO, .int .i64 (planWords P), v1, v2][k]?)
          ((with_reducible assumption))
          (first
            | (go_at_call 71; refine (C2.out _ (HK.out _ _ HE1d.out).1).mono ?_; rintro e w2 ⟨rfl, hb2⟩; have HE2 := Lib.hid (HE1d.out.trans (below_ev hb2 g sl)); have HF2 := Lib.hid (HF1d.out.below hb2); have q2 := row_of (HK.out _ _ HE2.out).2.2; have z2 := ev_lt HE2.out; clear hb2)
            | (go_at_call 72; refine (C3.out _ (HK.out _ _ HE2.out).1).mono ?_; rintro e w3 ⟨rfl, hb3⟩; have HE3 := Lib.hid (HE2.out.trans (below_ev hb3 g sl)); have HF3 := Lib.hid (HF2.out.below hb3); have q3 := row_of (HK.out _ _ HE3.out).2.2; have z3 := ev_lt HE3.out; clear hb3)
            | (go_at_call 74; refine (C4.out _ _ HF3.out).mono ?_; rintro e w4 ⟨hi_v, rfl, sl4, hF4, hE4⟩; have HF4 := Lib.hid hF4; have HE4 := Lib.hid (HE3.out.trans hE4); have q4 := row_of (HK.out _ _ HE4.out).2.2; have z4 := ev_lt HE4.out; have w_v : wrap64 v = v := wrap64_i64 hi_v; have HI_v := Lib.hid hi_v; clear hF4 hE4 hi_v)))
        | fail
        all_goals
          go_wp2_with fail
          go_at_call 73
          refine (C5.out _ _ HF4.out).mono ?_
          rintro e w5 ⟨_, rfl, sl5, hF5, hE5⟩
          have HF5 := Lib.hid hF5
          have HE5 := Lib.hid (HE4.out.trans hE5)
          have q5 := row_of (HK.out _ _ HE5.out).2.2
          have z5 := ev_lt HE5.out
          clear hF5 hE5
          clear q1 z1 q2 z2 q3 z3 q4 z4
          go_wp2
          go_ret2
          exact ⟨⟨(i64_small (by omega) (by omega)), (i64_small (by omega) (by omega))⟩, by simp, sl5, HF5.out, (Ev.alloc g sl w _).trans HE5.out⟩
  | false =>
    have hx := exec_ff hk hx
    have C6 := Lib.hid (fun (W : World) (hP : PlanVal W F (.agg #[.int .i64 0, .int .i64 2, .int .i64 4, .int .i64 3, .int .i64 5, .int .i64 6, .int .i64 8, .int .i64 41, .int .i64 43, sT, sO, .int .i64 (planWords P), v1, v2]) P) => isKind_any P _ F o 7 false hk W hP)
    obtain ⟨rfl, rfl⟩ := exec_pure hx
    clear hx
    go_enter Try.func33, Try.ntmps33
    go_wp2_with fail
    go_at_call 34
    refine (C6.out _ (HK.out _ _ HE0.out).1).mono ?_
    rintro e w6 ⟨rfl, hb6⟩
    have HE6 := Lib.hid (HE0.out.trans (below_ev hb6 g sl))
    have HF6 := Lib.hid (HF0.out.below hb6)
    have q6 := row_of (HK.out _ _ HE6.out).2.2
    have z6 := ev_lt HE6.out
    clear hb6
    go_wp2
    go_ret2
    exact ⟨⟨(i64_small (by omega) (by omega)), (i64_small (by omega) (by omega))⟩, by simp, sl, HF6.out, (Ev.alloc g sl w _).trans HE6.out⟩
end Go.Proofs.Ytpidlgmigmbbbaa
