/-
  plan.boot.
-/
import Derived.Test.YtefbdcmodfbpbaaGreatBoot3
set_option linter.unusedVariables false
set_option linter.unusedSimpArgs false
namespace Go.Proofs.YtefbdcmodfbpbaaGreat
open Go.RowKit

def kCores (nt : Nat) : Nat → Nat → Int → Int → Bool → Prog Unit
  | 0, _, _, _, _ => pure ()
  | m + 1, c, n, prio, ok => if ok = true then do
      st (3 + 2 * c) (numOf nt n)
      let (n2, prio2, ok2) ← kQAfter 8 n prio
      kCores nt m (c + 1) n2 prio2 ok2
    else pure ()
def kBoot (P : PartD) : Prog Unit := do
  kQInit 8
  kInit 41
  kBootThrFrom P.thr 0
  kBootObjFrom P.thr.length P.obj 0
  let (n, prio, ok) ← kQFirst 8
  kCores P.thr.length 2 0 n prio ok

set_option maxRecDepth 100000 in
set_option maxHeartbeats 1600000 in
theorem boot_any (P : PartD) (pv : Value) (F : Nat → Prop) (hn : P.thr.length ≤ 6) (hn2 : P.obj.length ≤ 8) (hp : PriosOk P.thr) (ho : ObjsOk P.obj) (w : World) (g : FG) (sl : Value) (s : FS) (hF : Fr w g sl s) (h : PlanVal w F pv P) (ha : Apart F g sl) (hlt : ∀ k, F k → k < w.heap.size) (s' : FS) (hx : exec (kBoot P) s = some ((), s')) :
    Calls Tryz.prog 135 #[pv, .pointer (some ⟨g.fb, 0, none⟩)] w fun e w' => (True) ∧ Posts g sl s' w (.tuple #[]) e w' := by
  have hP0 := h
  obtain ⟨sT, sO, v1, v2, rfl, h1, h2, h3⟩ := h
  obtain ⟨A1, c1, e1⟩ := h1.slice
  obtain ⟨A2, c2, e2⟩ := h2.slice
  obtain ⟨u1, u2, e0, h5, h6⟩ := h3
  cases e0
  obtain ⟨A3, c3, rfl⟩ := h5.slice
  obtain ⟨A4, c4, rfl⟩ := ObjsAt.slice h6
  rw [thAts_length] at e1
  rw [obAts_length] at e2
  subst e1 e2
  unfold kBoot at hx
  obtain ⟨_, s1, x1, hx⟩ := exec_bind_some hx
  obtain ⟨_, s2, x2, hx⟩ := exec_bind_some hx
  obtain ⟨_, s3, x3, hx⟩ := exec_bind_some hx
  obtain ⟨_, s4, x4, hx⟩ := exec_bind_some hx
  obtain ⟨⟨n, prio, ok⟩, s5, x5, hx⟩ := exec_bind_some hx
  have X1 := Lib.hid x1
  have X2 := Lib.hid x2
  have X3 := Lib.hid x3
  have X4 := Lib.hid x4
  have X5 := Lib.hid x5
  have HX : Hid (exec (kCores P.thr.length 2 0 n prio ok) s5 = some ((), s')) := Lib.hid hx
  have HF0 := Lib.hid hF
  unfold planArr at *
  -- what a later world keeps
  have hK : ∀ wr slr, Ev g sl slr (w.alloc (.cells #[.int .i64 0, .int .i64 2, .int .i64 4, .int .i64 3, .int .i64 5, .int .i64 6, .int .i64 8, .int .i64 41, .int .i64 43, .slice A1 P.thr.length c1, .slice A2 P.obj.length c2, .int .i64 (planWords P), .slice A3 P.thr.length c3, .slice A4 P.obj.length c4] 61)) wr →
      PlanVal wr F (.agg #[.int .i64 0, .int .i64 2, .int .i64 4, .int .i64 3, .int .i64 5, .int .i64 6, .int .i64 8, .int .i64 41, .int .i64 43, .slice A1 P.thr.length c1, .slice A2 P.obj.length c2, .int .i64 (planWords P), .slice A3 P.thr.length c3, .slice A4 P.obj.length c4]) P ∧ Apart F g slr ∧ wr.heap[w.heap.size]? = some (.cells #[.int .i64 0, .int .i64 2, .int .i64 4, .int .i64 3, .int .i64 5, .int .i64 6, .int .i64 8, .int .i64 41, .int .i64 43, .slice A1 P.thr.length c1, .slice A2 P.obj.length c2, .int .i64 (planWords P), .slice A3 P.thr.length c3, .slice A4 P.obj.length c4] 61 (0, 0)) := by
    intro wr slr hE
    refine ⟨(hP0.kept (fun k hk _ => Below.heap_alloc _ _ _ hk)).ev ha hE, ha.ev hE (fun k hk => by have := hlt k hk; rw [World.size_alloc]; omega), ?_⟩
    rw [hE.keep (by simp) (hF.newApart _ (Nat.le_refl _))]
    exact heap_alloc_new _ _
  have HK := Lib.hid hK
  have HP := Lib.hid hp
  have HO := Lib.hid ho
  have HE0 := Lib.hid (Ev.refl g sl (w.alloc (.cells #[.int .i64 0, .int .i64 2, .int .i64 4, .int .i64 3, .int .i64 5, .int .i64 6, .int .i64 8, .int .i64 41, .int .i64 43, .slice A1 P.thr.length c1, .slice A2 P.obj.length c2, .int .i64 (planWords P), .slice A3 P.thr.length c3, .slice A4 P.obj.length c4] 61)))
  clear h1 h2 h5 h6 hP0 hF hx x1 x2 x3 x4 x5 hK hp ho ha hlt
  go_enter Tryz.func135, Tryz.ntmps135
  go_wp2_with fail
  go_at_call 204
  refine (qInit_any 8 (i64_small (by omega) (by omega)) _ g _ _ (HF0.out.alloc _) _ X1.out).mono ?_
  rintro e w1 ⟨_, rfl, sl1, hF1, hE1⟩
  have HF1 := Lib.hid hF1
  have HE1 := Lib.hid (HE0.out.trans hE1)
  have q1 := row_of (HK.out _ _ HE1.out).2.2
  have z1 : w.heap.size < w1.heap.size := by have := HE1.out.size; rw [World.size_alloc] at this; omega
  clear hF1 hE1
  go_wp2_with fail
  go_at_call 205
  refine (dInit_any 41 (i64_small (by omega) (by omega)) _ g _ _ HF1.out _ X2.out).mono ?_
  rintro e w2 ⟨_, rfl, sl2, hF2, hE2⟩
  have HF2 := Lib.hid hF2
  have HE2 := Lib.hid (HE1.out.trans hE2)
  have q2 := row_of (HK.out _ _ HE2.out).2.2
  have z2 : w.heap.size < w2.heap.size := by have := HE2.out.size; rw [World.size_alloc] at this; omega
  clear hF2 hE2 q1 z1
  go_wp2_with fail
  go_at_call 206
  refine (bootThreads_any P _ F hn HP.out _ g _ _ HF2.out (HK.out _ _ HE2.out).1 (HK.out _ _ HE2.out).2.1 _ X3.out).mono ?_
  rintro e w3 ⟨_, rfl, sl3, hF3, hE3⟩
  have HF3 := Lib.hid hF3
  have HE3 := Lib.hid (HE2.out.trans hE3)
  have q3 := row_of (HK.out _ _ HE3.out).2.2
  have z3 : w.heap.size < w3.heap.size := by have := HE3.out.size; rw [World.size_alloc] at this; omega
  clear hF3 hE3 q2 z2
  go_wp2_with fail
  go_at_call 207
  refine (bootObjects_any P _ F hn hn2 HO.out _ g _ _ HF3.out (HK.out _ _ HE3.out).1 (HK.out _ _ HE3.out).2.1 _ X4.out).mono ?_
  rintro e w4 ⟨_, rfl, sl4, hF4, hE4⟩
  have HF4 := Lib.hid hF4
  have HE4 := Lib.hid (HE3.out.trans hE4)
  have q4 := row_of (HK.out _ _ HE4.out).2.2
  have z4 : w.heap.size < w4.heap.size := by have := HE4.out.size; rw [World.size_alloc] at this; omega
  clear hF4 hE4 q3 z3
  go_wp2_with fail
  go_at_call 208
  refine (qFirst_any 8 (i64_small (by omega) (by omega)) _ g _ _ HF4.out _ _ X5.out).mono ?_
  rintro e w5 ⟨⟨hi1, hi2⟩, rfl, sl5, hF5, hE5⟩
  have HI1 := Lib.hid hi1
  have HI2 := Lib.hid hi2
  have HF5 := Lib.hid hF5
  have HE5 := Lib.hid (HE4.out.trans hE5)
  clear hF5 hE5 q4 z4 hi1 hi2
  go_wp2
  go_loopw [4, 5, 6, 7] (fun a b d i wr => ∃ (c : Nat) (n prio : Int) (ok : Bool) (slr : Value) (sr : FS), c ≤ 2 ∧ i = .int .i64 c ∧ a = .int .i64 n ∧ b = .int .i64 prio ∧ d = .bool ok ∧ Hid (I64 n) ∧ Hid (I64 prio) ∧ Hid (Fr wr g slr sr) ∧ Hid (Ev g sl slr (w.alloc (.cells #[.int .i64 0, .int .i64 2, .int .i64 4, .int .i64 3, .int .i64 5, .int .i64 6, .int .i64 8, .int .i64 41, .int .i64 43, .slice A1 P.thr.length c1, .slice A2 P.obj.length c2, .int .i64 (planWords P), .slice A3 P.thr.length c3, .slice A4 P.obj.length c4] 61)) wr) ∧ Hid (exec (kCores P.thr.length (2 - c) c n prio ok) sr = some ((), s'))) (fun _ _ _ i _ => 2 - (intOf i).toNat)
  case atStart => exact ⟨0, n, prio, ok, sl5, s5, by omega, rfl, rfl, rfl, rfl, HI1, HI2, HF5, HE5, HX⟩
  case round =>
    clear HX HF5 HE5 HI1 HI2
    obtain ⟨c, n, prio, ok, slr, sr, hc, rfl, rfl, rfl, rfl, HI1, HI2, hFr, hEr, hXr⟩ := hrel
    cases ok with
    | false =>
      have hfin : sr = s' := by
        have hx := hXr.out
        rcases Nat.lt_or_ge c 2 with h | h
        · rw [show 2 - c = (1 - c) + 1 by omega] at hx
          unfold kCores at hx
          exact (exec_pure (exec_ff rfl hx)).2
        · rw [show 2 - c = 0 by omega] at hx
          exact (exec_pure hx).2
      subst hfin
      clear hXr
      by_cases hlt : c < 2
      all_goals
        first | have hlc : (c : Int) < 2 := by omega | have hlc : ¬ (c : Int) < 2 := by omega
        go_wp2
        first | go_end0 | ((try simp only [Exit.inBlock, Exit.then]); refine bodyPost_ret (results_none rfl _ _ _) rfl ?_)
        first | exact ⟨trivial, by simp, slr, hFr.out, (Ev.alloc g sl w _).trans hEr.out⟩ | exact ⟨rfl, slr, hFr.out, (Ev.alloc g sl w _).trans hEr.out⟩
    | true =>
      obtain rfl | rfl | rfl : c = 0 ∨ c = 1 ∨ c = 2 := by omega
      · skip
        have hx := hXr.out
        rw [show 2 - 0 = 1 + 1 from rfl] at hx
        unfold kCores at hx
        have hx := exec_tt rfl hx
        obtain ⟨_, s6, x6, hx⟩ := exec_bind_some hx
        obtain ⟨⟨n2, prio2, ok2⟩, s7, x7, hx⟩ := exec_bind_some hx
        have X6 := Lib.hid x6
        have X7 := Lib.hid x7
        have HX2 : Hid (exec (kCores P.thr.length (2 - 1) 1 n2 prio2 ok2) s7 = some ((), s')) := Lib.hid hx
        clear x6 x7 hx hXr
        have q6 := row_of (HK.out _ _ hEr.out).2.2
        have z6 : w.heap.size < wr.heap.size := by have := hEr.out.size; rw [World.size_alloc] at this; omega
        have HPL := Lib.hid (HK.out _ _ hEr.out).1
        have HB6 := Lib.hid (HK.out _ _ hEr.out).2.2
        have HN6 : Hid (I64 (numOf P.thr.length n)) := Lib.hid (i64_small (by have := numOf_range P.thr.length n; omega) (by have := numOf_range P.thr.length n; omega))
        go_wp2_with fail
        go_region_with (first
          | (go_at_call 210; refine (number_any P _ F hn n _ (HPL.out.kept (w' := wr.drew) (fun _ _ _ => rfl))).mono ?_; rintro e wn ⟨rfl, hbn⟩; have qn := row_of ((hbn.block _ z6).trans HB6.out); have zn : w.heap.size < wn.heap.size := Nat.lt_of_lt_of_le z6 hbn.size; have HBn := Lib.hid hbn; clear hbn)
          | (go_at_call 209; refine (kstore _ (numOf P.thr.length n) HN6.out _ g _ _ (hFr.out.drew.below HBn.out) _ X6.out).mono ?_; rintro e w6 ⟨_, rfl, sl6, hF6, hE6⟩; have HF6 := Lib.hid hF6; have HE6 := Lib.hid hE6; clear hF6 hE6))
        all_goals
          have HE7 := Lib.hid (hEr.out.trans ((Ev.drew g slr wr).trans ((below_ev HBn.out g slr).trans HE6.out)))
          have q7 := row_of (HK.out _ _ HE7.out).2.2
          have z7 : w.heap.size < w6.heap.size := by have := HE7.out.size; rw [World.size_alloc] at this; omega
          clear q6 z6 qn zn
          go_wp2_with fail
          go_at_call 211
          refine (qAfter_any 8 n prio (i64_small (by omega) (by omega)) HI1.out HI2.out _ g _ _ HF6.out _ _ X7.out).mono ?_
          rintro e w8 ⟨⟨hi1, hi2⟩, rfl, sl8, hF8, hE8⟩
          have HJ1 := Lib.hid hi1
          have HJ2 := Lib.hid hi2
          have HF8 := Lib.hid hF8
          have HE8 := Lib.hid (HE7.out.trans hE8)
          clear hF8 hE8 q7 z7 hi1 hi2
          go_wp2
          go_roundw
          case rel => exact ⟨1, n2, prio2, ok2, sl8, s7, by omega, rfl, rfl, rfl, rfl, HJ1, HJ2, HF8, HE8, HX2⟩
          case measure => simp [intOf]
      · skip
        have hx := hXr.out
        rw [show 2 - 1 = 0 + 1 from rfl] at hx
        unfold kCores at hx
        have hx := exec_tt rfl hx
        obtain ⟨_, s6, x6, hx⟩ := exec_bind_some hx
        obtain ⟨⟨n2, prio2, ok2⟩, s7, x7, hx⟩ := exec_bind_some hx
        have X6 := Lib.hid x6
        have X7 := Lib.hid x7
        have HX2 : Hid (exec (kCores P.thr.length (2 - 2) 2 n2 prio2 ok2) s7 = some ((), s')) := Lib.hid hx
        clear x6 x7 hx hXr
        have q6 := row_of (HK.out _ _ hEr.out).2.2
        have z6 : w.heap.size < wr.heap.size := by have := hEr.out.size; rw [World.size_alloc] at this; omega
        have HPL := Lib.hid (HK.out _ _ hEr.out).1
        have HB6 := Lib.hid (HK.out _ _ hEr.out).2.2
        have HN6 : Hid (I64 (numOf P.thr.length n)) := Lib.hid (i64_small (by have := numOf_range P.thr.length n; omega) (by have := numOf_range P.thr.length n; omega))
        go_wp2_with fail
        go_region_with (first
          | (go_at_call 210; refine (number_any P _ F hn n _ (HPL.out.kept (w' := wr.drew) (fun _ _ _ => rfl))).mono ?_; rintro e wn ⟨rfl, hbn⟩; have qn := row_of ((hbn.block _ z6).trans HB6.out); have zn : w.heap.size < wn.heap.size := Nat.lt_of_lt_of_le z6 hbn.size; have HBn := Lib.hid hbn; clear hbn)
          | (go_at_call 209; refine (kstore _ (numOf P.thr.length n) HN6.out _ g _ _ (hFr.out.drew.below HBn.out) _ X6.out).mono ?_; rintro e w6 ⟨_, rfl, sl6, hF6, hE6⟩; have HF6 := Lib.hid hF6; have HE6 := Lib.hid hE6; clear hF6 hE6))
        all_goals
          have HE7 := Lib.hid (hEr.out.trans ((Ev.drew g slr wr).trans ((below_ev HBn.out g slr).trans HE6.out)))
          have q7 := row_of (HK.out _ _ HE7.out).2.2
          have z7 : w.heap.size < w6.heap.size := by have := HE7.out.size; rw [World.size_alloc] at this; omega
          clear q6 z6 qn zn
          go_wp2_with fail
          go_at_call 211
          refine (qAfter_any 8 n prio (i64_small (by omega) (by omega)) HI1.out HI2.out _ g _ _ HF6.out _ _ X7.out).mono ?_
          rintro e w8 ⟨⟨hi1, hi2⟩, rfl, sl8, hF8, hE8⟩
          have HJ1 := Lib.hid hi1
          have HJ2 := Lib.hid hi2
          have HF8 := Lib.hid hF8
          have HE8 := Lib.hid (HE7.out.trans hE8)
          clear hF8 hE8 q7 z7 hi1 hi2
          go_wp2
          go_roundw
          case rel => exact ⟨2, n2, prio2, ok2, sl8, s7, by omega, rfl, rfl, rfl, rfl, HJ1, HJ2, HF8, HE8, HX2⟩
          case measure => simp [intOf]
      · have hx := hXr.out
        rw [show 2 - 2 = 0 from rfl] at hx
        obtain ⟨-, rfl⟩ := exec_pure hx
        clear hx hXr
        go_wp2
        first | go_end0 | ((try simp only [Exit.inBlock, Exit.then]); refine bodyPost_ret (results_none rfl _ _ _) rfl ?_)
        first | exact ⟨trivial, by simp, slr, hFr.out, (Ev.alloc g sl w _).trans hEr.out⟩ | exact ⟨rfl, slr, hFr.out, (Ev.alloc g sl w _).trans hEr.out⟩
end Go.Proofs.YtefbdcmodfbpbaaGreat
