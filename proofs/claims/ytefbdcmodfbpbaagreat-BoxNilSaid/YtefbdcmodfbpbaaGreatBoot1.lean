/-
  plan.bootThreads.
-/
import Derived.Test.YtefbdcmodfbpbaaGreatBInit
import Derived.Test.YtefbdcmodfbpbaaGreatThread
set_option linter.unusedVariables false
set_option linter.unusedSimpArgs false
namespace Go.Proofs.YtefbdcmodfbpbaaGreat
open Go.RowKit

def kBootThrFrom : List ThreadD → Nat → Prog Unit
  | [], _ => pure ()
  | t :: ts, i => do
    st (thAt i + 6) t.prio
    st (thAt i + 7) t.prio
    kInit (thAt i + 2)
    kQAdd 8 (thAt i) t.prio
    kBootThrFrom ts (i + 1)

/-- Priorities are small. -/
def PriosOk (ts : List ThreadD) : Prop := ∀ t ∈ ts, 0 ≤ t.prio ∧ t.prio < 16

/-- Blocks that a frame's run leaves alone. -/
theorem Ev.keep {g : FG} {sl sl' : Value} {w w' : World} (h : Ev g sl sl' w w') {k : Nat} (hk : k < w.heap.size) (ha : k ≠ g.fb ∧ k ≠ g.wb ∧ sl.ownBlock ≠ some k) : w'.heap[k]? = w.heap[k]? := h.block k hk ha.1 ha.2.1 ha.2.2
theorem Fr.newApart {w : World} {g : FG} {sl : Value} {s : FS} (h : Fr w g sl s) (k : Nat) (hk : w.heap.size ≤ k) : k ≠ g.fb ∧ k ≠ g.wb ∧ sl.ownBlock ≠ some k := by
  obtain ⟨l1, l2, l3, l4⟩ := h.lts
  exact ⟨by omega, by omega, fun e => by have := l4 k e; omega⟩
theorem row_of {w : World} {b : Nat} {cs : Array Value} {t : TypeId} (h : w.heap[b]? = some (.cells cs t (0, 0))) : ∀ k, w.cell? ⟨b, k, none⟩ = cs[k]? := fun k => cell_of_block h k

theorem plan_keep {w : World} {g : FG} {sl : Value} {s : FS} {F : Nat → Prop} {o : Obj} (hF : Fr w g sl s) (ha : Apart F g sl) (wr : World) (slr : Value) (hE : Ev g sl slr (w.alloc o) wr) :
    (∀ b i, F b → b < w.heap.size → wr.cell? ⟨b, i, none⟩ = w.cell? ⟨b, i, none⟩) ∧ wr.heap[w.heap.size]? = some o := by
  refine ⟨fun b i hb hl => ?_, ?_⟩
  · refine World.cell?_of_block ?_
    rw [hE.keep (by simp; omega) (ha b hb)]
    exact Below.heap_alloc _ _ _ hl
  · rw [hE.keep (by simp) (hF.newApart _ (Nat.le_refl _))]
    exact heap_alloc_new _ _

set_option maxRecDepth 100000 in
set_option maxHeartbeats 1600000 in
theorem bootThreads_any (P : PartD) (pv : Value) (F : Nat → Prop) (hn : P.thr.length ≤ 6) (hp : PriosOk P.thr) (w : World) (g : FG) (sl : Value) (s : FS) (hF : Fr w g sl s) (h : PlanVal w F pv P) (ha : Apart F g sl) (s' : FS) (hx : exec (kBootThrFrom P.thr 0) s = some ((), s')) :
    Calls Tryz.prog 206 #[pv, .pointer (some ⟨g.fb, 0, none⟩)] w fun e w' => (True) ∧ Posts g sl s' w (.tuple #[]) e w' := by
  obtain ⟨sT, sO, v1, v2, rfl, h1, h2, h3⟩ := h
  obtain ⟨A1, c1, e1⟩ := h1.slice
  obtain ⟨u1, u2, e0, h5, h6⟩ := h3
  cases e0
  obtain ⟨A3, c3, rfl⟩ := h5.slice
  rw [thAts_length] at e1
  subst e1
  have HI := Lib.hid h1
  have HT := Lib.hid h5
  have HA := Lib.hid ha
  have HP := Lib.hid hp
  have HF0 := Lib.hid hF
  have HX := Lib.hid hx
  clear h1 h2 h5 h6 ha hp hF hx
  unfold planArr at *
  go_enter Tryz.func206, Tryz.ntmps206
  go_wp2
  have HK := Lib.hid (fun wr slr hE => plan_keep (F := F) (o := .cells #[.int .i64 0, .int .i64 2, .int .i64 4, .int .i64 3, .int .i64 5, .int .i64 6, .int .i64 8, .int .i64 41, .int .i64 43, .slice A1 P.thr.length c1, sO, .int .i64 (planWords P), .slice A3 P.thr.length c3, v2] 61) HF0.out HA.out wr slr hE)
  go_loopw [11] (fun i wr => ∃ k : Nat, k ≤ P.thr.length ∧ i = .int .i64 k ∧ ∃ slr sr, Hid (Fr wr g slr sr) ∧ Hid (Ev g sl slr (w.alloc (.cells #[.int .i64 0, .int .i64 2, .int .i64 4, .int .i64 3, .int .i64 5, .int .i64 6, .int .i64 8, .int .i64 41, .int .i64 43, .slice A1 P.thr.length c1, sO, .int .i64 (planWords P), .slice A3 P.thr.length c3, v2] 61)) wr) ∧ Hid (exec (kBootThrFrom (P.thr.drop k) k) sr = some ((), s'))) (fun i _ => P.thr.length - (intOf i).toNat)
  case atStart => exact ⟨0, by omega, rfl, sl, s, Lib.hid (HF0.out.alloc _), Lib.hid (Ev.refl _ _ _), HX⟩
  case round =>
    obtain ⟨k, hk, rfl, slr, sr, hFr, hEr, hXr⟩ := hrel
    obtain ⟨K1, K2⟩ := HK.out _ _ hEr.out
    by_cases hlt : k < P.thr.length
    · have hlc : (k : Int) < (P.thr.length : Int) := by omega
      have hx := hXr.out
      rw [List.drop_eq_getElem_cons hlt] at hx
      unfold kBootThrFrom at hx
      obtain ⟨_, s1, x1, hx⟩ := exec_bind_some hx
      obtain ⟨_, s2, x2, hx⟩ := exec_bind_some hx
      obtain ⟨_, s3, x3, hx⟩ := exec_bind_some hx
      obtain ⟨_, s4, x4, hx⟩ := exec_bind_some hx
      have X1 := Lib.hid x1
      have X2 := Lib.hid x2
      have X3 := Lib.hid x3
      have X4 := Lib.hid x4
      have HX2 := Lib.hid hx
      have hpk := HP.out P.thr[k] (List.getElem_mem hlt)
      obtain ⟨b, o, c', e, hFb, hcells⟩ := HT.out.cells (by omega)
      cases e
      obtain ⟨pv, hcs, d0, d1, d2, d3⟩ := hcells k P.thr[k] (List.getElem?_eq_getElem hlt)
      obtain ⟨Ap, cp, rfl⟩ := hcs.slice
      have lb : b < w.heap.size := World.block_lt_of_cell? w _ d0
      rw [← K1 b _ hFb lb] at d0 d1 d2 d3
      obtain ⟨b1, o1, c1', e, hFb1, hcells1⟩ := HI.out.cell (by rw [thAts_length]; omega)
      rw [thAts_length] at e
      cases e
      have e0 := hcells1 k (thAt k) (by simp [thAts, hlt])
      have lb1 : b1 < w.heap.size := World.block_lt_of_cell? w _ e0
      rw [← K1 b1 _ hFb1 lb1] at e0
      have r0 := row_of K2
      have hsz : w.heap.size < wr.heap.size := by have := hEr.out.size; rw [World.size_alloc] at this; omega
      have lbr : b < wr.heap.size := by omega
      have lbr1 : b1 < wr.heap.size := by omega
      clear x1 x2 x3 x4 hx hXr hcells hcells1 K1 K2 hcs
      unfold thAt at *
      generalize P.thr[k] = th at *
      have HE0 := Lib.hid (Ev.refl g slr (wr.alloc (.cells #[.int .i64 th.prio, .int .u32 th.caps, .bool th.control, .slice Ap th.prog.length cp] 105)))
      have hi : I64 th.prio := i64_small (by omega) (by omega)
      have HI9 := Lib.hid hi
      clear hi
      go_wp2_with fail
      go_at_call 209
      refine (kstore _ th.prio HI9.out _ g _ _ (hFr.out.alloc _) _ X1.out).mono ?_
      rintro e w1 ⟨_, rfl, sl1, hF1, hE1⟩
      have HF1 := Lib.hid hF1
      have HE1 := Lib.hid (HE0.out.trans hE1)
      have q1 := row_of ((HE1.out.keep (by simp) (hFr.out.newApart _ (Nat.le_refl _))).trans (heap_alloc_new wr (.cells #[.int .i64 th.prio, .int .u32 th.caps, .bool th.control, .slice Ap th.prog.length cp] 105)))
      clear hF1 hE1
      go_wp2_with fail
      go_at_call 209
      refine (kstore _ th.prio HI9.out _ g _ _ HF1.out _ X2.out).mono ?_
      rintro e w2 ⟨_, rfl, sl2, hF2, hE2⟩
      have HF2 := Lib.hid hF2
      have HE2 := Lib.hid (HE1.out.trans hE2)
      have q2 := row_of ((HE2.out.keep (by simp) (hFr.out.newApart _ (Nat.le_refl _))).trans (heap_alloc_new wr (.cells #[.int .i64 th.prio, .int .u32 th.caps, .bool th.control, .slice Ap th.prog.length cp] 105)))
      clear hF2 hE2 q1
      go_wp2_with fail
      go_at_call 274
      refine (init_any _ (i64_small (by omega) (by omega)) _ g _ _ HF2.out _ X3.out).mono ?_
      rintro e w3 ⟨_, rfl, sl3, hF3, hE3⟩
      have HF3 := Lib.hid hF3
      have HE3 := Lib.hid (HE2.out.trans hE3)
      have q3 := row_of ((HE3.out.keep (by simp) (hFr.out.newApart _ (Nat.le_refl _))).trans (heap_alloc_new wr (.cells #[.int .i64 th.prio, .int .u32 th.caps, .bool th.control, .slice Ap th.prog.length cp] 105)))
      have p3 := row_of (HK.out _ _ (hEr.out.trans ((Ev.alloc g slr wr _).trans HE3.out))).2
      clear hF3 hE3 q2
      go_wp2_with fail
      go_at_call 276
      refine (qAdd_any 8 _ th.prio (i64_small (by omega) (by omega)) (i64_small (by omega) (by omega)) HI9.out _ g _ _ HF3.out _ X4.out).mono ?_
      rintro e w4 ⟨_, rfl, sl4, hF4, hE4⟩
      have HF4 := Lib.hid hF4
      have HE4 := Lib.hid (hEr.out.trans ((Ev.alloc g slr wr _).trans (HE3.out.trans hE4)))
      clear hF4 hE4 q3 p3
      go_wp2
      go_roundw
      case rel => exact ⟨k + 1, by omega, by go_num, sl4, s4, HF4, HE4, HX2⟩
      case measure => simp [intOf]; omega
    · have hke : P.thr.drop k = [] := List.drop_eq_nil_of_le (by omega)
      have hx := hXr.out
      rw [hke] at hx
      obtain ⟨-, rfl⟩ := exec_pure hx
      clear hx hke K1 K2
      go_wp2
      first | go_end0 | ((try simp only [Exit.inBlock, Exit.then]); refine bodyPost_ret (results_none rfl _ _ _) rfl ?_)
      exact ⟨trivial, by simp, slr, hFr.out, (Ev.alloc g sl w _).trans hEr.out⟩
end Go.Proofs.YtefbdcmodfbpbaaGreat
