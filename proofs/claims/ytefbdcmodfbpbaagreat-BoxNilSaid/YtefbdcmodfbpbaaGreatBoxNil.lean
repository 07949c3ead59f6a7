/-
  awake of layer 27: the box of one thread takes three steps; three events are noted.
  What a box's functions do where there is none, or no such core.
  BoxNil: a nil box does nothing; of no such core nothing is done.
-/
import Derived.Test.YtefbdcmodfbpbaaGreatBoxI
import Derived.Test.YtefbdcmodfbpbaaGreatHist
import Derived.Test.YtefbdcmodfbpbaaGreatFew
set_option linter.unusedVariables false
set_option linter.unusedSimpArgs false
namespace Go.Proofs.YtefbdcmodfbpbaaGreat
open Go.RowKit

theorem oneP_part (w : World) : PartAt ((w.alloc (.cells #[.int .i64 0, .int .i64 0, .int .i64 0, .int .i64 0, .slice none 0 0, .int .i64 0] 28)).alloc (.cells #[.int .i64 0, .int .u32 0, .bool false, .slice (some ⟨w.heap.size, 0, none⟩) 1 1] 105)) (fun _ => True) (.agg #[.slice (some ⟨w.heap.size + 1, 0, none⟩) 1 1, .slice none 0 0]) oneP := by
  refine ⟨_, _, rfl, ⟨[.slice (some ⟨w.heap.size, 0, none⟩) 1 1], rfl, ⟨rfl, some ⟨w.heap.size + 1, 0, none⟩, 1, rfl, fun _ => ⟨_, _, rfl, trivial, fun j u hu => ?_⟩⟩, ?_⟩, ⟨rfl, none, 0, rfl, fun h => absurd h (by simp [oneP])⟩⟩
  · rw [cell_of_block (two_second w _ _)]
    simpa [encThreads, oneP, threadCells] using hu
  · intro i t u ht hu
    match i, ht, hu with
    | 0, ht, hu =>
      simp [oneP] at ht hu
      subst ht hu
      refine ⟨[.slice none 0 0], rfl, ⟨rfl, some ⟨w.heap.size, 0, none⟩, 1, rfl, fun _ => ⟨_, _, rfl, trivial, fun j u hu => ?_⟩⟩, ?_⟩
      · rw [cell_of_block (two_first w _ _)]
        simpa [encCalls, callCells, call0] using hu
      · intro i c u hc hu
        match i, hc, hu with
        | 0, hc, hu =>
          simp at hc hu
          subst hc hu
          exact ⟨rfl, none, 0, rfl, fun h => absurd h (by simp [call0])⟩

theorem oneP_idle {w1 w' : World} {F : Nat → Prop} {bb mb wb sb : Nat} {sT sO v1 v2 : Value} {B : Nat} (hB : B ≤ w1.heap.size)
    (hb : w'.heap[bb]? = some (.cells (boxArr sT sO v1 v2 (planWords oneP) mb (wrap64 (rdM (bootM oneP) 3 - 1)) (wrap64 (rdM (bootM oneP) 5 - 1)) (.pointer none) (.pointer none) (.slice (some ⟨sb, 0, none⟩) oneP.thr.length oneP.thr.length) 0 (.slice none 0 0)) 150 (0, 0)))
    (hP : PlanVal w' F (.agg (planArr sT sO v1 v2 (planWords oneP))) oneP) (hM : MemAt w' mb wb (bootM oneP)) (hs : w'.heap[sb]? = some (.cells (madeCells stateZ (oneP.thr.length * 5)) 152 (0, 0))) (hl : Below w1.heap.size w1 w')
    (lo : w1.heap.size ≤ bb ∧ w1.heap.size ≤ mb ∧ w1.heap.size ≤ wb ∧ w1.heap.size ≤ sb) (ne : bb ≠ mb ∧ bb ≠ wb ∧ bb ≠ sb ∧ sb ≠ mb ∧ sb ≠ wb) (sep : ∀ k, F k → k < w'.heap.size ∧ k ≠ bb ∧ k ≠ mb ∧ k ≠ wb ∧ k ≠ sb) :
    Idle w' bb mb wb sb F sT sO v1 v2 (bootM oneP) (-1) B := by
  rw [oneP_c0, oneP_c1, show wrap64 ((1 : Int) - 1) = 0 from wrap64_i64 (by unfold I64; omega), show wrap64 ((0 : Int) - 1) = -1 from wrap64_i64 (by unfold I64; omega)] at hb
  rw [show madeCells stateZ (oneP.thr.length * 5) = #[.int .i64 0, .bool false, .bool false, .int .i64 0, .int .i64 0] from by kernel_rfl] at hs
  refine ⟨hb, hP, hM, hs, ne, sep, by omega, by have := hl.size; omega⟩

set_option maxHeartbeats 400000 in
theorem history_any (bb gg n cap : Nat) (w : World) (hn : n ≤ 10000) (hb : w.cell? ⟨bb, 21, none⟩ = some (.slice (some ⟨gg, 0, none⟩) n cap)) (hg : gg < w.heap.size) (hE : EvsAt w gg n) :
    Calls Tryz.prog 39 #[.pointer (some ⟨bb, 0, none⟩)] w fun e w' => ∃ A, e = .returned (.slice A n n) ∧ Below w.heap.size w w' := by
  have HE := Lib.hid (events_any bb 21 gg n cap w hn hb hg hE)
  clear hE hg hb
  go_enter Tryz.func39, Tryz.ntmps39
  go_wp2_with fail
  go_at_call 91
  refine HE.out.mono ?_
  rintro e w' ⟨A, rfl, hB⟩
  have HB := Lib.hid hB
  clear hB
  go_wp2
  go_ret
  exact ⟨A, rfl, HB.out⟩

theorem threeEvs {w : World} {B gg cap : Nat} {k0 s0 c0 t0 k1 s1 c1 t1 k2 s2 c2 t2 : Int} {A1 A2 A3 A4 A5 A6 : Option Addr} {n1 n2 n3 n4 n5 n6 : Nat}
    (h : w.ownsRow B 222 13 (.slice (some ⟨gg, 0, none⟩) 3 cap) 3 ((evCells k0 s0 c0 t0 call0 (.slice A1 0 n1) 0 0 (.slice A2 0 n2) ++ evCells k1 s1 c1 t1 call0 (.slice A3 0 n3) 0 0 (.slice A4 0 n4)) ++ evCells k2 s2 c2 t2 call0 (.slice A5 0 n5) 0 0 (.slice A6 0 n6))) : EvsAt w gg 3 := by
  intro j hj
  match j, hj with
  | 0, _ =>
    refine ⟨k0, s0, c0, t0, call0, A1, n1, 0, 0, A2, n2, rfl, fun k v hv => own_cell h ?_⟩
    have hk : k < 13 := (List.getElem?_eq_some_iff.mp hv).1
    match k, hk with
    | 0, _ => exact hv
    | 1, _ => exact hv
    | 2, _ => exact hv
    | 3, _ => exact hv
    | 4, _ => exact hv
    | 5, _ => exact hv
    | 6, _ => exact hv
    | 7, _ => exact hv
    | 8, _ => exact hv
    | 9, _ => exact hv
    | 10, _ => exact hv
    | 11, _ => exact hv
    | 12, _ => exact hv
  | 1, _ =>
    refine ⟨k1, s1, c1, t1, call0, A3, n3, 0, 0, A4, n4, rfl, fun k v hv => own_cell h ?_⟩
    have hk : k < 13 := (List.getElem?_eq_some_iff.mp hv).1
    match k, hk with
    | 0, _ => exact hv
    | 1, _ => exact hv
    | 2, _ => exact hv
    | 3, _ => exact hv
    | 4, _ => exact hv
    | 5, _ => exact hv
    | 6, _ => exact hv
    | 7, _ => exact hv
    | 8, _ => exact hv
    | 9, _ => exact hv
    | 10, _ => exact hv
    | 11, _ => exact hv
    | 12, _ => exact hv
  | 2, _ =>
    refine ⟨k2, s2, c2, t2, call0, A5, n5, 0, 0, A6, n6, rfl, fun k v hv => own_cell h ?_⟩
    have hk : k < 13 := (List.getElem?_eq_some_iff.mp hv).1
    match k, hk with
    | 0, _ => exact hv
    | 1, _ => exact hv
    | 2, _ => exact hv
    | 3, _ => exact hv
    | 4, _ => exact hv
    | 5, _ => exact hv
    | 6, _ => exact hv
    | 7, _ => exact hv
    | 8, _ => exact hv
    | 9, _ => exact hv
    | 10, _ => exact hv
    | 11, _ => exact hv
    | 12, _ => exact hv

set_option maxRecDepth 100000 in
set_option maxHeartbeats 4000000 in
theorem awake27_any (w : World) : Calls Tryz.prog 30 #[] w fun e w' => e = .returned (.bool true) ∧ Below w.heap.size w w' := by
  have HN := Lib.hid (boxNew_yes oneP _ _ oneP_ok oneP_wrong _ (oneP_part w))
  go_enter Tryz.func30, Tryz.ntmps30
  go_wp2_with fail
  go_at_call 43
  refine HN.out.mono ?_
  rintro e w1 ⟨F, bb, mb, wb, sb, sT, sO, v1, v2, rfl, hb, hP, hM, hs, hl, lo, ne, sep⟩
  have hz : w.heap.size ≤ ((w.alloc (.cells #[.int .i64 0, .int .i64 0, .int .i64 0, .int .i64 0, .slice none 0 0, .int .i64 0] 28)).alloc (.cells #[.int .i64 0, .int .u32 0, .bool false, .slice (some ⟨w.heap.size, 0, none⟩) 1 1] 105)).heap.size := by simp; omega
  have hI := oneP_idle hz hb hP hM hs hl lo ne sep
  have HB1 := Lib.hid (show Below w.heap.size w w1 from (((Below.refl _ _).alloc (Nat.le_refl _) _).alloc (by simp) _).trans (hl.mono hz))
  obtain ⟨sA, xA, eA⟩ := sectA (bootM oneP) oneP_l0
  have HS := Lib.hid (stepFirst_any bb mb wb sb F sT sO v1 v2 (bootM oneP) (-1) w.heap.size w1 hI sA xA (by rw [eA]; rfl))
  clear hb hP hM hs hl lo ne sep hI xA hz
  go_wp2_with fail
  refine wp_loop_rounds 4 ?_
  rw [rounds_succ]
  go_wp2_with fail
  go_at_call 31
  refine HS.out.mono ?_
  rintro e w2 ⟨rfl, hB2, tb, ob, fb, sl, cs, hv, A1, c1, A2, c2, A, c, hI, h15⟩
  rw [eA] at hI
  obtain ⟨sB, xB, eB⟩ := sectB (bootM oneP) (by rw [rd_wr _ _ _ (by unfold InR; rw [oneP_len]; omega), upd_other _ _ _ _ (by omega)]; exact oneP_l1)
  have HS2 := Lib.hid (stepIn_any hI h15 (by omega) 1 sB rfl (by simp [fsB]) xB)
  rw [eB] at HS2
  have HB2 := Lib.hid hB2
  have H15 := Lib.hid h15
  clear hI h15 hB2 xB HS HN
  go_wp2_with fail
  rw [rounds_succ]
  go_wp2_with fail
  go_at_call 31
  refine HS2.out.mono ?_
  rintro e w3 ⟨rfl, hB3, ⟨_, sl3, hI3⟩ | ⟨hf, _⟩⟩
  rotate_left
  · exact absurd hf (by simp [fsC])
  obtain ⟨sC, xC, eC⟩ := sectC (bootM oneP)
  have HS3 := Lib.hid (stepIn_any hI3 H15.out (by omega) 2 sC rfl (by simp [fsC]) xC)
  rw [eC] at HS3
  have HB3 := Lib.hid hB3
  clear hI3 hB3 xC HS2
  go_wp2_with fail
  rw [rounds_succ]
  go_wp2_with fail
  go_at_call 31
  refine HS3.out.mono ?_
  rintro e w4 ⟨rfl, hB4, ⟨hf, _⟩ | ⟨_, cs4, hv4, A3, c3, A4, c4, A5, c5, A6, c6, hb4, hc4, hr4⟩⟩
  · exact absurd hf (by simp [fsD])
  rcases hr4.2 with ⟨_, h0⟩ | ⟨gg, cap, cur, rfl, hgB, hg4, _⟩
  · exact absurd h0 (by omega)
  have HH := Lib.hid (history_any bb gg 3 cap w4 (by omega) ((cell_of_block hb4 21).trans hc4) (lt_of_block hg4) (threeEvs hr4))
  have HB4 := Lib.hid hB4
  clear hb4 hc4 hr4 hg4 hB4 HS3
  go_wp2_with fail
  rw [rounds_succ]
  go_wp2_with fail
  go_at_call 39
  refine HH.out.mono ?_
  rintro e w5 ⟨A7, rfl, hB5⟩
  have HB5 := Lib.hid hB5
  clear hB5
  go_wp2
  go_ret
  exact ⟨rfl, below_end (((HB1.out.trans HB2.out).trans HB3.out).trans HB4.out) (Nat.le_refl _) HB5.out⟩
end Go.Proofs.YtefbdcmodfbpbaaGreat
namespace Go.Proofs.YtefbdcmodfbpbaaGreat
open Go.RowKit

set_option maxRecDepth 100000 in
set_option maxHeartbeats 1600000 in
theorem is_nil (core : Int) (w : World) :
    Calls Tryz.prog 84 #[.pointer none, .int .i64 core] w fun e w' => e = .returned (.bool false) ∧ w' = w := by
  go_enter Tryz.func84, Tryz.ntmps84
  go_wp2
  first | go_ret2 | go_ret
  exact ⟨rfl, rfl⟩
set_option maxRecDepth 100000 in
set_option maxHeartbeats 1600000 in
theorem runs_nil (core : Int) (w : World) :
    Calls Tryz.prog 34 #[.pointer none, .int .i64 core] w fun e w' => e = .returned (.tuple #[.int .i64 0, .bool false]) ∧ w' = w := by
  go_enter Tryz.func34, Tryz.ntmps34
  go_wp2_with (go_at_call 84; refine (is_nil core _).mono ?_; rintro e w' ⟨rfl, rfl⟩)
  first | go_ret2 | go_ret
  exact ⟨rfl, rfl⟩
set_option maxRecDepth 100000 in
set_option maxHeartbeats 1600000 in
theorem within_nil (core : Int) (w : World) :
    Calls Tryz.prog 36 #[.pointer none, .int .i64 core] w fun e w' => e = .returned (.bool false) ∧ w' = w := by
  go_enter Tryz.func36, Tryz.ntmps36
  go_wp2_with (go_at_call 84; refine (is_nil core _).mono ?_; rintro e w' ⟨rfl, rfl⟩)
  first | go_ret2 | go_ret
  exact ⟨rfl, rfl⟩
set_option maxRecDepth 100000 in
set_option maxHeartbeats 1600000 in
theorem called_nil (core : Int) (w : World) :
    Calls Tryz.prog 37 #[.pointer none, .int .i64 core] w fun e w' => e = .returned (.bool false) ∧ w' = w := by
  go_enter Tryz.func37, Tryz.ntmps37
  go_wp2_with (go_at_call 84; refine (is_nil core _).mono ?_; rintro e w' ⟨rfl, rfl⟩)
  first | go_ret2 | go_ret
  exact ⟨rfl, rfl⟩
set_option maxRecDepth 100000 in
set_option maxHeartbeats 1600000 in
theorem spins_nil (core : Int) (w : World) :
    Calls Tryz.prog 35 #[.pointer none, .int .i64 core] w fun e w' => e = .returned (.tuple #[.int .i64 0, .bool false]) ∧ w' = w := by
  go_enter Tryz.func35, Tryz.ntmps35
  go_wp2_with (go_at_call 34; refine (runs_nil core _).mono ?_; rintro e w' ⟨rfl, rfl⟩)
  first | go_ret2 | go_ret
  exact ⟨rfl, rfl⟩
set_option maxRecDepth 100000 in
set_option maxHeartbeats 1600000 in
theorem step_nil (core : Int) (now : Int) (w : World) :
    Calls Tryz.prog 31 #[.pointer none, .int .i64 core, .int .i64 now] w fun e w' => e = .returned (.tuple #[]) ∧ w' = w := by
  go_enter Tryz.func31, Tryz.ntmps31
  go_wp2_with (go_at_call 84; refine (is_nil core _).mono ?_; rintro e w' ⟨rfl, rfl⟩)
  first | go_end0 | ((try simp only [Exit.inBlock, Exit.then]); refine bodyPost_ret (results_none rfl _ _ _) rfl ?_)
  exact ⟨rfl, rfl⟩
set_option maxRecDepth 100000 in
set_option maxHeartbeats 1600000 in
theorem through_nil (core : Int) (now : Int) (w : World) :
    Calls Tryz.prog 33 #[.pointer none, .int .i64 core, .int .i64 now] w fun e w' => e = .returned (.tuple #[]) ∧ w' = w := by
  go_enter Tryz.func33, Tryz.ntmps33
  go_wp2_with (go_at_call 37; refine (called_nil core _).mono ?_; rintro e w' ⟨rfl, rfl⟩)
  first | go_end0 | ((try simp only [Exit.inBlock, Exit.then]); refine bodyPost_ret (results_none rfl _ _ _) rfl ?_)
  exact ⟨rfl, rfl⟩
set_option maxRecDepth 100000 in
set_option maxHeartbeats 1600000 in
theorem is_odd (bb : Nat) (core : Int) (h0 : ¬ core = 0) (h1 : ¬ core = 1) (w : World) :
    Calls Tryz.prog 84 #[.pointer (some ⟨bb, 0, none⟩), .int .i64 core] w fun e w' => e = .returned (.bool false) ∧ w' = w := by
  have e0 : (core == 0) = false := by simpa using h0
  have e1 : (core == 1) = false := by simpa using h1
  go_enter Tryz.func84, Tryz.ntmps84
  go_wp2
  first | go_ret2 | go_ret
  refine ⟨?_, rfl⟩
  first | rfl | simp [e0, e1]
set_option maxRecDepth 100000 in
set_option maxHeartbeats 1600000 in
theorem runs_odd (bb : Nat) (core : Int) (h0 : ¬ core = 0) (h1 : ¬ core = 1) (w : World) :
    Calls Tryz.prog 34 #[.pointer (some ⟨bb, 0, none⟩), .int .i64 core] w fun e w' => e = .returned (.tuple #[.int .i64 0, .bool false]) ∧ w' = w := by
  go_enter Tryz.func34, Tryz.ntmps34
  go_wp2_with (go_at_call 84; refine (is_odd bb core h0 h1 _).mono ?_; rintro e w' ⟨rfl, rfl⟩)
  first | go_ret2 | go_ret
  exact ⟨rfl, rfl⟩
set_option maxRecDepth 100000 in
set_option maxHeartbeats 1600000 in
theorem within_odd (bb : Nat) (core : Int) (h0 : ¬ core = 0) (h1 : ¬ core = 1) (w : World) :
    Calls Tryz.prog 36 #[.pointer (some ⟨bb, 0, none⟩), .int .i64 core] w fun e w' => e = .returned (.bool false) ∧ w' = w := by
  go_enter Tryz.func36, Tryz.ntmps36
  go_wp2_with (go_at_call 84; refine (is_odd bb core h0 h1 _).mono ?_; rintro e w' ⟨rfl, rfl⟩)
  first | go_ret2 | go_ret
  exact ⟨rfl, rfl⟩
set_option maxRecDepth 100000 in
set_option maxHeartbeats 1600000 in
theorem called_odd (bb : Nat) (core : Int) (h0 : ¬ core = 0) (h1 : ¬ core = 1) (w : World) :
    Calls Tryz.prog 37 #[.pointer (some ⟨bb, 0, none⟩), .int .i64 core] w fun e w' => e = .returned (.bool false) ∧ w' = w := by
  go_enter Tryz.func37, Tryz.ntmps37
  go_wp2_with (go_at_call 84; refine (is_odd bb core h0 h1 _).mono ?_; rintro e w' ⟨rfl, rfl⟩)
  first | go_ret2 | go_ret
  exact ⟨rfl, rfl⟩
set_option maxRecDepth 100000 in
set_option maxHeartbeats 1600000 in
theorem spins_odd (bb : Nat) (core : Int) (h0 : ¬ core = 0) (h1 : ¬ core = 1) (w : World) :
    Calls Tryz.prog 35 #[.pointer (some ⟨bb, 0, none⟩), .int .i64 core] w fun e w' => e = .returned (.tuple #[.int .i64 0, .bool false]) ∧ w' = w := by
  go_enter Tryz.func35, Tryz.ntmps35
  go_wp2_with (go_at_call 34; refine (runs_odd bb core h0 h1 _).mono ?_; rintro e w' ⟨rfl, rfl⟩)
  first | go_ret2 | go_ret
  exact ⟨rfl, rfl⟩
set_option maxRecDepth 100000 in
set_option maxHeartbeats 1600000 in
theorem step_odd (bb : Nat) (core : Int) (h0 : ¬ core = 0) (h1 : ¬ core = 1) (now : Int) (w : World) :
    Calls Tryz.prog 31 #[.pointer (some ⟨bb, 0, none⟩), .int .i64 core, .int .i64 now] w fun e w' => e = .returned (.tuple #[]) ∧ w' = w := by
  go_enter Tryz.func31, Tryz.ntmps31
  go_wp2_with (go_at_call 84; refine (is_odd bb core h0 h1 _).mono ?_; rintro e w' ⟨rfl, rfl⟩)
  first | go_end0 | ((try simp only [Exit.inBlock, Exit.then]); refine bodyPost_ret (results_none rfl _ _ _) rfl ?_)
  exact ⟨rfl, rfl⟩
set_option maxRecDepth 100000 in
set_option maxHeartbeats 1600000 in
theorem through_odd (bb : Nat) (core : Int) (h0 : ¬ core = 0) (h1 : ¬ core = 1) (now : Int) (w : World) :
    Calls Tryz.prog 33 #[.pointer (some ⟨bb, 0, none⟩), .int .i64 core, .int .i64 now] w fun e w' => e = .returned (.tuple #[]) ∧ w' = w := by
  go_enter Tryz.func33, Tryz.ntmps33
  go_wp2_with (go_at_call 37; refine (called_odd bb core h0 h1 _).mono ?_; rintro e w' ⟨rfl, rfl⟩)
  first | go_end0 | ((try simp only [Exit.inBlock, Exit.then]); refine bodyPost_ret (results_none rfl _ _ _) rfl ?_)
  exact ⟨rfl, rfl⟩
set_option maxRecDepth 100000 in
set_option maxHeartbeats 1600000 in
theorem tick_nil  (w : World) :
    Calls Tryz.prog 32 #[.pointer none] w fun e w' => e = .returned (.tuple #[]) ∧ w' = w := by
  go_enter Tryz.func32, Tryz.ntmps32
  go_wp2
  first | go_end0 | ((try simp only [Exit.inBlock, Exit.then]); refine bodyPost_ret (results_none rfl _ _ _) rfl ?_)
  exact ⟨rfl, rfl⟩
set_option maxRecDepth 100000 in
set_option maxHeartbeats 1600000 in
theorem pending_nil  (w : World) :
    Calls Tryz.prog 38 #[.pointer none] w fun e w' => e = .returned (.int .i64 0) ∧ w' = w := by
  go_enter Tryz.func38, Tryz.ntmps38
  go_wp2
  first | go_ret2 | go_ret
  exact ⟨rfl, rfl⟩
set_option maxRecDepth 100000 in
set_option maxHeartbeats 1600000 in
theorem history_nil  (w : World) :
    Calls Tryz.prog 39 #[.pointer none] w fun e w' => e = .returned (.slice none 0 0) ∧ w' = w := by
  go_enter Tryz.func39, Tryz.ntmps39
  go_wp2
  first | go_ret2 | go_ret
  exact ⟨rfl, rfl⟩
set_option maxRecDepth 100000 in
set_option maxHeartbeats 1600000 in
theorem order_nil  (w : World) :
    Calls Tryz.prog 40 #[.pointer none] w fun e w' => e = .returned (.slice none 0 0) ∧ w' = w := by
  go_enter Tryz.func40, Tryz.ntmps40
  go_wp2
  first | go_ret2 | go_ret
  exact ⟨rfl, rfl⟩
set_option maxRecDepth 100000 in
set_option maxHeartbeats 1600000 in
theorem memory_nil  (w : World) :
    Calls Tryz.prog 41 #[.pointer none] w fun e w' => e = .returned (.pointer none) ∧ w' = w := by
  go_enter Tryz.func41, Tryz.ntmps41
  go_wp2
  first | go_ret2 | go_ret
  exact ⟨rfl, rfl⟩
set_option maxRecDepth 100000 in
set_option maxHeartbeats 1600000 in
theorem plan_nil  (w : World) :
    Calls Tryz.prog 42 #[.pointer none] w fun e w' => e = .returned (.agg #[.int .i64 0, .int .i64 0, .int .i64 0, .int .i64 0, .int .i64 0, .int .i64 0, .int .i64 0, .int .i64 0, .int .i64 0, .slice none 0 0, .slice none 0 0, .int .i64 0, .slice none 0 0, .slice none 0 0]) ∧ Below w.heap.size w w' := by
  go_enter Tryz.func42, Tryz.ntmps42
  go_wp2
  have r := row_of (heap_alloc_new w (.cells #[.int .i64 0, .int .i64 0, .int .i64 0, .int .i64 0, .int .i64 0, .int .i64 0, .int .i64 0, .int .i64 0, .int .i64 0, .slice none 0 0, .slice none 0 0, .int .i64 0, .slice none 0 0, .slice none 0 0] 61))
  refine bodyPost_ret (v := .agg #[.int .i64 0, .int .i64 0, .int .i64 0, .int .i64 0, .int .i64 0, .int .i64 0, .int .i64 0, .int .i64 0, .int .i64 0, .slice none 0 0, .slice none 0 0, .int .i64 0, .slice none 0 0, .slice none 0 0]) (by simp [results, Tryz.results42, go_sem, r]) rfl ⟨rfl, (Below.refl _ _).alloc (Nat.le_refl _) _⟩
set_option maxRecDepth 100000 in
set_option maxHeartbeats 1600000 in
theorem memory_box (bb mb : Nat) (w : World) (h14 : w.cell? ⟨bb, 14, none⟩ = some (.pointer (some ⟨mb, 0, none⟩))) :
    Calls Tryz.prog 41 #[.pointer (some ⟨bb, 0, none⟩)] w fun e w' => e = .returned (.pointer (some ⟨mb, 0, none⟩)) ∧ w' = w := by
  go_enter Tryz.func41, Tryz.ntmps41
  go_wp2
  first | go_ret2 | go_ret
  exact ⟨rfl, rfl⟩

theorem field_words (w : World) :
    (Instr.field 61 (.agg #[.int .i64 0, .int .i64 0, .int .i64 0, .int .i64 0, .int .i64 0, .int .i64 0, .int .i64 0, .int .i64 0, .int .i64 0, .slice none 0 0, .slice none 0 0, .int .i64 0, .slice none 0 0, .slice none 0 0]) 9).run Tryz.prog w = .ok (.int .i64 0) w := by kernel_rfl
set_option maxRecDepth 100000 in
set_option maxHeartbeats 4000000 in
theorem events_zero (bb o : Nat) (w : World) (hb : w.cell? ⟨bb, o, none⟩ = some (.slice none 0 0)) :
    Calls Tryz.prog 91 #[.pointer (some ⟨bb, o, none⟩)] w fun e w' => ∃ A, e = .returned (.slice A 0 0) ∧ Below w.heap.size w w' := by
  have lb := World.block_lt_of_cell? w _ hb
  have hmk := make_events 0 (by omega)
  simp only [Int.ofNat_zero, Int.natCast_zero] at hmk
  go_enter Tryz.func91, Tryz.ntmps91
  go_wp2_with fail
  refine wp_loop_rounds 1 ?_
  rw [rounds_succ]
  go_wp2
  go_ret
  exact ⟨_, rfl, (Below.refl _ _).alloc (Nat.le_refl _) _⟩
set_option maxHeartbeats 400000 in
theorem history_zero (bb : Nat) (w : World) (hb : w.cell? ⟨bb, 21, none⟩ = some (.slice none 0 0)) :
    Calls Tryz.prog 39 #[.pointer (some ⟨bb, 0, none⟩)] w fun e w' => ∃ A, e = .returned (.slice A 0 0) ∧ Below w.heap.size w w' := by
  have HE := Lib.hid (events_zero bb 21 w hb)
  clear hb
  go_enter Tryz.func39, Tryz.ntmps39
  go_wp2_with fail
  go_at_call 91
  refine HE.out.mono ?_
  rintro e w' ⟨A, rfl, hB⟩
  have HB := Lib.hid hB
  clear hB
  go_wp2
  go_ret
  exact ⟨A, rfl, HB.out⟩
end Go.Proofs.YtefbdcmodfbpbaaGreat
namespace Go.Proofs.YtefbdcmodfbpbaaGreat
open Go.RowKit

theorem one_boxN {w w1 : World} {cs : Array Value} {t : TypeId} (h : Below (w.heap.size + 1) (w.alloc (.cells cs t)) w1) : (∀ k, w1.cell? ⟨w.heap.size, k, none⟩ = cs[k]?) ∧ w.heap.size < w1.heap.size ∧ Below w.heap.size w w1 := by
  have hs := h.size
  rw [World.size_alloc] at hs
  exact ⟨row_of ((h.block _ (by omega)).trans (heap_alloc_new w _)), by omega, ((Below.refl _ _).alloc (Nat.le_refl _) _).trans (h.mono (by omega))⟩
theorem one_nextN {w w1 w2 : World} {o : Obj} (h : Below (w.heap.size + 1) (w.alloc o) w1) (k : Below w1.heap.size w1 w2) : Below (w.heap.size + 1) (w.alloc o) w2 := by
  have hs := h.size
  rw [World.size_alloc] at hs
  exact h.trans (k.mono hs)

set_option maxRecDepth 100000 in
set_option maxHeartbeats 8000000 in
theorem boxNil_any (P : PartD) (pv : Value) (F0 : Nat → Prop) (hc : CapsOk P.thr) (core now : Int) (w : World) (h0 : PartAt w F0 pv P) :
    Calls Tryz.prog 6 #[pv, .int .i64 core, .int .i64 now] w fun e w' => e = .returned (.bool true) ∧ Below w.heap.size w w' := by
  obtain ⟨F, hFl, h⟩ : ∃ F : Nat → Prop, (∀ k, F k → k < w.heap.size) ∧ PartAt w F pv P := ⟨_, fun k hk => hk.2, h0.inn⟩
  have HFew := Lib.hid (fun (W : World) (hb : Below w.heap.size w W) => fewPart_any P pv F W (h.kept (fun k hk _ => hb.block k hk)))
  have HNo := Lib.hid (fun (hf : fewB P = true) (hw : partWrong P ≠ 0) (W : World) (hb : Below w.heap.size w W) => boxNew_no P pv F (fewB_partOk hf hc) hw W (h.kept (fun k hk _ => hb.block k hk)))
  have HYes := Lib.hid (fun (hf : fewB P = true) (hw : partWrong P = 0) (W : World) (hb : Below w.heap.size w W) => boxNew_yes P pv F (fewB_partOk hf hc) hw W (h.kept (fun k hk _ => hb.block k hk)))
  obtain ⟨v1, v3, rfl, h1, h2⟩ := h
  obtain ⟨A1, c1, rfl⟩ := h1.slice
  obtain ⟨A2, c2, rfl⟩ := ObjsAt.slice h2
  clear h1 h2 hc hFl h0
  go_enter Tryz.func6, Tryz.ntmps6
  go_wp2_with fail
  go_at_call 30
  refine (awake27_any _).mono ?_
  rintro e w1 ⟨rfl, hb1⟩
  rw [World.size_alloc] at hb1
  obtain ⟨p, z, hB⟩ := one_boxN hb1
  have HT1 := Lib.hid hb1
  have HB1 := Lib.hid hB
  clear hb1 hB
  go_wp2_with fail
  go_at_call 10
  refine (HFew.out _ HB1.out).mono ?_
  rintro e w2 ⟨rfl, hb2⟩
  have HT2 := Lib.hid (one_nextN HT1.out hb2)
  clear p z hb2
  obtain ⟨p, z, hB⟩ := one_boxN HT2.out
  have HB2 := Lib.hid hB
  clear hB HT1 HB1 HFew
  cases hf : fewB P with
  | false =>
    clear HNo HYes hf
    go_wp2_with fail
    go_at_call 30
    refine (awake27_any _).mono ?_
    rintro e w3 ⟨rfl, hb3⟩
    have HB3 := Lib.hid (below_end HB2.out (Nat.le_refl _) hb3)
    clear hb3
    go_wp2
    go_ret
    exact ⟨rfl, HB3.out⟩
  | true =>
    have HN' := Lib.hid (HNo.out hf)
    have HY' := Lib.hid (HYes.out hf)
    clear HNo HYes hf
    go_wp2_with (first
      | (go_at_call 31; refine (step_nil core now _).mono ?_; rintro e w' ⟨rfl, rfl⟩)
      | (go_at_call 32; refine (tick_nil _).mono ?_; rintro e w' ⟨rfl, rfl⟩)
      | (go_at_call 33; refine (through_nil core now _).mono ?_; rintro e w' ⟨rfl, rfl⟩)
      | (go_at_call 34; refine (runs_nil core _).mono ?_; rintro e w' ⟨rfl, rfl⟩)
      | (go_at_call 35; refine (spins_nil core _).mono ?_; rintro e w' ⟨rfl, rfl⟩)
      | (go_at_call 36; refine (within_nil core _).mono ?_; rintro e w' ⟨rfl, rfl⟩)
      | (go_at_call 37; refine (called_nil core _).mono ?_; rintro e w' ⟨rfl, rfl⟩)
      | (go_at_call 38; refine (pending_nil _).mono ?_; rintro e w' ⟨rfl, rfl⟩)
      | (go_at_call 39; refine (history_nil _).mono ?_; rintro e w' ⟨rfl, rfl⟩)
      | (go_at_call 40; refine (order_nil _).mono ?_; rintro e w' ⟨rfl, rfl⟩)
      | (go_at_call 41; refine (memory_nil _).mono ?_; rintro e w' ⟨rfl, rfl⟩))
    go_at_call 42
    refine (plan_nil _).mono ?_
    rintro e w3 ⟨rfl, hb3⟩
    have HT3 := Lib.hid (one_nextN HT2.out hb3)
    clear p z hb3
    obtain ⟨p, z, hB⟩ := one_boxN HT3.out
    have HB3 := Lib.hid hB
    clear hB HT2 HB2
    have hfw := field_words
    go_wp2_with fail
    go_at_call 43
    by_cases hw : partWrong P = 0
    · refine (HY'.out hw _ HB3.out).mono ?_
      rintro e w4 ⟨F, bb, mb, wb, sb, sT, sO, x1, x2, rfl, hb, hP, hM, hs, hl, lo, ne, sep⟩
      have HB4 := Lib.hid (below_end HB3.out (Nat.le_refl _) hl)
      have HM := Lib.hid hM
      have b0 := row_of hb
      have HBB := Lib.hid hb
      unfold boxArr at b0
      have lb := lt_of_block hb
      clear hP hM hs hl lo ne sep hb HN' HY' p z hw
      by_cases h0 : core = 0
      · subst h0
        go_wp2
        go_ret
        exact ⟨rfl, HB4.out⟩
      · by_cases h1 : core = 1
        · subst h1
          go_wp2
          go_ret
          exact ⟨rfl, HB4.out⟩
        · have e0 : (core == 0) = false := by simpa using h0
          have e1 : (core == 1) = false := by simpa using h1
          have m14 : w4.cell? ⟨bb, 14, none⟩ = some (.pointer (some ⟨mb, 0, none⟩)) := (b0 14).trans rfl
          go_wp2_with fail
          go_at_call 41
          refine (memory_box bb mb _ m14).mono ?_
          rintro e w' ⟨rfl, rfl⟩
          go_wp2_with fail
          go_at_call 27
          refine (mwords_any mb wb _ _ HM.out).mono ?_
          rintro e w5 ⟨wv, rfl, hi5, hb5⟩
          have h21 : w5.cell? ⟨bb, 21, none⟩ = some (.slice none 0 0) := (World.cell?_of_block (a := ⟨bb, 21, none⟩) (hb5.block bb lb)).trans ((b0 21).trans rfl)
          have hM5 := HM.out.kept (hb5.block _ (lt_of_block HM.out.st)) (hb5.block _ (lt_of_block HM.out.ws))
          have m5 : w5.cell? ⟨bb, 14, none⟩ = some (.pointer (some ⟨mb, 0, none⟩)) := (World.cell?_of_block (a := ⟨bb, 14, none⟩) (hb5.block bb lb)).trans m14
          have lb5 := Nat.lt_of_lt_of_le lb hb5.size
          obtain ⟨A5, c5, rfl⟩ := IntsAt.slice hi5
          have HI5 := Lib.hid hi5
          have HM5 := Lib.hid hM5
          have HB5 := Lib.hid (below_end HB4.out (Nat.le_refl _) hb5)
          have HZ := Lib.hid (history_zero bb w5 h21)
          clear hi5 hM5 hb5 b0 m14 h21 HM
          go_wp2_with (first
            | (go_at_call 31; refine (step_odd bb core h0 h1 now _).mono ?_; rintro e w' ⟨rfl, rfl⟩)
            | (go_at_call 33; refine (through_odd bb core h0 h1 now _).mono ?_; rintro e w' ⟨rfl, rfl⟩)
            | (go_at_call 34; refine (runs_odd bb core h0 h1 _).mono ?_; rintro e w' ⟨rfl, rfl⟩)
            | (go_at_call 36; refine (within_odd bb core h0 h1 _).mono ?_; rintro e w' ⟨rfl, rfl⟩))
          go_at_call 39
          refine HZ.out.mono ?_
          rintro e w6 ⟨A6, rfl, hb6⟩
          have m6 := (World.cell?_of_block (a := ⟨bb, 14, none⟩) (hb6.block bb lb5)).trans m5
          have HM6 := Lib.hid (HM5.out.kept (hb6.block _ (lt_of_block HM5.out.st)) (hb6.block _ (lt_of_block HM5.out.ws)))
          have HI6 := Lib.hid (Reads.kept HI5.out (fun k hk _ => hb6.block k hk))
          have HB6 := Lib.hid (below_end HB5.out (Nat.le_refl _) hb6)
          clear hb6 m5 HM5 HI5
          go_wp2_with fail
          go_at_call 41
          refine (memory_box bb mb _ m6).mono ?_
          rintro e w' ⟨rfl, rfl⟩
          go_wp2_with fail
          go_at_call 27
          refine (mwords_any mb wb _ _ HM6.out).mono ?_
          rintro e w7 ⟨wv7, rfl, hi7, hb7⟩
          have HI7 := Lib.hid hi7
          have HI6' := Lib.hid (Reads.kept HI6.out (fun k hk _ => hb7.block k hk))
          have HB7 := Lib.hid (below_end HB6.out (Nat.le_refl _) hb7)
          have HW := Lib.hid (words_any (bootM P) (bootM P) _ _ _ _ (by have := HM6.out.len; omega) w7 HI7.out HI6'.out)
          obtain ⟨A7, c7, rfl⟩ := IntsAt.slice hi7
          clear hi7 hb7
          go_wp2_with fail
          go_at_call 44
          refine HW.out.mono ?_
          rintro e w8 ⟨rfl, n8, rfl⟩
          rw [show decide True = true from rfl]
          go_wp2
          go_ret
          exact ⟨rfl, below_end HB7.out (Nat.le_refl _) ⟨rfl, rfl, rfl, Nat.le_refl _, fun _ _ => rfl⟩⟩
    · refine (HN'.out hw _ HB3.out).mono ?_
      rintro e w4 ⟨ec, rfl, hec, hl⟩
      have HB4 := Lib.hid (below_end HB3.out (Nat.le_refl _) hl)
      clear hl HN' HY' p z hw
      go_wp2
      go_ret
      exact ⟨rfl, HB4.out⟩
end Go.Proofs.YtefbdcmodfbpbaaGreat
