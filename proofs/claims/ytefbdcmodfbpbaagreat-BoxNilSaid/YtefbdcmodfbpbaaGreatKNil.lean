/-
  What the statements of layer 25 ask first (awake); a nil op.
-/
import Derived.Test.YtefbdcmodfbpbaaGreatKClock
import Derived.Test.YtefbdcmodfbpbaaGreatBench
set_option linter.unusedVariables false
set_option linter.unusedSimpArgs false
namespace Go.Proofs.YtefbdcmodfbpbaaGreat
open Go.RowKit

set_option maxRecDepth 100000 in
set_option maxHeartbeats 1600000 in
theorem body_any (ob : Nat) (v : Value) (w : World) (h : w.cell? ⟨ob, 24, none⟩ = some v) :
    Calls Tryz.prog 24 #[.pointer (some ⟨ob, 0, none⟩)] w fun e w' => e = .returned v ∧ w = w' := by
  go_enter Tryz.func24, Tryz.ntmps24
  go_wp2
  go_ret
  exact ⟨rfl, rfl⟩
set_option maxRecDepth 100000 in
set_option maxHeartbeats 1600000 in
theorem body_nil (w : World) :
    Calls Tryz.prog 24 #[.pointer none] w fun e w' => e = .returned .nilFunc ∧ w = w' := by
  go_enter Tryz.func24, Tryz.ntmps24
  go_wp2
  go_ret
  exact ⟨rfl, rfl⟩
set_option maxRecDepth 100000 in
set_option maxHeartbeats 1600000 in
theorem outcome_nil (w : World) :
    Calls Tryz.prog 23 #[.pointer none] w fun e w' => e = .returned (.agg #[.int .i64 0, .int .i64 0, .slice none 0 0, .bool false, .bool false, .int .i64 0, .bool false, .int .i64 0, .bool false]) ∧ Below w.heap.size w w' := by
  go_enter Tryz.func23, Tryz.ntmps23
  go_wp2
  refine bodyPost_ret (v := .agg #[.int .i64 0, .int .i64 0, .slice none 0 0, .bool false, .bool false, .int .i64 0, .bool false, .int .i64 0, .bool false]) (by simp [results, Tryz.results23, go_sem]) rfl ⟨rfl, ?_⟩
  have h0 : Below w.heap.size w (w.alloc (.cells #[.int .i64 0, .int .i64 0, .slice none 0 0, .bool false, .bool false, .int .i64 0, .bool false, .int .i64 0, .bool false] 50)) := (Below.refl _ _).alloc (Nat.le_refl _) _
  first | exact h0 | (iterate 9 refine Below.setCell ?_ (by dsimp only; omega) _); exact h0

theorem nilPart_boot : (rdM (bootM (plainPart [0])) 6).tmod 2 = 0 := by
  rw [(bootM_at (plainPart [0]) (by decide) (by decide) (by intro t ht; simp [plainPart] at ht; subst ht; simp)).low 6 (by omega) (by omega) (by omega)]
  rfl

theorem field_count (code count : Int) (A : Option Addr) (n c : Nat) (blk spn : Bool) (tk : Int) (mv : Bool) (rn : Int) (an : Bool) (w : World) :
    (Instr.field 50 (.agg #[.int .i64 code, .int .i64 count, .slice A n c, .bool blk, .bool spn, .int .i64 tk, .bool mv, .int .i64 rn, .bool an]) 1).run Tryz.prog w = .ok (.int .i64 count) w := by kernel_rfl
theorem eql_nilFunc (w : World) : (binOp .eql 53 .nilFunc .nilFunc).run Tryz.prog w = .ok (.bool true) w := by kernel_rfl
set_option maxRecDepth 100000 in
set_option maxHeartbeats 4000000 in
theorem awake25_any (w : World) : Calls Tryz.prog 22 #[] w fun e w' => e = .returned (.bool true) ∧ Below w.heap.size w w' := by
  have HN := Lib.hid (newBench_yes (plainPart [0]) _ _ (plainPart_ok [0] (by simp)) (by decide) _ (plainPart_at (w.alloc (.cells #[.int .i64 0, .int .u32 0, .bool false, .slice none 0 0] 105)) w.heap.size [0] 1 rfl _ (heap_alloc_new w _) (by rfl)))
  go_enter Tryz.func22, Tryz.ntmps22
  go_wp2_with fail
  go_at_call 25
  refine HN.out.mono ?_
  rintro e w1 ⟨F, S, bb, mb, wb, md, sT, sO, v1, v2, rfl, hB, hb1⟩
  have hb1' : Below w.heap.size w w1 := ((Below.refl _ _).alloc (Nat.le_refl _) _).trans (hb1.mono (by simp <;> omega))
  have HBN := Lib.hid hB
  have HB1 := Lib.hid hb1'
  have r1 := row_of hB.blk
  have z1 := lt_of_block hB.blk
  unfold benchArr at r1
  have HC := Lib.hid (kcallClock_any (plainPart [0]) _ F (by decide) 0 0 (by decide) 0 0 0 0 [] (by simp) (.slice none 0 0) (fun _ => True) w1 hB.plan ⟨rfl, none, 0, rfl, fun h => absurd h (by simp)⟩)
  unfold planArr at HC
  clear hB hb1 hb1' HN
  go_wp2_with fail
  go_at_call 28
  refine HC.out.mono ?_
  rintro e w2 ⟨ob, sT', sO', v1', v2', A, c, he, rfl, hob, hb2, hx2⟩
  cases he
  have r2 := fun k => (World.cell?_of_block (a := ⟨bb, k, none⟩) (hb2.block bb z1)).trans (r1 k)
  have z2 := Nat.lt_of_lt_of_le z1 hb2.size
  have hm := HBN.out.mem
  have hm2 := hm.kept (hb2.block _ (lt_of_block hm.st)) (hb2.block _ (lt_of_block hm.ws))
  have hne : ob ≠ mb ∧ ob ≠ wb := ⟨by have := lt_of_block hm.st; omega, by have := lt_of_block hm.ws; omega⟩
  have q2 := row_of hx2
  have y2 := lt_of_block hx2
  have HR := Lib.hid (benchRun bb mb _ _ w2 ((r2 14).trans rfl) _ (clockRun ob _ _ _ _ _ _ _ _ _ _ _ _ _ _ _ _ _ _ _ _ _ _ _ _ _ _ mb wb _ w2 hm2 hx2 hne nilPart_boot))
  unfold opArr at q2
  have HB2 := Lib.hid (below_end HB1.out (Nat.le_refl _) hb2)
  have hge1 := HB1.out.size
  have HGE := Lib.hid hob
  have hba := HBN.out.base
  have HBA := Lib.hid hba
  clear hb2 hx2 hm hm2 hne r1 z1 hba hob
  go_wp2_with (go_at_call 24; refine (body_any _ _ _ ((q2 24).trans rfl)).mono ?_; rintro e wq ⟨rfl, rfl⟩)
  go_at_call 29
  refine HR.out.mono ?_
  rintro e w3 ⟨rfl, hL, hm3, tb, hx3, ht3, htb⟩
  have HO := Lib.hid (outcome_any ob _ _ _ _ _ _ _ _ _ _ _ _ _ _ _ _ _ _ _ _ _ _ _ _ _ _ [rdM (bootM (plainPart [0])) 7] (fun _ => True) (by simp) w3 hx3 (reads_one ht3))
  have HL := Lib.hid hL
  clear hL hm3 hx3 ht3 htb r2 z2 q2 y2 HR
  go_wp2_with fail
  go_at_call 23
  refine HO.out.mono ?_
  rintro e w4 ⟨ws4, rfl, hw4, hb4⟩
  obtain ⟨A4, c4, rfl⟩ := IntsAt.slice hw4
  have HB4 := Lib.hid hb4
  clear hw4 hb4
  have hfc := field_count 0 1 A4 [rdM (bootM (plainPart [0])) 7].length c4 false false 0 false 0 false
  simp only [List.length_cons, List.length_nil, Nat.zero_add] at hfc
  go_wp2
  go_ret
  refine ⟨rfl, below_end (HB2.out.trans ⟨HL.out.os, HL.out.tape, HL.out.output, HL.out.size, fun k hk => HL.out.block k (by have := HB2.out.size; omega) ?_ ?_⟩) (Nat.le_refl _) HB4.out⟩
  · have := HBA.out; simp only [World.size_alloc] at this; omega
  · have := HGE.out; omega

set_option maxRecDepth 100000 in
set_option maxHeartbeats 4000000 in
theorem kernelNil_any (k h a b tm : Int) (A : Option Addr) (n c : Nat) (w : World) : Calls Tryz.prog 4 #[.agg #[.int .i64 k, .int .i64 h, .int .i64 a, .int .i64 b, .slice A n c, .int .i64 tm]] w fun e w' => e = .returned (.bool true) ∧ Below w.heap.size w w' := by
  have hq : (w.alloc (.cells #[.int .i64 k, .int .i64 h, .int .i64 a, .int .i64 b, .slice A n c, .int .i64 tm] 28)).heap[w.heap.size]? = some (.cells #[.int .i64 k, .int .i64 h, .int .i64 a, .int .i64 b, .slice A n c, .int .i64 tm] 28 (0, 0)) := heap_alloc_new _ _
  have HQ := Lib.hid hq
  clear hq
  by_cases hn : 20 < n
  · have hn1 : (20 : Int) < (n : Int) := by omega
    go_enter Tryz.func4, Tryz.ntmps4
    go_wp2_with fail
    go_at_call 22
    refine (awake25_any _).mono ?_
    rintro e w1 ⟨rfl, hb1⟩
    have q1 := fun k => (World.cell?_of_block (a := ⟨w.heap.size, k, none⟩) (hb1.block w.heap.size (by simp))).trans (row_of HQ.out k)
    have z1 : w.heap.size < w1.heap.size := by have := hb1.size; simp at this; omega
    have HB1 := Lib.hid (below_end ((Below.refl _ _).alloc (Nat.le_refl _) _) (Nat.le_refl _) hb1 : Below w.heap.size w w1)
    clear hb1
    go_wp2_with fail
    go_at_call 22
    refine (awake25_any _).mono ?_
    rintro e w2 ⟨rfl, hb2⟩
    have HB2 := Lib.hid (below_end HB1.out (Nat.le_refl _) hb2)
    clear hb2
    go_wp2
    go_ret
    exact ⟨rfl, HB2.out⟩
  · have hn1 : ¬ (20 : Int) < (n : Int) := by omega
    go_enter Tryz.func4, Tryz.ntmps4
    go_wp2_with fail
    go_at_call 22
    refine (awake25_any _).mono ?_
    rintro e w1 ⟨rfl, hb1⟩
    have q1 := fun k => (World.cell?_of_block (a := ⟨w.heap.size, k, none⟩) (hb1.block w.heap.size (by simp))).trans (row_of HQ.out k)
    have z1 : w.heap.size < w1.heap.size := by have := hb1.size; simp at this; omega
    have HB1 := Lib.hid (below_end ((Below.refl _ _).alloc (Nat.le_refl _) _) (Nat.le_refl _) hb1 : Below w.heap.size w w1)
    clear hb1
    go_wp2_with fail
    go_at_call 23
    refine (outcome_nil _).mono ?_
    rintro e w2 ⟨rfl, hb2⟩
    have HB2 := Lib.hid (below_end HB1.out (Nat.le_refl _) hb2)
    clear hb2
    have hen := eql_nilFunc
    go_wp2_with (go_at_call 24; refine (body_nil _).mono ?_; rintro e wq ⟨rfl, rfl⟩)
    go_ret
    exact ⟨rfl, HB2.out.alloc HB2.out.size _⟩
end Go.Proofs.YtefbdcmodfbpbaaGreat
