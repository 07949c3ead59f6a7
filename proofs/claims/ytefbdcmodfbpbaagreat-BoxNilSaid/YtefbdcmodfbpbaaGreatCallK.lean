/-
  call: what a call is, where it means no object and no thread (a Nop, a Clock).
-/
import Derived.Test.YtefbdcmodfbpbaaGreatCloneP
import Derived.Test.YtefbdcmodfbpbaaGreatConfig
import Derived.Test.YtefbdcmodfbpbaaGreatMoreG
import Derived.Test.YtefbdcmodfbpbaaGreatBoot1
set_option linter.unusedVariables false
set_option linter.unusedSimpArgs false
namespace Go.Proofs.YtefbdcmodfbpbaaGreat
open Go.RowKit


set_option maxHeartbeats 400000 in
theorem callIs_any (k : Int) (b : Bool) (hb : (decide (0 ≤ k) && decide (k < 24)) = b) (w : World) : Calls Tryz.prog 73 #[.int .i64 k] w fun e w' => e = .returned (.bool b) ∧ w = w' := by
  subst hb
  go_enter Tryz.func73, Tryz.ntmps73
  go_wp2
  all_goals
    go_ret
    refine ⟨?_, rfl⟩
    first | done | (simp; done) | (simp; omega) | (rename_i h; simp only [beq_iff_eq] at h; simp [h]; done) | (rename_i h _; simp only [beq_iff_eq] at h; simp [h]; done) | (simp_all; done)

set_option maxHeartbeats 400000 in
theorem callMeans_any (k : Int) (b : Bool) (hb : (decide (6 ≤ k) && decide (k ≤ 22)) = b) (w : World) : Calls Tryz.prog 74 #[.int .i64 k] w fun e w' => e = .returned (.bool b) ∧ w = w' := by
  subst hb
  go_enter Tryz.func74, Tryz.ntmps74
  go_wp2
  all_goals
    go_ret
    refine ⟨?_, rfl⟩
    first | done | (simp; done) | (simp; omega) | (rename_i h; simp only [beq_iff_eq] at h; simp [h]; done) | (rename_i h _; simp only [beq_iff_eq] at h; simp [h]; done) | (simp_all; done)

set_option maxHeartbeats 400000 in
theorem callThreaded_any (k : Int) (b : Bool) (hb : (decide (3 ≤ k) && decide (k ≤ 5)) = b) (w : World) : Calls Tryz.prog 138 #[.int .i64 k] w fun e w' => e = .returned (.bool b) ∧ w = w' := by
  subst hb
  go_enter Tryz.func138, Tryz.ntmps138
  go_wp2
  all_goals
    go_ret
    refine ⟨?_, rfl⟩
    first | done | (simp; done) | (simp; omega) | (rename_i h; simp only [beq_iff_eq] at h; simp [h]; done) | (rename_i h _; simp only [beq_iff_eq] at h; simp [h]; done) | (simp_all; done)

set_option maxHeartbeats 400000 in
theorem callTimed_any (k : Int) (b : Bool) (hb : (decide (k = 10) || decide (k = 11) || decide (k = 15) || decide (k = 16) || decide (k = 18) || decide (k = 19)) = b) (w : World) : Calls Tryz.prog 140 #[.int .i64 k] w fun e w' => e = .returned (.bool b) ∧ w = w' := by
  subst hb
  go_enter Tryz.func140, Tryz.ntmps140
  go_wp2
  all_goals
    go_ret
    refine ⟨?_, rfl⟩
    first | done | (simp; done) | (simp; omega) | (rename_i h; simp only [beq_iff_eq] at h; simp [h]; done) | (rename_i h _; simp only [beq_iff_eq] at h; simp [h]; done) | (simp_all; done)


theorem same_turn {P : Program} {f : FuncId} {args : Array Value} {w : World} {v : Value} (h : Calls P f args w fun e w' => e = .returned v ∧ w = w') : Calls P f args w fun e w' => e = .returned v ∧ w' = w := h.mono fun _ _ h => ⟨h.1, h.2.symm⟩
/-- A call that means no object, and no thread. -/
def PlainK (k : Int) : Prop := k = 0 ∨ k = 23

set_option maxRecDepth 100000 in
set_option maxHeartbeats 1600000 in
theorem objectPlain_any (c : CallD) (hk : PlainK c.kind) (hw : Value) (A1 A2 : Option Addr) (n m c1 c2 : Nat) (w : World) (A3 : Option Addr) (n3 c3 : Nat) :
    Calls Tryz.prog 58 #[.agg #[.slice A1 n c1, .slice A2 m c2], .agg (callCells c (.slice A3 n3 c3)).toArray] w fun e w' => e = .returned (.tuple #[.int .i64 0, .bool false]) ∧ Below w.heap.size w w' := by
  simp only [callCells]
  rcases hk with hk | hk
  all_goals
    rw [hk]
    have HM := Lib.hid (callMeans_any c.kind false (by rw [hk]; decide))
    rw [hk] at HM
    clear hk
    go_enter Tryz.func58, Tryz.ntmps58
    go_wp2_with fail
    go_quiet ((go_at_call 74; exact Calls.quiet_of_same (same_turn (HM.out _))))
    go_wp2
    go_ret2
    exact ⟨rfl, below_drewN (((Below.refl _ _).alloc (Nat.le_refl _) _).alloc (by simp) _) _⟩

set_option maxRecDepth 100000 in
set_option maxHeartbeats 1600000 in
theorem rightPlain_any (c : CallD) (hk : PlainK c.kind) (A1 A2 : Option Addr) (n m c1 c2 : Nat) (w : World) (A3 : Option Addr) (n3 c3 : Nat) :
    Calls Tryz.prog 75 #[.agg #[.slice A1 n c1, .slice A2 m c2], .agg (callCells c (.slice A3 n3 c3)).toArray] w fun e w' => e = .returned (.bool true) ∧ Below w.heap.size w w' := by
  simp only [callCells]
  rcases hk with hk | hk
  all_goals
    rw [hk]
    have HT := Lib.hid (callThreaded_any c.kind false (by rw [hk]; decide))
    have HM := Lib.hid (callTimed_any c.kind false (by rw [hk]; decide))
    rw [hk] at HT HM
    clear hk
    go_enter Tryz.func75, Tryz.ntmps75
    go_wp2_with (first | (go_at_call 138; refine (HT.out _).mono ?_; rintro e wq ⟨rfl, rfl⟩) | (go_at_call 140; refine (HM.out _).mono ?_; rintro e wq ⟨rfl, rfl⟩))
    go_ret
    exact ⟨rfl, ((Below.refl _ _).alloc (Nat.le_refl _) _).alloc (by simp) _⟩

set_option maxRecDepth 100000 in
set_option maxHeartbeats 3200000 in
theorem mayPlain_any (c : CallD) (hk : PlainK c.kind) (t : Nat) (P : PartD) (F : Nat → Prop) (v1 : Value) (ht : t < P.thr.length) (hn : P.thr.length ≤ 100000) (A2 : Option Addr) (m c2 : Nat) (w : World) (h : ThreadsAt w F v1 P.thr) (A3 : Option Addr) (n3 c3 : Nat) :
    Calls Tryz.prog 76 #[.agg #[v1, .slice A2 m c2], .int .i64 t, .agg (callCells c (.slice A3 n3 c3)).toArray] w fun e w' => e = .returned (.bool true) ∧ Below w.heap.size w w' := by
  obtain ⟨b, o, cp, rfl, hF, hc⟩ := ThreadsAt.cells h (by omega)
  obtain ⟨pv, hpv, k0, k1, k2, k3⟩ := hc t _ (List.getElem?_eq_getElem ht)
  obtain ⟨A5, c5, rfl⟩ := hpv.slice
  have lb := World.block_lt_of_cell? w _ k0
  have HO := Lib.hid (fun (W : World) (hb : Below w.heap.size w W) => objectPlain_any c hk .nilFunc (some ⟨b, o, none⟩) A2 P.thr.length m cp c2 W A3 n3 c3)
  have HT := Lib.hid (callThreaded_any c.kind false (by rcases hk with hk | hk <;> (rw [hk]; decide)))
  have ht1 : (t : Int) < (P.thr.length : Int) := by omega
  clear hc h hF hk hpv
  simp only [callCells] at HO ⊢
  go_enter Tryz.func76, Tryz.ntmps76
  go_wp2_with fail
  go_at_call 58
  have hB0 := ((((Below.refl w.heap.size w).alloc (Nat.le_refl _) (.cells #[.slice (some ⟨b, o, none⟩) P.thr.length cp, .slice A2 m c2] 25)).alloc (by simp) (.cells #[.int .i64 c.kind, .int .i64 c.handle, .int .i64 c.a, .int .i64 c.b, .slice A3 n3 c3, .int .i64 c.timeout] 28)).alloc (by simp <;> omega) (.cells #[.int .i64 P.thr[t].prio, .int .u32 P.thr[t].caps, .bool P.thr[t].control, .slice A5 P.thr[t].prog.length c5] 105))
  have HB0 := Lib.hid hB0
  refine (HO.out _ hB0).mono ?_
  rintro e w1 ⟨rfl, hb1⟩
  have q1 := fun k => (World.cell?_of_block (a := ⟨w.heap.size + 1, k, none⟩) (hb1.block (w.heap.size + 1) (by simp <;> omega))).trans (row_of ((Below.heap_alloc _ _ _ (by simp)).trans (two_second w (.cells #[.slice (some ⟨b, o, none⟩) P.thr.length cp, .slice A2 m c2] 25) (.cells #[.int .i64 c.kind, .int .i64 c.handle, .int .i64 c.a, .int .i64 c.b, .slice A3 n3 c3, .int .i64 c.timeout] 28))) k)
  have z1 : w.heap.size + 1 < w1.heap.size := by have := hb1.size; simp at this; omega
  have HB1 := Lib.hid (below_end hB0 (Nat.le_refl _) hb1)
  clear hB0 hb1 HB0
  go_wp2_with (go_at_call 138; refine (HT.out _).mono ?_; rintro e wq ⟨rfl, rfl⟩)
  go_ret
  exact ⟨rfl, HB1.out⟩

set_option maxRecDepth 100000 in
set_option maxHeartbeats 3200000 in
theorem checkPlain_any (c : CallD) (hk : PlainK c.kind) (t : Nat) (P : PartD) (F : Nat → Prop) (v1 : Value) (ht : t < P.thr.length) (hn : P.thr.length ≤ 100000) (A2 : Option Addr) (m c2 : Nat) (w : World) (h : ThreadsAt w F v1 P.thr) (A3 : Option Addr) (n3 c3 : Nat) :
    Calls Tryz.prog 26 #[.agg #[v1, .slice A2 m c2], .int .i64 t, .agg (callCells c (.slice A3 n3 c3)).toArray] w fun e w' => e = .returned (.int .i64 0) ∧ Below w.heap.size w w' := by
  obtain ⟨A1, c1, rfl⟩ := h.slice
  have HO := Lib.hid (fun (W : World) => objectPlain_any c hk .nilFunc A1 A2 P.thr.length m c1 c2 W A3 n3 c3)
  have HR := Lib.hid (fun (W : World) => rightPlain_any c hk A1 A2 P.thr.length m c1 c2 W A3 n3 c3)
  have HY := Lib.hid (fun (W : World) (hb : Below w.heap.size w W) => mayPlain_any c hk t P F _ ht hn A2 m c2 W (h.kept (w' := W) (fun k hk _ => hb.block k hk)) A3 n3 c3)
  have HI := Lib.hid (callIs_any c.kind true (by rcases hk with hk | hk <;> (rw [hk]; decide)))
  have HM := Lib.hid (callMeans_any c.kind false (by rcases hk with hk | hk <;> (rw [hk]; decide)))
  have ht0 : (0 : Int) ≤ (t : Int) := by omega
  have ht1 : ¬ (P.thr.length : Int) ≤ (t : Int) := by omega
  have ht2 : (t : Int) < (P.thr.length : Int) := by omega
  clear h hk
  simp only [callCells] at HO HR HY ⊢
  go_enter Tryz.func26, Tryz.ntmps26
  go_wp2_with fail
  go_at_call 58
  refine (HO.out _).mono ?_
  rintro e w1 ⟨rfl, hb1⟩
  have hs1 := hb1.size
  have q1 := fun k => (World.cell?_of_block (a := ⟨w.heap.size + 1, k, none⟩) (hb1.block (w.heap.size + 1) (by simp <;> omega))).trans (row_of (two_second w (.cells #[.slice A1 P.thr.length c1, .slice A2 m c2] 25) (.cells #[.int .i64 c.kind, .int .i64 c.handle, .int .i64 c.a, .int .i64 c.b, .slice A3 n3 c3, .int .i64 c.timeout] 28)) k)
  have p1 := fun k => (World.cell?_of_block (a := ⟨w.heap.size, k, none⟩) (hb1.block w.heap.size (by simp <;> omega))).trans (row_of (two_first w (.cells #[.slice A1 P.thr.length c1, .slice A2 m c2] 25) (.cells #[.int .i64 c.kind, .int .i64 c.handle, .int .i64 c.a, .int .i64 c.b, .slice A3 n3 c3, .int .i64 c.timeout] 28)) k)
  have z1 : w.heap.size + 1 < w1.heap.size := by simp at hs1; omega
  have z0 : w.heap.size < w1.heap.size := by omega
  have HB1 := Lib.hid (below_end (((Below.refl w.heap.size w).alloc (Nat.le_refl _) (.cells #[.slice A1 P.thr.length c1, .slice A2 m c2] 25)).alloc (by simp) (.cells #[.int .i64 c.kind, .int .i64 c.handle, .int .i64 c.a, .int .i64 c.b, .slice A3 n3 c3, .int .i64 c.timeout] 28)) (Nat.le_refl _) hb1)
  clear hb1 hs1
  go_wp2_with (first | (go_at_call 73; refine (HI.out _).mono ?_; rintro e wq ⟨rfl, rfl⟩) | (go_at_call 74; refine (HM.out _).mono ?_; rintro e wq ⟨rfl, rfl⟩))
  go_at_call 75
  refine (HR.out _).mono ?_
  rintro e w2 ⟨rfl, hb2⟩
  have q2 := fun k => (World.cell?_of_block (a := ⟨w.heap.size + 1, k, none⟩) (hb2.block (w.heap.size + 1) z1)).trans (q1 k)
  have p2 := fun k => (World.cell?_of_block (a := ⟨w.heap.size, k, none⟩) (hb2.block w.heap.size z0)).trans (p1 k)
  have y1 := Nat.lt_of_lt_of_le z1 hb2.size
  have y0 := Nat.lt_of_lt_of_le z0 hb2.size
  have HB2 := Lib.hid (below_end HB1.out (Nat.le_refl _) hb2)
  clear hb2
  go_wp2_with fail
  go_at_call 76
  refine (HY.out _ HB2.out).mono ?_
  rintro e w3 ⟨rfl, hb3⟩
  have HB3 := Lib.hid (below_end HB2.out (Nat.le_refl _) hb3)
  clear hb3
  go_wp2
  go_ret
  exact ⟨rfl, HB3.out⟩
end Go.Proofs.YtefbdcmodfbpbaaGreat
