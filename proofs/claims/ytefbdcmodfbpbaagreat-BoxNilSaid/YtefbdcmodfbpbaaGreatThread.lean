/-
  thread.Has, place, Get, Set: over a plan.
-/
import Derived.Test.YtefbdcmodfbpbaaGreatPlan
import Derived.Test.YtefbdcmodfbpbaaGreatRun
set_option linter.unusedVariables false
set_option linter.unusedSimpArgs false
namespace Go.Proofs.YtefbdcmodfbpbaaGreat
open Go.RowKit

/-- Is there a thread? a field? -/
def hasB (n : Nat) (t : Int) : Bool := decide (0 ≤ t) && decide (t < n)
def fieldB (n : Nat) (t field : Int) : Bool := hasB n t && (decide (0 ≤ field) && decide (field < 19))

set_option maxHeartbeats 400000 in
theorem has_any (n : Nat) (t : Int) (A : Option Addr) (c : Nat) (sO v1 v2 : Value) (W : Int) (w : World) :
    Calls Tryz.prog 311 #[.agg (planArr (.slice A n c) sO v1 v2 W), .int .i64 t] w fun e w' => e = .returned (.bool (hasB n t)) ∧ Below w.heap.size w w' := by
  unfold planArr hasB
  by_cases h1 : 0 ≤ t
  · have d1 : decide (0 ≤ t) = true := by simpa using h1
    rw [d1]
    go_enter Tryz.func311, Tryz.ntmps311
    go_wp2
    go_ret
    exact ⟨by simp, (Below.refl _ _).alloc (Nat.le_refl _) _⟩
  · have d1 : decide (0 ≤ t) = false := by simpa using h1
    rw [d1]
    go_enter Tryz.func311, Tryz.ntmps311
    go_wp2
    go_ret
    exact ⟨by simp, (Below.refl _ _).alloc (Nat.le_refl _) _⟩

theorem IntsAt.slice {w : World} {F : Nat → Prop} {v : Value} {xs : List Int} (h : IntsAt w F v xs) : ∃ A c, v = .slice A xs.length c := by
  obtain ⟨_, A, c, e, _⟩ := h; exact ⟨A, c, e⟩
theorem IntsAt.cell {w : World} {F : Nat → Prop} {v : Value} {xs : List Int} (h : IntsAt w F v xs) (hn : 0 < xs.length) :
    ∃ b o c, v = .slice (some ⟨b, o, none⟩) xs.length c ∧ F b ∧ ∀ i x, xs[i]? = some x → w.cell? ⟨b, o + i, none⟩ = some (.int .i64 x) := by
  obtain ⟨_, A, c, e, h3⟩ := h
  obtain ⟨b, o, rfl, hF, hc⟩ := h3 hn
  exact ⟨b, o, c, e, hF, fun i x hx => hc i _ (by simp [encInts, List.getElem?_map, hx])⟩

theorem thAts_get (n : Nat) (t : Int) (h : hasB n t = true) : (thAts n)[t.toNat]? = some (thAt t) := by
  simp only [hasB, Bool.and_eq_true, decide_eq_true_eq] at h
  have h1 : t.toNat < n := by omega
  simp only [thAts, List.getElem?_map, List.getElem?_range h1, Option.map_some, thAt, Option.some.injEq]
  omega

set_option maxRecDepth 100000 in
set_option maxHeartbeats 1600000 in
theorem place_no (P : PartD) (pv : Value) (F : Nat → Prop) (t field : Int) (w : World) (h : PlanVal w F pv P) (hb : fieldB P.thr.length t field = false) :
    Calls Tryz.prog 315 #[pv, .int .i64 t, .int .i64 field] w fun e w' => e = .returned (.tuple #[.int .i64 0, .bool false]) ∧ Below w.heap.size w w' := by
  obtain ⟨sT, sO, v1, v2, rfl, h1, h2, h3⟩ := h
  obtain ⟨A, c, e1⟩ := h1.slice
  rw [thAts_length] at e1
  subst e1
  have HH := fun w => has_any P.thr.length t A c sO v1 v2 (planWords P) w
  clear h1 h2 h3
  unfold fieldB at hb
  have key : Below w.heap.size w (w.alloc (.cells (planArr (.slice A P.thr.length c) sO v1 v2 (planWords P)) 61)) := (Below.refl _ _).alloc (Nat.le_refl _) _
  have Key := Lib.hid key
  clear key
  cases hq : hasB P.thr.length t with
  | false =>
    rw [hq] at HH
    have HH := Lib.hid HH
    clear hq hb
    unfold planArr at HH Key ⊢
    go_enter Tryz.func315, Tryz.ntmps315
    go_wp2_with (go_at_call 311; refine (HH.out _).mono ?_; rintro e w1 ⟨rfl, hb1⟩; have Hb1 := Lib.hid hb1; clear hb1)
    go_ret2
    exact ⟨rfl, Key.out.trans (Hb1.out.mono (by simp))⟩
  | true =>
    rw [hq] at HH hb
    have HH := Lib.hid HH
    have hb' : field < 0 ∨ 19 ≤ field := by
      rcases Int.lt_or_le field 0 with h | h
      · exact .inl h
      · right
        simp only [Bool.true_and, Bool.and_eq_false_iff, decide_eq_false_iff_not] at hb
        omega
    clear hq hb
    unfold planArr at HH Key ⊢
    rcases hb' with hb' | hb'
    · go_enter Tryz.func315, Tryz.ntmps315
      go_wp2_with (go_at_call 311; refine (HH.out _).mono ?_; rintro e w1 ⟨rfl, hb1⟩; have Hb1 := Lib.hid hb1; clear hb1)
      go_ret2
      exact ⟨rfl, Key.out.trans (Hb1.out.mono (by simp))⟩
    · go_enter Tryz.func315, Tryz.ntmps315
      go_wp2_with (go_at_call 311; refine (HH.out _).mono ?_; rintro e w1 ⟨rfl, hb1⟩; have Hb1 := Lib.hid hb1; clear hb1)
      all_goals
        go_ret2
        exact ⟨rfl, Key.out.trans (Hb1.out.mono (by simp))⟩

set_option maxRecDepth 100000 in
set_option maxHeartbeats 1600000 in
theorem place_yes (P : PartD) (pv : Value) (F : Nat → Prop) (hn : P.thr.length ≤ 6) (t field : Int) (w : World) (h : PlanVal w F pv P) (hb : fieldB P.thr.length t field = true) :
    Calls Tryz.prog 315 #[pv, .int .i64 t, .int .i64 field] w fun e w' => e = .returned (.tuple #[.int .i64 (thAt t + 5 + field), .bool true]) ∧ Below w.heap.size w w' := by
  obtain ⟨sT, sO, v1, v2, rfl, h1, h2, h3⟩ := h
  unfold fieldB at hb
  simp only [Bool.and_eq_true, decide_eq_true_eq] at hb
  obtain ⟨hq, f0, f1⟩ := hb
  have hg := thAts_get _ _ hq
  have hq2 := hq
  simp only [hasB, Bool.and_eq_true, decide_eq_true_eq] at hq2
  obtain ⟨t0, t1⟩ := hq2
  obtain ⟨b, o, c, e1, hF, hcell⟩ := h1.cell (by rw [thAts_length]; omega)
  rw [thAts_length] at e1
  subst e1
  have hc := hcell _ _ hg
  have HH := fun w => has_any P.thr.length t (some ⟨b, o, none⟩) c sO v1 v2 (planWords P) w
  rw [hq] at HH
  have HH := Lib.hid HH
  have key : Below w.heap.size w (w.alloc (.cells (planArr (.slice (some ⟨b, o, none⟩) P.thr.length c) sO v1 v2 (planWords P)) 61)) := (Below.refl _ _).alloc (Nat.le_refl _) _
  have Key := Lib.hid key
  have lb := World.block_lt_of_cell? w _ hc
  clear key h1 h2 h3 hcell hq hg
  unfold thAt at hc ⊢
  unfold planArr at HH Key ⊢
  go_enter Tryz.func315, Tryz.ntmps315
  go_wp2_with fail
  go_at_call 311
  refine (HH.out _).mono ?_
  rintro e w1 ⟨rfl, hb1⟩
  obtain ⟨p1, p2⟩ := below_cells hb1 (b := w.heap.size) (by simp) (heap_alloc_new w _)
  have hc1 : w1.cell? ⟨b, o + t.toNat, none⟩ = some (.int .i64 (51 + 24 * t)) := by
    rw [hb1.cell (p := ⟨b, o + t.toNat, none⟩) (by simp; omega), World.cell?_alloc_past _ _ _ lb]; exact hc
  have Hb1 := Lib.hid hb1
  clear hb1 hc
  go_wp2
  go_ret2
  exact ⟨by simp, Key.out.trans (Hb1.out.mono (by simp))⟩

/-- The blocks of a plan are none of a frame's. -/
def Apart (F : Nat → Prop) (g : FG) (sl : Value) : Prop := ∀ k, F k → k ≠ g.fb ∧ k ≠ g.wb ∧ sl.ownBlock ≠ some k
theorem Apart.ev {F : Nat → Prop} {g : FG} {sl sl' : Value} {w w' : World} (h : Apart F g sl) (hE : Ev g sl sl' w w') (hF : ∀ k, F k → k < w.heap.size) : Apart F g sl' := by
  intro k hk
  obtain ⟨h1, h2, h3⟩ := h k hk
  refine ⟨h1, h2, ?_⟩
  rcases hE.own with e | ⟨b, e, hb⟩
  · rw [e]; exact h3
  · rw [e]; intro e'; cases e'; have := hF k hk; omega
theorem PlanVal.kept {w w' : World} {F : Nat → Prop} {v : Value} {P : PartD} (h : PlanVal w F v P) (hk : ∀ k, k < w.heap.size → F k → w'.heap[k]? = w.heap[k]?) : PlanVal w' F v P := by
  obtain ⟨sT, sO, v1, v2, e, h1, h2, h3⟩ := h
  exact ⟨sT, sO, v1, v2, e, h1.kept hk, h2.kept hk, h3.kept hk⟩
theorem PlanVal.wider {w : World} {F F' : Nat → Prop} {v : Value} {P : PartD} (h : PlanVal w F v P) (hF : ∀ k, F k → F' k) : PlanVal w F' v P := by
  obtain ⟨sT, sO, v1, v2, e, h1, h2, h3⟩ := h
  exact ⟨sT, sO, v1, v2, e, Reads.wider h1 hF, Reads.wider h2 hF, h3.wider hF⟩
theorem PlanVal.ev {w w' : World} {F : Nat → Prop} {v : Value} {P : PartD} {g : FG} {sl sl' : Value} (h : PlanVal w F v P) (ha : Apart F g sl) (hE : Ev g sl sl' w w') : PlanVal w' F v P :=
  h.kept fun k hk hF => by obtain ⟨h1, h2, h3⟩ := ha k hF; exact hE.block k hk h1 h2 h3
theorem PlanVal.below {w w' : World} {F : Nat → Prop} {v : Value} {P : PartD} (h : PlanVal w F v P) (hb : Below w.heap.size w w') : PlanVal w' F v P := h.kept fun k hk _ => hb.block k hk
theorem Fr.below {w w' : World} {g : FG} {sl : Value} {s : FS} (h : Fr w g sl s) (hb : Below w.heap.size w w') : Fr w' g sl s := by
  obtain ⟨l1, l2, l3, l4⟩ := h.lts
  exact h.kept (hb.block _ l1) (hb.block _ l2) (hb.block _ l3) (fun k hk => hb.block _ (l4 k hk))
theorem below_ev {w w' : World} (hb : Below w.heap.size w w') (g : FG) (sl : Value) : Ev g sl sl w w' := ⟨hb.os, hb.tape, hb.output, hb.size, fun k hk _ _ _ => hb.block k hk, .inl rfl⟩

def kGet (P : PartD) (t field : Int) : Prog Int := if fieldB P.thr.length t field then ld (thAt t + 5 + field) else pure 0
def kSet (P : PartD) (t field v : Int) : Prog Unit := if fieldB P.thr.length t field then st (thAt t + 5 + field) v else pure ()

set_option maxRecDepth 100000 in
set_option maxHeartbeats 800000 in
theorem get_any (P : PartD) (hn : P.thr.length ≤ 6) (pv : Value) (F : Nat → Prop) (t field : Int) (w : World) (g : FG) (sl : Value) (s : FS) (hF : Fr w g sl s) (h : PlanVal w F pv P) (r : Int) (s' : FS) (hx : exec (kGet P t field) s = some (r, s')) :
    Calls Tryz.prog 234 #[.pointer (some ⟨g.fb, 0, none⟩), pv, .int .i64 t, .int .i64 field] w (Posts g sl s' w (.int .i64 r)) := by
  unfold kGet at hx
  obtain ⟨sT, sO, v1, v2, e0, h1, h2, h3⟩ := h
  have hP : PlanVal w F pv P := ⟨sT, sO, v1, v2, e0, h1, h2, h3⟩
  have hal : ∀ o, PlanVal (w.alloc o) F pv P := fun o => hP.kept (fun k hk _ => Below.heap_alloc _ _ _ hk)
  obtain ⟨A, c, e1⟩ := h1.slice
  cases hb : fieldB P.thr.length t field with
  | false =>
    rw [hb] at hx
    cases hx
    have HP := Lib.hid (fun o => place_no P pv F t field (w.alloc o) (hal o) hb)
    have HF := Lib.hid hF
    clear h1 h2 h3 hP hal hb hF e1
    subst e0
    unfold planArr at HP ⊢
    go_enter Tryz.func234, Tryz.ntmps234
    go_wp2_with (go_at_call 315; refine (HP.out _).mono ?_; rintro e w1 ⟨rfl, hb1⟩; have Hb1 := Lib.hid hb1; clear hb1)
    go_ret
    have hb := ((Below.refl w.heap.size w).alloc (Nat.le_refl _) _).trans (Hb1.out.mono (by simp))
    exact ⟨rfl, sl, HF.out.below hb, below_ev hb g sl⟩
  | true =>
    rw [hb] at hx
    simp only [if_true, ld, exec, Option.some.injEq, Prod.mk.injEq] at hx
    obtain ⟨rfl, rfl⟩ := hx
    have HP := Lib.hid (fun o => place_yes P pv F hn t field (w.alloc o) (hal o) hb)
    have HF := Lib.hid hF
    have HL := Lib.hid (fun (w1 : World) (hb : Below w.heap.size w w1) => fload w1 g sl s (hF.below hb) (thAt t + 5 + field))
    clear h1 h2 h3 hP hal hb hF e1
    subst e0
    unfold planArr at HP ⊢
    generalize thAt t + 5 + field = a at *
    go_enter Tryz.func234, Tryz.ntmps234
    go_wp2_with fail
    go_at_call 315
    refine (HP.out _).mono ?_
    rintro e w1 ⟨rfl, hb1⟩
    have hb := ((Below.refl w.heap.size w).alloc (Nat.le_refl _) _).trans (hb1.mono (by simp))
    have Hb := Lib.hid hb
    clear hb hb1
    go_wp2_with fail
    go_at_call 216
    refine (HL.out _ Hb.out).mono ?_
    rintro e w2 ⟨rfl, sl', hF2, hE⟩
    go_wp2
    go_ret
    exact ⟨rfl, sl', hF2, (below_ev Hb.out g sl).trans hE⟩

set_option maxRecDepth 100000 in
set_option maxHeartbeats 800000 in
theorem set_any (P : PartD) (hn : P.thr.length ≤ 6) (pv : Value) (F : Nat → Prop) (t field v : Int) (hv : I64 v) (w : World) (g : FG) (sl : Value) (s : FS) (hF : Fr w g sl s) (h : PlanVal w F pv P) (s' : FS) (hx : exec (kSet P t field v) s = some ((), s')) :
    Calls Tryz.prog 235 #[.pointer (some ⟨g.fb, 0, none⟩), pv, .int .i64 t, .int .i64 field, .int .i64 v] w (Posts g sl s' w (.tuple #[])) := by
  unfold kSet at hx
  obtain ⟨sT, sO, v1, v2, e0, h1, h2, h3⟩ := h
  have hP : PlanVal w F pv P := ⟨sT, sO, v1, v2, e0, h1, h2, h3⟩
  have hal : ∀ o, PlanVal (w.alloc o) F pv P := fun o => hP.kept (fun k hk _ => Below.heap_alloc _ _ _ hk)
  obtain ⟨A, c, e1⟩ := h1.slice
  cases hb : fieldB P.thr.length t field with
  | false =>
    rw [hb] at hx
    cases hx
    have HP := Lib.hid (fun o => place_no P pv F t field (w.alloc o) (hal o) hb)
    have HF := Lib.hid hF
    clear h1 h2 h3 hP hal hb hF hv e1
    subst e0
    unfold planArr at HP ⊢
    go_enter Tryz.func235, Tryz.ntmps235
    go_wp2_with (go_at_call 315; refine (HP.out _).mono ?_; rintro e w1 ⟨rfl, hb1⟩; have Hb1 := Lib.hid hb1; clear hb1)
    first | go_end0 | ((try simp only [Exit.inBlock, Exit.then]); refine bodyPost_ret (results_none rfl _ _ _) rfl ?_)
    have hb := ((Below.refl w.heap.size w).alloc (Nat.le_refl _) _).trans (Hb1.out.mono (by simp))
    exact ⟨rfl, sl, HF.out.below hb, below_ev hb g sl⟩
  | true =>
    rw [hb] at hx
    simp only [if_true, st, exec, Option.some.injEq, Prod.mk.injEq, true_and] at hx
    subst hx
    have HP := Lib.hid (fun o => place_yes P pv F hn t field (w.alloc o) (hal o) hb)
    have HF := Lib.hid hF
    have HL := Lib.hid (fun (w1 : World) (hb : Below w.heap.size w w1) => fstore w1 g sl s (hF.below hb) (thAt t + 5 + field) v hv)
    clear h1 h2 h3 hP hal hb hF hv e1
    subst e0
    unfold planArr at HP ⊢
    generalize thAt t + 5 + field = a at *
    go_enter Tryz.func235, Tryz.ntmps235
    go_wp2_with fail
    go_at_call 315
    refine (HP.out _).mono ?_
    rintro e w1 ⟨rfl, hb1⟩
    have hb := ((Below.refl w.heap.size w).alloc (Nat.le_refl _) _).trans (hb1.mono (by simp))
    have Hb := Lib.hid hb
    clear hb hb1
    go_wp2_with fail
    go_at_call 209
    refine (HL.out _ Hb.out).mono ?_
    rintro e w2 ⟨rfl, sl', hF2, hE⟩
    go_wp2
    first | go_end0 | ((try simp only [Exit.inBlock, Exit.then]); refine bodyPost_ret (results_none rfl _ _ _) rfl ?_)
    exact ⟨rfl, sl', hF2, (below_ev Hb.out g sl).trans hE⟩
end Go.Proofs.YtefbdcmodfbpbaaGreat
