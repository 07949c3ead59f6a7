/-
  A run of an act of layer 13: a Set, or a Get, of a field that there is.
-/
import Derived.Test.YtnedofoenkmjaaaMore
import Derived.Test.YtnedofoenkmjaaaBoot1
set_option linter.unusedVariables false
set_option linter.unusedSimpArgs false
namespace Go.Proofs.Ytnedofoenkmjaaa
open Go.RowKit

theorem runs_st (a v : Int) (m : Mem) (k : Nat) (hk : 0 < k) : ∃ s, runs (st a v) k 0 (FS.new m) none = some (some (), s) ∧ s.over = true ∧ s.mem = wrM m a v := by
  obtain ⟨_, m', j, s, h1, h2, h3, h4⟩ := runs_of_wpr (p := st a v) (m := m) (n := 1) (most := k) (O := fun _ => True) (Q := fun _ m' _ => m' = wrM m a v) ⟨⟨(), rfl, trivial⟩, 0, rfl, rfl⟩ hk hk
  exact ⟨s, h1, h2, h3.trans h4⟩
theorem runs_ld (a : Int) (m : Mem) (k : Nat) (hk : 0 < k) : ∃ s, runs (ld a) k 0 (FS.new m) none = some (some (rdM m a), s) ∧ s.over = true ∧ s.mem = m := by
  obtain ⟨r, m', j, s, h1, h2, h3, h4⟩ := runs_of_wpr (p := ld a) (m := m) (n := 1) (most := k) (O := fun _ => True) (Q := fun r m' _ => r = rdM m a ∧ m' = m) ⟨⟨0, rfl, trivial⟩, 0, rfl, rfl, rfl⟩ hk hk
  rw [h4.1] at h1
  exact ⟨s, h1, h2, h3.trans h4.2⟩

/-- What stands apart of a memory: an act's block and its plan's. -/
structure ActFar (F : Nat → Prop) (xb mb wb : Nat) (w : World) : Prop where
  x : xb ≠ wb
  f : ∀ k, F k → k ≠ wb ∧ k < w.heap.size
  m : mb ≠ xb

set_option maxHeartbeats 800000 in
theorem actSetRun (P : PartD) (hn : P.thr.length ≤ 6) (F : Nat → Prop) (xb mb wb : Nat) (t field v : Int) (hv : I64 v) (hb : fieldB P.thr.length t field = true) (m : Mem) (w : World) (hm : MemAt w mb wb m) (h : ActAt w F xb P t field v true 0) (ha : ActFar F xb mb wb w) :
    Calls Try.prog 21 #[.pointer (some ⟨mb, 0, none⟩), bound 22 (.pointer (some ⟨xb, 0, none⟩)), .int .i64 5000] w fun e w' => e = .returned (.bool true) ∧ MemAt w' mb wb (wrM m (thAt t + 5 + field) v) ∧ Left (fun _ => False) wb w w' := by
  obtain ⟨sE, hrun, hov, hmem⟩ := runs_st (thAt t + 5 + field) v m 5000 (by omega)
  have hp : kSet P t field v = st (thAt t + 5 + field) v := by unfold kSet; rw [if_pos hb]
  have hlx := h.lt
  refine (frun (α := Unit) w mb wb m hm 5000 (by omega) _ (.pointer (some ⟨xb, 0, none⟩)) enters_act (st (thAt t + 5 + field) v) (some ()) sE (fun _ => False)
    (fun g sl wx => ActAt wx F xb P t field v true 0 ∧ Apart F g sl ∧ sl.ownBlock ≠ some xb ∧ w.heap.size ≤ wx.heap.size) (fun _ _ _ _ => True) ?_ ?_ (fun _ _ _ _ _ _ _ _ _ => trivial) ?_ hrun).mono ?_
  · refine ⟨h.kept (Below.heap_alloc _ _ _ hlx) (fun k hk _ => Below.heap_alloc _ _ _ hk), fun k hk => ⟨?_, (ha.f k hk).1, by simp [Value.ownBlock]⟩, by simp [Value.ownBlock], by rw [World.size_alloc]; omega⟩
    show k ≠ w.heap.size
    have := (ha.f k hk).2
    omega
  · intro sl sl' s wa wb' hF hI hE
    obtain ⟨i1, i2, i3, i4⟩ := hI
    have hxa : xb ≠ w.heap.size := by omega
    refine ⟨i1.kept (hE.keep (Nat.lt_of_lt_of_le hlx i4) ⟨hxa, ha.x, i3⟩) (fun k hk hFk => hE.keep hk (i2 k hFk)), i2.ev hE (fun k hk => by have := (ha.f k hk).2; omega), ?_, Nat.le_trans i4 hE.size⟩
    rcases hE.own with e | ⟨b, e, hb⟩
    · rw [e]; exact i3
    · rw [e]; intro e'; cases e'; omega
  · intro wx sl s x s1 hF hI _ hex
    obtain ⟨i1, i2, i3, i4⟩ := hI
    have hxa : xb ≠ w.heap.size := by omega
    rw [← hp] at hex
    refine (actSet_any P hn F xb t field v hv 0 wx _ sl s hF i1 s1 hex).mono ?_
    rintro e w2 ⟨he, sl2, hF2, hE2⟩
    refine ⟨he, sl2, hF2, ⟨i1.kept (hE2.keep (Nat.lt_of_lt_of_le hlx i4) ⟨hxa, ha.x, i3⟩) (fun k hk hFk => hE2.keep hk (i2 k hFk)), i2.ev hE2 (fun k hk => by have := (ha.f k hk).2; omega), ?_, Nat.le_trans i4 hE2.size⟩, trivial, hE2.toS _⟩
    rcases hE2.own with e | ⟨b, e, hb⟩
    · rw [e]; exact i3
    · rw [e]; intro e'; cases e'; omega
  · rintro e w2 ⟨he, sl, hF2, -, hL⟩
    refine ⟨by rw [he, hov], by rw [← hmem]; exact hF2.mem, hL⟩

set_option maxHeartbeats 800000 in
theorem actGetRun (P : PartD) (hn : P.thr.length ≤ 6) (F : Nat → Prop) (xb mb wb : Nat) (hFx : ∀ k, F k → k ≠ xb) (t field v : Int) (got : Int) (hb : fieldB P.thr.length t field = true) (m : Mem) (w : World) (hm : MemAt w mb wb m) (h : ActAt w F xb P t field v false got) (ha : ActFar F xb mb wb w) :
    Calls Try.prog 21 #[.pointer (some ⟨mb, 0, none⟩), bound 22 (.pointer (some ⟨xb, 0, none⟩)), .int .i64 5000] w fun e w' => e = .returned (.bool true) ∧ MemAt w' mb wb m ∧ w'.cell? ⟨xb, 18, none⟩ = some (.int .i64 (rdM m (thAt t + 5 + field))) ∧ Left (fun k => k = xb) wb w w' := by
  obtain ⟨sE, hrun, hov, hmem⟩ := runs_ld (thAt t + 5 + field) m 5000 (by omega)
  have hp : kGet P t field = ld (thAt t + 5 + field) := by unfold kGet; rw [if_pos hb]
  have hlx := h.lt
  refine (frun (α := Int) w mb wb m hm 5000 (by omega) _ (.pointer (some ⟨xb, 0, none⟩)) enters_act (ld (thAt t + 5 + field)) (some (rdM m (thAt t + 5 + field))) sE (fun k => k = xb)
    (fun g sl wx => (∃ got, ActAt wx F xb P t field v false got) ∧ Apart F g sl ∧ sl.ownBlock ≠ some xb ∧ w.heap.size ≤ wx.heap.size) (fun g sl r wx => wx.cell? ⟨xb, 18, none⟩ = some (.int .i64 r) ∧ sl.ownBlock ≠ some xb ∧ xb < wx.heap.size) ?_ ?_ ?_ ?_ hrun).mono ?_
  · refine ⟨⟨got, h.kept (Below.heap_alloc _ _ _ hlx) (fun k hk _ => Below.heap_alloc _ _ _ hk)⟩, fun k hk => ⟨?_, (ha.f k hk).1, by simp [Value.ownBlock]⟩, by simp [Value.ownBlock], by rw [World.size_alloc]; omega⟩
    show k ≠ w.heap.size
    have := (ha.f k hk).2
    omega
  · intro sl sl' s wa wb' hF hI hE
    obtain ⟨⟨gt, i1⟩, i2, i3, i4⟩ := hI
    have hxa : xb ≠ w.heap.size := by omega
    refine ⟨⟨gt, i1.kept (hE.keep (Nat.lt_of_lt_of_le hlx i4) ⟨hxa, ha.x, i3⟩) (fun k hk hFk => hE.keep hk (i2 k hFk))⟩, i2.ev hE (fun k hk => by have := (ha.f k hk).2; omega), ?_, Nat.le_trans i4 hE.size⟩
    rcases hE.own with e | ⟨b, e, hb⟩
    · rw [e]; exact i3
    · rw [e]; intro e'; cases e'; omega
  · intro sl sl' s x wa wb' hF hI hE
    obtain ⟨i1, i2, i3⟩ := hI
    have hxa : xb ≠ w.heap.size := by omega
    refine ⟨?_, ?_, Nat.lt_of_lt_of_le i3 hE.size⟩
    · rw [World.cell?_of_block (hE.keep i3 ⟨hxa, ha.x, i2⟩)]
      exact i1
    · rcases hE.own with e | ⟨b, e, hb⟩
      · rw [e]; exact i2
      · rw [e]; intro e'; cases e'; omega
  · intro wx sl s x s1 hF hI _ hex
    obtain ⟨⟨gt, i1⟩, i2, i3, i4⟩ := hI
    have hxa : xb ≠ w.heap.size := by omega
    rw [← hp] at hex
    refine (actGet_any P hn F xb t field v gt wx _ sl s hF i1 ⟨hxa, ha.x, i3⟩ x s1 hex).mono ?_
    rintro e w2 ⟨sl2, w1, he, hF2, hE2, hw⟩
    have hxl : xb < w1.heap.size := by have := hE2.size; omega
    have i1' := i1.kept (hE2.keep (Nat.lt_of_lt_of_le hlx i4) ⟨hxa, ha.x, i3⟩) (fun k hk hFk => hE2.keep hk (i2 k hFk))
    have hown : sl2.ownBlock ≠ some xb := by
      rcases hE2.own with e | ⟨b, e, hb⟩
      · rw [e]; exact i3
      · rw [e]; intro e'; cases e'; omega
    obtain ⟨sT, sO, v1, v2, h0, h1, h2, h3⟩ := i1'
    have hblk := block_setCell h0 18 (.int .i64 x)
    have hoth : ∀ k, k ≠ xb → w2.heap[k]? = w1.heap[k]? := fun k hk => by rw [← hw]; exact block_setCell_other _ _ _ hk
    have hsz : w2.heap.size = w1.heap.size := by rw [← hw]; simp [World.setCell]
    obtain ⟨l1, l2, l3, l4⟩ := hF2.lts
    have hmx : (⟨w.heap.size, mb, wb⟩ : FG).mb ≠ xb := ha.m
    refine ⟨he, sl2, hF2.kept (hoth _ (Ne.symm hxa)) (hoth _ hmx) (hoth _ (Ne.symm ha.x)) (fun k hk => hoth _ (fun e => hown (by rw [hk, e]))), ⟨⟨x, sT, sO, v1, v2, by rw [← hw]; exact hblk, ?_, ?_, ?_⟩, ?_, hown, ?_⟩, ⟨?_, hown, by omega⟩, ?_⟩
    · exact IntsAt.kept (fun k _ hk => hoth k (hFx k hk)) h1
    · exact IntsAt.kept (fun k _ hk => hoth k (hFx k hk)) h2
    · exact h3.kept (fun k _ hk => hoth k (hFx k hk))
    · exact i2.ev hE2 (fun k hk => by have := (ha.f k hk).2; omega)
    · rw [hsz]; exact Nat.le_trans i4 hE2.size
    · rw [← hw, cell_of_block hblk]; rfl
    · refine ⟨?_, ?_, ?_, ?_, ?_, hE2.own⟩
      · rw [← hw]; exact hE2.os
      · rw [← hw]; exact hE2.tape
      · rw [← hw]; exact hE2.output
      · rw [hsz]; exact hE2.size
      · intro k h1 h2 h3 h4 h5
        rw [hoth k h5]
        exact hE2.block k h1 h2 h3 h4
  · rintro e w2 ⟨he, sl, hF2, hB, hL⟩
    exact ⟨by rw [he, hov], by rw [← hmem]; exact hF2.mem, (hB _ rfl).1, hL⟩
end Go.Proofs.Ytnedofoenkmjaaa
