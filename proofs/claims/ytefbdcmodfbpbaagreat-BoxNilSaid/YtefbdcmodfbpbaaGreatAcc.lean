/-
  The accesses of a frame: what Load, Store, Add, Off and Mark do there is what 'FS.acc' says.
-/
import Derived.Test.YtefbdcmodfbpbaaGreatFrame
import Derived.Lib.Hide
set_option linter.unusedVariables false
set_option linter.unusedSimpArgs false
namespace Go.Proofs.YtefbdcmodfbpbaaGreat
open Go.RowKit

/-- What 'again' tells: the answer, whether there is one, and the state behind it. -/
def FS.again (s : FS) : Int × Bool × FS :=
  if s.off then (0, true, s)
  else if s.at_ < s.log.length then ((s.log.getD s.at_ (0, 0)).1, true, { s with at_ := s.at_ + 1 })
  else if s.fresh then (0, false, s)
  else (0, true, { s with off := true })

def Posts (g : FG) (sl : Value) (s' : FS) (w : World) (v : Value) (e : Ending) (w' : World) : Prop := e = .returned v ∧ ∃ sl', Fr w' g sl' s' ∧ Ev g sl sl' w w'

theorem Fr.logCell {w : World} {g : FG} {sl : Value} {s : FS} (h : Fr w g sl s) (i : Nat) (hi : i < s.log.length) : ∃ b cap, sl = .slice (some ⟨b, 0, none⟩) s.log.length cap ∧ w.cell? ⟨b, i * 2, none⟩ = some (.int .i64 (s.log.getD i (0, 0)).1) := by
  obtain ⟨b, cap, e, _, _⟩ := h.lg.form (by omega)
  refine ⟨b, cap, e, ?_⟩
  have hc := h.lg.cells (g := b) (by rw [e]; rfl) (2 * i) _ (encLog_get s.log i hi)
  rwa [show ((⟨b, 0, none⟩ : Addr).add (2 * i)) = ⟨b, i * 2, none⟩ from by unfold Addr.add; split <;> simp_all [Nat.mul_comm]] at hc

theorem again_off (w : World) (g : FG) (sl : Value) (s : FS) (h : Fr w g sl s) (ho : s.off = true) :
    Calls Tryz.prog 279 #[.pointer (some ⟨g.fb, 0, none⟩)] w fun e w' => e = .returned (.tuple #[.int .i64 0, .bool true]) ∧ w = w' := by
  have c4 := h.cells.c4
  rw [ho] at c4
  clear h
  go_enter Tryz.func279, Tryz.ntmps279
  go_wp2
  go_ret2
  exact ⟨rfl, rfl⟩

theorem again_log (w : World) (g : FG) (sl : Value) (s : FS) (h : Fr w g sl s) (ho : s.off = false) (hl : s.at_ < s.log.length) :
    Calls Tryz.prog 279 #[.pointer (some ⟨g.fb, 0, none⟩)] w (Posts g sl { s with at_ := s.at_ + 1 } w (.tuple #[.int .i64 (s.log.getD s.at_ (0, 0)).1, .bool true])) := by
  have H := Lib.hid h
  have c4 := h.cells.c4
  rw [ho] at c4
  have c2 := h.cells.c2
  have c1 := h.cells.c1
  have f2 := h.free 2
  have hroom := h.room
  have hrm : s.log.length ≤ 1000000 := by omega
  obtain ⟨b, cap, e, hc⟩ := h.logCell s.at_ hl
  rw [e] at c1
  have hbne : b ≠ g.fb := fun e' => h.nf (by rw [e, e']; rfl)
  have hc' : ∀ v, (w.setCell ⟨g.fb, 2, none⟩ v).cell? ⟨b, s.at_ * 2, none⟩ = some (.int .i64 (s.log.getD s.at_ (0, 0)).1) := fun v => by rw [World.cell?_of_block (block_setCell_other _ _ _ hbne)]; exact hc
  have hd : decide (s.at_ < s.log.length) = true := by simpa using hl
  have hi : ((s.at_ : Int)) < (s.log.length : Int) := by omega
  have fin : ∀ (W : World) (nq nq' : Nat), (w.drewN nq).setCell ⟨g.fb, 2, none⟩ (.int .i64 ((s.at_ : Int) + 1)) = W → Posts g sl { s with at_ := s.at_ + 1 } w (.tuple #[.int .i64 (s.log.getD s.at_ (0, 0)).1, .bool true]) (.returned (.tuple #[.int .i64 (s.log.getD s.at_ (0, 0)).1, .bool true])) (W.drewN nq') := by
    intro W nq nq' hW
    subst hW
    exact ⟨rfl, sl, ((h.drewN nq).set 2 _ { s with at_ := s.at_ + 1 } rfl rfl rfl hroom (by show s.at_ + 1 ≤ _; omega)).drewN nq', ((Ev.drewN g sl w nq).trans (Ev.set g sl _ 2 _)).trans (Ev.drewN g sl _ nq')⟩
  have Fin := Lib.hid fin
  clear h hroom fin ho e
  generalize (s.log.getD s.at_ (0, 0)).1 = v at *
  generalize { s with at_ := s.at_ + 1 } = s' at *
  generalize s.log.length = n at *
  generalize s.at_ = k at *
  clear H
  go_enter Tryz.func279, Tryz.ntmps279
  go_wp2
  go_quiet (fail)
  go_wp2
  have hw : IntKind.i64.wrap (k : Int) = k := IntWalk.i64_in _ (by omega)
  have hz : (0 : Int) ≤ (k : Int) := by omega
  have hc2 : ((w.drewN nq).setCell ⟨g.fb, 2, none⟩ (.int .i64 (k + 1))).cell? ⟨b, k * 2, none⟩ = some (.int .i64 v) := hc' _
  have hc3 : ((w.drewN nq).setCell ⟨g.fb, 2, none⟩ (.int .i64 (k + 1))).cell? ⟨g.fb, 2, none⟩ = some (.int .i64 (k + 1)) := by go_simp
  have hc4 : ((w.drewN nq).setCell ⟨g.fb, 2, none⟩ (.int .i64 (k + 1))).cell? ⟨g.fb, 1, none⟩ = some (.slice (some ⟨b, 0, none⟩) n cap) := by go_simp
  clear hc'
  generalize hW : (w.drewN nq).setCell ⟨g.fb, 2, none⟩ (.int .i64 (k + 1)) = W at *
  have HW := Lib.hid hW
  clear hW
  go_quiet (fail)
  go_wp2
  go_ret2
  exact Fin.out _ _ _ HW.out

theorem again_end (w : World) (g : FG) (sl : Value) (s : FS) (h : Fr w g sl s) (ho : s.off = false) (hl : ¬ s.at_ < s.log.length) (hf : s.fresh = false) :
    Calls Tryz.prog 279 #[.pointer (some ⟨g.fb, 0, none⟩)] w (Posts g sl { s with off := true } w (.tuple #[.int .i64 0, .bool true])) := by
  have c4 := h.cells.c4
  rw [ho] at c4
  have c3 := h.cells.c3
  rw [hf] at c3
  have c2 := h.cells.c2
  have c1 := h.cells.c1
  have f4 := h.free 4
  have hroom := h.room
  have hal := h.at_le
  obtain ⟨A, cap, e⟩ : ∃ A cap, sl = .slice A s.log.length cap := by
    rcases h.lg.2 with ⟨e, e0⟩ | ⟨b, cap, cur, e, _⟩
    · exact ⟨none, 0, by rw [e, e0]⟩
    · exact ⟨_, _, e⟩
  rw [e] at c1
  have hd : decide (s.at_ < s.log.length) = false := by simpa using hl
  have fin : ∀ (nq : Nat), Posts g sl { s with off := true } w (.tuple #[.int .i64 0, .bool true]) (.returned (.tuple #[.int .i64 0, .bool true])) ((w.drewN nq).setCell ⟨g.fb, 4, none⟩ (.bool true)) := by
    intro nq
    exact ⟨rfl, sl, (h.drewN nq).set 4 _ { s with off := true } rfl rfl rfl hroom hal, (Ev.drewN g sl w nq).trans (Ev.set g sl _ 4 _)⟩
  have Fin := Lib.hid fin
  clear h hroom fin ho e hal
  generalize { s with off := true } = s' at *
  generalize s.log.length = n at *
  generalize s.at_ = k at *
  go_enter Tryz.func279, Tryz.ntmps279
  go_wp2
  go_quiet (fail)
  go_wp2
  go_ret2
  exact Fin.out _

theorem again_fresh (w : World) (g : FG) (sl : Value) (s : FS) (h : Fr w g sl s) (ho : s.off = false) (hl : ¬ s.at_ < s.log.length) (hf : s.fresh = true) :
    Calls Tryz.prog 279 #[.pointer (some ⟨g.fb, 0, none⟩)] w (Posts g sl s w (.tuple #[.int .i64 0, .bool false])) := by
  have c4 := h.cells.c4
  rw [ho] at c4
  have c3 := h.cells.c3
  rw [hf] at c3
  have c2 := h.cells.c2
  have c1 := h.cells.c1
  obtain ⟨A, cap, e⟩ : ∃ A cap, sl = .slice A s.log.length cap := by
    rcases h.lg.2 with ⟨e, e0⟩ | ⟨b, cap, cur, e, _⟩
    · exact ⟨none, 0, by rw [e, e0]⟩
    · exact ⟨_, _, e⟩
  rw [e] at c1
  have hd : decide (s.at_ < s.log.length) = false := by simpa using hl
  have fin : ∀ (nq : Nat), Posts g sl s w (.tuple #[.int .i64 0, .bool false]) (.returned (.tuple #[.int .i64 0, .bool false])) (w.drewN nq) :=
    fun nq => ⟨rfl, sl, h.drewN nq, Ev.drewN g sl w nq⟩
  have Fin := Lib.hid fin
  clear h fin ho e
  generalize s.log.length = n at *
  generalize s.at_ = k at *
  go_enter Tryz.func279, Tryz.ntmps279
  go_wp2
  go_quiet (fail)
  go_wp2
  go_ret2
  exact Fin.out _

theorem again_any (w : World) (g : FG) (sl : Value) (s : FS) (h : Fr w g sl s) :
    Calls Tryz.prog 279 #[.pointer (some ⟨g.fb, 0, none⟩)] w (Posts g sl s.again.2.2 w (.tuple #[.int .i64 s.again.1, .bool s.again.2.1])) := by
  unfold FS.again
  by_cases ho : s.off = true
  · rw [if_pos ho]
    exact (again_off w g sl s h ho).mono fun e w' ⟨he, hw⟩ => ⟨he, sl, hw ▸ h, hw ▸ Ev.refl g sl w⟩
  · have ho' : s.off = false := by simpa using ho
    rw [if_neg ho]
    by_cases hl : s.at_ < s.log.length
    · rw [if_pos hl]; exact again_log w g sl s h ho' hl
    · rw [if_neg hl]
      by_cases hf : s.fresh = true
      · rw [if_pos hf]; exact again_fresh w g sl s h ho' hl hf
      · rw [if_neg hf]; exact again_end w g sl s h ho' hl (by simpa using hf)

theorem Tryz.infoDone : (Tryz.prog.info? 269).map (fun i => (i.zero, i.size, i.bytes)) = some (some (.agg #[.int .i64 0, .int .i64 0]), 2, 16) := by kernel_rfl

/-- The state behind a note. -/
def FS.noted (s : FS) (v : Int) : FS := { s with fresh := false, log := s.log ++ [(v, s.now)], at_ := s.at_ + 1 }

/-- The log's new value. -/
theorem Fr.noted {w w1 : World} {g : FG} {sl : Value} {s : FS} (h : Fr w g sl s) (v : Int) (hv : I64 v) (hf : s.fresh = true) (gg cap : Nat)
    (hown : w1.ownsRow 0 269 2 (.slice (some ⟨gg, 0, none⟩) (s.log.length + 1) cap) (s.log.length + 1) (encLog s.log ++ [.int .i64 v, .int .i64 s.now]))
    (h1 : w1.heap[g.fb]? = some (.cells #[.pointer (some ⟨g.mb, 0, none⟩), .slice (some ⟨gg, 0, none⟩) (s.log.length + 1) cap, .int .i64 (s.at_ + 1 : Nat), .bool false, .bool s.off, .int .i64 s.now, .int .i64 s.mark, .bool s.marked, .bool s.over] 267 (0, 0)))
    (h2 : w1.heap[g.mb]? = w.heap[g.mb]?) (h3 : w1.heap[g.wb]? = w.heap[g.wb]?) (n1 : gg ≠ g.fb) (n2 : gg ≠ g.mb) (n3 : gg ≠ g.wb) :
    Fr w1 g (.slice (some ⟨gg, 0, none⟩) (s.log.length + 1) cap) (s.noted v) := by
  have hr := h.room
  rw [hf] at hr
  refine ⟨h1, h.mem.kept h2 h3, ?_, h.ne1, h.ne2, ?_, ?_, ?_, ?_, ?_, ?_⟩
  · simp only [FS.noted, List.length_append, List.length_cons, List.length_nil, Nat.zero_add, encLog_append]; exact hown
  · simpa [Value.ownBlock] using n1
  · simpa [Value.ownBlock] using n2
  · simpa [Value.ownBlock] using n3
  · simpa [FS.noted] using hr
  · have := h.at_le; simp [FS.noted]; omega
  · intro p hp
    simp only [FS.noted, List.mem_append, List.mem_singleton] at hp
    rcases hp with hp | hp
    · exact h.li64 p hp
    · subst hp; exact hv

set_option maxRecDepth 100000 in
set_option maxHeartbeats 1600000 in
theorem note_any (w : World) (g : FG) (sl : Value) (s : FS) (h : Fr w g sl s) (hf : s.fresh = true) (v : Int) (hv : I64 v) :
    Calls Tryz.prog 281 #[.pointer (some ⟨g.fb, 0, none⟩), .int .i64 v] w (Posts g sl (s.noted v) w (.int .i64 v)) := by
  obtain ⟨i0, hi0, hz0, hz1, hz2⟩ := info_parts Tryz.infoDone
  have c1 := h.cells.c1
  have c2 := h.cells.c2
  have c3 := h.cells.c3
  have c5 := h.cells.c5
  have f1 := h.free 1
  have f2 := h.free 2
  have f3 := h.free 3
  have lf := h.lts.1
  have hroom := h.room
  have hal := h.at_le
  have hn : s.log.length ≤ 1000000 := by omega
  have hb1 : s.log.length + 1 ≤ maxLen := by unfold maxLen; omega
  have hb2 : (s.log.length + 1) * 16 ≤ 140737488355328 := by omega
  have nf := h.nf
  have hown : (w.setCell ⟨g.fb, 3, none⟩ (.bool false)).ownsRow 0 269 2 sl s.log.length (encLog s.log) :=
    ownsRow_kept h.lg (fun b hb => block_setCell_other _ _ _ (fun e => h.nf (by rw [hb, e])))
  have fin : ∀ (W w1 : World) (gg cap : Nat), w.setCell ⟨g.fb, 3, none⟩ (.bool false) = W →
      w1.ownsRow 0 269 2 (.slice (some ⟨gg, 0, none⟩) (s.log.length + 1) cap) (s.log.length + 1) (encLog s.log ++ [.int .i64 v, .int .i64 s.now]) →
      (W.alloc (.cells #[.int .i64 v, .int .i64 s.now] 269)).drew.grownBy w1 sl.ownBlock → (sl.ownBlock = some gg ∨ gg = W.heap.size + 1) →
      Posts g sl (s.noted v) w (.int .i64 v) (.returned (.int .i64 v)) ((w1.setCell ⟨g.fb, 1, none⟩ (.slice (some ⟨gg, 0, none⟩) (s.log.length + 1) cap)).setCell ⟨g.fb, 2, none⟩ (.int .i64 (s.at_ + 1))) := by
    intro W w1 gg cap hW hown1 hgrow hat
    obtain ⟨l1, l2, l3, l4⟩ := h.lts
    have hsz : W.heap.size = w.heap.size := by rw [← hW]; simp [World.setCell]
    have hold : ∀ k, k < w.heap.size → k ≠ g.fb → sl.ownBlock ≠ some k → w1.heap[k]? = w.heap[k]? := by
      intro k hk h1 h2
      rw [hgrow.block k (by simp; omega) (Ne.symm h2)]
      show (W.alloc _).heap[k]? = _
      rw [Below.heap_alloc _ _ _ (by omega), ← hW, block_setCell_other _ _ _ h1]
    have hfb : w1.heap[g.fb]? = some (.cells (#[.pointer (some ⟨g.mb, 0, none⟩), sl, .int .i64 s.at_, .bool s.fresh, .bool s.off, .int .i64 s.now, .int .i64 s.mark, .bool s.marked, .bool s.over].setIfInBounds 3 (.bool false)) 267 (0, 0)) := by
      rw [hgrow.block g.fb (by simp; omega) (Ne.symm nf)]
      show (W.alloc _).heap[g.fb]? = _
      rw [Below.heap_alloc _ _ _ (by omega), ← hW, block_setCell h.fr]
    have n1 : gg ≠ g.fb := by
      rcases hat with e | e
      · exact fun e' => h.nf (by rw [e, e'])
      · omega
    have n2 : gg ≠ g.mb := by
      rcases hat with e | e
      · exact fun e' => h.nm (by rw [e, e'])
      · omega
    have n3 : gg ≠ g.wb := by
      rcases hat with e | e
      · exact fun e' => h.nw (by rw [e, e'])
      · omega
    refine ⟨rfl, .slice (some ⟨gg, 0, none⟩) (s.log.length + 1) cap, h.noted v hv hf gg cap (ownsRow_kept hown1 ?_) ?_ ?_ ?_ n1 n2 n3, ?_⟩
    · intro k hk
      have hk' : k = gg := by simpa [Value.ownBlock] using hk.symm
      subst hk'
      rw [block_setCell_other _ _ _ n1, block_setCell_other _ _ _ n1]
    · rw [block_setCell (block_setCell hfb 1 _) 2 _]
      rfl
    · rw [block_setCell_other _ _ _ (Ne.symm h.ne1), block_setCell_other _ _ _ (Ne.symm h.ne1)]
      exact hold _ l2 (Ne.symm h.ne1) h.nm
    · rw [block_setCell_other _ _ _ (Ne.symm h.ne2), block_setCell_other _ _ _ (Ne.symm h.ne2)]
      exact hold _ l3 (Ne.symm h.ne2) h.nw
    · refine ⟨?_, ?_, ?_, ?_, ?_, ?_⟩
      · show w1.os = _; rw [hgrow.os, ← hW]; rfl
      · show w1.tape = _; rw [hgrow.tape, ← hW]; rfl
      · show w1.output = _; rw [hgrow.output, ← hW]; rfl
      · have := hgrow.size; simp [World.setCell] at this ⊢; omega
      · intro k hk h1 _ h3
        rw [block_setCell_other _ _ _ h1, block_setCell_other _ _ _ h1]
        exact hold k hk h1 h3
      · rcases hat with e | e
        · exact .inl e.symm
        · exact .inr ⟨gg, rfl, by omega⟩
  have Fin := Lib.hid fin
  have Hown := Lib.hid hown
  clear hown h fin
  go_enter Tryz.func281, Tryz.ntmps281
  go_wp2_with fail
  have k1 : (w.setCell ⟨g.fb, 3, none⟩ (.bool false)).cell? ⟨g.fb, 1, none⟩ = some sl := by go_simp
  have k2 : (w.setCell ⟨g.fb, 3, none⟩ (.bool false)).cell? ⟨g.fb, 2, none⟩ = some (.int .i64 s.at_) := by go_simp
  have k5 : (w.setCell ⟨g.fb, 3, none⟩ (.bool false)).cell? ⟨g.fb, 5, none⟩ = some (.int .i64 s.now) := by go_simp
  have q1 : (w.setCell ⟨g.fb, 3, none⟩ (.bool false)).frozen? ⟨g.fb, 1, none⟩ = false := by go_simp
  have q2 : (w.setCell ⟨g.fb, 3, none⟩ (.bool false)).frozen? ⟨g.fb, 2, none⟩ = false := by go_simp
  have lf' : g.fb < (w.setCell ⟨g.fb, 3, none⟩ (.bool false)).heap.size := by simpa [World.setCell] using lf
  generalize hW : w.setCell ⟨g.fb, 3, none⟩ (.bool false) = W at k1 k2 k5 q1 q2 lf' Hown ⊢
  have HW := Lib.hid hW
  clear hW c1 c2 c3 c5 f1 f2 f3 lf
  go_region_law
    (refine step_append_lies _ (by rfl) _ _ _ (by rfl) 0 269 i0 _ 2 16 Tryz.underlying265 hi0 hz0 hz1 hz2 rfl (by omega) sl s.log.length (encLog s.log) (by rfl) ((Hown.out.alloc _).drew)
        ⟨W.heap.size, 0, none⟩ 1 1 [.int .i64 v, .int .i64 s.now] (by rfl) (by rfl) (World.news_of_block (cs := #[.int .i64 v, .int .i64 s.now]) (t := 269) (fr := (0, 0)) (heap_alloc_new W _)) (by simp [Value.oneCell'])
        (by omega) hb1 hb2 (by simp) (W.heap.size + 1) (by simp) ?_; intro gg cap w1 hown1 hgrow hat hlt
     have z1 : w1.cell? ⟨g.fb, 1, none⟩ = some sl := by rw [hgrow.cell_far _ (by simp; omega) (Ne.symm nf), World.cell?_drew, World.cell?_alloc_past _ _ _ lf']; exact k1
     have z2 : w1.cell? ⟨g.fb, 2, none⟩ = some (.int .i64 s.at_) := by rw [hgrow.cell_far _ (by simp; omega) (Ne.symm nf), World.cell?_drew, World.cell?_alloc_past _ _ _ lf']; exact k2
     have z3 : w1.frozen? ⟨g.fb, 1, none⟩ = false := by rw [hgrow.frozen_far _ (by simp; omega) (Ne.symm nf), World.frozen?_drew, World.frozen?_alloc_past _ _ _ lf']; exact q1
     have z4 : w1.frozen? ⟨g.fb, 2, none⟩ = false := by rw [hgrow.frozen_far _ (by simp; omega) (Ne.symm nf), World.frozen?_drew, World.frozen?_alloc_past _ _ _ lf']; exact q2)
  go_wp2
  all_goals
    go_ret
    exact Fin.out _ _ _ _ HW.out hown1 hgrow hat

theorem acc_again {s : FS} (h : s.again.2.1 = true) (x : Acc) : s.acc x = (s.again.1, s.again.2.2) := by
  unfold FS.again FS.acc at *
  split
  · rfl
  · split
    · rfl
    · split
      · rename_i h1 h2 h3
        rw [if_neg h1, if_neg h2, if_pos h3] at h
        cases h
      · rfl
theorem again_no {s : FS} (h : s.again.2.1 = false) : s.again = (0, false, s) ∧ s.fresh = true ∧ ∀ x : Acc, s.acc x = (x.val s.mem, ({ s with mem := x.mem s.mem } : FS).noted (x.val s.mem)) := by
  unfold FS.again at *
  by_cases h1 : s.off = true
  · rw [if_pos h1] at h; cases h
  · rw [if_neg h1] at h ⊢
    by_cases h2 : s.at_ < s.log.length
    · rw [if_pos h2] at h; cases h
    · rw [if_neg h2] at h ⊢
      by_cases h3 : s.fresh = true
      · rw [if_pos h3]
        refine ⟨rfl, h3, fun x => ?_⟩
        unfold FS.acc
        rw [if_neg h1, if_neg h2, if_pos h3]
        rfl
      · rw [if_neg h3] at h; cases h

theorem Fr.memAt {w : World} {g : FG} {sl : Value} {s : FS} (h : Fr w g sl s) : MemAt w g.mb g.wb s.mem := h.mem
/-- The memory's words written, by whoever. -/
theorem Fr.mems {w w' : World} {g : FG} {sl : Value} {s : FS} (h : Fr w g sl s) {m : Mem} (hm : MemAt w' g.mb g.wb m) (ho : OnlyBlock g.wb w w') : Fr w' g sl { s with mem := m } ∧ Ev g sl sl w w' := by
  obtain ⟨o1, o2, o3, o4, o5⟩ := ho
  refine ⟨⟨by rw [o5 _ h.ne2]; exact h.fr, hm, ownsRow_kept h.lg (fun k hk => o5 k (fun e => h.nw (by rw [hk, e]))), h.ne1, h.ne2, h.nf, h.nm, h.nw, h.room, h.at_le, h.li64⟩, ?_⟩
  exact ⟨o1, o2, o3, by omega, fun k _ _ h2 _ => o5 k h2, .inl rfl⟩

set_option maxHeartbeats 800000 in
theorem fload (w : World) (g : FG) (sl : Value) (s : FS) (h : Fr w g sl s) (a : Int) :
    Calls Tryz.prog 216 #[.pointer (some ⟨g.fb, 0, none⟩), .int .i64 a] w (Posts g sl (s.acc (.ld a)).2 w (.int .i64 (s.acc (.ld a)).1)) := by
  cases hk : s.again.2.1 with
  | true =>
    rw [acc_again hk]
    have H := again_any w g sl s h
    rw [hk] at H
    generalize s.again.1 = v at *
    generalize s.again.2.2 = s' at *
    have H' := Lib.hid H
    clear H h hk
    go_enter Tryz.func216, Tryz.ntmps216
    go_wp2_with (go_at_call 279; refine H'.out.mono ?_; rintro e w' ⟨rfl, sl', hF, hE⟩)
    go_ret
    exact ⟨rfl, sl', hF, hE⟩
  | false =>
    obtain ⟨h1, h2, h3⟩ := again_no hk
    rw [h3]
    have H := again_any w g sl s h
    rw [h1] at H
    have H' := Lib.hid H
    clear H hk h1 h3
    have hv : I64 (rdM s.mem a) := rdM_i64 h.mem.i64 a
    show Calls _ _ _ _ (Posts g sl (({ s with mem := s.mem } : FS).noted (rdM s.mem a)) w (.int .i64 (rdM s.mem a)))
    go_enter Tryz.func216, Tryz.ntmps216
    go_wp2_with fail
    go_at_call 279
    refine H'.out.mono ?_
    rintro e w' ⟨rfl, sl', hF, hE⟩
    have c0 := hF.cells.c0
    go_wp2_with fail
    go_at_call 90
    refine (load_any _ _ _ a _ hF.mem).mono ?_
    rintro e w1 ⟨⟨c, rfl⟩, rfl⟩
    go_wp2_with fail
    go_at_call 281
    refine (note_any _ g sl' s hF h2 _ hv).mono ?_
    rintro e w2 ⟨rfl, sl2, hF2, hE2⟩
    go_wp2
    go_ret
    exact ⟨rfl, sl2, hF2, hE.trans hE2⟩

set_option maxHeartbeats 800000 in
theorem fstore (w : World) (g : FG) (sl : Value) (s : FS) (h : Fr w g sl s) (a v : Int) (hv : I64 v) :
    Calls Tryz.prog 209 #[.pointer (some ⟨g.fb, 0, none⟩), .int .i64 a, .int .i64 v] w (Posts g sl (s.acc (.st a v)).2 w (.tuple #[])) := by
  cases hk : s.again.2.1 with
  | true =>
    rw [acc_again hk]
    have H := again_any w g sl s h
    rw [hk] at H
    generalize s.again.1 = v at *
    generalize s.again.2.2 = s' at *
    have H' := Lib.hid H
    clear H h hk hv
    go_enter Tryz.func209, Tryz.ntmps209
    go_wp2_with (go_at_call 279; refine H'.out.mono ?_; rintro e w' ⟨rfl, sl', hF, hE⟩)
    first | go_end0 | ((try simp only [Exit.inBlock, Exit.then]); refine bodyPost_ret (results_none rfl _ _ _) rfl ?_)
    exact ⟨rfl, sl', hF, hE⟩
  | false =>
    obtain ⟨h1, h2, h3⟩ := again_no hk
    rw [h3]
    have H := again_any w g sl s h
    rw [h1] at H
    have H' := Lib.hid H
    clear H hk h1 h3
    show Calls _ _ _ _ (Posts g sl (({ s with mem := wrM s.mem a v } : FS).noted 0) w (.tuple #[]))
    go_enter Tryz.func209, Tryz.ntmps209
    go_wp2_with fail
    go_at_call 279
    refine H'.out.mono ?_
    rintro e w' ⟨rfl, sl', hF, hE⟩
    have c0 := hF.cells.c0
    go_wp2_with fail
    go_at_call 280
    refine (store_any _ _ _ a v _ hF.mem hv).mono ?_
    rintro e w1 ⟨⟨c, rfl⟩, hM, hO⟩
    obtain ⟨hF1, hE1⟩ := hF.mems hM hO
    clear hM hO
    go_wp2_with fail
    go_at_call 281
    refine (note_any _ g sl' _ hF1 h2 0 (i64_small (by omega) (by omega))).mono ?_
    rintro e w2 ⟨rfl, sl2, hF2, hE2⟩
    go_wp2
    first | go_end0 | ((try simp only [Exit.inBlock, Exit.then]); refine bodyPost_ret (results_none rfl _ _ _) rfl ?_)
    exact ⟨rfl, sl2, hF2, (hE.trans hE1).trans hE2⟩

set_option maxHeartbeats 800000 in
theorem fadd (w : World) (g : FG) (sl : Value) (s : FS) (h : Fr w g sl s) (a d : Int) :
    Calls Tryz.prog 347 #[.pointer (some ⟨g.fb, 0, none⟩), .int .i64 a, .int .i64 d] w (Posts g sl (s.acc (.ad a d)).2 w (.int .i64 (s.acc (.ad a d)).1)) := by
  cases hk : s.again.2.1 with
  | true =>
    rw [acc_again hk]
    have H := again_any w g sl s h
    rw [hk] at H
    generalize s.again.1 = v at *
    generalize s.again.2.2 = s' at *
    have H' := Lib.hid H
    clear H h hk
    go_enter Tryz.func347, Tryz.ntmps347
    go_wp2_with (go_at_call 279; refine H'.out.mono ?_; rintro e w' ⟨rfl, sl', hF, hE⟩)
    go_ret
    exact ⟨rfl, sl', hF, hE⟩
  | false =>
    obtain ⟨h1, h2, h3⟩ := again_no hk
    rw [h3]
    have H := again_any w g sl s h
    rw [h1] at H
    have H' := Lib.hid H
    clear H hk h1 h3
    have hv : I64 (rdM s.mem a) := rdM_i64 h.mem.i64 a
    show Calls _ _ _ _ (Posts g sl (({ s with mem := wrM s.mem a (wrap64 (rdM s.mem a + d)) } : FS).noted (rdM s.mem a)) w (.int .i64 (rdM s.mem a)))
    go_enter Tryz.func347, Tryz.ntmps347
    go_wp2_with fail
    go_at_call 279
    refine H'.out.mono ?_
    rintro e w' ⟨rfl, sl', hF, hE⟩
    have c0 := hF.cells.c0
    go_wp2_with fail
    go_at_call 392
    refine (add_any _ _ _ a d _ hF.mem).mono ?_
    rintro e w1 ⟨⟨c, rfl⟩, hM, hO⟩
    obtain ⟨hF1, hE1⟩ := hF.mems hM hO
    clear hM hO
    go_wp2_with fail
    go_at_call 281
    refine (note_any _ g sl' _ hF1 h2 _ hv).mono ?_
    rintro e w2 ⟨rfl, sl2, hF2, hE2⟩
    go_wp2
    go_ret
    exact ⟨rfl, sl2, hF2, (hE.trans hE1).trans hE2⟩

set_option maxHeartbeats 400000 in
theorem foff (w : World) (g : FG) (sl : Value) (s : FS) (h : Fr w g sl s) :
    Calls Tryz.prog 146 #[.pointer (some ⟨g.fb, 0, none⟩)] w fun e w' => e = .returned (.bool s.off) ∧ w = w' := by
  have c4 := h.cells.c4
  clear h
  go_enter Tryz.func146, Tryz.ntmps146
  go_wp2
  go_ret
  exact ⟨rfl, rfl⟩
end Go.Proofs.YtefbdcmodfbpbaaGreat
