/-
  frame.Mark; seq.Take of one word; ticket.Enter, Leave: contracts over their programs.
-/
import Derived.Test.YtefbdcmodfbpbaaGreatK
import Derived.Test.YtefbdcmodfbpbaaGreatSeqP
import Derived.Test.YtefbdcmodfbpbaaGreatOwn
import Derived.Test.YtefbdcmodfbpbaaGreatClone
import Derived.Deep.LoopGhost
set_option linter.unusedVariables false
set_option linter.unusedSimpArgs false
namespace Go.Proofs.YtefbdcmodfbpbaaGreat
open Go.RowKit

theorem encLog_get2 (l : List (Int × Int)) : ∀ (i : Nat), i < l.length → (encLog l)[2 * i + 1]? = some (.int .i64 (l.getD i (0, 0)).2) := by
  induction l with
  | nil => intro i hi; simp at hi
  | cons x l ih =>
    intro i hi
    cases i with
    | zero => rfl
    | succ i =>
      have := ih i (by simpa using hi)
      simp only [encLog, List.flatMap_cons] at this ⊢
      rw [show 2 * (i + 1) + 1 = 2 * i + 1 + 1 + 1 by omega]
      simpa using this
theorem Fr.logCell2 {w : World} {g : FG} {sl : Value} {s : FS} (h : Fr w g sl s) (i : Nat) (hi : i < s.log.length) : ∃ b cap, sl = .slice (some ⟨b, 0, none⟩) s.log.length cap ∧ w.cell? ⟨b, i * 2 + 1, none⟩ = some (.int .i64 (s.log.getD i (0, 0)).2) := by
  obtain ⟨b, cap, e, _, _⟩ := h.lg.form (by omega)
  refine ⟨b, cap, e, ?_⟩
  have hc := h.lg.cells (g := b) (by rw [e]; rfl) (2 * i + 1) _ (encLog_get2 s.log i hi)
  rwa [show ((⟨b, 0, none⟩ : Addr).add (2 * i + 1)) = ⟨b, i * 2 + 1, none⟩ from by unfold Addr.add; split <;> simp_all [Nat.mul_comm]] at hc

set_option maxRecDepth 100000 in
set_option maxHeartbeats 1600000 in
theorem kmark (w : World) (g : FG) (sl : Value) (s : FS) (h : Fr w g sl s) (s' : FS) (hx : exec markNow s = some ((), s')) :
    Calls Tryz.prog 143 #[.pointer (some ⟨g.fb, 0, none⟩)] w fun e w' => True ∧ Posts g sl s' w (.tuple #[]) e w' := by
  simp only [markNow, exec, Option.some.injEq, Prod.mk.injEq, true_and] at hx
  subst hx
  have c4 := h.cells.c4
  have c2 := h.cells.c2
  have c1 := h.cells.c1
  have c6 := h.cells.c6
  have c7 := h.cells.c7
  have f6 := h.free 6
  have f7 := h.free 7
  have hat := h.at_le
  by_cases ho : s.off = true
  · have e1 : s.doMark = s := by simp [FS.doMark, ho]
    rw [ho] at c4
    rw [e1]
    have H := Lib.hid h
    clear h e1 ho c1 c2 f6 f7
    go_enter Tryz.func143, Tryz.ntmps143
    go_wp2
    first | go_end0 | ((try simp only [Exit.inBlock, Exit.then]); refine bodyPost_ret (results_none rfl _ _ _) rfl ?_)
    exact ⟨trivial, rfl, sl, H.out, Ev.refl _ _ _⟩
  · have ho' : s.off = false := by cases hh : s.off; rfl; exact absurd hh ho
    rw [ho'] at c4
    by_cases hz : s.at_ = 0
    · have e1 : s.doMark = s := by simp [FS.doMark, hz]
      rw [hz] at c2
      rw [e1]
      have H := Lib.hid h
      clear h e1 ho c1 f6 f7 hz hat
      go_enter Tryz.func143, Tryz.ntmps143
      go_wp2
      first | go_end0 | ((try simp only [Exit.inBlock, Exit.then]); refine bodyPost_ret (results_none rfl _ _ _) rfl ?_)
      exact ⟨trivial, rfl, sl, H.out, Ev.refl _ _ _⟩
    · have hp : 0 < s.at_ := by omega
      have e1 : s.doMark = { s with mark := (s.log.getD (s.at_ - 1) (0, 0)).2, marked := true } := by simp [FS.doMark, ho', hp]
      obtain ⟨b, cap, e, hc⟩ := h.logCell2 (s.at_ - 1) (by omega)
      rw [e] at c1
      have hroom := h.room
      have fin : ∀ (v1 v2 : Value), v1 = .int .i64 (s.log.getD (s.at_ - 1) (0, 0)).2 → v2 = .bool true → ∀ W : World, W = ((w.setCell ⟨g.fb, 6, none⟩ v1).setCell ⟨g.fb, 7, none⟩ v2).drew → Posts g sl s.doMark w (.tuple #[]) (.returned (.tuple #[])) W := by
        rintro v1 v2 rfl rfl W rfl
        rw [e1]
        have k1 := h.set 6 (.int .i64 (s.log.getD (s.at_ - 1) (0, 0)).2) { s with mark := (s.log.getD (s.at_ - 1) (0, 0)).2 } rfl rfl rfl h.room h.at_le
        have k2 := k1.set 7 (.bool true) { s with mark := (s.log.getD (s.at_ - 1) (0, 0)).2, marked := true } rfl rfl rfl h.room h.at_le
        exact ⟨rfl, sl, k2.drew, ((Ev.set g sl w 6 _).trans (Ev.set g sl _ 7 _)).trans (Ev.drew g sl _)⟩
      have Fin := Lib.hid fin
      have hbne : b ≠ g.fb := fun e' => h.nf (by rw [e, e']; rfl)
      have hi0 : (0 : Int) ≤ (s.at_ : Int) - 1 := by omega
      have hi1 : (s.at_ : Int) - 1 < (s.log.length : Int) := by omega
      have hgt : (0 : Int) < (s.at_ : Int) := by omega
      have hn : ((s.at_ : Int) - 1).toNat = s.at_ - 1 := by omega
      have hat2 : (s.at_ : Int) ≤ 1000000 := by omega
      have hw : IntKind.i64.wrap ((s.at_ : Int) - 1) = (s.at_ : Int) - 1 := IntWalk.i64_in _ (by omega)
      clear h e1 ho ho' hz fin e hroom hp
      generalize (s.log.getD (s.at_ - 1) (0, 0)).2 = v at *
      generalize s.doMark = s' at *
      generalize s.log.length = n at *
      generalize (s.at_ : Int) = k at *
      go_enter Tryz.func143, Tryz.ntmps143
      go_wp2
      go_region
      all_goals
        first | go_end0 | ((try simp only [Exit.inBlock, Exit.then]); refine bodyPost_ret (results_none rfl _ _ _) rfl ?_)
        exact ⟨trivial, Fin.out _ _ rfl rfl _ rfl⟩

set_option maxRecDepth 100000 in
set_option maxHeartbeats 1600000 in
theorem even_any (a : Int) (w : World) (g : FG) (sl : Value) (s : FS) (hF : Fr w g sl s) (r : Int) (s' : FS) (hx : exec (kEven a) s = some (r, s')) :
    Calls Tryz.prog 229 #[.pointer (some ⟨g.fb, 0, none⟩), .int .i64 a] w fun e w' => I64 r ∧ Posts g sl s' w (.int .i64 r) e w' := by
  unfold kEven at hx
  obtain ⟨c, s1, x1, hx⟩ := exec_bind_some hx
  obtain ⟨o, s2, x2, hx⟩ := exec_bind_some hx
  have HF0 := Lib.hid hF
  have X1 := Lib.hid x1
  have X2 := Lib.hid x2
  clear hF x1 x2
  have main : (o = true ∨ o = false ∧ c.tmod 2 = 0) ∧ c = r ∧ s2 = s' := by
    cases o with
    | true => exact ⟨.inl rfl, exec_pure (exec_tt rfl hx)⟩
    | false =>
      have hx := exec_ff rfl hx
      cases hc : (c.tmod 2 == 0) with
      | true => exact ⟨.inr ⟨rfl, by simpa using hc⟩, exec_pure (exec_tt hc hx)⟩
      | false => have := exec_ff hc hx; cases this
  obtain ⟨hoc, rfl, rfl⟩ := main
  clear hx
  go_enter Tryz.func229, Tryz.ntmps229
  go_wp2_with fail
  go_at_call 216
  refine (kload _ _ g _ _ HF0.out _ _ X1.out).mono ?_
  rintro e w1 ⟨hi, rfl, sl1, hF1, hE1⟩
  have HI := Lib.hid hi
  have HF1 := Lib.hid hF1
  have HE1 := Lib.hid hE1
  clear hF1 hE1 hi
  go_wp2_with fail
  refine wp_loop_rounds 1 ?_
  rw [rounds_succ]
  go_wp2_with fail
  go_at_call 146
  refine (koff _ g _ _ HF1.out _ _ X2.out).mono ?_
  rintro e w2 ⟨-, rfl, sl2, hF2, hE2⟩
  have HF2 := Lib.hid hF2
  have HE2 := Lib.hid (HE1.out.trans hE2)
  clear hF2 hE2
  rcases hoc with rfl | ⟨rfl, hc⟩
  · go_wp2
    go_ret
    exact ⟨HI.out, rfl, sl2, HF2.out, HE2.out⟩
  · go_wp2
    go_ret
    exact ⟨HI.out, rfl, sl2, HF2.out, HE2.out⟩

/-- A new block, written. -/
theorem Ev.setNew {g : FG} {sl sl2 : Value} {W0 w : World} (hE : Ev g sl sl2 W0 w) {vb : Nat} (hge : W0.heap.size ≤ vb) (k : Nat) (a : Value) : Ev g sl sl2 W0 (w.setCell ⟨vb, k, none⟩ a) :=
  ⟨hE.os, hE.tape, hE.output, by simp; exact hE.size, fun j h1 h2 h3 h4 => (block_setCell_other _ _ _ (by omega)).trans (hE.block j h1 h2 h3 h4), hE.own⟩
theorem apart_ev {g : FG} {sl sl' : Value} {w w' : World} {k : Nat} (h : k ≠ g.fb ∧ k ≠ g.wb ∧ sl.ownBlock ≠ some k) (hE : Ev g sl sl' w w') (hk : k < w.heap.size) : k ≠ g.fb ∧ k ≠ g.wb ∧ sl'.ownBlock ≠ some k :=
  Apart.ev (F := fun j => j = k) (fun j hj => hj ▸ h) hE (fun j hj => hj ▸ hk) k rfl

/-- What a Take answers: nothing, or a word in a block of its own. -/
def TookAt (w0 : World) (g : FG) (sl' : Value) (r : Option Int) (v : Value) (w' : World) : Prop :=
  match r with
  | none => v = .slice none 0 0
  | some x => I64 x ∧ ∃ b, v = .slice (some ⟨b, 0, none⟩) 1 1 ∧ w'.heap[b]? = some (.cells #[.int .i64 x] 2 (0, 0)) ∧ w0.heap.size ≤ b ∧ (b ≠ g.fb ∧ b ≠ g.wb ∧ sl'.ownBlock ≠ some b)

set_option maxRecDepth 100000 in
set_option maxHeartbeats 1600000 in
theorem words_one (w : World) : Calls Tryz.prog 133 #[.int .i64 1] w fun e w' => e = .returned (.int .i64 2) ∧ w = w' := by
  go_enter Tryz.func133, Tryz.ntmps133
  go_wp2
  go_ret
  exact ⟨rfl, rfl⟩

set_option maxRecDepth 100000 in
set_option maxHeartbeats 3200000 in
theorem take1_any (a : Int) (a0 : 0 ≤ a) (a1 : a ≤ 100000) (mk : Bool) (w : World) (g : FG) (sl : Value) (s : FS) (hF : Fr w g sl s) (r : Option Int) (s' : FS) (hx : exec (kTake1 a mk) s = some (r, s')) :
    Calls Tryz.prog 148 #[.pointer (some ⟨g.fb, 0, none⟩), .int .i64 a, .int .i64 1, .bool mk] w fun e w' => ∃ v sl', e = .returned v ∧ TookAt w g sl' r v w' ∧ Fr w' g sl' s' ∧ Ev g sl sl' w w' := by
  unfold kTake1 at hx
  obtain ⟨c, s1, x1, hx⟩ := exec_bind_some hx
  obtain ⟨v, s2, x2, hx⟩ := exec_bind_some hx
  obtain ⟨_, s3, x3, hx⟩ := exec_bind_some hx
  obtain ⟨c2, s4, x4, hx⟩ := exec_bind_some hx
  obtain ⟨o, s5, x5, hx⟩ := exec_bind_some hx
  have HF0 := Lib.hid hF
  have X1 := Lib.hid x1
  have X2 := Lib.hid x2
  have X3 := Lib.hid x3
  have X4 := Lib.hid x4
  have X5 := Lib.hid x5
  clear hF x1 x2 x3 x4 x5
  have main : (o = true ∧ r = none ∨ o = false ∧ c2 = c ∧ r = some v) ∧ s5 = s' := by
    cases o with
    | true => have := exec_pure (exec_tt rfl hx); exact ⟨.inl ⟨rfl, this.1.symm⟩, this.2⟩
    | false =>
      have hx := exec_ff rfl hx
      cases hc : (c2 == c) with
      | true => have := exec_pure (exec_tt hc hx); exact ⟨.inr ⟨rfl, by simpa using hc, this.1.symm⟩, this.2⟩
      | false => have := exec_ff hc hx; cases this
  obtain ⟨hoc, rfl⟩ := main
  clear hx
  have hmk : ∀ w : World, (Instr.makeSlice 26 (.int .i64 1) (.int .i64 1)).run Tryz.prog w = .ok (.slice (some ⟨w.heap.size, 0, none⟩) 1 1) (w.alloc (.cells #[.int .i64 0] 2)) := fun w => by
    have h := run_make_row' (P := Tryz.prog) 26 2 (.int .i64 0) 8 Tryz.underlying26 Tryz.info_int64 rfl .i64 .i64 1 (by omega) (by omega) w
    have e : madeCells #[Value.int .i64 0] 1 = #[.int .i64 0] := by kernel_rfl
    rw [e] at h
    exact h
  go_enter Tryz.func148, Tryz.ntmps148
  go_wp2_with (go_at_call 133; refine (words_one _).mono ?_; rintro e wq ⟨rfl, rfl⟩)
  refine wp_loop_rounds 1 ?_
  rw [rounds_succ]
  go_wp2_with fail
  go_at_call 229
  refine (even_any _ _ g _ _ HF0.out _ _ X1.out).mono ?_
  rintro e w1 ⟨hi1, rfl, sl1, hF1, hE1⟩
  have HI1 := Lib.hid hi1
  have HF1 := Lib.hid hF1
  have HE1 := Lib.hid hE1
  clear hF1 hE1 hi1
  go_wp2_with fail
  refine wp_loop_rounds 2 ?_
  rw [rounds_succ]
  go_wp2_with fail
  go_at_call 216
  have HF1a := Lib.hid (HF1.out.alloc (.cells #[.int .i64 0] 2))
  refine (kload _ _ g _ _ HF1a.out _ _ X2.out).mono ?_
  rintro e w2 ⟨hi2, rfl, sl2, hF2, hE2⟩
  have hb2 := (hE2.keep (by simp) (HF1.out.newApart _ (Nat.le_refl _))).trans (heap_alloc_new w1 (.cells #[.int .i64 0] 2))
  have hA2 := apart_ev (HF1.out.newApart _ (Nat.le_refl _)) hE2 (by simp)
  have hm1 := HF1.out.lts.2.1
  have hge := HE1.out.size
  have HI2 := Lib.hid hi2
  have HE2 := Lib.hid ((HE1.out.trans (Ev.alloc g sl1 w1 (.cells #[.int .i64 0] 2))).trans hE2)
  have HF3 := Lib.hid (hF2.setOwn hA2 (by omega) 0 (.int .i64 v))
  have HE3 := Lib.hid (HE2.out.setNew hge 0 (.int .i64 v))
  have hb3 := block_setCell hb2 0 (.int .i64 v)
  have HB3 := Lib.hid (show _ = some (Obj.cells #[.int .i64 v] 2 (0, 0)) from hb3)
  have c2 := row_of hb2
  have f2 := free_of_block hb2 0
  have l2 := lt_of_block hb2
  have HA2 := Lib.hid hA2
  clear hF2 hE2 hi2 hb2 hb3 hA2
  go_wp2_with fail
  obtain ⟨w3, hw3⟩ : ∃ x, x = w2.setCell ⟨w1.heap.size, 0, none⟩ (.int .i64 v) := ⟨_, rfl⟩
  rw [← hw3] at HF3 HE3 HB3 ⊢
  clear hw3 c2 f2 l2
  rw [rounds_succ]
  have tail : ∀ (w4 : World) (sl4 : Value), Fr w4 g sl4 s3 → Ev g sl2 sl4 w3 w4 → Hid (Fr w4 g sl4 s3) ∧ Hid (Ev g sl sl4 w w4) ∧ Hid (w4.heap[w1.heap.size]? = some (Obj.cells #[.int .i64 v] 2 (0, 0))) ∧ Hid (w1.heap.size ≠ g.fb ∧ w1.heap.size ≠ g.wb ∧ sl4.ownBlock ≠ some w1.heap.size) := fun w4 sl4 hF4 hE4 =>
    ⟨Lib.hid hF4, Lib.hid (HE3.out.trans hE4), Lib.hid ((hE4.keep (lt_of_block HB3.out) HA2.out).trans HB3.out), Lib.hid (apart_ev HA2.out hE4 (lt_of_block HB3.out))⟩
  have Tail := Lib.hid tail
  have fin : ∀ (w4 : World) (sl4 : Value), Hid (Fr w4 g sl4 s3) → Hid (Ev g sl sl4 w w4) → Hid (w4.heap[w1.heap.size]? = some (Obj.cells #[.int .i64 v] 2 (0, 0))) → Hid (w1.heap.size ≠ g.fb ∧ w1.heap.size ≠ g.wb ∧ sl4.ownBlock ≠ some w1.heap.size) →
      ∀ (w5 w6 : World) (sl5 sl6 : Value), Fr w6 g sl6 s5 → Ev g sl4 sl5 w4 w5 → Ev g sl5 sl6 w5 w6 → Ev g sl sl6 w w6 ∧ w6.heap[w1.heap.size]? = some (Obj.cells #[.int .i64 v] 2 (0, 0)) ∧ (w1.heap.size ≠ g.fb ∧ w1.heap.size ≠ g.wb ∧ sl6.ownBlock ≠ some w1.heap.size) := fun w4 sl4 hF4 hE4 hB4 hA4 w5 w6 sl5 sl6 hF6 hE5 hE6 =>
    have k := hE5.trans hE6
    ⟨hE4.out.trans k, (k.keep (lt_of_block hB4.out) hA4.out).trans hB4.out, apart_ev hA4.out k (lt_of_block hB4.out)⟩
  have Fin := Lib.hid fin
  have Hge := Lib.hid hge
  clear tail fin
  cases mk with
  | true =>
    have X3' : Hid (exec markNow s2 = some ((), s3)) := X3
    go_wp2_with fail
    go_at_call 143
    refine (kmark _ g _ _ HF3.out _ X3'.out).mono ?_
    rintro e w4 ⟨-, rfl, sl4, hF4, hE4⟩
    obtain ⟨HF4, HE4, HB4, HA4⟩ := Tail.out _ _ hF4 hE4
    clear hF4 hE4 Tail HF3 HE3 HB3 HA2 HE2 X3 X3'
    go_wp2_with fail
    go_at_call 216
    refine (kload _ _ g _ _ HF4.out _ _ X4.out).mono ?_
    rintro e w5 ⟨-, rfl, sl5, hF5, hE5⟩
    have HF5 := Lib.hid hF5
    have HE5 := Lib.hid hE5
    clear hF5 hE5
    go_wp2_with fail
    go_at_call 146
    refine (koff _ g _ _ HF5.out _ _ X5.out).mono ?_
    rintro e w6 ⟨-, rfl, sl6, hF6, hE6⟩
    have HF6 := Lib.hid hF6
    have HG := Lib.hid (Fin.out _ _ HF4 HE4 HB4 HA4 _ _ _ _ hF6 HE5.out hE6)
    clear hF6 hE6
    rcases hoc with ⟨rfl, rfl⟩ | ⟨rfl, hcc, rfl⟩
    · go_wp2
      go_ret
      exact ⟨_, sl6, rfl, rfl, HF6.out, HG.out.1⟩
    · subst hcc
      go_wp2
      go_ret
      exact ⟨_, sl6, rfl, ⟨HI2.out, _, rfl, HG.out.2.1, Hge.out, HG.out.2.2⟩, HF6.out, HG.out.1⟩
  | false =>
    have e3 : s2 = s3 := (exec_pure (show exec (pure ()) s2 = some ((), s3) from X3.out)).2
    subst e3
    obtain ⟨HF4, HE4, HB4, HA4⟩ := Tail.out _ _ HF3.out (Ev.refl _ _ _)
    clear Tail HF3 HE3 HB3 HA2 HE2 X3
    go_wp2_with fail
    go_at_call 216
    refine (kload _ _ g _ _ HF4.out _ _ X4.out).mono ?_
    rintro e w5 ⟨-, rfl, sl5, hF5, hE5⟩
    have HF5 := Lib.hid hF5
    have HE5 := Lib.hid hE5
    clear hF5 hE5
    go_wp2_with fail
    go_at_call 146
    refine (koff _ g _ _ HF5.out _ _ X5.out).mono ?_
    rintro e w6 ⟨-, rfl, sl6, hF6, hE6⟩
    have HF6 := Lib.hid hF6
    have HG := Lib.hid (Fin.out _ _ HF4 HE4 HB4 HA4 _ _ _ _ hF6 HE5.out hE6)
    clear hF6 hE6
    rcases hoc with ⟨rfl, rfl⟩ | ⟨rfl, hcc, rfl⟩
    · go_wp2
      go_ret
      exact ⟨_, sl6, rfl, rfl, HF6.out, HG.out.1⟩
    · subst hcc
      go_wp2
      go_ret
      exact ⟨_, sl6, rfl, ⟨HI2.out, _, rfl, HG.out.2.1, Hge.out, HG.out.2.2⟩, HF6.out, HG.out.1⟩

set_option maxRecDepth 100000 in
set_option maxHeartbeats 1600000 in
theorem draw_any (a : Int) (a0 : 0 ≤ a) (a1 : a ≤ 100000) (w : World) (g : FG) (sl : Value) (s : FS) (hF : Fr w g sl s) (r : Int) (s' : FS) (hx : exec (ad a 1) s = some (r, s')) :
    Calls Tryz.prog 284 #[.pointer (some ⟨g.fb, 0, none⟩), .int .i64 a] w fun e w' => I64 r ∧ Posts g sl s' w (.int .i64 r) e w' := by
  have HF0 := Lib.hid hF
  have X1 := Lib.hid hx
  clear hF hx
  go_enter Tryz.func284, Tryz.ntmps284
  go_wp2_with fail
  go_at_call 347
  refine (kadd _ _ _ g _ _ HF0.out _ _ X1.out).mono ?_
  rintro e w1 ⟨hi, rfl, sl1, hF1, hE1⟩
  have HI := Lib.hid hi
  have HF1 := Lib.hid hF1
  have HE1 := Lib.hid hE1
  clear hF1 hE1 hi
  go_wp2
  go_ret
  exact ⟨HI.out, rfl, sl1, HF1.out, HE1.out⟩

set_option maxRecDepth 100000 in
set_option maxHeartbeats 1600000 in
theorem served_any (a t : Int) (a0 : 0 ≤ a) (a1 : a ≤ 100000) (w : World) (g : FG) (sl : Value) (s : FS) (hF : Fr w g sl s) (r : Bool) (s' : FS) (hx : exec (kServed a t) s = some (r, s')) :
    Calls Tryz.prog 285 #[.pointer (some ⟨g.fb, 0, none⟩), .int .i64 a, .int .i64 t] w fun e w' => True ∧ Posts g sl s' w (.bool r) e w' := by
  unfold kServed at hx
  obtain ⟨v, s1, x1, hx⟩ := exec_bind_some hx
  obtain ⟨o, s2, x2, hx⟩ := exec_bind_some hx
  obtain ⟨rfl, rfl⟩ := exec_pure hx
  have HF0 := Lib.hid hF
  have X1 := Lib.hid x1
  have X2 := Lib.hid x2
  clear hF x1 x2 hx
  go_enter Tryz.func285, Tryz.ntmps285
  go_wp2_with fail
  go_at_call 216
  refine (kload _ _ g _ _ HF0.out _ _ X1.out).mono ?_
  rintro e w1 ⟨-, rfl, sl1, hF1, hE1⟩
  have HF1 := Lib.hid hF1
  have HE1 := Lib.hid hE1
  clear hF1 hE1
  go_wp2_with fail
  go_at_call 146
  refine (koff _ g _ _ HF1.out _ _ X2.out).mono ?_
  rintro e w2 ⟨-, rfl, sl2, hF2, hE2⟩
  have HF2 := Lib.hid hF2
  have HE2 := Lib.hid (HE1.out.trans hE2)
  clear hF2 hE2
  cases o
  · go_wp2
    go_ret
    exact ⟨trivial, by simp, sl2, HF2.out, HE2.out⟩
  · go_wp2
    go_ret
    exact ⟨trivial, by simp, sl2, HF2.out, HE2.out⟩

set_option maxRecDepth 100000 in
set_option maxHeartbeats 3200000 in
theorem enter_any (a : Int) (a0 : 0 ≤ a) (a1 : a ≤ 100000) (w : World) (g : FG) (sl : Value) (s : FS) (hF : Fr w g sl s) (r : Int) (s' : FS) (hx : exec (kEnter a) s = some (r, s')) :
    Calls Tryz.prog 212 #[.pointer (some ⟨g.fb, 0, none⟩), .int .i64 a] w fun e w' => I64 r ∧ Posts g sl s' w (.int .i64 r) e w' := by
  unfold kEnter at hx
  obtain ⟨t, s1, x1, hx⟩ := exec_bind_some hx
  obtain ⟨o, s2, x2, hx⟩ := exec_bind_some hx
  have HF0 := Lib.hid hF
  have X1 := Lib.hid x1
  have X2 := Lib.hid x2
  clear hF x1 x2
  go_enter Tryz.func212, Tryz.ntmps212
  go_wp2_with fail
  go_at_call 284
  refine (draw_any _ a0 a1 _ g _ _ HF0.out _ _ X1.out).mono ?_
  rintro e w1 ⟨hi, rfl, sl1, hF1, hE1⟩
  have HI := Lib.hid hi
  have HF1 := Lib.hid hF1
  have HE1 := Lib.hid hE1
  clear hF1 hE1 hi
  go_wp2_with fail
  refine wp_loop_rounds 2 ?_
  rw [rounds_succ]
  go_wp2_with fail
  go_at_call 146
  refine (koff _ g _ _ HF1.out _ _ X2.out).mono ?_
  rintro e w2 ⟨-, rfl, sl2, hF2, hE2⟩
  have HF2 := Lib.hid hF2
  have HE2 := Lib.hid (HE1.out.trans hE2)
  clear hF2 hE2
  cases o with
  | true =>
    obtain ⟨rfl, rfl⟩ := exec_pure (exec_tt rfl hx)
    clear hx
    go_wp2
    go_ret
    exact ⟨HI.out, rfl, sl2, HF2.out, HE2.out⟩
  | false =>
    have hx := exec_ff rfl hx
    obtain ⟨sv, s3, x3, hx⟩ := exec_bind_some hx
    have X3 := Lib.hid x3
    clear x3
    go_wp2_with fail
    go_at_call 285
    refine (served_any _ _ a0 a1 _ g _ _ HF2.out _ _ X3.out).mono ?_
    rintro e w3 ⟨-, rfl, sl3, hF3, hE3⟩
    have HF3 := Lib.hid hF3
    have HE3 := Lib.hid (HE2.out.trans hE3)
    clear hF3 hE3
    cases sv with
    | true =>
      obtain ⟨rfl, rfl⟩ := exec_pure (exec_tt rfl hx)
      clear hx
      go_wp2
      go_ret
      exact ⟨HI.out, rfl, sl3, HF3.out, HE3.out⟩
    | false =>
      have hx := exec_ff rfl hx
      obtain ⟨o2, s4, x4, hx⟩ := exec_bind_some hx
      have X4 := Lib.hid x4
      obtain rfl : o2 = true := by
        cases o2 with
        | true => rfl
        | false => have := exec_ff rfl hx; cases this
      obtain ⟨rfl, rfl⟩ := exec_pure (exec_tt rfl hx)
      clear hx x4
      go_wp2_with fail
      rw [rounds_succ]
      go_wp2_with fail
      go_at_call 146
      refine (koff _ g _ _ HF3.out _ _ X4.out).mono ?_
      rintro e w4 ⟨-, rfl, sl4, hF4, hE4⟩
      have HF4 := Lib.hid hF4
      have HE4 := Lib.hid (HE3.out.trans hE4)
      clear hF4 hE4
      go_wp2
      go_ret
      exact ⟨HI.out, rfl, sl4, HF4.out, HE4.out⟩

set_option maxRecDepth 100000 in
set_option maxHeartbeats 1600000 in
theorem leave_any (a t : Int) (a0 : 0 ≤ a) (a1 : a ≤ 100000) (w : World) (g : FG) (sl : Value) (s : FS) (hF : Fr w g sl s) (s' : FS) (hx : exec (kLeave a t) s = some ((), s')) :
    Calls Tryz.prog 214 #[.pointer (some ⟨g.fb, 0, none⟩), .int .i64 a, .int .i64 t] w fun e w' => True ∧ Posts g sl s' w (.tuple #[]) e w' := by
  unfold kLeave at hx
  have HF0 := Lib.hid hF
  have X1 := Lib.hid hx
  clear hF hx
  go_enter Tryz.func214, Tryz.ntmps214
  go_wp2_with fail
  go_at_call 209
  refine (kstore _ _ (i64_wrap64 _) _ g _ _ HF0.out _ X1.out).mono ?_
  rintro e w1 ⟨-, rfl, sl1, hF1, hE1⟩
  have HF1 := Lib.hid hF1
  have HE1 := Lib.hid hE1
  clear hF1 hE1
  go_wp2
  first | go_end0 | ((try simp only [Exit.inBlock, Exit.then]); refine bodyPost_ret (results_none rfl _ _ _) rfl ?_)
  exact ⟨trivial, rfl, sl1, HF1.out, HE1.out⟩
end Go.Proofs.YtefbdcmodfbpbaaGreat
