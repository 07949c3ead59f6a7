/-
  A frame's steps, and a body run in a new frame till it is done: what they come to is what 'exec' and 'runs' say.
-/
import Derived.Test.YtefbdcmodfbpbaaGreatAcc
set_option linter.unusedVariables false
set_option linter.unusedSimpArgs false
namespace Go.Proofs.YtefbdcmodfbpbaaGreat
open Go.RowKit

/-- A body's function value: a method, its receiver bound. -/
abbrev bound (nb : Nat) (recv : Value) : Value := .func (.func nb) #[recv] #[]

theorem run_equalIn_func_nil {P : Program} (w : World) (d : Nat) (t : TypeId) (ps rs : Array TypeId) (vd : Bool) (fn : Fn) (fi ca : Array Value) (h : P.underlying t = some (.func ps rs vd)) :
    (Op.equalIn (d + 1) t (.func fn fi ca) .nilFunc).run P w = .ok false w := by
  simp [Op.equalIn, run_underlying h]
theorem run_eql_func_nil {P : Program} (w : World) (t : TypeId) (ps rs : Array TypeId) (vd : Bool) (fn : Fn) (fi ca : Array Value) (h : P.underlying t = some (.func ps rs vd)) :
    (binOp .eql t (.func fn fi ca) .nilFunc).run P w = .ok (.bool false) w := by
  simp only [binOp]
  simp [Op.equal, Op.maxDepth, run_equalIn_func_nil w 9999 t ps rs vd fn fi ca h]

/-- A function with a body: a call of it enters it. -/
def Enters (nb : Nat) : Prop := ∀ (args : Array Value) (w : World), (callFunc nb args).run Tryz.prog w = .ok (.enter nb args) w

set_option maxHeartbeats 400000 in
theorem fnew (w : World) (mb : Nat) :
    Calls Tryz.prog 156 #[.pointer (some ⟨mb, 0, none⟩)] w fun e w' => e = .returned (.pointer (some ⟨w.heap.size, 0, none⟩)) ∧
      w.alloc (.cells #[.pointer (some ⟨mb, 0, none⟩), .slice none 0 0, .int .i64 0, .bool false, .bool true, .int .i64 0, .int .i64 0, .bool false, .bool false] 267) = w' := by
  go_enter Tryz.func156, Tryz.ntmps156
  go_wp2
  go_ret
  exact ⟨rfl, rfl⟩

theorem Fr.new (w : World) (mb wb : Nat) (m : Mem) (h : MemAt w mb wb m) :
    Fr (w.alloc (.cells #[.pointer (some ⟨mb, 0, none⟩), .slice none 0 0, .int .i64 0, .bool false, .bool true, .int .i64 0, .int .i64 0, .bool false, .bool false] 267)) ⟨w.heap.size, mb, wb⟩ (.slice none 0 0) (FS.new m) := by
  have l1 := lt_of_block h.st
  have l2 := lt_of_block h.ws
  refine ⟨?_, h.kept (Below.heap_alloc _ _ _ l1) (Below.heap_alloc _ _ _ l2), ⟨rfl, .inl ⟨rfl, rfl⟩⟩, ?_, ?_, ?_, ?_, ?_, ?_, ?_, ?_⟩
  · exact heap_alloc_new w _
  · show w.heap.size ≠ mb; omega
  · show w.heap.size ≠ wb; omega
  · simp [Value.ownBlock]
  · simp [Value.ownBlock]
  · simp [Value.ownBlock]
  · simp [FS.new]
  · simp [FS.new]
  · intro p hp; simp [FS.new] at hp

set_option maxHeartbeats 400000 in
theorem fdone (w : World) (g : FG) (sl : Value) (s : FS) (h : Fr w g sl s) :
    Calls Tryz.prog 157 #[.pointer (some ⟨g.fb, 0, none⟩)] w fun e w' => e = .returned (.bool s.over) ∧ w = w' := by
  have c8 := h.cells.c8
  clear h
  go_enter Tryz.func157, Tryz.ntmps157
  go_wp2
  go_ret
  exact ⟨rfl, rfl⟩

/-- What a step leaves: the frame's state, and whatever the body's own postcondition 'K' says of the world that the body left. -/
def Stepped (g : FG) (s' : FS) (w : World) (v : Value) (K : Value → World → Prop) (e : Ending) (w' : World) : Prop :=
  e = .returned v ∧ ∃ sl1 w1 sl', K sl1 w1 ∧ Fr w' g sl' s' ∧ Ev g sl1 sl' w1 w'

theorem Fr.begin_ {w : World} {g : FG} {sl : Value} {s : FS} (h : Fr w g sl s) (now : Int) (hr : s.log.length + 1 ≤ 1000000) :
    Fr ((((((w.setCell ⟨g.fb, 2, none⟩ (.int .i64 0)).setCell ⟨g.fb, 3, none⟩ (.bool true)).setCell ⟨g.fb, 4, none⟩ (.bool false)).setCell ⟨g.fb, 5, none⟩ (.int .i64 now)).setCell ⟨g.fb, 7, none⟩ (.bool false)).setCell ⟨g.fb, 6, none⟩ (.int .i64 0)) g sl (s.begin_ now) := by
  have hr0 := h.room
  have h1 := h.set 2 (.int .i64 0) { s with at_ := 0 } rfl rfl rfl hr0 (Nat.zero_le _)
  have h2 := h1.set 3 (.bool true) { s with at_ := 0, fresh := true } rfl rfl rfl (by simpa using hr) (Nat.zero_le _)
  have h3 := h2.set 4 (.bool false) { s with at_ := 0, fresh := true, off := false } rfl rfl rfl (by simpa using hr) (Nat.zero_le _)
  have h4 := h3.set 5 (.int .i64 now) { s with at_ := 0, fresh := true, off := false, now := now } rfl rfl rfl (by simpa using hr) (Nat.zero_le _)
  have h5 := h4.set 7 (.bool false) { s with at_ := 0, fresh := true, off := false, now := now, marked := false } rfl rfl rfl (by simpa using hr) (Nat.zero_le _)
  exact h5.set 6 (.int .i64 0) (s.begin_ now) rfl rfl rfl (by simpa [FS.begin_] using hr) (Nat.zero_le _)

set_option maxRecDepth 100000 in
set_option maxHeartbeats 1600000 in
theorem fstep (w : World) (g : FG) (sl : Value) (s : FS) (h : Fr w g sl s) (ho : s.over = false) (hr : s.log.length + 1 ≤ 1000000) (now : Int) (nb : Nat) (recv : Value) (s1 : FS) (K : Value → World → Prop)
    (hfn : Enters nb)
    (hb : ∀ w1, Fr w1 g sl (s.begin_ now) → Ev g sl sl w w1 → Calls Tryz.prog nb #[recv, .pointer (some ⟨g.fb, 0, none⟩)] w1 fun e w2 => e = .returned (.tuple #[]) ∧ ∃ sl2, Fr w2 g sl2 s1 ∧ K sl2 w2) :
    Calls Tryz.prog 158 #[.pointer (some ⟨g.fb, 0, none⟩), .int .i64 now, bound nb recv] w (Stepped g s1.finish_ w (.bool s1.finish_.over) K) := by
  have Hb := Lib.hid hb
  have H := Lib.hid h
  have c8 := h.cells.c8
  rw [ho] at c8
  have c2 := h.cells.c2
  have c3 := h.cells.c3
  have c4 := h.cells.c4
  have c5 := h.cells.c5
  have c6 := h.cells.c6
  have c7 := h.cells.c7
  have f2 := h.free 2
  have f3 := h.free 3
  have f4 := h.free 4
  have f5 := h.free 5
  have f6 := h.free 6
  have f7 := h.free 7
  unfold Enters at hfn
  have hbn : ∀ w : World, (binOp .eql 53 (bound nb recv) .nilFunc).run Tryz.prog w = .ok (.bool false) w := fun w => run_eql_func_nil w _ _ _ _ _ _ _ Tryz.underlying53
  clear h hb ho
  go_enter Tryz.func158, Tryz.ntmps158
  go_wp2_with fail
  refine (Hb.out _ (H.out.begin_ now hr) ?hev).mono ?_
  case hev => exact (((((Ev.set g sl _ 2 _).trans (Ev.set g sl _ 3 _)).trans (Ev.set g sl _ 4 _)).trans (Ev.set g sl _ 5 _)).trans (Ev.set g sl _ 7 _)).trans (Ev.set g sl _ 6 _)
  rintro e w2 ⟨rfl, sl2, hF, hK⟩
  have HK := Lib.hid hK
  have d4 := hF.cells.c4
  have d8 := hF.cells.c8
  have e4 := hF.free 4
  have e8 := hF.free 8
  have HF := Lib.hid hF
  clear hK hF c2 c3 c4 c5 c6 c7 c8 f2 f3 f4 f5 f6 f7
  go_wp2
  go_ret
  have hF := HF.out
  refine ⟨by simp [FS.finish_], sl2, w2, sl2, HK.out, ?_, (Ev.set g sl2 _ 8 _).trans (Ev.set g sl2 _ 4 _)⟩
  have h1 := hF.set 8 (.bool (!s1.off)) { s1 with over := !s1.off } rfl rfl rfl hF.room hF.at_le
  exact h1.set 4 (.bool true) s1.finish_ rfl rfl rfl hF.room hF.at_le

theorem acc_log (s : FS) (x : Acc) : (s.acc x).2.log.length + (if (s.acc x).2.fresh then 1 else 0) ≤ s.log.length + (if s.fresh then 1 else 0) := by
  unfold FS.acc
  split
  · exact Nat.le_refl _
  · split
    · exact Nat.le_refl _
    · split
      · rename_i h; simp [h]
      · exact Nat.le_refl _
theorem exec_log {α : Type} (p : Prog α) : ∀ (s : FS) (r : α) (s1 : FS), exec p s = some (r, s1) → s1.log.length + (if s1.fresh then 1 else 0) ≤ s.log.length + (if s.fresh then 1 else 0) := by
  induction p with
  | ret a => intro s r s1 h; simp only [exec, Option.some.injEq, Prod.mk.injEq] at h; rw [h.2]; exact Nat.le_refl _
  | acc x k ih => intro s r s1 h; exact Nat.le_trans (ih _ _ _ _ h) (acc_log s x)
  | off k ih => intro s r s1 h; exact ih _ _ _ _ h
  | mark k ih =>
    intro s r s1 h
    have := ih _ _ _ h
    have e : s.doMark.log = s.log ∧ s.doMark.fresh = s.fresh := by unfold FS.doMark; split <;> exact ⟨rfl, rfl⟩
    rw [e.1, e.2] at this
    exact this
  | stuck => intro s r s1 h; cases h

/-- As 'Ev', but that blocks of 'S' may be written, too. -/
structure EvS (S : Nat → Prop) (g : FG) (sl sl' : Value) (w w' : World) : Prop where
  os : w'.os = w.os
  tape : w'.tape = w.tape
  output : w'.output = w.output
  size : w.heap.size ≤ w'.heap.size
  block : ∀ k, k < w.heap.size → k ≠ g.fb → k ≠ g.wb → sl.ownBlock ≠ some k → ¬ S k → w'.heap[k]? = w.heap[k]?
  own : sl'.ownBlock = sl.ownBlock ∨ ∃ b, sl'.ownBlock = some b ∧ w.heap.size ≤ b
theorem Ev.toS {g : FG} {sl sl' : Value} {w w' : World} (h : Ev g sl sl' w w') (S : Nat → Prop) : EvS S g sl sl' w w' := ⟨h.os, h.tape, h.output, h.size, fun k h1 h2 h3 h4 _ => h.block k h1 h2 h3 h4, h.own⟩
theorem EvS.trans {S : Nat → Prop} {g : FG} {s1 s2 s3 : Value} {a b c : World} (h : EvS S g s1 s2 a b) (k : EvS S g s2 s3 b c) : EvS S g s1 s3 a c := by
  refine ⟨k.os.trans h.os, k.tape.trans h.tape, k.output.trans h.output, Nat.le_trans h.size k.size, ?_, ?_⟩
  · intro i hi h1 h2 h3 h4
    rw [k.block i (Nat.lt_of_lt_of_le hi h.size) h1 h2 ?_ h4, h.block i hi h1 h2 h3 h4]
    rcases h.own with e | ⟨b, e, hb⟩
    · rw [e]; exact h3
    · rw [e]; intro e'; injection e' with e'; omega
  · rcases k.own with e | ⟨b, e, hb⟩
    · rcases h.own with e' | ⟨b', e', hb'⟩
      · exact .inl (e.trans e')
      · exact .inr ⟨b', e.trans e', hb'⟩
    · exact .inr ⟨b, e, Nat.le_trans h.size hb⟩

/-- What is left of a world by a run: but block 'wb', the blocks of 'S' and new ones all is as it was. -/
structure Left (S : Nat → Prop) (wb : Nat) (w w' : World) : Prop where
  os : w'.os = w.os
  tape : w'.tape = w.tape
  output : w'.output = w.output
  size : w.heap.size ≤ w'.heap.size
  block : ∀ k, k < w.heap.size → k ≠ wb → ¬ S k → w'.heap[k]? = w.heap[k]?

/-- The state at a round's head. -/
def Round {α : Type} (p : Prog α) (most : Nat) (ro : Option α) (sE : FS) (S : Nat → Prop) (I : FG → Value → World → Prop) (B : FG → Value → α → World → Prop) (w0 : World) (g : FG) (j : Nat) (wr : World) : Prop :=
  ∃ sl s r, Fr wr g sl s ∧ I g sl wr ∧ (∀ x, r = some x → B g sl x wr) ∧ EvS S g (.slice none 0 0) sl w0 wr ∧ s.log.length ≤ j ∧ j ≤ most ∧ runs p (most - j) j s r = some (ro, sE)

/-- What a run comes to. -/
def Ran {α : Type} (ro : Option α) (sE : FS) (S : Nat → Prop) (B : FG → Value → α → World → Prop) (mb wb : Nat) (w : World) (e : Ending) (w' : World) : Prop :=
  e = .returned (.bool sE.over) ∧ ∃ sl, Fr w' ⟨w.heap.size, mb, wb⟩ sl sE ∧ (∀ x, ro = some x → B ⟨w.heap.size, mb, wb⟩ sl x w') ∧ Left S wb w w'

set_option maxRecDepth 100000 in
set_option maxHeartbeats 1600000 in
theorem frun {α : Type} (w : World) (mb wb : Nat) (m : Mem) (hm : MemAt w mb wb m) (most : Nat) (hmost : most ≤ 100000) (nb : Nat) (recv : Value) (hfn : Enters nb) (p : Prog α) (ro : Option α) (sE : FS)
    (S : Nat → Prop) (I : FG → Value → World → Prop) (B : FG → Value → α → World → Prop)
    (hI0 : I ⟨w.heap.size, mb, wb⟩ (.slice none 0 0) (w.alloc (.cells #[.pointer (some ⟨mb, 0, none⟩), .slice none 0 0, .int .i64 0, .bool false, .bool true, .int .i64 0, .int .i64 0, .bool false, .bool false] 267)))
    (hIst : ∀ sl sl' s w1 w2, Fr w1 ⟨w.heap.size, mb, wb⟩ sl s → I ⟨w.heap.size, mb, wb⟩ sl w1 → Ev ⟨w.heap.size, mb, wb⟩ sl sl' w1 w2 → I ⟨w.heap.size, mb, wb⟩ sl' w2)
    (hBst : ∀ sl sl' s x w1 w2, Fr w1 ⟨w.heap.size, mb, wb⟩ sl s → B ⟨w.heap.size, mb, wb⟩ sl x w1 → Ev ⟨w.heap.size, mb, wb⟩ sl sl' w1 w2 → B ⟨w.heap.size, mb, wb⟩ sl' x w2)
    (hbody : ∀ w1 sl s x s1, Fr w1 ⟨w.heap.size, mb, wb⟩ sl s → I ⟨w.heap.size, mb, wb⟩ sl w1 → w.heap.size < w1.heap.size → exec p s = some (x, s1) → Calls Tryz.prog nb #[recv, .pointer (some ⟨w.heap.size, 0, none⟩)] w1 fun e w2 =>
      e = .returned (.tuple #[]) ∧ ∃ sl2, Fr w2 ⟨w.heap.size, mb, wb⟩ sl2 s1 ∧ I ⟨w.heap.size, mb, wb⟩ sl2 w2 ∧ B ⟨w.heap.size, mb, wb⟩ sl2 x w2 ∧ EvS S ⟨w.heap.size, mb, wb⟩ sl sl2 w1 w2)
    (hrun : runs p most 0 (FS.new m) none = some (ro, sE)) :
    Calls Tryz.prog 83 #[.pointer (some ⟨mb, 0, none⟩), bound nb recv, .int .i64 most] w (Ran ro sE S B mb wb w) := by
  have hbn : ∀ w : World, (binOp .eql 53 (bound nb recv) .nilFunc).run Tryz.prog w = .ok (.bool false) w := fun w => run_eql_func_nil w _ _ _ _ _ _ _ Tryz.underlying53
  have hn := Fr.new w mb wb m hm
  have start : Round p most ro sE S I B (w.alloc (.cells #[.pointer (some ⟨mb, 0, none⟩), .slice none 0 0, .int .i64 0, .bool false, .bool true, .int .i64 0, .int .i64 0, .bool false, .bool false] 267)) ⟨w.heap.size, mb, wb⟩ 0 (w.alloc (.cells #[.pointer (some ⟨mb, 0, none⟩), .slice none 0 0, .int .i64 0, .bool false, .bool true, .int .i64 0, .int .i64 0, .bool false, .bool false] 267)) :=
    ⟨_, _, none, hn, hI0, (fun x h => by cases h), (Ev.refl _ _ _).toS S, by simp [FS.new], Nat.zero_le _, hrun⟩
  have Start := Lib.hid start
  have Hfn := Lib.hid hfn
  have Hbody := Lib.hid hbody
  have HIst := Lib.hid hIst
  have HBst := Lib.hid hBst
  clear start hfn hbody hIst hBst hrun hn hI0 hm
  go_enter Tryz.func83, Tryz.ntmps83
  go_wp2_with (go_at_call 156; refine (fnew _ mb).mono ?_; rintro e w1 ⟨rfl, rfl⟩)
  go_loopw [8] (fun i wr => ∃ j : Nat, i = .int .i64 j ∧ Round p most ro sE S I B (w.alloc (.cells #[.pointer (some ⟨mb, 0, none⟩), .slice none 0 0, .int .i64 0, .bool false, .bool true, .int .i64 0, .int .i64 0, .bool false, .bool false] 267)) ⟨w.heap.size, mb, wb⟩ j wr) (fun i _ => most - (intOf i).toNat)
  case atStart => exact ⟨0, rfl, Start.out⟩
  case round =>
    obtain ⟨j, rfl, hR⟩ := hrel
    obtain ⟨sl, s, r, hF, hI, hB, hE, hl, hj, hrn⟩ := hR
    have fin : ∀ wr', r = ro → s = sE → wr = wr' → Ran ro sE S B mb wb w (.returned (.bool s.over)) wr' := by
      intro wr' e1 e2 e3
      subst e1; subst e2; subst e3
      refine ⟨rfl, sl, hF, hB, hE.os, hE.tape, hE.output, Nat.le_trans (by simp) hE.size, fun k hk h1 h2 => ?_⟩
      rw [hE.block k (by simp; omega) (by show k ≠ w.heap.size; omega) h1 (by simp [Value.ownBlock]) h2]
      exact Below.heap_alloc _ _ _ hk
    have Fin := Lib.hid fin
    have HF := Lib.hid hF
    have HI := Lib.hid hI
    have HB := Lib.hid hB
    have HE := Lib.hid hE
    have Hrn := Lib.hid hrn
    clear fin hF hI hB hE hrn
    by_cases hlt : j < most
    · have hd : decide (j < most) = true := by simpa using hlt
      obtain ⟨k, hk⟩ : ∃ k, most - j = k + 1 := ⟨most - j - 1, by omega⟩
      cases ho : s.over with
      | true =>
        have Ho := Lib.hid ho
        have H1 : Hid (r = ro ∧ s = sE) := by
          have h := Hrn.out
          rw [hk] at h
          simp only [runs, ho, if_true, Option.some.injEq, Prod.mk.injEq] at h
          exact h
        rw [ho] at Fin
        have hdn : ∀ w1 : World, wr = w1 → Calls Tryz.prog 157 #[.pointer (some ⟨w.heap.size, 0, none⟩)] w1 fun e w' => e = .returned (.bool true) ∧ w1 = w' := by
          intro w1 e; subst e
          have h := fdone wr _ sl s HF.out
          rw [Ho.out] at h
          exact h
        have Hdn := Lib.hid hdn
        clear hdn ho hk
        go_wp2_with (go_at_call 157; refine (Hdn.out _ rfl).mono ?_; rintro e w1 ⟨rfl, rfl⟩)
        go_ret
        exact Fin.out _ H1.out.1 H1.out.2 rfl
      | false =>
        have Ho := Lib.hid ho
        have hx : ∃ x s1, exec p (s.begin_ j) = some (x, s1) ∧ runs p k (j + 1) s1.finish_ (some x) = some (ro, sE) := by
          have h := Hrn.out
          rw [hk] at h
          simp only [runs, ho, Bool.false_eq_true, if_false] at h
          cases hx : exec p (s.begin_ j) with
          | none => rw [hx] at h; cases h
          | some y => rw [hx] at h; exact ⟨y.1, y.2, rfl, h⟩
        obtain ⟨x, s1, hx1, hx2⟩ := hx
        have Hx1 := Lib.hid hx1
        have Hx2 := Lib.hid hx2
        have hdn : Calls Tryz.prog 157 #[.pointer (some ⟨w.heap.size, 0, none⟩)] wr fun e w' => e = .returned (.bool false) ∧ wr = w' := by
          have h := fdone wr _ sl s HF.out
          rw [ho] at h
          exact h
        have Hdn := Lib.hid hdn
        have hst := fstep wr ⟨w.heap.size, mb, wb⟩ sl s HF.out ho (by omega) j nb recv s1 (fun sl2 w2 => I ⟨w.heap.size, mb, wb⟩ sl2 w2 ∧ B ⟨w.heap.size, mb, wb⟩ sl2 x w2 ∧ EvS S ⟨w.heap.size, mb, wb⟩ sl sl2 wr w2 ∧ Fr w2 ⟨w.heap.size, mb, wb⟩ sl2 s1) Hfn.out (by
          intro w1 hF1 hE1
          have hsz : w.heap.size < w1.heap.size := Nat.lt_of_lt_of_le HF.out.lts.1 hE1.size
          refine (Hbody.out w1 sl _ x s1 hF1 (HIst.out _ _ _ _ _ HF.out HI.out hE1) hsz Hx1.out).mono ?_
          rintro e w2 ⟨he, sl2, g1, g2, g3, g4⟩
          exact ⟨he, sl2, g1, g2, g3, (hE1.toS S).trans g4, g1⟩)
        have Hst := Lib.hid hst
        have Hk := Lib.hid hk
        clear hdn hst ho hk hx1 hx2
        go_wp2_with (first | (go_at_call 157; refine Hdn.out.mono ?_; rintro e w1 ⟨rfl, rfl⟩) | (go_at_call 158; refine Hst.out.mono ?_; rintro e w1 ⟨rfl, sl1, w2, sl2, hK, hF2, hE2⟩; have HK := Lib.hid hK; have HF2 := Lib.hid hF2; have HE2 := Lib.hid hE2; clear hK hF2 hE2))
        go_roundw
        case rel =>
          obtain ⟨k1, k2, k3, k4⟩ := HK.out
          have hlg := exec_log p _ _ _ Hx1.out
          refine ⟨j + 1, by go_num, sl2, s1.finish_, some x, HF2.out, HIst.out _ _ _ _ _ k4 k1 HE2.out, ?_, (HE.out.trans k3).trans (HE2.out.toS S), ?_, by omega, ?_⟩
          · intro y hy; cases hy; exact HBst.out _ _ _ _ _ _ k4 k2 HE2.out
          · have e1 : (s.begin_ j).fresh = true := rfl
            have e2 : (s.begin_ j).log = s.log := rfl
            rw [e1, e2] at hlg
            show s1.log.length ≤ j + 1
            simp at hlg
            omega
          · rw [show most - (j + 1) = k by have := Hk.out; omega]; exact Hx2.out
        case measure => simp [intOf]; omega
    · have hd : decide (j < most) = false := by simpa using hlt
      have H1 : Hid (r = ro ∧ s = sE) := by
        have h := Hrn.out
        rw [show most - j = 0 by omega] at h
        simp only [runs, Option.some.injEq, Prod.mk.injEq] at h
        exact h
      have hdn : Calls Tryz.prog 157 #[.pointer (some ⟨w.heap.size, 0, none⟩)] wr fun e w' => e = .returned (.bool s.over) ∧ wr = w' := by
        have h := fdone wr _ sl s HF.out
        exact h
      have Hdn := Lib.hid hdn
      clear hdn
      go_wp2_with (go_at_call 157; refine Hdn.out.mono ?_; rintro e w1 ⟨rfl, rfl⟩)
      go_ret
      exact Fin.out _ H1.out.1 H1.out.2 rfl
end Go.Proofs.YtefbdcmodfbpbaaGreat
