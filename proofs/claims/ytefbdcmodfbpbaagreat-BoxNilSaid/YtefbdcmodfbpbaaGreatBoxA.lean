/-
  The partition of one thread that calls Nop: what its boot holds, the three steps of its op's section, where its program lies.
  A box's small parts: note, returns, the call that a thread has made last, is, Runs.
  A box's op that is a call's is ended: the commit is noted, and the return.
  A box's op that is a call's is ended.
  A step of an op's section in a frame; a box that goes on with it.
  A box within an op: begun, gone on with.
-/
import Derived.Test.YtefbdcmodfbpbaaGreatBoxNew
import Derived.Test.YtefbdcmodfbpbaaGreatKSect
import Derived.Test.YtefbdcmodfbpbaaGreatKNil
import Derived.BigQuiet
set_option linter.unusedVariables false
set_option linter.unusedSimpArgs false
namespace Go.Proofs.YtefbdcmodfbpbaaGreat
open Go.RowKit

def call0 : CallD := { kind := 0, handle := 0, a := 0, b := 0, words := [], timeout := 0 }
def oneP : PartD := { thr := [{ prio := 0, caps := 0, control := false, prog := [call0] }], obj := [] }
theorem oneP_ok : PartOk oneP := by
  refine ⟨?_, by decide, by decide, ?_⟩
  · intro t ht
    simp only [oneP, List.mem_singleton] at ht
    subst ht
    exact ⟨by show (0 : Int) ≤ 0; omega, by show (0 : Int) < _; omega⟩
  · intro t ht
    simp only [oneP, List.mem_singleton] at ht
    subst ht
    refine ⟨by simp, fun c hc => ?_⟩
    simp only [List.mem_singleton] at hc
    subst hc
    simp [CallOk, call0]
theorem oneP_wrong : partWrong oneP = 0 := by decide
theorem oneP_at : BootAt oneP (rdM (bootM oneP)) := bootM_at oneP (by decide) (by decide) (by intro t ht; simp [oneP] at ht; subst ht; simp)
theorem oneP_c0 : rdM (bootM oneP) 3 = 1 := by rw [oneP_at.core0]; decide
theorem oneP_c1 : rdM (bootM oneP) 5 = 0 := by rw [oneP_at.core1]; decide
theorem oneP_l0 : rdM (bootM oneP) 0 = 0 := oneP_at.low 0 (by omega) (by omega) (by omega)
theorem oneP_l1 : rdM (bootM oneP) 1 = 0 := oneP_at.low 1 (by omega) (by omega) (by omega)
theorem oneP_len : (bootM oneP).length = 75 := bootM_length oneP

def fsB (m : Mem) : FS := { log := [(0, 0)], at_ := 1, fresh := false, off := true, now := 0, mark := 0, marked := false, over := false, mem := wrM m 0 1 }
def fsC (m : Mem) : FS := { log := [(0, 0), (0, 1)], at_ := 2, fresh := false, off := true, now := 1, mark := 0, marked := false, over := false, mem := wrM m 0 1 }
def fsD (m : Mem) : FS := { log := [(0, 0), (0, 1), (0, 2)], at_ := 3, fresh := false, off := true, now := 2, mark := 2, marked := true, over := true, mem := wrM (wrM m 0 1) 1 1 }

theorem wrap_1 : wrap64 1 = 1 := wrap64_i64 (i64_small (by omega) (by omega))
theorem w01 : wrap64 (0 + 1) = 1 := wrap_1
theorem sectA (m : Mem) (h0 : rdM m 0 = 0) : ∃ s, exec kSect ((FS.new m).begin_ 0) = some ((), s) ∧ s.finish_ = fsB m := by
  refine ⟨_, rfl, ?_⟩
  simp [FS.finish_, fsB, FS.acc, FS.begin_, FS.new, FS.doMark, Acc.val, Acc.mem, h0, wrap_1]
theorem sectB (m : Mem) (h0 : rdM (wrM m 0 1) 1 = 0) : ∃ s, exec kSect ((fsB m).begin_ 1) = some ((), s) ∧ s.finish_ = fsC m := by
  refine ⟨_, by simp [kSect, kEnter, kServed, kLeave, exec, bind, Prog.bind, pure, ad, ld, st, isOff, markNow, FS.acc, FS.begin_, fsB, Acc.val, Acc.mem, h0, FS.doMark]; rfl, ?_⟩
  simp [FS.finish_, fsC]
theorem sectC (m : Mem) : ∃ s, exec kSect ((fsC m).begin_ 2) = some ((), s) ∧ s.finish_ = fsD m := by
  refine ⟨_, by simp [kSect, kEnter, kServed, kLeave, exec, bind, Prog.bind, pure, ad, ld, st, isOff, markNow, FS.acc, FS.begin_, fsC, Acc.val, Acc.mem, FS.doMark]; rfl, ?_⟩
  simp [FS.finish_, fsD, w01, wrap_1]

/-- Where the program lies. -/
theorem oneP_prog {w : World} {F : Nat → Prop} {sT sO v1 v2 : Value} {W : Int} (h : PlanVal w F (.agg (planArr sT sO v1 v2 W)) oneP) :
    ∃ ab ao c pb po c2 A3 c3, v1 = .slice (some ⟨ab, ao, none⟩) 1 c ∧ F ab ∧ F pb ∧ w.cell? ⟨ab, ao + 3, none⟩ = some (.slice (some ⟨pb, po, none⟩) 1 c2) ∧
      w.cell? ⟨pb, po, none⟩ = some (.int .i64 0) ∧ w.cell? ⟨pb, po + 1, none⟩ = some (.int .i64 0) ∧ w.cell? ⟨pb, po + 2, none⟩ = some (.int .i64 0) ∧ w.cell? ⟨pb, po + 3, none⟩ = some (.int .i64 0) ∧ w.cell? ⟨pb, po + 4, none⟩ = some (.slice A3 0 c3) ∧ w.cell? ⟨pb, po + 5, none⟩ = some (.int .i64 0) := by
  obtain ⟨sT', sO', u1, u2, e, _, _, x1, x2, e2, hT, _⟩ := h
  cases e2
  have hv : v1 = u1 := by
    have := congrArg (fun v => match v with | .agg a => a[12]? | _ => none) e
    simpa [planArr] using this
  subst hv
  obtain ⟨ps, hl, ⟨hr1, A, c, rfl, hr2⟩, hc⟩ := hT
  obtain ⟨u, rfl⟩ : ∃ u, ps = [u] := List.length_eq_one_iff.mp hl
  obtain ⟨ab, ao, rfl, hF, hx⟩ := hr2 (by decide)
  obtain ⟨ws, hwl, ⟨q1, A2, c2, rfl, q2⟩, q3⟩ := hc 0 _ u rfl rfl
  obtain ⟨wv, rfl⟩ : ∃ u, ws = [u] := List.length_eq_one_iff.mp hwl
  obtain ⟨pb, po, rfl, hF2, hy⟩ := q2 (by decide)
  obtain ⟨_, A3, c3, rfl, _⟩ := q3 0 call0 wv rfl rfl
  exact ⟨ab, ao, c, pb, po, c2, A3, c3, rfl, hF, hF2, hx 3 _ rfl, hy 0 _ rfl, hy 1 _ rfl, hy 2 _ rfl, hy 3 _ rfl, hy 4 _ rfl, hy 5 _ rfl⟩
end Go.Proofs.YtefbdcmodfbpbaaGreat
namespace Go.Proofs.YtefbdcmodfbpbaaGreat
open Go.RowKit

/-- What noting an event leaves: a box's history in a row that has grown. -/
def Noted (bb : Nat) (cs : Array Value) (tB : TypeId) (B : Nat) (hv : Value) (m : Nat) (cells : List Value) (w w' : World) : Prop :=
  ∃ gg cap, w'.heap[bb]? = some (.cells (cs.setIfInBounds 21 (.slice (some ⟨gg, 0, none⟩) m cap)) tB (0, 0)) ∧
      w'.ownsRow B 222 13 (.slice (some ⟨gg, 0, none⟩) m cap) m cells ∧ WrS (fun k => k = bb ∨ hv.ownBlock = some k) w w' ∧ (hv.ownBlock = some gg ∨ w.heap.size ≤ gg) ∧ gg ≠ bb
theorem Noted.from {bb : Nat} {cs : Array Value} {tB : TypeId} {B : Nat} {hv : Value} {n : Nat} {cells : List Value} {w w1 w' : World} (h : Noted bb cs tB B hv n cells w1 w') (hb : Below w.heap.size w w1) : Noted bb cs tB B hv n cells w w' := by
  obtain ⟨gg, cap, h1, h2, ⟨a1, a2, a3, a4, a5⟩, h4, h5⟩ := h
  have := hb.size
  exact ⟨gg, cap, h1, h2, ⟨a1.trans hb.os, a2.trans hb.tape, a3.trans hb.output, by omega, fun k hk hs => (a5 k (by omega) hs).trans (hb.block k hk)⟩, h4.imp id (fun h => by omega), h5⟩

set_option maxRecDepth 100000 in
set_option maxHeartbeats 3200000 in
theorem boxNote_any (bb : Nat) (cs : Array Value) (tB : TypeId) (B : Nat) (hv : Value) (n : Nat) (cells : List Value) (kind step core thread : Int) (c : CallD) (wv : Value) (F : Nat → Prop) (hc : c.words.length ≤ 1000) (hn : n ≤ 10000) (w : World)
    (hb : w.heap[bb]? = some (.cells cs tB (0, 0))) (hcs : cs[21]? = some hv) (hrow : w.ownsRow B 222 13 hv n cells) (hne : hv.ownBlock ≠ some bb) (hB : B ≤ w.heap.size) (h1 : IntsAt w F wv c.words) :
    Calls Tryz.prog 164 #[.pointer (some ⟨bb, 0, none⟩), .int .i64 kind, .int .i64 step, .int .i64 core, .int .i64 thread, .agg (callCells c wv).toArray] w fun e w' => e = .returned (.tuple #[]) ∧
      ∃ A1 c1 A2 c2, Noted bb cs tB B hv (n + 1) (cells ++ evCells kind step core thread c (.slice A1 c.words.length c1) 0 0 (.slice A2 0 c2)) w w' := by
  obtain ⟨Av, cv, rfl⟩ := own_form hrow
  have HA := Lib.hid (fun W (h : Below w.heap.size w W) => histAdd_any bb 21 cs tB B Av n cv cells kind step core thread c wv 0 0 (.slice none 0 0) [] F hc (by simp) hn W ((h.block bb (lt_of_block hb)).trans hb) hcs (ownsRow_kept hrow (fun k hk => h.block k (hrow.lt k hk).2)) hne (Nat.le_trans hB h.size) (Reads.kept h1 (fun k hk _ => h.block k hk)) ⟨rfl, none, 0, rfl, fun h => absurd h (by simp)⟩)
  obtain ⟨A3, c3, rfl⟩ := IntsAt.slice h1
  simp only [evCells, List.length_nil] at HA
  simp only [callCells]
  obtain ⟨W0, hW0⟩ : ∃ x, x = w.alloc (.cells #[.int .i64 c.kind, .int .i64 c.handle, .int .i64 c.a, .int .i64 c.b, .slice A3 c.words.length c3, .int .i64 c.timeout] 28) := ⟨_, rfl⟩
  have r0 : ∀ k, W0.cell? ⟨w.heap.size, k, none⟩ = #[.int .i64 c.kind, .int .i64 c.handle, .int .i64 c.a, .int .i64 c.b, .slice A3 c.words.length c3, .int .i64 c.timeout][k]? := fun k => by rw [hW0]; exact row_of (heap_alloc_new w _) k
  have HB0 := Lib.hid (show Below w.heap.size w W0 by rw [hW0]; exact (Below.refl _ _).alloc (Nat.le_refl _) _)
  have HW0 := Lib.hid hW0
  have z0 : w.heap.size < W0.heap.size := by rw [hW0, World.size_alloc]; omega
  have NB : ¬ (w.heap.size = bb ∨ (Value.slice Av n cv).ownBlock = some w.heap.size) := by
    rintro (e | e)
    · have := lt_of_block hb; omega
    · have := (hrow.lt _ e).2; omega
  clear hb hcs hrow hne hB h1 hW0
  go_enter Tryz.func164, Tryz.ntmps164
  go_wp2_with fail
  rw [← HW0.out]
  go_region_held3 (fun w' => ∀ k, w'.cell? ⟨w.heap.size, k, none⟩ = #[.int .i64 c.kind, .int .i64 c.handle, .int .i64 c.a, .int .i64 c.b, .slice A3 c.words.length c3, .int .i64 c.timeout][k]?)
    ((with_reducible first | assumption | exact keepDrC (by assumption)))
    (first | (go_at_call 249; refine (HA.out _ HB0.out.drew).mono ?_; rintro e w2 ⟨rfl, gg, cap, A1, c1, A2, c2, hx⟩; have r2 := fun k => (World.cell?_of_block (a := ⟨w.heap.size, k, none⟩) (hx.2.2.1.block w.heap.size z0 NB)).trans (r0 k); have HX := Lib.hid hx; clear hx))
  all_goals
    first | go_end0 | ((try simp only [Exit.inBlock, Exit.then]); refine bodyPost_ret (results_none rfl _ _ _) rfl ?_)
    exact ⟨rfl, A1, c1, A2, c2, Noted.from ⟨gg, cap, HX.out⟩ HB0.out.drew⟩

def outArr (code count : Int) (ws : Value) (blk spn : Bool) (tk : Int) (mv : Bool) (rn : Int) (an : Bool) : Array Value := #[.int .i64 code, .int .i64 count, ws, .bool blk, .bool spn, .int .i64 tk, .bool mv, .int .i64 rn, .bool an]

set_option maxRecDepth 100000 in
set_option maxHeartbeats 3200000 in
theorem returns_any (bb : Nat) (cs : Array Value) (tB : TypeId) (B : Nat) (hv : Value) (n : Nat) (cells : List Value) (step core thread : Int) (code count : Int) (ws : Value) (xs : List Int) (blk spn : Bool) (tk : Int) (mv : Bool) (rn : Int) (an : Bool) (F : Nat → Prop) (hc : xs.length ≤ 1000) (hn : n ≤ 10000) (w : World)
    (hb : w.heap[bb]? = some (.cells cs tB (0, 0))) (hcs : cs[21]? = some hv) (hrow : w.ownsRow B 222 13 hv n cells) (hne : hv.ownBlock ≠ some bb) (hB : B ≤ w.heap.size) (h1 : IntsAt w F ws xs) :
    Calls Tryz.prog 243 #[.pointer (some ⟨bb, 0, none⟩), .int .i64 step, .int .i64 core, .int .i64 thread, .agg (outArr code count ws blk spn tk mv rn an)] w fun e w' => e = .returned (.tuple #[]) ∧
      ∃ A1 c1 A2 c2, Noted bb cs tB B hv (n + 1) (cells ++ evCells 2 step core thread call0 (.slice A1 0 c1) code count (.slice A2 xs.length c2)) w w' := by
  obtain ⟨Av, cv, rfl⟩ := own_form hrow
  have HA := Lib.hid (fun W (h : Below w.heap.size w W) => histAdd_any bb 21 cs tB B Av n cv cells 2 step core thread call0 (.slice none 0 0) code count ws xs F (by simp [call0]) hc hn W ((h.block bb (lt_of_block hb)).trans hb) hcs (ownsRow_kept hrow (fun k hk => h.block k (hrow.lt k hk).2)) hne (Nat.le_trans hB h.size) ⟨rfl, none, 0, rfl, fun h => absurd h (by simp [call0])⟩ (Reads.kept h1 (fun k hk _ => h.block k hk)))
  obtain ⟨A3, c3, rfl⟩ := IntsAt.slice h1
  simp only [evCells, call0, List.length_nil] at HA
  simp only [outArr]
  obtain ⟨W0, hW0⟩ : ∃ x, x = w.alloc (.cells #[.int .i64 code, .int .i64 count, .slice A3 xs.length c3, .bool blk, .bool spn, .int .i64 tk, .bool mv, .int .i64 rn, .bool an] 50) := ⟨_, rfl⟩
  have r0 : ∀ k, W0.cell? ⟨w.heap.size, k, none⟩ = #[.int .i64 code, .int .i64 count, .slice A3 xs.length c3, .bool blk, .bool spn, .int .i64 tk, .bool mv, .int .i64 rn, .bool an][k]? := fun k => by rw [hW0]; exact row_of (heap_alloc_new w _) k
  have HB0 := Lib.hid (show Below w.heap.size w W0 by rw [hW0]; exact (Below.refl _ _).alloc (Nat.le_refl _) _)
  have HW0 := Lib.hid hW0
  have z0 : w.heap.size < W0.heap.size := by rw [hW0, World.size_alloc]; omega
  have NB : ¬ (w.heap.size = bb ∨ (Value.slice Av n cv).ownBlock = some w.heap.size) := by
    rintro (e | e)
    · have := lt_of_block hb; omega
    · have := (hrow.lt _ e).2; omega
  clear hb hcs hrow hne hB h1 hW0
  go_enter Tryz.func243, Tryz.ntmps243
  go_wp2_with fail
  rw [← HW0.out]
  go_region_held3 (fun w' => ∀ k, w'.cell? ⟨w.heap.size, k, none⟩ = #[.int .i64 code, .int .i64 count, .slice A3 xs.length c3, .bool blk, .bool spn, .int .i64 tk, .bool mv, .int .i64 rn, .bool an][k]?)
    ((with_reducible first | assumption | exact keepDrC (by assumption)))
    (first | (go_at_call 249; refine (HA.out _ HB0.out.drew).mono ?_; rintro e w2 ⟨rfl, gg, cap, A1, c1, A2, c2, hx⟩; have r2 := fun k => (World.cell?_of_block (a := ⟨w.heap.size, k, none⟩) (hx.2.2.1.block w.heap.size z0 NB)).trans (r0 k); have HX := Lib.hid hx; clear hx))
  all_goals
    first | go_end0 | ((try simp only [Exit.inBlock, Exit.then]); refine bodyPost_ret (results_none rfl _ _ _) rfl ?_)
    exact ⟨rfl, A1, c1, A2, c2, Noted.from ⟨gg, cap, HX.out⟩ HB0.out.drew⟩

set_option maxHeartbeats 400000 in
theorem is_any (bb : Nat) (core : Int) (h : core = 0) (w : World) :
    Calls Tryz.prog 84 #[.pointer (some ⟨bb, 0, none⟩), .int .i64 core] w fun e w' => e = .returned (.bool true) ∧ w' = w := by
  subst h
  go_enter Tryz.func84, Tryz.ntmps84
  go_wp2
  go_ret
  exact ⟨rfl, rfl⟩

set_option maxHeartbeats 400000 in
theorem runs_any (bb : Nat) (cs : Array Value) (tB : TypeId) (v : Int) (hv : ¬ v = -1) (w : World) (hb : w.heap[bb]? = some (.cells cs tB (0, 0))) (hc : cs[15]? = some (.int .i64 v)) :
    Calls Tryz.prog 34 #[.pointer (some ⟨bb, 0, none⟩), .int .i64 0] w fun e w' => e = .returned (.tuple #[.int .i64 v, .bool true]) ∧ w' = w := by
  have h15 := (cell_of_block hb 15).trans hc
  clear hb hc
  go_enter Tryz.func34, Tryz.ntmps34
  go_wp2_with (go_at_call 84; refine (is_any bb 0 rfl _).mono ?_; rintro e w' ⟨rfl, rfl⟩)
  go_ret2
  exact ⟨rfl, rfl⟩

end Go.Proofs.YtefbdcmodfbpbaaGreat
namespace Go.Proofs.YtefbdcmodfbpbaaGreat
open Go.RowKit

set_option maxHeartbeats 800000 in
theorem marked_any (w : World) (g : FG) (sl : Value) (s : FS) (h : Fr w g sl s) :
    Calls Tryz.prog 241 #[.pointer (some ⟨g.fb, 0, none⟩)] w fun e w' => e = .returned (.tuple #[.int .i64 s.mark, .bool s.marked]) ∧ ∃ n, w.drewN n = w' := by
  have c6 := h.cells.c6
  have c7 := h.cells.c7
  clear h
  go_enter Tryz.func241, Tryz.ntmps241
  go_wp2_with fail
  go_quiet (fail)
  go_wp2
  go_ret2
  exact ⟨rfl, _, rfl⟩

/-- Some blocks of a box, none of which is written when an event is noted. -/
theorem Noted.keep {bb : Nat} {cs : Array Value} {tB : TypeId} {B : Nat} {hv : Value} {m : Nat} {cells : List Value} {w w' : World} (h : Noted bb cs tB B hv m cells w w') {k : Nat} (hk : k < w.heap.size) (h1 : k ≠ bb) (h2 : hv.ownBlock ≠ some k) : w'.heap[k]? = w.heap[k]? := by
  obtain ⟨gg, cap, _, _, h3, _⟩ := h
  exact h3.block k hk (fun e => e.elim h1 h2)
theorem Noted.size {bb : Nat} {cs : Array Value} {tB : TypeId} {B : Nat} {hv : Value} {m : Nat} {cells : List Value} {w w' : World} (h : Noted bb cs tB B hv m cells w w') : w.heap.size ≤ w'.heap.size := by
  obtain ⟨gg, cap, _, _, h3, _⟩ := h
  exact h3.size
/-- Noted, and noted once more. -/
theorem Noted.trans {bb : Nat} {cs : Array Value} {tB : TypeId} {B : Nat} {hv hv1 : Value} {m m' : Nat} {cells' : List Value} {w w1 w' : World} {gg cap : Nat} (hv1e : hv1 = .slice (some ⟨gg, 0, none⟩) m cap) (h3 : WrS (fun k => k = bb ∨ hv.ownBlock = some k) w w1) (h4 : hv.ownBlock = some gg ∨ w.heap.size ≤ gg) (hB : B ≤ w.heap.size)
    (k : Noted bb (cs.setIfInBounds 21 hv1) tB B hv1 m' cells' w1 w') : Noted bb cs tB B hv m' cells' w w' := by
  obtain ⟨g2, c2, a1, a2, ⟨b1, b2, b3, b4, b5⟩, a4, a5⟩ := k
  have hs := h3.size
  refine ⟨g2, c2, ?_, a2, ⟨b1.trans h3.os, b2.trans h3.tape, b3.trans h3.output, by omega, fun k hk hn => ?_⟩, ?_, a5⟩
  · rw [a1]; simp
  · refine (b5 k (by omega) (fun e => e.elim (fun e => hn (.inl e)) (fun e => ?_))).trans (h3.block k hk hn)
    subst hv1e
    have e' : gg = k := by simpa [Value.ownBlock] using e
    subst e'
    rcases h4 with h | h
    · exact hn (.inr h)
    · omega
  · rcases a4 with h | h
    · subst hv1e
      have e' : gg = g2 := by simpa [Value.ownBlock] using h
      subst e'
      exact h4
    · exact .inr (by omega)

set_option maxRecDepth 100000 in
set_option maxHeartbeats 6400000 in
theorem called_any (bb tb ob sb d : Nat) (cs : Array Value) (tB : TypeId) (B : Nat) (hv : Value) (n : Nat) (cells : List Value) (now : Int) (ws : Value) (F : Nat → Prop) (hn : n ≤ 1000) (w : World) (g : FG) (sl : Value) (s : FS)
    (hb : w.heap[bb]? = some (.cells cs tB (0, 0))) (hcs : cs[21]? = some hv) (h19 : cs[19]? = some (.slice (some ⟨sb, 0, none⟩) 1 d)) (hrow : w.ownsRow B 222 13 hv n cells) (hne : hv.ownBlock ≠ some bb) (hB : B ≤ w.heap.size) (h1 : IntsAt w F ws [])
    (hF : Fr w g sl s) (htb : w.heap[tb]? = some (.cells #[.int .i64 0, .pointer (some ⟨ob, 0, none⟩), .pointer (some ⟨g.fb, 0, none⟩), .int .i64 0] 213 (0, 0))) (hap : tb ≠ bb ∧ hv.ownBlock ≠ some tb) :
    Calls Tryz.prog 242 #[.pointer (some ⟨bb, 0, none⟩), .pointer (some ⟨tb, 0, none⟩), .int .i64 0, .int .i64 now, .agg (outArr 0 0 ws false false 0 false 0 false)] w fun e w' => e = .returned (.tuple #[]) ∧
      ∃ A1 c1 A2 c2 A3 c3 A4 c4, Noted bb cs tB B hv (n + 2) ((cells ++ evCells 1 s.mark 0 0 call0 (.slice A1 0 c1) 0 0 (.slice A2 0 c2)) ++ evCells 2 now 0 0 call0 (.slice A3 0 c3) 0 0 (.slice A4 0 c4)) w w' := by
  obtain ⟨Av, cv, rfl⟩ := own_form hrow
  have lb := lt_of_block hb
  have lt := lt_of_block htb
  have HM := Lib.hid (fun W (h : Below w.heap.size w W) => marked_any W g sl s (hF.kept (h.block _ hF.lts.1) (h.block _ hF.lts.2.1) (h.block _ hF.lts.2.2.1) (fun k hk => h.block k (hF.lts.2.2.2 k hk))))
  have HN := Lib.hid (fun W (h : Below w.heap.size w W) => boxNote_any bb cs tB B (.slice Av n cv) n cells 1 s.mark 0 0 call0 (.slice none 0 0) (fun _ => True) (by simp [call0]) (by omega) W ((h.block bb lb).trans hb) hcs (ownsRow_kept hrow (fun k hk => h.block k (hrow.lt k hk).2)) hne (Nat.le_trans hB h.size) ⟨rfl, none, 0, rfl, fun h => absurd h (by simp [call0])⟩)
  obtain ⟨A0, c0, rfl⟩ := IntsAt.slice h1
  have HIW := Lib.hid h1
  simp only [callCells, call0, List.length_nil] at HN
  simp only [outArr]
  obtain ⟨W0, hW0⟩ : ∃ x, x = w.alloc (.cells #[.int .i64 0, .int .i64 0, .slice A0 0 c0, .bool false, .bool false, .int .i64 0, .bool false, .int .i64 0, .bool false] 50) := ⟨_, rfl⟩
  have HB0 := Lib.hid (show Below w.heap.size w W0 by rw [hW0]; exact (Below.refl _ _).alloc (Nat.le_refl _) _)
  have ho : W0.heap[w.heap.size]? = some (.cells #[.int .i64 0, .int .i64 0, .slice A0 0 c0, .bool false, .bool false, .int .i64 0, .bool false, .int .i64 0, .bool false] 50 (0, 0)) := by rw [hW0]; exact heap_alloc_new w _
  have HT0 := Lib.hid ((HB0.out.block tb lt).trans htb)
  have t0 := row_of HT0.out
  have o0 := row_of ho
  have HO0 := Lib.hid ho
  have HW0 := Lib.hid hW0
  have HH := Lib.hid (⟨hb, hcs, h19, hrow, hne, hB, hap⟩ : _ ∧ _ ∧ _ ∧ _ ∧ _ ∧ _ ∧ _)
  have tr := row_of htb
  clear hb hcs h19 hrow hne hB h1 hW0 htb hap ho hF
  go_enter Tryz.func242, Tryz.ntmps242
  go_wp2_with fail
  rw [← HW0.out]
  go_at_call 241
  refine (HM.out _ HB0.out).mono ?_
  rintro e w1 ⟨rfl, n1, rfl⟩
  obtain ⟨W1, hW1⟩ : ∃ x, x = W0.drewN n1 := ⟨_, rfl⟩
  have HB1 := Lib.hid (show Below w.heap.size w W1 by rw [hW1]; exact HB0.out.trans ⟨rfl, rfl, rfl, Nat.le_refl _, fun _ _ => rfl⟩)
  have HT1 := Lib.hid ((show W1.heap[tb]? = W0.heap[tb]? by subst hW1; rfl).trans HT0.out)
  have t1 := row_of HT1.out
  have HO1 := Lib.hid ((show W1.heap[w.heap.size]? = W0.heap[w.heap.size]? by subst hW1; rfl).trans HO0.out)
  have o1 := row_of HO1.out
  rw [← hW1]
  clear tr t0 o0 hW1 HM HO0 HT0
  go_wp2_with fail
  go_at_call 164
  refine (HN.out _ HB1.out).mono ?_
  rintro e w2 ⟨rfl, A1, c1, A2, c2, hx⟩
  have hsz1 := HB1.out.size
  have z1 := lt_of_block HT1.out
  have y1 := lt_of_block HO1.out
  have nO : ¬ w.heap.size = bb ∧ (Value.slice Av n cv).ownBlock ≠ some w.heap.size := ⟨by omega, fun e => by have := (HH.out.2.2.2.1.lt _ e).2; omega⟩
  have HT2 := Lib.hid ((hx.keep z1 HH.out.2.2.2.2.2.2.1 HH.out.2.2.2.2.2.2.2).trans HT1.out)
  have HO2 := Lib.hid ((hx.keep y1 nO.1 nO.2).trans HO1.out)
  have t2 := row_of HT2.out
  have o2 := row_of HO2.out
  obtain ⟨gg, cap, hb2, hr2, hw2, hg2, hn2⟩ := hx
  have h19' := ((cell_of_block hb2 19).trans (by rw [Array.getElem?_setIfInBounds_ne (by decide)])).trans HH.out.2.2.1
  have HX := Lib.hid (⟨hb2, hr2, hw2, hg2, hn2⟩ : _ ∧ _ ∧ _ ∧ _ ∧ _)
  have z2 := lt_of_block HT2.out
  have y2 := lt_of_block HO2.out
  have hs21 : 21 < cs.size := (Array.getElem?_eq_some_iff.mp HH.out.2.1).1
  have hB2 : B ≤ w2.heap.size := by have := HH.out.2.2.2.2.2.1; have := hw2.size; omega
  have HR := Lib.hid (fun W (h : Below w2.heap.size w2 W) => returns_any bb (cs.setIfInBounds 21 (.slice (some ⟨gg, 0, none⟩) (n + 1) cap)) tB B (.slice (some ⟨gg, 0, none⟩) (n + 1) cap) (n + 1) _ now 0 0 0 0 (.slice A0 0 c0) [] false false 0 false 0 false (fun _ => True) (by simp) (by omega) W ((h.block bb (lt_of_block hb2)).trans hb2) (by simp [hs21]) (ownsRow_kept hr2 (fun k hk => h.block k (hr2.lt k hk).2)) (by simpa [Value.ownBlock] using hn2) (Nat.le_trans hB2 h.size) ⟨rfl, A0, c0, rfl, fun h => absurd h (by simp)⟩)
  simp only [outArr, List.length_nil] at HR
  have nT : tb ≠ bb ∧ (Value.slice (some ⟨gg, 0, none⟩) (n + 1) cap).ownBlock ≠ some tb := by
    refine ⟨HH.out.2.2.2.2.2.2.1, fun e => ?_⟩
    have e' : gg = tb := by simpa [Value.ownBlock] using e
    rcases hg2 with h | h
    · exact HH.out.2.2.2.2.2.2.2 (h.trans (by rw [e']))
    · omega
  have nO2 : w.heap.size ≠ bb ∧ (Value.slice (some ⟨gg, 0, none⟩) (n + 1) cap).ownBlock ≠ some w.heap.size := by
    refine ⟨nO.1, fun e => ?_⟩
    have e' : gg = w.heap.size := by simpa [Value.ownBlock] using e
    rcases hg2 with h | h
    · exact nO.2 (h.trans (by rw [e']))
    · omega
  have NT := Lib.hid nT
  have NO2 := Lib.hid nO2
  clear hb2 hr2 hw2 hg2 hn2 t1 o1 HO1 HT1 z1 y1 nO HN nT nO2
  go_wp2_with fail
  go_quiet (fail)
  obtain ⟨W3, hW3⟩ : ∃ x, x = w2.drewN nq := ⟨_, rfl⟩
  have HB3 := Lib.hid (show Below w2.heap.size w2 W3 by rw [hW3]; exact ⟨rfl, rfl, rfl, Nat.le_refl _, fun _ _ => rfl⟩)
  have t3 := row_of ((show W3.heap[tb]? = w2.heap[tb]? by subst hW3; rfl).trans HT2.out)
  have o3 := row_of ((show W3.heap[w.heap.size]? = w2.heap[w.heap.size]? by subst hW3; rfl).trans HO2.out)
  rw [← hW3]
  have z3 : tb < W3.heap.size := Nat.lt_of_lt_of_le z2 HB3.out.size
  have y3 : w.heap.size < W3.heap.size := Nat.lt_of_lt_of_le y2 HB3.out.size
  clear hW3 t2 o2 z2 y2
  go_wp2_with fail
  go_region_held3 (fun w' => (∀ k, w'.cell? ⟨tb, k, none⟩ = #[.int .i64 0, .pointer (some ⟨ob, 0, none⟩), .pointer (some ⟨g.fb, 0, none⟩), .int .i64 0][k]?) ∧ (∀ k, w'.cell? ⟨w.heap.size, k, none⟩ = #[.int .i64 0, .int .i64 0, .slice A0 0 c0, .bool false, .bool false, .int .i64 0, .bool false, .int .i64 0, .bool false][k]?))
    (((try dsimp only); (try go_split_ands); (with_reducible repeat' apply And.intro); all_goals (with_reducible first | assumption | exact keepDrC (by assumption))))
    (first | ((try go_split_ands); go_at_call 243; refine (HR.out _ HB3.out.drew).mono ?_; rintro e w5 ⟨rfl, A3, c3, A4, c4, hx⟩; have t5 := fun k => (World.cell?_of_block (a := ⟨tb, k, none⟩) (hx.keep z3 NT.out.1 NT.out.2)).trans (t3 k); have o5 := fun k => (World.cell?_of_block (a := ⟨w.heap.size, k, none⟩) (hx.keep y3 NO2.out.1 NO2.out.2)).trans (o3 k); have HY := Lib.hid hx; clear hx))
  all_goals
    first | go_end0 | ((try simp only [Exit.inBlock, Exit.then]); refine bodyPost_ret (results_none rfl _ _ _) rfl ?_)
    refine ⟨rfl, A1, c1, A2, c2, A3, c3, A4, c4, ?_⟩
    have hw2 := HX.out.2.2.1
    have hb1 := HB1.out
    have hsz := hb1.size
    have hHB : B ≤ w.heap.size := HH.out.2.2.2.2.2.1
    have hg2 := HX.out.2.2.2.1
    refine Noted.trans (w1 := w2) rfl ⟨hw2.os.trans hb1.os, hw2.tape.trans hb1.tape, hw2.output.trans hb1.output, by have := hw2.size; omega, fun k hk hn => (hw2.block k (by omega) hn).trans (hb1.block k hk)⟩ (hg2.imp id (fun h => by omega)) hHB (HY.out.from HB3.out.drew)
end Go.Proofs.YtefbdcmodfbpbaaGreat
namespace Go.Proofs.YtefbdcmodfbpbaaGreat
open Go.RowKit

theorem Noted.sameBut {bb : Nat} {cs : Array Value} {tB : TypeId} {B : Nat} {hv : Value} {m : Nat} {cells : List Value} {w w1 w' : World} (h : Noted bb cs tB B hv m cells w1 w') (hs : SameBut bb w w1) : Noted bb cs tB B hv m cells w w' := by
  obtain ⟨gg, cap, h1, h2, ⟨a1, a2, a3, a4, a5⟩, h4, h5⟩ := h
  have hz := hs.size
  exact ⟨gg, cap, h1, h2, ⟨a1.trans hs.os, a2.trans hs.tape, a3.trans hs.output, by omega, fun k hk hn => (a5 k (by omega) hn).trans (hs.block k (fun e => hn (.inl e)))⟩, h4.imp id (fun h => by omega), h5⟩

set_option maxRecDepth 100000 in
set_option maxHeartbeats 6400000 in
theorem boxEnd_any (bb tb ob sb d : Nat) (cs : Array Value) (tB : TypeId) (B : Nat) (hv : Value) (n : Nat) (cells : List Value) (now : Int) (F : Nat → Prop) (hn : n ≤ 1000) (w : World) (g : FG) (sl : Value) (s : FS)
    (sT sO v1 v2 : Value) (W core t kind handle a b : Int) (wv : Value) (timeout o : Int) (does body : Value) (stir : Bool)
    (hb : w.heap[bb]? = some (.cells cs tB (0, 0))) (hcs : cs[21]? = some hv) (h17 : cs[17]? = some (.pointer (some ⟨tb, 0, none⟩))) (h19 : cs[19]? = some (.slice (some ⟨sb, 0, none⟩) 1 d)) (hrow : w.ownsRow B 222 13 hv n cells) (hne : hv.ownBlock ≠ some bb) (hB : B ≤ w.heap.size)
    (ho : w.heap[ob]? = some (.cells (opArr sT sO v1 v2 W core t kind handle a b wv timeout o does body 0 0 nilS false false 0 false 0 false stir) 133 (0, 0)))
    (hF : Fr w g sl s) (htb : w.heap[tb]? = some (.cells #[.int .i64 0, .pointer (some ⟨ob, 0, none⟩), .pointer (some ⟨g.fb, 0, none⟩), .int .i64 0] 213 (0, 0))) (hap : tb ≠ bb ∧ hv.ownBlock ≠ some tb) (hob : ob ≠ bb) (hfb : bb ≠ g.fb ∧ bb ≠ g.mb ∧ bb ≠ g.wb ∧ sl.ownBlock ≠ some bb) :
    Calls Tryz.prog 159 #[.pointer (some ⟨bb, 0, none⟩), .int .i64 0, .int .i64 now] w fun e w' => e = .returned (.tuple #[]) ∧
      ∃ A1 c1 A2 c2 A3 c3 A4 c4, Noted bb (cs.setIfInBounds 17 (.pointer none)) tB B hv (n + 2) ((cells ++ evCells 1 s.mark 0 0 call0 (.slice A1 0 c1) 0 0 (.slice A2 0 c2)) ++ evCells 2 now 0 0 call0 (.slice A3 0 c3) 0 0 (.slice A4 0 c4)) w w' := by
  have lb := lt_of_block hb
  have lt := lt_of_block htb
  have b0 := (cell_of_block hb 17).trans h17
  have bf := free_of_block hb 17
  obtain ⟨W1, hW1⟩ : ∃ x, x = w.setCell ⟨bb, 17, none⟩ (.pointer none) := ⟨_, rfl⟩
  have hs1 : SameBut bb w W1 := by rw [hW1]; exact (SameBut.refl bb w).set _ _
  have hz1 : W1.heap.size = w.heap.size := hs1.size
  have hb1 : W1.heap[bb]? = some (.cells (cs.setIfInBounds 17 (.pointer none)) tB (0, 0)) := by rw [hW1]; exact block_setCell hb 17 _
  have ht1 := (hs1.block tb hap.1).trans htb
  have ho1 := (hs1.block ob hob).trans ho
  have hF1 : Fr W1 g sl s := hF.kept (hs1.block _ hfb.1.symm) (hs1.block _ hfb.2.1.symm) (hs1.block _ hfb.2.2.1.symm) (fun k hk => hs1.block k (fun e => hfb.2.2.2 (by rw [hk, e])))
  have hr1 := ownsRow_kept hrow (w' := W1) (fun k hk => hs1.block k (fun e => hne (by rw [hk, e])))
  have hc21 : (cs.setIfInBounds 17 (.pointer none))[21]? = some hv := by rw [Array.getElem?_setIfInBounds_ne (by decide)]; exact hcs
  have hc19 : (cs.setIfInBounds 17 (.pointer none))[19]? = some (.slice (some ⟨sb, 0, none⟩) 1 d) := by rw [Array.getElem?_setIfInBounds_ne (by decide)]; exact h19
  have hB1 : B ≤ W1.heap.size := by omega
  have lF := hF1.lts
  have lt1 := lt_of_block ht1
  have HM := Lib.hid (fun W (h : Below W1.heap.size W1 W) => marked_any W g sl s (hF1.kept (h.block _ lF.1) (h.block _ lF.2.1) (h.block _ lF.2.2.1) (fun k hk => h.block k (lF.2.2.2 k hk))))
  have HO := Lib.hid (outcome_any ob sT sO v1 v2 W core t kind handle a b wv timeout o does body 0 0 nilS false false 0 false 0 false stir [] (fun _ => True) (by simp) W1 ho1 ⟨rfl, none, 0, rfl, fun h => absurd h (by simp)⟩)
  have HC := Lib.hid (fun W (h : Below W1.heap.size W1 W) ws (h1 : IntsAt W (fun _ => True) ws []) => called_any bb tb ob sb d _ tB B hv n cells now ws (fun _ => True) hn W g sl s ((h.block bb (lt_of_block hb1)).trans hb1) hc21 hc19 (ownsRow_kept hr1 (fun k hk => h.block k (hr1.lt k hk).2)) hne (Nat.le_trans hB1 h.size) h1 (hF1.kept (h.block _ lF.1) (h.block _ lF.2.1) (h.block _ lF.2.2.1) (fun k hk => h.block k (lF.2.2.2 k hk))) ((h.block tb lt1).trans ht1) hap)
  have HT1 := Lib.hid ht1
  have HS1 := Lib.hid hs1
  have HW1 := Lib.hid hW1
  have t0 := row_of htb
  have hz := lt_of_block htb
  have ntb : tb ≠ bb := hap.1
  simp only [outArr] at HC
  clear hW1
  have hr1 : ∀ k, hv.ownBlock = some k → k < W1.heap.size := fun k hk => (hr1.lt k hk).2
  clear hb hcs h17 h19 hrow hne hB ho hF htb hap hob hfb hs1 hb1 ht1 ho1 hF1 hc21 hc19 lF
  go_enter Tryz.func159, Tryz.ntmps159
  go_wp2_with fail
  rw [← HW1.out]
  go_at_call 23
  refine HO.out.mono ?_
  rintro e w2 ⟨ws2, rfl, hi2, hb2⟩
  obtain ⟨A5, c5, rfl⟩ := IntsAt.slice hi2
  have HB2 := Lib.hid hb2
  have HT2 := Lib.hid ((hb2.block tb lt1).trans HT1.out)
  have t2 := row_of HT2.out
  have z2 := lt_of_block HT2.out
  clear hi2 hb2 t0 HO
  go_wp2_with fail
  go_at_call 241
  refine (HM.out _ (HB2.out.alloc HB2.out.size _)).mono ?_
  rintro e w3 ⟨rfl, n1, rfl⟩
  obtain ⟨W3, hW3⟩ : ∃ x, x = (w2.alloc (.cells #[.int .i64 0, .int .i64 0, .slice A5 0 c5, .bool false, .bool false, .int .i64 0, .bool false, .int .i64 0, .bool false] 50)).drewN n1 := ⟨_, rfl⟩
  have hB3 : Below w2.heap.size w2 W3 := by subst hW3; exact ((Below.refl _ _).alloc (Nat.le_refl _) _).trans ⟨rfl, rfl, rfl, Nat.le_refl _, fun _ _ => rfl⟩
  have HB3 := Lib.hid (below_end HB2.out (Nat.le_refl _) hB3)
  have ho3 : W3.heap[w2.heap.size]? = some (.cells #[.int .i64 0, .int .i64 0, .slice A5 0 c5, .bool false, .bool false, .int .i64 0, .bool false, .int .i64 0, .bool false] 50 (0, 0)) := by subst hW3; exact heap_alloc_new w2 _
  have HT3 := Lib.hid ((hB3.block tb z2).trans HT2.out)
  have t3 := row_of HT3.out
  have o3 := row_of ho3
  have z3 := lt_of_block HT3.out
  have y3 := lt_of_block ho3
  have HO3 := Lib.hid ho3
  rw [← hW3]
  clear hW3 hB3 ho3 t2
  go_wp2_with fail
  go_at_call 242
  refine (HC.out _ HB3.out (.slice A5 0 c5) ⟨rfl, A5, c5, rfl, fun h => absurd h (by simp)⟩).mono ?_
  rintro e w4 ⟨rfl, A1, c1, A2, c2, A3, c3, A4, c4, hx⟩
  have h2s := HB2.out.size
  have HO4 := Lib.hid ((hx.keep y3 (by omega) (fun e => by have := hr1 _ e; omega)).trans HO3.out)
  have o4 := row_of HO4.out
  have HX := Lib.hid hx
  clear hx t3 o3
  go_wp2
  first | go_end0 | ((try simp only [Exit.inBlock, Exit.then]); refine bodyPost_ret (results_none rfl _ _ _) rfl ?_)
  exact ⟨rfl, A1, c1, A2, c2, A3, c3, A4, c4, (HX.out.from HB3.out).sameBut HS1.out⟩
end Go.Proofs.YtefbdcmodfbpbaaGreat
namespace Go.Proofs.YtefbdcmodfbpbaaGreat
open Go.RowKit

theorem apartS {S : Nat → Prop} {g : FG} {sl sl' : Value} {w w' : World} {k : Nat} (h : k ≠ g.fb ∧ k ≠ g.wb ∧ sl.ownBlock ≠ some k) (hE : EvS S g sl sl' w w') (hk : k < w.heap.size) : k ≠ g.fb ∧ k ≠ g.wb ∧ sl'.ownBlock ≠ some k :=
  Apart.evS (F := fun j => j = k) (fun j hj => hj ▸ h) hE (fun j hj => hj ▸ hk) k rfl

set_option maxHeartbeats 400000 in
theorem nothing_any (ob fb : Nat) (w : World) :
    Calls Tryz.prog 155 #[.pointer (some ⟨ob, 0, none⟩), .pointer (some ⟨fb, 0, none⟩)] w fun e w' => e = .returned (.tuple #[]) ∧ w' = w := by
  go_enter Tryz.func155, Tryz.ntmps155
  go_wp2
  first | go_end0 | ((try simp only [Exit.inBlock, Exit.then]); refine bodyPost_ret (results_none rfl _ _ _) rfl ?_)
  exact ⟨rfl, rfl⟩

/-- The op of a call that does nothing. -/
def opNop (ob : Nat) (sT sO v1 v2 : Value) (W core t kind handle a b : Int) (wv : Value) (timeout o : Int) : Array Value :=
  opArr sT sO v1 v2 W core t kind handle a b wv timeout o (bound 155 (.pointer (some ⟨ob, 0, none⟩))) (bound 78 (.pointer (some ⟨ob, 0, none⟩))) 0 0 nilS false false 0 false 0 false false

set_option maxHeartbeats 800000 in
theorem sectStep (ob : Nat) (sT sO v1 v2 : Value) (W core t kind handle a b : Int) (wv : Value) (timeout o : Int) (w : World) (g : FG) (sl : Value) (s : FS) (hF : Fr w g sl s) (ho : s.over = false) (hr : s.log.length + 1 ≤ 1000000) (now : Int) (s1 : FS)
    (hx : exec kSect (s.begin_ now) = some ((), s1)) (h0 : w.heap[ob]? = some (.cells (opNop ob sT sO v1 v2 W core t kind handle a b wv timeout o) 133 (0, 0))) (hap : ob ≠ g.fb ∧ ob ≠ g.wb ∧ sl.ownBlock ≠ some ob) (hm : ob ≠ g.mb) :
    Calls Tryz.prog 158 #[.pointer (some ⟨g.fb, 0, none⟩), .int .i64 now, bound 78 (.pointer (some ⟨ob, 0, none⟩))] w fun e w' => e = .returned (.bool s1.finish_.over) ∧
      ∃ sl', Fr w' g sl' s1.finish_ ∧ EvS (fun j => j = ob) g sl sl' w w' ∧ (ob ≠ g.fb ∧ ob ≠ g.wb ∧ sl'.ownBlock ≠ some ob) ∧ w'.heap[ob]? = some (.cells (opNop ob sT sO v1 v2 W core t kind handle a b wv timeout o) 133 (0, 0)) := by
  refine (fstep w g sl s hF ho hr now 78 _ s1 (fun sl2 w2 => EvS (fun j => j = ob) g sl sl2 w w2 ∧ (ob ≠ g.fb ∧ ob ≠ g.wb ∧ sl2.ownBlock ≠ some ob) ∧ w2.heap[ob]? = some (.cells (opNop ob sT sO v1 v2 W core t kind handle a b wv timeout o) 133 (0, 0))) enters_section (fun w1 hF1 hE1 => ?_)).mono ?_
  · refine (section_any 155 enters_nothing 0 ob sT sO v1 v2 W core t kind handle a b wv timeout o _ 0 0 nilS false false 0 false 0 false false w1 g sl _ hF1 (fun _ => True) (fun _ _ _ => trivial) ?_ ((hE1.keep (lt_of_block h0) hap).trans h0) hap hm s1 hx).mono ?_
    · intro w sl s hF _ hX ha
      refine (nothing_any ob g.fb w).mono ?_
      rintro e w' ⟨rfl, rfl⟩
      exact ⟨rfl, sl, hF, EvS.refl _ _ _ _, ha, hX⟩
    · rintro e w2 ⟨rfl, sl2, hF2, hE2, hA2, hX2⟩
      exact ⟨rfl, sl2, hF2, (hE1.toS _).trans hE2, hA2, hX2⟩
  · rintro e w' ⟨rfl, sl1, w1, sl', ⟨hE1, hA1, hX1⟩, hF', hE'⟩
    have l1 := lt_of_block hX1
    exact ⟨rfl, sl', hF', hE1.trans (hE'.toS _), apartS hA1 (hE'.toS (fun _ => False)) l1, (hE'.keep l1 hA1).trans hX1⟩

set_option maxRecDepth 100000 in
set_option maxHeartbeats 6400000 in
theorem goOn_any (bb tb ob sb d : Nat) (cs : Array Value) (tB : TypeId) (B : Nat) (hv : Value) (n : Nat) (cells : List Value) (now : Int) (hn : n ≤ 1000) (w : World) (g : FG) (sl : Value) (s s1 : FS)
    (sT sO v1 v2 : Value) (W core t kind handle a b : Int) (wv : Value) (timeout o : Int)
    (hb : w.heap[bb]? = some (.cells cs tB (0, 0))) (hcs : cs[21]? = some hv) (h17 : cs[17]? = some (.pointer (some ⟨tb, 0, none⟩))) (h19 : cs[19]? = some (.slice (some ⟨sb, 0, none⟩) 1 d)) (hrow : w.ownsRow B 222 13 hv n cells) (hne : hv.ownBlock ≠ some bb) (hB : B ≤ w.heap.size)
    (ho : w.heap[ob]? = some (.cells (opNop ob sT sO v1 v2 W core t kind handle a b wv timeout o) 133 (0, 0)))
    (hF : Fr w g sl s) (hov : s.over = false) (hr : s.log.length + 1 ≤ 1000000) (hx : exec kSect (s.begin_ now) = some ((), s1))
    (htb : w.heap[tb]? = some (.cells #[.int .i64 0, .pointer (some ⟨ob, 0, none⟩), .pointer (some ⟨g.fb, 0, none⟩), .int .i64 0] 213 (0, 0))) (hap : tb ≠ bb ∧ hv.ownBlock ≠ some tb) (hm : ob ≠ g.mb ∧ bb ≠ g.mb)
    (hA : ∀ k, (k = bb ∨ k = tb ∨ k = ob ∨ hv.ownBlock = some k) → k ≠ g.fb ∧ k ≠ g.wb ∧ sl.ownBlock ≠ some k) (hO : bb ≠ ob ∧ tb ≠ ob ∧ hv.ownBlock ≠ some ob) :
    Calls Tryz.prog 85 #[.pointer (some ⟨bb, 0, none⟩), .int .i64 0, .int .i64 now] w fun e w' => e = .returned (.tuple #[]) ∧
      ∃ sl' w1, Fr w1 g sl' s1.finish_ ∧ EvS (fun j => j = ob) g sl sl' w w1 ∧ (ob ≠ g.fb ∧ ob ≠ g.wb ∧ sl'.ownBlock ≠ some ob) ∧ w1.heap[ob]? = some (.cells (opNop ob sT sO v1 v2 W core t kind handle a b wv timeout o) 133 (0, 0)) ∧
        (s1.finish_.over = false ∧ w' = w1 ∨ s1.finish_.over = true ∧ ∃ A1 c1 A2 c2 A3 c3 A4 c4, Noted bb (cs.setIfInBounds 17 (.pointer none)) tB B hv (n + 2) ((cells ++ evCells 1 s1.finish_.mark 0 0 call0 (.slice A1 0 c1) 0 0 (.slice A2 0 c2)) ++ evCells 2 now 0 0 call0 (.slice A3 0 c3) 0 0 (.slice A4 0 c4)) w1 w') := by
  have lb := lt_of_block hb
  have lt := lt_of_block htb
  have lo := lt_of_block ho
  have b0 := (cell_of_block hb 17).trans h17
  have HS := Lib.hid (sectStep ob sT sO v1 v2 W core t kind handle a b wv timeout o w.drew g sl s hF.drew hov hr now s1 hx ho (hA ob (.inr (.inr (.inl rfl)))) hm.1)
  have HE := Lib.hid (fun (w1 : World) sl' (hF1 : Fr w1 g sl' s1.finish_) (hE : EvS (fun j => j = ob) g sl sl' w w1) (hX : w1.heap[ob]? = some (.cells (opNop ob sT sO v1 v2 W core t kind handle a b wv timeout o) 133 (0, 0))) =>
    boxEnd_any bb tb ob sb d cs tB B hv n cells now (fun _ => True) hn w1 g sl' s1.finish_ sT sO v1 v2 W core t kind handle a b wv timeout o _ _ false ((hE.keep lb (hA bb (.inl rfl)) hO.1).trans hb) hcs h17 h19
      (ownsRow_kept hrow (fun k hk => hE.keep (hrow.lt k hk).2 (hA k (.inr (.inr (.inr hk)))) (fun e => hO.2.2 (by rw [hk, e])))) hne (Nat.le_trans hB hE.size) hX hF1 ((hE.keep lt (hA tb (.inr (.inl rfl))) hO.2.1).trans htb) hap hO.1.symm
      ⟨(hA bb (.inl rfl)).1, hm.2, (hA bb (.inl rfl)).2.1, (apartS (hA bb (.inl rfl)) hE lb).2.2⟩)
  have HKT := Lib.hid (fun (w1 : World) sl' (hE : EvS (fun j => j = ob) g sl sl' w.drew w1) => hE.keep (k := tb) lt (hA tb (.inr (.inl rfl))) hO.2.1)
  have t0 := row_of htb
  have o24 : w.cell? ⟨ob, 24, none⟩ = some (bound 78 (.pointer (some ⟨ob, 0, none⟩))) := (cell_of_block ho 24).trans rfl
  clear hb hcs h17 h19 hrow hne hB ho hF hov hr hx htb hap hm hA hO
  go_enter Tryz.func85, Tryz.ntmps85
  go_wp2_with fail
  go_region_held3 (fun w' => (∀ k, w'.cell? ⟨tb, k, none⟩ = #[.int .i64 0, .pointer (some ⟨ob, 0, none⟩), .pointer (some ⟨g.fb, 0, none⟩), .int .i64 0][k]?) ∧ w'.cell? ⟨ob, 24, none⟩ = some (bound 78 (.pointer (some ⟨ob, 0, none⟩))))
    (((try dsimp only); (try go_split_ands); (with_reducible repeat' apply And.intro); all_goals (with_reducible first | assumption | exact keepDrC (by assumption) | exact keepD1 (by assumption))))
    (first
      | ((try go_split_ands); go_at_call 24; refine (body_any ob _ _ (by assumption)).mono ?_; rintro e wq ⟨rfl, rfl⟩)
      | ((try go_split_ands); go_at_call 158; refine HS.out.mono ?_; rintro e w1 ⟨rfl, sl', hF1, hE1, hA1, hX1⟩; have t1 := fun k => (World.cell?_of_block (a := ⟨tb, k, none⟩) (HKT.out w1 sl' hE1)).trans (t0 k); have o1 := (cell_of_block hX1 24).trans (show _ = some (bound 78 (.pointer (some ⟨ob, 0, none⟩))) from rfl); have HF1 := Lib.hid hF1; have HE1 := Lib.hid hE1; have HA1 := Lib.hid hA1; have HX1 := Lib.hid hX1; clear hF1 hE1 hA1 hX1))
  all_goals
    have HEW := Lib.hid (((Ev.drew g sl w).toS (fun j => j = ob)).trans HE1.out)
    cases hov : s1.finish_.over with
    | false =>
      go_wp2
      first | go_end0 | ((try simp only [Exit.inBlock, Exit.then]); refine bodyPost_ret (results_none rfl _ _ _) rfl ?_)
      exact ⟨rfl, sl', w1, HF1.out, HEW.out, HA1.out, HX1.out, .inl ⟨hov, rfl⟩⟩
    | true =>
      go_wp2_with fail
      go_at_call 159
      refine (HE.out w1 sl' HF1.out HEW.out HX1.out).mono ?_
      rintro e w2 ⟨rfl, hx⟩
      have HX := Lib.hid hx
      clear hx
      go_wp2
      first | go_end0 | ((try simp only [Exit.inBlock, Exit.then]); refine bodyPost_ret (results_none rfl _ _ _) rfl ?_)
      exact ⟨rfl, sl', w1, HF1.out, HEW.out, HA1.out, HX1.out, .inr ⟨hov, HX.out⟩⟩
end Go.Proofs.YtefbdcmodfbpbaaGreat
namespace Go.Proofs.YtefbdcmodfbpbaaGreat
open Go.RowKit

def opA (ob : Nat) (sT sO v1 v2 : Value) (A : Option Addr) (c : Nat) : Array Value := opNop ob sT sO v1 v2 75 0 0 0 0 0 0 (.slice A 0 c) 0 0

/-- A box whose core 0 is within an op. -/
structure InOp (w : World) (bb tb ob sb d : Nat) (cs : Array Value) (B : Nat) (hv : Value) (n : Nat) (cells : List Value) (g : FG) (sl : Value) (s : FS) (sT sO v1 v2 : Value) (A : Option Addr) (c : Nat) : Prop where
  hb : w.heap[bb]? = some (.cells cs 150 (0, 0))
  hcs : cs[21]? = some hv
  h17 : cs[17]? = some (.pointer (some ⟨tb, 0, none⟩))
  h19 : cs[19]? = some (.slice (some ⟨sb, 0, none⟩) 1 d)
  hrow : w.ownsRow B 222 13 hv n cells
  hne : hv.ownBlock ≠ some bb
  hB : B ≤ w.heap.size
  ho : w.heap[ob]? = some (.cells (opA ob sT sO v1 v2 A c) 133 (0, 0))
  hF : Fr w g sl s
  htb : w.heap[tb]? = some (.cells #[.int .i64 0, .pointer (some ⟨ob, 0, none⟩), .pointer (some ⟨g.fb, 0, none⟩), .int .i64 0] 213 (0, 0))
  hap : tb ≠ bb ∧ hv.ownBlock ≠ some tb
  hm : ob ≠ g.mb ∧ bb ≠ g.mb
  hA : ∀ k, (k = bb ∨ k = tb ∨ k = ob ∨ hv.ownBlock = some k) → k ≠ g.fb ∧ k ≠ g.wb ∧ sl.ownBlock ≠ some k
  hO : bb ≠ ob ∧ tb ≠ ob ∧ hv.ownBlock ≠ some ob
  lo : B ≤ bb ∧ B ≤ ob ∧ B ≤ g.fb ∧ B ≤ g.wb
  los : ∀ k, sl.ownBlock = some k → B ≤ k

set_option maxHeartbeats 800000 in
theorem goOn_in {bb tb ob sb d : Nat} {cs : Array Value} {B : Nat} {hv : Value} {n : Nat} {cells : List Value} {g : FG} {sl : Value} {s : FS} {sT sO v1 v2 : Value} {A : Option Addr} {c : Nat} {w : World}
    (h : InOp w bb tb ob sb d cs B hv n cells g sl s sT sO v1 v2 A c) (hn : n ≤ 1000) (now : Int) (s1 : FS) (hov : s.over = false) (hr : s.log.length + 1 ≤ 1000000) (hx : exec kSect (s.begin_ now) = some ((), s1)) :
    Calls Tryz.prog 85 #[.pointer (some ⟨bb, 0, none⟩), .int .i64 0, .int .i64 now] w fun e w' => e = .returned (.tuple #[]) ∧ Below B w w' ∧
      (s1.finish_.over = false ∧ (∃ sl', InOp w' bb tb ob sb d cs B hv n cells g sl' s1.finish_ sT sO v1 v2 A c) ∨
       s1.finish_.over = true ∧ ∃ cs' hv' A1 c1 A2 c2 A3 c3 A4 c4, w'.heap[bb]? = some (.cells cs' 150 (0, 0)) ∧ cs'[21]? = some hv' ∧ w'.ownsRow B 222 13 hv' (n + 2) ((cells ++ evCells 1 s1.finish_.mark 0 0 call0 (.slice A1 0 c1) 0 0 (.slice A2 0 c2)) ++ evCells 2 now 0 0 call0 (.slice A3 0 c3) 0 0 (.slice A4 0 c4))) := by
  obtain ⟨hb, hcs, h17, h19, hrow, hne, hB, ho, hF, htb, hap, hm, hA, hO, lo, los⟩ := h
  refine (goOn_any bb tb ob sb d cs _ B hv n cells now hn w g sl s s1 sT sO v1 v2 75 0 0 0 0 0 0 (.slice A 0 c) 0 0 hb hcs h17 h19 hrow hne hB ho hF hov hr hx htb hap hm hA hO).mono ?_
  rintro e w' ⟨rfl, sl', w1, hF1, hE1, hA1, hX1, hc⟩
  have lb := lt_of_block hb
  have lt := lt_of_block htb
  have hb1 := (hE1.keep lb (hA bb (.inl rfl)) hO.1).trans hb
  have hr1 : w1.ownsRow B 222 13 hv n cells := ownsRow_kept hrow (fun k hk => hE1.keep (hrow.lt k hk).2 (hA k (.inr (.inr (.inr hk)))) (fun e => hO.2.2 (by rw [hk, e])))
  have ht1 := (hE1.keep lt (hA tb (.inr (.inl rfl))) hO.2.1).trans htb
  have hsz := hE1.size
  have bel : Below B w w1 := ⟨hE1.os, hE1.tape, hE1.output, hsz, fun k hk => hE1.block k (by omega) (by omega) (by omega) (fun e => by have := los k e; omega) (by show ¬ k = ob; omega)⟩
  have los1 : ∀ k, sl'.ownBlock = some k → B ≤ k := fun k hk => by
    rcases hE1.own with e | ⟨b, e, hbb⟩
    · exact los k (by rw [← e]; exact hk)
    · rw [e] at hk; injection hk with hk; omega
  rcases hc with ⟨h1, rfl⟩ | ⟨h1, A1, c1, A2, c2, A3, c3, A4, c4, gg, cap, k1, k2, k3, k4, k5⟩
  · refine ⟨rfl, bel, .inl ⟨h1, sl', hb1, hcs, h17, h19, hr1, hne, by omega, hX1, hF1, ht1, hap, hm, ?_, hO, lo, los1⟩⟩
    intro k hk
    refine apartS (hA k hk) hE1 ?_
    rcases hk with rfl | rfl | rfl | hk
    · exact lb
    · exact lt
    · exact lt_of_block ho
    · exact (hrow.lt k hk).2
  · refine ⟨rfl, bel.trans ⟨k3.os, k3.tape, k3.output, k3.size, fun k hk => k3.block k (by omega) ?_⟩, .inr ⟨h1, _, _, A1, c1, A2, c2, A3, c3, A4, c4, k1, ?_, k2⟩⟩
    · rintro (e | e)
      · omega
      · have := (hrow.lt k e).1; omega
    · have := (Array.getElem?_eq_some_iff.mp hcs).1
      simp [this]

theorem keepS14 {w : World} {bb : Nat} {v u : Value} (h : w.cell? ⟨bb, 14, none⟩ = some v) : (w.setCell ⟨bb, 17, none⟩ u).cell? ⟨bb, 14, none⟩ = some v := by
  have hne : (⟨bb, 17, none⟩ : Addr) ≠ ⟨bb, 14, none⟩ := fun e => by cases e
  rw [World.cell?_setCell_other (h := hne)]; exact h

set_option maxRecDepth 100000 in
set_option maxHeartbeats 6400000 in
theorem begin_any (bb mb wb ob sb d : Nat) (m : Mem) (x17 : Value) (cs : Array Value) (B : Nat) (hv : Value) (n : Nat) (cells : List Value) (now : Int) (hn : n ≤ 1000) (w : World) (s1 : FS)
    (sT sO v1 v2 : Value) (A : Option Addr) (c : Nat)
    (hb : w.heap[bb]? = some (.cells cs 150 (0, 0))) (hcs : cs[21]? = some hv) (h14 : cs[14]? = some (.pointer (some ⟨mb, 0, none⟩))) (h17 : cs[17]? = some x17) (h19 : cs[19]? = some (.slice (some ⟨sb, 0, none⟩) 1 d)) (hrow : w.ownsRow B 222 13 hv n cells) (hne : hv.ownBlock ≠ some bb) (hB : B ≤ w.heap.size)
    (ho : w.heap[ob]? = some (.cells (opA ob sT sO v1 v2 A c) 133 (0, 0))) (hM : MemAt w mb wb m) (ha : bb ≠ mb ∧ bb ≠ wb ∧ ob ≠ mb ∧ ob ≠ wb ∧ hv.ownBlock ≠ some mb ∧ hv.ownBlock ≠ some wb) (hO : bb ≠ ob ∧ hv.ownBlock ≠ some ob) (lo : B ≤ bb ∧ B ≤ ob ∧ B ≤ wb)
    (hx : exec kSect ((FS.new m).begin_ now) = some ((), s1)) (hov : s1.finish_.over = false) :
    Calls Tryz.prog 86 #[.pointer (some ⟨bb, 0, none⟩), .int .i64 0, .int .i64 now, .int .i64 0, .int .i64 0, .pointer (some ⟨ob, 0, none⟩)] w fun e w' => e = .returned (.tuple #[]) ∧ Below B w w' ∧
      ∃ tb fb sl', InOp w' bb tb ob sb d (cs.setIfInBounds 17 (.pointer (some ⟨tb, 0, none⟩))) B hv n cells ⟨fb, mb, wb⟩ sl' s1.finish_ sT sO v1 v2 A c := by
  have lb := lt_of_block hb
  have lo1 := lt_of_block ho
  have lm := lt_of_block hM.st
  have lw := lt_of_block hM.ws
  obtain ⟨W2, hW2⟩ : ∃ x, x = w.drew.alloc (.cells #[.pointer (some ⟨mb, 0, none⟩), .slice none 0 0, .int .i64 0, .bool false, .bool true, .int .i64 0, .int .i64 0, .bool false, .bool false] 267) := ⟨_, rfl⟩
  have hz2 : W2.heap.size = w.heap.size + 1 := by rw [hW2, World.size_alloc]; rfl
  have hB2 : Below w.heap.size w W2 := by rw [hW2]; exact (Below.refl _ _).drew.alloc (Nat.le_refl _) _
  have hF2 : Fr W2 ⟨w.heap.size, mb, wb⟩ (.slice none 0 0) (FS.new m) := by rw [hW2]; exact Fr.new w.drew mb wb m (hM.kept rfl rfl)
  obtain ⟨W2', hW2'⟩ : ∃ x, x = W2.setCell ⟨bb, 17, none⟩ (.pointer (some ⟨W2.heap.size, 0, none⟩)) := ⟨_, rfl⟩
  have hs3 : SameBut bb W2 W2' := by rw [hW2']; exact (SameBut.refl bb _).set _ _
  have hzs : W2'.heap.size = W2.heap.size := hs3.size
  obtain ⟨W3, hW3⟩ : ∃ x, x = W2'.alloc (.cells #[.int .i64 0, .pointer (some ⟨ob, 0, none⟩), .pointer (some ⟨w.heap.size, 0, none⟩), .int .i64 0] 213) := ⟨_, rfl⟩
  have hz3 : W3.heap.size = w.heap.size + 2 := by rw [hW3, World.size_alloc, hzs, hz2]
  have hk3 : ∀ k, k < W2.heap.size → W3.heap[k]? = W2'.heap[k]? := fun k hk => by rw [hW3]; exact Below.heap_alloc _ _ _ (by omega)
  have hb3 : W3.heap[bb]? = some (.cells (cs.setIfInBounds 17 (.pointer (some ⟨W2.heap.size, 0, none⟩))) 150 (0, 0)) := (hk3 bb (by omega)).trans (by rw [hW2']; exact block_setCell ((hB2.block bb lb).trans hb) 17 _)
  have hI : InOp W3 bb W2.heap.size ob sb d (cs.setIfInBounds 17 (.pointer (some ⟨W2.heap.size, 0, none⟩))) B hv n cells ⟨w.heap.size, mb, wb⟩ (.slice none 0 0) (FS.new m) sT sO v1 v2 A c := by
    have hsz := (Array.getElem?_eq_some_iff.mp h17).1
    refine ⟨hb3, ?_, ?_, ?_, ?_, hne, by omega, ?_, ?_, ?_, ?_, ⟨ha.2.2.1, ha.1⟩, ?_, ?_, ?_, ?_⟩
    · rw [Array.getElem?_setIfInBounds_ne (by decide)]; exact hcs
    · simp [hsz]
    · rw [Array.getElem?_setIfInBounds_ne (by decide)]; exact h19
    · exact ownsRow_kept hrow (fun k hk => by
        have hl := (hrow.lt k hk).2
        exact (hk3 k (by omega)).trans ((hs3.block k (fun e => hne (by rw [hk, e]))).trans (hB2.block k hl)))
    · exact (hk3 ob (by omega)).trans ((hs3.block ob hO.1.symm).trans ((hB2.block ob lo1).trans ho))
    · rw [hW3]; exact (hF2.sameBut ⟨by show bb ≠ w.heap.size; omega, ha.2.1, by simp [Value.ownBlock]⟩ ha.1 hs3).alloc _
    · rw [hW3, ← hzs]; exact heap_alloc_new W2' _
    · exact ⟨by omega, fun e => by have := (hrow.lt _ e).2; omega⟩
    · intro k hk
      refine ⟨?_, ?_, by simp [Value.ownBlock]⟩
      · show k ≠ w.heap.size
        rcases hk with rfl | rfl | rfl | hk
        · omega
        · omega
        · omega
        · have := (hrow.lt k hk).2; omega
      · show k ≠ wb
        rcases hk with rfl | rfl | rfl | hk
        · exact ha.2.1
        · omega
        · exact ha.2.2.2.1
        · intro e; exact ha.2.2.2.2.2 (by rw [hk, e])
    · exact ⟨hO.1, by omega, hO.2⟩
    · exact ⟨lo.1, lo.2.1, hB, lo.2.2⟩
    · intro k hk; simp [Value.ownBlock] at hk
  have HG := Lib.hid (goOn_in hI hn now s1 rfl (by simp [FS.new]) hx)
  have HB3 := Lib.hid (show Below B w W3 from ((hB2.mono hB).trans ⟨hs3.os, hs3.tape, hs3.output, by rw [hzs]; exact Nat.le_refl _, fun k hk => hs3.block k (by omega)⟩).trans (by rw [hW3]; exact (Below.refl _ _).alloc (by omega) _))
  have HW3 := Lib.hid hW3
  have HW2 := Lib.hid hW2
  have b14 := (cell_of_block hb 14).trans h14
  have r17 := ((cell_of_block ((hB2.block bb lb).trans hb) 17).trans h17)
  have f17 := free_of_block ((hB2.block bb lb).trans hb) 17
  have z2 : bb < W2.heap.size := by omega
  have b14' := ((cell_of_block ((hB2.block bb lb).trans hb) 14).trans h14)
  have HZ2 := Lib.hid hz2
  have HW2' := Lib.hid hW2'
  have HOV := Lib.hid hov
  have z2' : ∀ v, bb < (W2.setCell ⟨bb, 17, none⟩ v).heap.size := fun v => by rw [World.size_setCell]; exact z2
  clear hb hcs h14 h17 h19 hrow hne hB ho hM ha hO lo hx hI hb3 hs3 hF2 hB2 hW3 hW2 hW2' hz3 hz2 hzs hk3 lo1 lm lw hov
  go_enter Tryz.func86, Tryz.ntmps86
  go_wp2_with fail
  go_region_held3 (fun w' => w'.cell? ⟨bb, 14, none⟩ = some (.pointer (some ⟨mb, 0, none⟩)))
    ((with_reducible first | assumption | exact keepD1 (by assumption) | exact keepA1 (by assumption) (by assumption) | exact keepS14 (by assumption) | exact keepA1 (keepS14 (by assumption)) (z2' _)))
    (first | (go_at_call 156; refine (fnew _ mb).mono ?_; rintro e wq ⟨rfl, hq⟩; have hq2 := hq.symm.trans HW2.out.symm; clear hq; subst hq2))
  all_goals
    rw [← HW2'.out, ← HW3.out]
    go_wp2_with fail
    go_at_call 85
    refine HG.out.mono ?_
    rintro e w9 ⟨rfl, hB9, hc9⟩
    have HB9 := Lib.hid hB9
    have HC9 := Lib.hid hc9
    clear hB9 hc9
    go_wp2
    first | go_end0 | ((try simp only [Exit.inBlock, Exit.then]); refine bodyPost_ret (results_none rfl _ _ _) rfl ?_)
    refine ⟨rfl, HB3.out.trans HB9.out, ?_⟩
    rcases HC9.out with ⟨_, sl', h9⟩ | ⟨h9, _⟩
    · exact ⟨_, _, sl', h9⟩
    · rw [HOV.out] at h9; cases h9
end Go.Proofs.YtefbdcmodfbpbaaGreat
