/-
  hist: an event's copy; an event that is noted.
  hist.Events: the events' copies.
-/
import Derived.Test.YtefbdcmodfbpbaaGreatCloneP
import Derived.Test.YtefbdcmodfbpbaaGreatOwn
import Derived.Test.YtefbdcmodfbpbaaGreatRefQ
import Derived.Test.YtefbdcmodfbpbaaGreatClone
import Derived.Test.YtefbdcmodfbpbaaGreatKCall
import Derived.Deep.RegionHeld3
import Derived.Deep.AppendLies
import Derived.Deep.DeepMust
set_option linter.unusedVariables false
set_option linter.unusedSimpArgs false
namespace Go.Proofs.YtefbdcmodfbpbaaGreat
open Go.RowKit

/-- The cells of an event. -/
def evCells (kind step core thread : Int) (c : CallD) (wv : Value) (code count : Int) (ws : Value) : List Value :=
  [.int .i64 kind, .int .i64 step, .int .i64 core, .int .i64 thread, .int .i64 c.kind, .int .i64 c.handle, .int .i64 c.a, .int .i64 c.b, wv, .int .i64 c.timeout, .int .i64 code, .int .i64 count, ws]

set_option maxRecDepth 100000 in
set_option maxHeartbeats 6400000 in
theorem evClone_any (kind step core thread : Int) (c : CallD) (wv : Value) (code count : Int) (ws : Value) (xs : List Int) (F : Nat → Prop) (hc : c.words.length ≤ 1000) (hx : xs.length ≤ 1000) (w : World) (h1 : IntsAt w F wv c.words) (h2 : IntsAt w F ws xs) :
    Calls Tryz.prog 168 #[.agg (evCells kind step core thread c wv code count ws).toArray] w fun e w' => ∃ A1 c1 A2 c2, e = .returned (.agg (evCells kind step core thread c (.slice A1 c.words.length c1) code count (.slice A2 xs.length c2)).toArray) ∧ Below w.heap.size w w' ∧ IntsAt w' (fun k => w.heap.size ≤ k) (.slice A1 c.words.length c1) c.words ∧ IntsAt w' (fun k => w.heap.size ≤ k) (.slice A2 xs.length c2) xs := by
  have HC := Lib.hid (fun W (hb : Below w.heap.size w W) => cloneCall_any c wv F hc W (Reads.kept h1 (fun k hk _ => hb.block k hk)))
  have HS := Lib.hid (fun W (hb : Below w.heap.size w W) => clone_int64 W F ws xs.length (encInts xs) (encInts_one _) (by omega) (Reads.kept h2 (fun k hk _ => hb.block k hk)))
  obtain ⟨A3, c3, rfl⟩ := IntsAt.slice h1
  obtain ⟨A4, c4, rfl⟩ := IntsAt.slice h2
  simp only [evCells]
  simp only [callCells] at HC
  clear h1 h2
  go_enter Tryz.func168, Tryz.ntmps168
  go_wp2_with fail
  go_at_call 77
  refine (HC.out _ (((Below.refl _ _).alloc (Nat.le_refl _) _).alloc (by simp) _)).mono ?_
  rintro e w1 ⟨wv', rfl, hi1, hb1⟩
  obtain ⟨A5, c5, rfl⟩ := IntsAt.slice hi1
  obtain ⟨p1, p2⟩ := below_cells hb1 (b := w.heap.size) (by simp <;> omega) (two_first _ _ _)
  obtain ⟨q1, q2⟩ := below_cells hb1 (b := w.heap.size + 1) (by simp) (two_second _ _ _)
  have z1 : w.heap.size + 1 < w1.heap.size := by have := hb1.size; simp at this; omega
  have z0 : w.heap.size < w1.heap.size := by omega
  have hk0 := (hb1.block w.heap.size (by simp <;> omega)).trans (two_first _ _ _)
  have hk1 := (hb1.block (w.heap.size + 1) (by simp)).trans (two_second _ _ _)
  have HK0 := Lib.hid hk0
  have HK1 := Lib.hid hk1
  have HI1 := Lib.hid hi1
  have HB1 := Lib.hid hb1
  clear hi1 hb1 hk0 hk1
  go_wp2_with fail
  go_at_call 65
  obtain ⟨w2, hw2⟩ : ∃ x, x = (((((w1.setCell ⟨w.heap.size, 4, none⟩ (.int .i64 c.kind)).setCell ⟨w.heap.size, 5, none⟩ (.int .i64 c.handle)).setCell ⟨w.heap.size, 6, none⟩ (.int .i64 c.a)).setCell ⟨w.heap.size, 7, none⟩ (.int .i64 c.b)).setCell ⟨w.heap.size, 8, none⟩ (.slice A5 c.words.length c5)).setCell ⟨w.heap.size, 9, none⟩ (.int .i64 c.timeout) := ⟨_, rfl⟩
  have hs2 : SameBut w.heap.size w1 w2 := by rw [hw2]; exact (((((((SameBut.refl _ w1).set _ _).set _ _).set _ _).set _ _).set _ _).set _ _)
  have k0 : w2.heap[w.heap.size]? = some (.cells #[.int .i64 kind, .int .i64 step, .int .i64 core, .int .i64 thread, .int .i64 c.kind, .int .i64 c.handle, .int .i64 c.a, .int .i64 c.b, .slice A5 c.words.length c5, .int .i64 c.timeout, .int .i64 code, .int .i64 count, .slice A4 xs.length c4] 222 (0, 0)) := by
    have k := block_setCell (block_setCell (block_setCell (block_setCell (block_setCell (block_setCell HK0.out 4 (.int .i64 c.kind)) 5 (.int .i64 c.handle)) 6 (.int .i64 c.a)) 7 (.int .i64 c.b)) 8 (.slice A5 c.words.length c5)) 9 (.int .i64 c.timeout)
    rw [← hw2] at k
    rw [k]
    simp
  have k1 := (hs2.block (w.heap.size + 1) (by omega)).trans HK1.out
  have hz2 := hs2.size
  have hB2 : Below w.heap.size w w2 := (((((Below.refl _ _).alloc (Nat.le_refl _) _).alloc (by simp) _).trans (HB1.out.mono (by simp <;> omega))).trans ⟨hs2.os, hs2.tape, hs2.output, by rw [hz2]; exact Nat.le_refl _, fun k hk => hs2.block k (by omega)⟩)
  rw [← hw2]
  have HB2 := Lib.hid hB2
  have HI2 := Lib.hid (Reads.kept (w' := w2) (Reads.inn HI1.out (by omega)) (fun k hk hF => hs2.block k (by have := hF.1; simp at this; omega)))
  have HK0' := Lib.hid k0
  have HK1' := Lib.hid k1
  clear hw2 hs2 k0 k1 hB2 p1 p2 q1 q2 HK0 HK1 HI1
  refine (HS.out w2 HB2.out).mono ?_
  rintro e w3 ⟨wv3, rfl, hown, hb3⟩
  obtain ⟨A6, c6, rfl⟩ := own_form hown
  have k0 := (hb3.block w.heap.size (by omega)).trans HK0'.out
  have k1 := (hb3.block (w.heap.size + 1) (by omega)).trans HK1'.out
  have hs3 := hb3.size
  have p1 := row_of k0
  have p2 := free_of_block k0
  have q1 := row_of k1
  have q2 := free_of_block k1
  have y1 : w.heap.size + 1 < w3.heap.size := by omega
  have y0 : w.heap.size < w3.heap.size := by omega
  have HI3 := Lib.hid (Reads.kept (w' := w3) HI2.out (fun k hk _ => hb3.block k hk))
  have HO3 := Lib.hid (ownsRow_reads hown)
  have HB3 := Lib.hid (below_end HB2.out (Nat.le_refl _) hb3)
  clear hown hb3 k0 k1 HI2 HK0' HK1'
  go_wp2
  refine bodyPost_ret (v := .agg #[.int .i64 kind, .int .i64 step, .int .i64 core, .int .i64 thread, .int .i64 c.kind, .int .i64 c.handle, .int .i64 c.a, .int .i64 c.b, .slice A5 c.words.length c5, .int .i64 c.timeout, .int .i64 code, .int .i64 count, .slice A6 xs.length c6]) (by simp [results, Tryz.results168, go_sem, p1, q1]) rfl ⟨_, _, _, _, rfl, ?_, ?_, ?_⟩
  · iterate 14 refine Below.setCell ?_ (by dsimp only; omega) _
    exact HB3.out
  · refine Reads.wider (Reads.kept HI3.out (fun k _ hk => ?_)) (fun k hk => ?_)
    · have := hk.1
      simp only [World.size_alloc] at this
      iterate 14 rw [block_setCell_other _ _ _ (by omega)]
    · have := hk.1
      simp only [World.size_alloc] at this
      omega
  · refine Reads.wider (Reads.kept HO3.out (fun k _ hk => ?_)) (fun k hk => ?_)
    · iterate 14 rw [block_setCell_other _ _ _ (by omega)]
    · omega

theorem keepAllW1 {w w' : World} {b : Nat} {cs : Array Value} (h : ∀ k, w.cell? ⟨b, k, none⟩ = cs[k]?) (hb : w'.heap[b]? = w.heap[b]?) : ∀ k, w'.cell? ⟨b, k, none⟩ = cs[k]? := fun k => (World.cell?_of_block (a := ⟨b, k, none⟩) hb).trans (h k)
theorem keepD1 {w : World} {a : Addr} {v : Value} (h : w.cell? a = some v) : w.drew.cell? a = some v := h
theorem keepA1 {w : World} {b k : Nat} {v : Value} {o : Obj} (h : w.cell? ⟨b, k, none⟩ = some v) (hb : b < w.heap.size) : (w.alloc o).cell? ⟨b, k, none⟩ = some v := (World.cell?_of_block (a := ⟨b, k, none⟩) (Below.heap_alloc _ _ _ hb)).trans h
/-- But blocks of 'S', all is as it was; new ones there may be. -/
structure WrS (S : Nat → Prop) (w w' : World) : Prop where
  os : w'.os = w.os
  tape : w'.tape = w.tape
  output : w'.output = w.output
  size : w.heap.size ≤ w'.heap.size
  block : ∀ k, k < w.heap.size → ¬ S k → w'.heap[k]? = w.heap[k]?

theorem Tryz.infoEvent : (Tryz.prog.info? 222).map (fun i => (i.zero, i.size, i.bytes)) = some (some (.agg #[.int .i64 0, .int .i64 0, .int .i64 0, .int .i64 0, .int .i64 0, .int .i64 0, .int .i64 0, .int .i64 0, .slice none 0 0, .int .i64 0, .int .i64 0, .int .i64 0, .slice none 0 0]), 13, 136) := by kernel_rfl

set_option maxRecDepth 100000 in
set_option maxHeartbeats 16000000 in
theorem histAdd_any (bb o : Nat) (cs : Array Value) (tB : TypeId) (B : Nat) (Av : Option Addr) (n cv : Nat) (cells : List Value) (kind step core thread : Int) (c : CallD) (wv : Value) (code count : Int) (ws : Value) (xs : List Int) (F : Nat → Prop) (hc : c.words.length ≤ 1000) (hx : xs.length ≤ 1000) (hn : n ≤ 10000) (w : World)
    (hb : w.heap[bb]? = some (.cells cs tB (0, 0))) (hcs : cs[o]? = some (.slice Av n cv)) (hrow : w.ownsRow B 222 13 (.slice Av n cv) n cells) (hne : (Value.slice Av n cv).ownBlock ≠ some bb) (hB : B ≤ w.heap.size) (h1 : IntsAt w F wv c.words) (h2 : IntsAt w F ws xs) :
    Calls Tryz.prog 249 #[.pointer (some ⟨bb, o, none⟩), .agg (evCells kind step core thread c wv code count ws).toArray] w fun e w' => e = .returned (.tuple #[]) ∧ ∃ gg cap A1 c1 A2 c2, w'.heap[bb]? = some (.cells (cs.setIfInBounds o (.slice (some ⟨gg, 0, none⟩) (n + 1) cap)) tB (0, 0)) ∧
      w'.ownsRow B 222 13 (.slice (some ⟨gg, 0, none⟩) (n + 1) cap) (n + 1) (cells ++ evCells kind step core thread c (.slice A1 c.words.length c1) code count (.slice A2 xs.length c2)) ∧ WrS (fun k => k = bb ∨ (Value.slice Av n cv).ownBlock = some k) w w' ∧ ((Value.slice Av n cv).ownBlock = some gg ∨ w.heap.size ≤ gg) ∧ gg ≠ bb := by
  obtain ⟨i0, hi0, hz0, hz1, hz2⟩ := info_parts Tryz.infoEvent
  have HC := Lib.hid (fun W (hb : Below w.heap.size w W) => evClone_any kind step core thread c wv code count ws xs F hc hx W (Reads.kept h1 (fun k hk _ => hb.block k hk)) (Reads.kept h2 (fun k hk _ => hb.block k hk)))
  obtain ⟨A3, c3, rfl⟩ := IntsAt.slice h1
  obtain ⟨A4, c4, rfl⟩ := IntsAt.slice h2
  simp only [evCells] at HC ⊢
  have lb := lt_of_block hb
  have nB : some bb ≠ (Value.slice Av n cv).ownBlock := fun e => hne e.symm
  have nW : some w.heap.size ≠ (Value.slice Av n cv).ownBlock := fun e => by have := (hrow.lt _ e.symm).2; omega
  have HB := Lib.hid hb
  have HROW := Lib.hid hrow
  obtain ⟨W0, hW0⟩ : ∃ x, x = w.alloc (.cells #[.int .i64 kind, .int .i64 step, .int .i64 core, .int .i64 thread, .int .i64 c.kind, .int .i64 c.handle, .int .i64 c.a, .int .i64 c.b, .slice A3 c.words.length c3, .int .i64 c.timeout, .int .i64 code, .int .i64 count, .slice A4 xs.length c4] 222) := ⟨_, rfl⟩
  have hs0 : W0.heap.size = w.heap.size + 1 := by rw [hW0]; simp
  have hb0 : Below w.heap.size w W0 := by rw [hW0]; exact (Below.refl _ _).alloc (Nat.le_refl _) _
  have r0 : ∀ k, W0.cell? ⟨w.heap.size, k, none⟩ = #[.int .i64 kind, .int .i64 step, .int .i64 core, .int .i64 thread, .int .i64 c.kind, .int .i64 c.handle, .int .i64 c.a, .int .i64 c.b, .slice A3 c.words.length c3, .int .i64 c.timeout, .int .i64 code, .int .i64 count, .slice A4 xs.length c4][k]? := fun k => by rw [hW0]; exact row_of (heap_alloc_new w (.cells #[.int .i64 kind, .int .i64 step, .int .i64 core, .int .i64 thread, .int .i64 c.kind, .int .i64 c.handle, .int .i64 c.a, .int .i64 c.b, .slice A3 c.words.length c3, .int .i64 c.timeout, .int .i64 code, .int .i64 count, .slice A4 xs.length c4] 222)) k
  have m0 : W0.cell? ⟨bb, o, none⟩ = some (.slice Av n cv) := (World.cell?_of_block (a := ⟨bb, o, none⟩) (hb0.block bb lb)).trans ((cell_of_block hb o).trans hcs)
  have f0 : W0.frozen? ⟨bb, o, none⟩ = false := free_of_block ((hb0.block bb lb).trans hb) o
  have z0 : w.heap.size < W0.heap.size := by omega
  have zb : bb < W0.heap.size := by omega
  have HW0 := Lib.hid hW0
  have HB0 := Lib.hid hb0
  have HBB0 := Lib.hid ((hb0.block bb lb).trans hb)
  have HROW0 := Lib.hid (ownsRow_kept hrow (fun k hk => hb0.block k (hrow.lt k hk).2))
  clear h1 h2 hb hrow hb0 hW0
  go_enter Tryz.func249, Tryz.ntmps249
  go_wp2_with fail
  rw [← HW0.out]
  go_region_law
    (first
      | (have _hc := HC; go_simp; go_at_call 168; refine (HC.out _ HB0.out.drew).mono ?_; rintro e w1 ⟨A5, c5, A6, c6, rfl, hb1, hi1, hi2⟩; have HB1 := Lib.hid (⟨hb1.os, hb1.tape, hb1.output, hb1.size, hb1.block⟩ : Below W0.heap.size W0 w1); have r1 := fun k => (World.cell?_of_block (a := ⟨w.heap.size, k, none⟩) (HB1.out.block w.heap.size z0)).trans (r0 k); have m1 := (World.cell?_of_block (a := ⟨bb, o, none⟩) (HB1.out.block bb zb)).trans m0; have hB1 : B ≤ w1.heap.size := Nat.le_trans (Nat.le_trans hB HB0.out.size) HB1.out.size; have z1 := Nat.lt_of_lt_of_le z0 HB1.out.size; have zb1 := Nat.lt_of_lt_of_le zb HB1.out.size; have g1 : w1.frozen? ⟨bb, o, none⟩ = false := free_of_block ((HB1.out.block bb zb).trans HBB0.out) o; have HROW1 := Lib.hid (ownsRow_kept HROW0.out (fun k hk => HB1.out.block k (HROW0.out.lt k hk).2)); clear hb1 hi1 hi2 HC; dsimp only)
      | (have _hb := HB1; (try go_split_ands); go_must (refine step_append_lies _ (by rfl) (.tmp 10) (.tmp 13) 76 (by rfl) B 222 i0 _ 13 136 Tryz.underlying76 hi0 hz0 hz1 hz2 rfl (by omega) (.slice Av n cv) n cells (by rfl) (HROW1.out.alloc _) ⟨w1.heap.size, 0, none⟩ 1 1 [.int .i64 kind, .int .i64 step, .int .i64 core, .int .i64 thread, .int .i64 c.kind, .int .i64 c.handle, .int .i64 c.a, .int .i64 c.b, .slice A5 c.words.length c5, .int .i64 c.timeout, .int .i64 code, .int .i64 count, .slice A6 xs.length c6] (by rfl) (by rfl) (World.news_of_block (cs := #[.int .i64 kind, .int .i64 step, .int .i64 core, .int .i64 thread, .int .i64 c.kind, .int .i64 c.handle, .int .i64 c.a, .int .i64 c.b, .slice A5 c.words.length c5, .int .i64 c.timeout, .int .i64 code, .int .i64 count, .slice A6 xs.length c6]) (t := 222) (fr := (0, 0)) (heap_alloc_new _ _)) (by simp [Value.oneCell']) (by omega) (by unfold maxLen; omega) (by omega) (by simp; omega) (w1.heap.size + 1) (by simp) ?_); intro gg cap w5 hown5 hgrow hat hlt5; have r5 := keepAllW1 (keepAllC (o := .cells #[.int .i64 kind, .int .i64 step, .int .i64 core, .int .i64 thread, .int .i64 c.kind, .int .i64 c.handle, .int .i64 c.a, .int .i64 c.b, .slice A5 c.words.length c5, .int .i64 c.timeout, .int .i64 code, .int .i64 count, .slice A6 xs.length c6] 222) r1 z1) (hgrow.block w.heap.size (by simp; omega) nW); have hbb5 := (hgrow.block bb (by simp; omega) nB).trans ((Below.heap_alloc w1 (.cells #[.int .i64 kind, .int .i64 step, .int .i64 core, .int .i64 thread, .int .i64 c.kind, .int .i64 c.handle, .int .i64 c.a, .int .i64 c.b, .slice A5 c.words.length c5, .int .i64 c.timeout, .int .i64 code, .int .i64 count, .slice A6 xs.length c6] 222) bb zb1).trans ((HB1.out.block bb zb).trans HBB0.out)); have m5 := (cell_of_block hbb5 o).trans hcs; have g5 := free_of_block hbb5 o; have zb5 := lt_of_block hbb5; have HBB5 := Lib.hid hbb5; have HO5 := Lib.hid hown5; have HG5 := Lib.hid hgrow; have HAT := Lib.hid hat; clear hown5 hgrow hat hbb5))
  all_goals
    first | go_end0 | ((try simp only [Exit.inBlock, Exit.then]); refine bodyPost_ret (results_none rfl _ _ _) rfl ?_)
    have hgb : gg ≠ bb := by
      intro e
      subst e
      rcases HAT.out with h | h
      · exact hne h
      · omega
    have hs1 := HB1.out.size
    have hs5 := HG5.out.size
    simp only [World.size_alloc] at hs5
    refine ⟨rfl, gg, cap, A5, c5, A6, c6, block_setCell HBB5.out o _, ownsRow_kept HO5.out (fun k hk => block_setCell_other _ _ _ (fun e => hgb (by simp [Value.ownBlock] at hk; omega))), ⟨?_, ?_, ?_, ?_, ?_⟩, ?_, hgb⟩
    · exact (HG5.out.os.trans HB1.out.os).trans HB0.out.os
    · exact (HG5.out.tape.trans HB1.out.tape).trans HB0.out.tape
    · exact (HG5.out.output.trans HB1.out.output).trans HB0.out.output
    · simp only [World.size_setCell]; omega
    · intro k hk hns
      have hk1 : k ≠ bb := fun e => hns (.inl e)
      have hk2 : some k ≠ (Value.slice Av n cv).ownBlock := fun e => hns (.inr e.symm)
      rw [block_setCell_other _ _ _ hk1, HG5.out.block k (by simp; omega) hk2, Below.heap_alloc _ _ _ (by omega), HB1.out.block k (by omega), HB0.out.block k hk]
    · rcases HAT.out with h | h
      · exact .inl h
      · exact .inr (by omega)
end Go.Proofs.YtefbdcmodfbpbaaGreat
namespace Go.Proofs.YtefbdcmodfbpbaaGreat
open Go.RowKit

def eventZ : Array Value := #[.int .i64 0, .int .i64 0, .int .i64 0, .int .i64 0, .int .i64 0, .int .i64 0, .int .i64 0, .int .i64 0, .slice none 0 0, .int .i64 0, .int .i64 0, .int .i64 0, .slice none 0 0]
theorem make_events (n : Nat) (hn : n ≤ 10000) (w : World) : (Instr.makeSlice 76 (.int .i64 n) (.int .i64 n)).run Tryz.prog w = .ok (.slice (some ⟨w.heap.size, 0, none⟩) n n) (w.alloc (.cells (madeCells eventZ (n * 13)) 222)) := by
  obtain ⟨i0, hi0, hz0, hz1, hz2⟩ := info_parts Tryz.infoEvent
  have h := run_make (P := Tryz.prog) w 76 222 i0 (.agg eventZ) Tryz.underlying76 hi0 hz0 .i64 .i64 (n : Int) (n : Int) (by omega) (Int.le_refl _) (by rw [hz2]; omega) (by omega)
  rw [hz1] at h
  exact h

theorem cell_keptE {w w' : World} {b j : Nat} {v : Value} (hb : w'.heap[b]? = w.heap[b]?) (h : w.cell? ⟨b, j, none⟩ = some v) : w'.cell? ⟨b, j, none⟩ = some v := (World.cell?_of_block (a := ⟨b, j, none⟩) hb).trans h
/-- A row of events without words. -/
def EvsAt (w : World) (gg n : Nat) : Prop := ∀ j, j < n → ∃ (kind step core thread : Int) (c : CallD) (A1 : Option Addr) (c1 : Nat) (code count : Int) (A2 : Option Addr) (c2 : Nat), c.words = [] ∧ ∀ (k : Nat) (v : Value), (evCells kind step core thread c (.slice A1 0 c1) code count (.slice A2 0 c2))[k]? = some v → w.cell? ⟨gg, j * 13 + k, none⟩ = some v

set_option maxRecDepth 100000 in
set_option maxHeartbeats 8000000 in
theorem events_any (bb o gg n cap : Nat) (w : World) (hn : n ≤ 10000) (hb : w.cell? ⟨bb, o, none⟩ = some (.slice (some ⟨gg, 0, none⟩) n cap)) (hg : gg < w.heap.size) (hE : EvsAt w gg n) :
    Calls Tryz.prog 91 #[.pointer (some ⟨bb, o, none⟩)] w fun e w' => ∃ A, e = .returned (.slice A n n) ∧ Below w.heap.size w w' := by
  have lb := World.block_lt_of_cell? w _ hb
  have hmk := make_events n hn
  obtain ⟨w0, hw0⟩ : ∃ x, x = w.alloc (.cells (madeCells eventZ (n * 13)) 222) := ⟨_, rfl⟩
  have hB0 : Below w.heap.size w w0 := by rw [hw0]; exact (Below.refl _ _).alloc (Nat.le_refl _) _
  have hl0 : w0.heap[w.heap.size]? = some (.cells (madeCells eventZ (n * 13)) 222 (0, 0)) := by rw [hw0]; exact heap_alloc_new w _
  have hb0 : w0.cell? ⟨bb, o, none⟩ = some (.slice (some ⟨gg, 0, none⟩) n cap) := (World.cell?_of_block (a := ⟨bb, o, none⟩) (hB0.block bb lb)).trans hb
  have HE := Lib.hid hE
  have HL0 := Lib.hid hl0
  have HB0 := Lib.hid hB0
  have HW0 := Lib.hid hw0
  clear hE hw0 hB0 hl0
  go_enter Tryz.func91, Tryz.ntmps91
  go_wp2_with fail
  rw [← HW0.out]
  go_wp2
  go_loopw [4, 5, 19] (fun _ _ i wr => ∃ k : Nat, k ≤ n ∧ i = .int .i64 k ∧ (∃ cs : Array Value, cs.size = n * 13 ∧ wr.heap[w.heap.size]? = some (.cells cs 222 (0, 0))) ∧ Below w.heap.size w wr) (fun _ _ i _ => n - (intOf i).toNat)
  case atStart => exact ⟨0, Nat.zero_le _, rfl, ⟨_, size_madeCells _ _, HL0.out⟩, HB0.out⟩
  case round =>
    obtain ⟨k, hk, rfl, ⟨cs, hcs, hlb⟩, hbel⟩ := hrel
    obtain ⟨wo, rfl⟩ : ∃ wo : World, wo = wr := ⟨_, rfl⟩
    by_cases hlt : k < n
    · obtain ⟨kind, step, core, thread, c, A1, c1, code, count, A2, c2, hcw, hx0⟩ := HE.out k hlt
      have hx := fun (j : Nat) (v : Value) (h : (evCells kind step core thread c (.slice A1 0 c1) code count (.slice A2 0 c2))[j]? = some v) => cell_keptE (hbel.block gg hg) (hx0 j v h)
      have HC := Lib.hid (fun (W : World) => evClone_any kind step core thread c (.slice A1 0 c1) code count (.slice A2 0 c2) [] (fun _ => True) (by simp [hcw]) (by simp) W ⟨by simp [hcw, encInts], A1, c1, by simp [hcw], fun h => absurd h (by simp [hcw])⟩ ⟨rfl, A2, c2, rfl, fun h => absurd h (by simp)⟩)
      simp only [evCells, hcw, List.length_nil] at HC hx
      have x0 := hx 0 _ (by rfl)
      rw [Nat.add_zero] at x0
      have x1 := hx 1 _ (by rfl)
      have x2 := hx 2 _ (by rfl)
      have x3 := hx 3 _ (by rfl)
      have x4 := hx 4 _ (by rfl)
      have x5 := hx 5 _ (by rfl)
      have x6 := hx 6 _ (by rfl)
      have x7 := hx 7 _ (by rfl)
      have x8 := hx 8 _ (by rfl)
      have x9 := hx 9 _ (by rfl)
      have x10 := hx 10 _ (by rfl)
      have x11 := hx 11 _ (by rfl)
      have x12 := hx 12 _ (by rfl)
      have ll := lt_of_block hlb
      have lg : gg < wo.heap.size := by have := hbel.size; omega
      have hlc : (k : Int) < (n : Int) := by omega
      have HLB := Lib.hid hlb
      have HBEL := Lib.hid hbel
      have HCS := Lib.hid hcs
      clear hx hx0 hbel hlb hcs
      go_wp2_with fail
      go_at_call 168
      refine (HC.out _).mono ?_
      rintro e w4 ⟨A5, c5, A6, c6, rfl, hb4, _, _⟩
      have hs4 := hb4.size
      rw [World.size_alloc] at hs4
      have hl4 : w4.heap[w.heap.size]? = some (.cells cs 222 (0, 0)) := (hb4.block _ (by simp; omega)).trans ((Below.heap_alloc _ _ _ ll).trans HLB.out)
      have hy : ∀ j, j < 13 → ∃ v, w4.cell? ⟨w.heap.size, k * 13 + j, none⟩ = some v := fun j hj => ⟨_, (cell_of_block hl4 _).trans (Array.getElem?_eq_getElem (by rw [HCS.out]; omega))⟩
      obtain ⟨u0, y0⟩ := hy 0 (by omega)
      rw [Nat.add_zero] at y0
      obtain ⟨u1, y1⟩ := hy 1 (by omega)
      obtain ⟨u2, y2⟩ := hy 2 (by omega)
      obtain ⟨u3, y3⟩ := hy 3 (by omega)
      obtain ⟨u4, y4⟩ := hy 4 (by omega)
      obtain ⟨u5, y5⟩ := hy 5 (by omega)
      obtain ⟨u6, y6⟩ := hy 6 (by omega)
      obtain ⟨u7, y7⟩ := hy 7 (by omega)
      obtain ⟨u8, y8⟩ := hy 8 (by omega)
      obtain ⟨u9, y9⟩ := hy 9 (by omega)
      obtain ⟨u10, y10⟩ := hy 10 (by omega)
      obtain ⟨u11, y11⟩ := hy 11 (by omega)
      obtain ⟨u12, y12⟩ := hy 12 (by omega)
      have yf := free_of_block hl4
      have HL4 := Lib.hid hl4
      have HB4 := Lib.hid hb4
      clear hy hl4 hb4 x0 x1 x2 x3 x4 x5 x6 x7 x8 x9 x10 x11 x12
      go_wp2
      go_roundw
      case rel =>
        refine ⟨k + 1, by omega, by go_num, ⟨_, ?_, block_setCell (block_setCell (block_setCell (block_setCell (block_setCell (block_setCell (block_setCell (block_setCell (block_setCell (block_setCell (block_setCell (block_setCell (block_setCell (HL4.out) _ _) _ _) _ _) _ _) _ _) _ _) _ _) _ _) _ _) _ _) _ _) _ _) _ _⟩, ?_⟩
        · simp [HCS.out]
        · iterate 13 refine Below.setCell ?_ (by dsimp only; omega) _
          exact below_end (HBEL.out.alloc HBEL.out.size _) (Nat.le_refl _) HB4.out
      case measure => simp [intOf]; omega
    · have hk' : k = n := by omega
      subst hk'
      have HBEL := Lib.hid hbel
      clear hbel hlb
      go_wp2
      go_ret
      exact ⟨_, rfl, HBEL.out⟩
end Go.Proofs.YtefbdcmodfbpbaaGreat
