/-
  A body run in a new frame, that writes its results into one block of its own.
  A mover's runs.
-/
import Derived.Test.YtpidlgmigmbbbaaMoreG
import Derived.Test.YtpidlgmigmbbbaaBoot1
import Derived.Test.YtpidlgmigmbbbaaMover
import Derived.Test.YtpidlgmigmbbbaaRingLaw
set_option linter.unusedVariables false
set_option linter.unusedSimpArgs false
namespace Go.Proofs.Ytpidlgmigmbbbaa
open Go.RowKit

/-- As it was, but the block 'xb'. -/
structure SameBut (xb : Nat) (w w' : World) : Prop where
  os : w'.os = w.os
  tape : w'.tape = w.tape
  output : w'.output = w.output
  size : w'.heap.size = w.heap.size
  block : ∀ k, k ≠ xb → w'.heap[k]? = w.heap[k]?
theorem SameBut.refl (xb : Nat) (w : World) : SameBut xb w w := ⟨rfl, rfl, rfl, rfl, fun _ _ => rfl⟩
theorem SameBut.set {xb : Nat} {w w' : World} (h : SameBut xb w w') (k : Nat) (v : Value) : SameBut xb w (w'.setCell ⟨xb, k, none⟩ v) :=
  ⟨h.os, h.tape, h.output, (by simp [h.size]), fun j hj => (block_setCell_other _ _ _ hj).trans (h.block j hj)⟩
theorem SameBut.drew {xb : Nat} {w w' : World} (h : SameBut xb w w') : SameBut xb w w'.drew := ⟨h.os, h.tape, h.output, h.size, h.block⟩

set_option maxHeartbeats 800000 in
theorem frunB {α : Type} (w : World) (mb wb : Nat) (m : Mem) (hm : MemAt w mb wb m) (most : Nat) (hmost : most ≤ 100000) (nb : Nat) (recv : Value) (hfn : Enters nb) (p : Prog α) (ro : Option α) (sE : FS) (xb : Nat) (F : Nat → Prop)
    (I : World → Prop) (R : α → World → Prop)
    (hIk : ∀ w1 w2, I w1 → (∀ k, k < w1.heap.size → (F k ∨ k = xb) → w2.heap[k]? = w1.heap[k]?) → I w2)
    (hRk : ∀ x w1 w2, R x w1 → w2.heap[xb]? = w1.heap[xb]? → R x w2)
    (hI0 : I w) (hx : xb < w.heap.size ∧ xb ≠ mb ∧ xb ≠ wb) (hF : ∀ k, F k → k < w.heap.size ∧ k ≠ wb)
    (hbody : ∀ (w1 : World) (g : FG) (sl : Value) (s : FS) (x : α) (s1 : FS), Fr w1 g sl s → I w1 → (xb ≠ g.fb ∧ xb ≠ g.wb ∧ sl.ownBlock ≠ some xb) → Apart F g sl → (∀ k, F k → k < w1.heap.size) → exec p s = some (x, s1) →
      Calls Try.prog nb #[recv, .pointer (some ⟨g.fb, 0, none⟩)] w1 fun e w2 => e = .returned (.tuple #[]) ∧ ∃ sl2 wc, Fr wc g sl2 s1 ∧ Ev g sl sl2 w1 wc ∧ SameBut xb wc w2 ∧ I w2 ∧ R x w2)
    (hrun : runs p most 0 (FS.new m) none = some (ro, sE)) :
    Calls Try.prog 22 #[.pointer (some ⟨mb, 0, none⟩), bound nb recv, .int .i64 most] w fun e w2 => e = .returned (.bool sE.over) ∧ MemAt w2 mb wb sE.mem ∧ (∀ x, ro = some x → R x w2) ∧ Left (fun k => k = xb) wb w w2 := by
  obtain ⟨hx1, hx2, hx3⟩ := hx
  refine (frun w mb wb m hm most hmost nb recv hfn p ro sE (fun k => k = xb)
    (fun g sl wx => I wx ∧ Apart F g sl ∧ sl.ownBlock ≠ some xb ∧ w.heap.size ≤ wx.heap.size) (fun g sl r wx => R r wx ∧ sl.ownBlock ≠ some xb ∧ xb < wx.heap.size) ?_ ?_ ?_ ?_ hrun).mono ?_
  · refine ⟨hIk _ _ hI0 (fun k hk _ => Below.heap_alloc _ _ _ hk), fun k hk => ⟨?_, (hF k hk).2, by simp [Value.ownBlock]⟩, by simp [Value.ownBlock], by rw [World.size_alloc]; omega⟩
    show k ≠ w.heap.size
    have := (hF k hk).1
    omega
  · intro sl sl' s wa wb' hFr hI hE
    obtain ⟨i1, i2, i3, i4⟩ := hI
    have hxa : xb ≠ w.heap.size := by omega
    refine ⟨hIk _ _ i1 (fun k hk hFk => ?_), i2.ev hE (fun k hk => by have := (hF k hk).1; omega), ?_, Nat.le_trans i4 hE.size⟩
    · rcases hFk with h | h
      · exact hE.keep hk (i2 k h)
      · subst h; exact hE.keep hk ⟨hxa, hx3, i3⟩
    · rcases hE.own with e | ⟨b, e, hb⟩
      · rw [e]; exact i3
      · rw [e]; intro e'; cases e'; omega
  · intro sl sl' s x wa wb' hFr hI hE
    obtain ⟨i1, i2, i3⟩ := hI
    have hxa : xb ≠ w.heap.size := by omega
    refine ⟨hRk _ _ _ i1 (hE.keep i3 ⟨hxa, hx3, i2⟩), ?_, Nat.lt_of_lt_of_le i3 hE.size⟩
    rcases hE.own with e | ⟨b, e, hb⟩
    · rw [e]; exact i2
    · rw [e]; intro e'; cases e'; omega
  · intro wx sl s x s1 hFr hI _ hex
    obtain ⟨i1, i2, i3, i4⟩ := hI
    have hxa : xb ≠ w.heap.size := by omega
    refine (hbody wx ⟨w.heap.size, mb, wb⟩ sl s x s1 hFr i1 ⟨hxa, hx3, i3⟩ i2 (fun k hk => by have := (hF k hk).1; omega) hex).mono ?_
    rintro e w2 ⟨he, sl2, wc, hF2, hE2, hS, hI2, hR2⟩
    have hown : sl2.ownBlock ≠ some xb := by
      rcases hE2.own with e | ⟨b, e, hb⟩
      · rw [e]; exact i3
      · rw [e]; intro e'; cases e'; omega
    have hsz := hS.size
    have hsz2 := hE2.size
    refine ⟨he, sl2, hF2.kept (hS.block _ (Ne.symm hxa)) (hS.block _ (Ne.symm hx2)) (hS.block _ (Ne.symm hx3)) (fun k hk => hS.block _ (fun e => hown (by rw [hk, e]))), ⟨hI2, i2.ev hE2 (fun k hk => by have := (hF k hk).1; omega), hown, by omega⟩, ⟨hR2, hown, by omega⟩, ?_⟩
    refine ⟨hS.os.trans hE2.os, hS.tape.trans hE2.tape, hS.output.trans hE2.output, by omega, fun k h1 h2 h3 h4 h5 => (hS.block k h5).trans (hE2.block k h1 h2 h3 h4), hE2.own⟩
  · rintro e w2 ⟨he, sl, hF2, hB, hL⟩
    exact ⟨he, hF2.mem, fun x hx => (hB x hx).1, hL⟩
end Go.Proofs.Ytpidlgmigmbbbaa
namespace Go.Proofs.Ytpidlgmigmbbbaa
open Go.RowKit

theorem tot_counts (a : Int) : Tot (kCounts a) := by
  unfold kCounts
  exact (Tot.ld _).bind fun _ => (Tot.ld _).bind fun _ => Tot.pure _
theorem tot_rput (a c v : Int) : Tot (kRPut a c v) := by
  unfold kRPut
  exact (tot_counts _).bind fun _ => Tot.off.bind fun _ => Tot.ite (Tot.pure _) (Tot.ite (Tot.pure _) ((Tot.st _ _).bind fun _ => (Tot.st _ _).bind fun _ => Tot.off.bind fun _ => Tot.pure _))
theorem tot_rget (a c : Int) : Tot (kRGet a c) := by
  unfold kRGet
  exact (tot_counts _).bind fun _ => Tot.off.bind fun _ => Tot.ite (Tot.pure _) (Tot.ite (Tot.pure _) ((Tot.ld _).bind fun _ => (Tot.st _ _).bind fun _ => Tot.off.bind fun _ => Tot.ite (Tot.pure _) (Tot.pure _)))

theorem enters_mget : Enters 35 := by
  intro args w
  go_simp
theorem enters_mput : Enters 36 := by
  intro args w
  go_simp
/-- What a run leaves: the memory reads 'g', the block 'xb' holds 'cs'. -/
def RanB (w : World) (mb wb xb n : Nat) (g : Int → Int) (cs : Array Value) (t : TypeId) (e : Ending) (w2 : World) : Prop :=
  e = .returned (.bool true) ∧ ∃ m', MemAt w2 mb wb m' ∧ rdM m' = g ∧ m'.length = n ∧ w2.heap[xb]? = some (.cells cs t (0, 0)) ∧ Left (fun k => k = xb) wb w w2

theorem moverGetRun (P : PartD) (hn : P.thr.length ≤ 6) (hn2 : P.obj.length ≤ 8) (hr : RingOk P) (F : Nat → Prop) (xb : Nat) (o v : Int) (ok : Bool) (hk : isKB P o 6 = true) (sT sO v1 v2 : Value) (mb wb : Nat) (m : Mem) (w : World) (hm : MemAt w mb wb m)
    (h0 : w.heap[xb]? = some (.cells (mvArr sT sO v1 v2 (planWords P) o v ok) 107 (0, 0))) (hP : PlanVal w F (.agg (planArr sT sO v1 v2 (planWords P))) P) (hx : xb ≠ mb ∧ xb ≠ wb) (hF : ∀ k, F k → k < w.heap.size ∧ k ≠ wb ∧ k ≠ xb)
    (r : Int × Bool) (g : Int → Int) (c : Nat) (hd : Does (kRGet (obAt P.thr.length o + 4) (objD P o).size) m r g c) (hc : c ≤ 100) :
    Calls Try.prog 22 #[.pointer (some ⟨mb, 0, none⟩), bound 35 (.pointer (some ⟨xb, 0, none⟩)), .int .i64 100] w (RanB w mb wb xb m.length g (mvArr sT sO v1 v2 (planWords P) o r.1 r.2) 107) := by
  obtain ⟨sE, hrun, hov, hg, hl⟩ := hd.runs (tot_rget _ _) (most := 100) hc (by omega)
  refine (frunB w mb wb m hm 100 (by omega) _ (.pointer (some ⟨xb, 0, none⟩)) enters_mget (kRGet (obAt P.thr.length o + 4) (objD P o).size) (some r) sE xb F
    (fun w => (∃ v ok, w.heap[xb]? = some (.cells (mvArr sT sO v1 v2 (planWords P) o v ok) 107 (0, 0))) ∧ PlanVal w F (.agg (planArr sT sO v1 v2 (planWords P))) P)
    (fun r w => w.heap[xb]? = some (.cells (mvArr sT sO v1 v2 (planWords P) o r.1 r.2) 107 (0, 0))) ?_ (fun x w1 w2 h h' => h'.trans h) ⟨⟨v, ok, h0⟩, hP⟩ ⟨lt_of_block h0, hx⟩ (fun k hk => ⟨(hF k hk).1, (hF k hk).2.1⟩) ?_ hrun).mono ?_
  · rintro w1 w2 ⟨⟨v', ok', h1⟩, h2⟩ hk2
    exact ⟨⟨v', ok', (hk2 xb (lt_of_block h1) (.inr rfl)).trans h1⟩, h2.kept (fun k hk hF => hk2 k hk (.inl hF))⟩
  · rintro w1 gg sl s x s1 hFr ⟨⟨v', ok', h1⟩, h2⟩ hap ha hlt hex
    refine (moverGet_any P hn hn2 hr F xb o v' ok' hk w1 gg sl s hFr ⟨_, _, _, _, h1, h2⟩ hap ha hlt x s1 hex).mono ?_
    rintro e w2 ⟨sl2, wc, he, hF2, hE2, rfl⟩
    have hb := (hE2.keep (lt_of_block h1) hap).trans h1
    have hb2 := set_blockK (set_blockK hb 15 (.int .i64 x.1)) 16 (.bool x.2)
    refine ⟨he, sl2, wc, hF2, hE2, ((SameBut.refl _ _).set _ _).set _ _, ⟨⟨x.1, x.2, hb2⟩, (h2.ev ha hE2).kept (fun k _ hFk => ?_)⟩, hb2⟩
    rw [block_setCell_other _ _ _ (hF k hFk).2.2, block_setCell_other _ _ _ (hF k hFk).2.2]
  · rintro e w2 ⟨he, hm2, hR, hL⟩
    exact ⟨by rw [he, hov], sE.mem, hm2, hg, hl, hR r rfl, hL⟩
theorem moverPutRun (P : PartD) (hn : P.thr.length ≤ 6) (hn2 : P.obj.length ≤ 8) (hr : RingOk P) (F : Nat → Prop) (xb : Nat) (o v : Int) (ok : Bool) (hv : I64 v) (hk : isKB P o 7 = true) (sT sO v1 v2 : Value) (mb wb : Nat) (m : Mem) (w : World) (hm : MemAt w mb wb m)
    (h0 : w.heap[xb]? = some (.cells (mvArr sT sO v1 v2 (planWords P) o v ok) 107 (0, 0))) (hP : PlanVal w F (.agg (planArr sT sO v1 v2 (planWords P))) P) (hx : xb ≠ mb ∧ xb ≠ wb) (hF : ∀ k, F k → k < w.heap.size ∧ k ≠ wb ∧ k ≠ xb)
    (r : Bool) (g : Int → Int) (c : Nat) (hd : Does (kRPut (obAt P.thr.length o + 4) (objD P o).size v) m r g c) (hc : c ≤ 100) :
    Calls Try.prog 22 #[.pointer (some ⟨mb, 0, none⟩), bound 36 (.pointer (some ⟨xb, 0, none⟩)), .int .i64 100] w (RanB w mb wb xb m.length g (mvArr sT sO v1 v2 (planWords P) o v r) 107) := by
  obtain ⟨sE, hrun, hov, hg, hl⟩ := hd.runs (tot_rput _ _ _) (most := 100) hc (by omega)
  refine (frunB w mb wb m hm 100 (by omega) _ (.pointer (some ⟨xb, 0, none⟩)) enters_mput (kRPut (obAt P.thr.length o + 4) (objD P o).size v) (some r) sE xb F
    (fun w => (∃ ok, w.heap[xb]? = some (.cells (mvArr sT sO v1 v2 (planWords P) o v ok) 107 (0, 0))) ∧ PlanVal w F (.agg (planArr sT sO v1 v2 (planWords P))) P)
    (fun r w => w.heap[xb]? = some (.cells (mvArr sT sO v1 v2 (planWords P) o v r) 107 (0, 0))) ?_ (fun x w1 w2 h h' => h'.trans h) ⟨⟨ok, h0⟩, hP⟩ ⟨lt_of_block h0, hx⟩ (fun k hk => ⟨(hF k hk).1, (hF k hk).2.1⟩) ?_ hrun).mono ?_
  · rintro w1 w2 ⟨⟨ok', h1⟩, h2⟩ hk2
    exact ⟨⟨ok', (hk2 xb (lt_of_block h1) (.inr rfl)).trans h1⟩, h2.kept (fun k hk hF => hk2 k hk (.inl hF))⟩
  · rintro w1 gg sl s x s1 hFr ⟨⟨ok', h1⟩, h2⟩ hap ha hlt hex
    refine (moverPut_any P hn hn2 hr F xb o v ok' hv hk w1 gg sl s hFr ⟨_, _, _, _, h1, h2⟩ hap ha hlt x s1 hex).mono ?_
    rintro e w2 ⟨sl2, wc, he, hF2, hE2, rfl⟩
    have hb := (hE2.keep (lt_of_block h1) hap).trans h1
    have hb2 := set_blockK hb 16 (.bool x)
    refine ⟨he, sl2, wc, hF2, hE2, (SameBut.refl _ _).set _ _, ⟨⟨x, hb2⟩, (h2.ev ha hE2).kept (fun k _ hFk => ?_)⟩, hb2⟩
    rw [block_setCell_other _ _ _ (hF k hFk).2.2]
  · rintro e w2 ⟨he, hm2, hR, hL⟩
    exact ⟨by rw [he, hov], sE.mem, hm2, hg, hl, hR r rfl, hL⟩
end Go.Proofs.Ytpidlgmigmbbbaa
