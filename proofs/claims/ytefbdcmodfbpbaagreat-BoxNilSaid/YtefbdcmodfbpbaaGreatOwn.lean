/-
  A body run in a new frame, that writes a block of its own whenever it likes; what a world keeps of such a block.
-/
import Derived.Test.YtefbdcmodfbpbaaGreatMoreG
import Derived.Test.YtefbdcmodfbpbaaGreatBoot1
set_option linter.unusedVariables false
set_option linter.unusedSimpArgs false
namespace Go.Proofs.YtefbdcmodfbpbaaGreat
open Go.RowKit

theorem EvS.refl (S : Nat → Prop) (g : FG) (sl : Value) (w : World) : EvS S g sl sl w w := (Ev.refl g sl w).toS S
theorem EvS.set (xb : Nat) (g : FG) (sl : Value) (w : World) (k : Nat) (v : Value) : EvS (fun j => j = xb) g sl sl w (w.setCell ⟨xb, k, none⟩ v) :=
  ⟨rfl, rfl, rfl, by simp [World.setCell], fun i _ _ _ _ hs => block_setCell_other _ _ _ hs, .inl rfl⟩
theorem EvS.keep {S : Nat → Prop} {g : FG} {sl sl' : Value} {w w' : World} (h : EvS S g sl sl' w w') {k : Nat} (hk : k < w.heap.size) (ha : k ≠ g.fb ∧ k ≠ g.wb ∧ sl.ownBlock ≠ some k) (hs : ¬ S k) : w'.heap[k]? = w.heap[k]? := h.block k hk ha.1 ha.2.1 ha.2.2 hs
theorem Apart.evS {S F : Nat → Prop} {g : FG} {sl sl' : Value} {w w' : World} (h : Apart F g sl) (hE : EvS S g sl sl' w w') (hF : ∀ k, F k → k < w.heap.size) : Apart F g sl' := by
  intro k hk
  obtain ⟨h1, h2, h3⟩ := h k hk
  refine ⟨h1, h2, ?_⟩
  rcases hE.own with e | ⟨b, e, hb⟩
  · rw [e]; exact h3
  · rw [e]; intro e'; cases e'; have := hF k hk; omega
/-- A block apart from the frame's own, written: the frame's state stays. -/
theorem Fr.setOwn {w : World} {g : FG} {sl : Value} {s : FS} (h : Fr w g sl s) {xb : Nat} (hA : xb ≠ g.fb ∧ xb ≠ g.wb ∧ sl.ownBlock ≠ some xb) (hm : xb ≠ g.mb) (k : Nat) (v : Value) : Fr (w.setCell ⟨xb, k, none⟩ v) g sl s := by
  have hb : ∀ j, j ≠ xb → (w.setCell ⟨xb, k, none⟩ v).heap[j]? = w.heap[j]? := fun j hj => block_setCell_other _ _ _ hj
  exact h.kept (hb _ (Ne.symm hA.1)) (hb _ (Ne.symm hm)) (hb _ (Ne.symm hA.2.1)) (fun j hj => hb _ (fun e => hA.2.2 (by rw [hj, e])))

/-- As it was, but the block 'xb'. -/
structure SameBut (xb : Nat) (w w' : World) : Prop where
  os : w'.os = w.os
  tape : w'.tape = w.tape
  output : w'.output = w.output
  size : w'.heap.size = w.heap.size
  block : ∀ k, k ≠ xb → w'.heap[k]? = w.heap[k]?
theorem SameBut.refl (xb : Nat) (w : World) : SameBut xb w w := ⟨rfl, rfl, rfl, rfl, fun _ _ => rfl⟩
theorem SameBut.set {xb : Nat} {w w' : World} (h : SameBut xb w w') (k : Nat) (v : Value) : SameBut xb w (w'.setCell ⟨xb, k, none⟩ v) :=
  ⟨h.os, h.tape, h.output, (by simp [h.size]), fun j hj => (block_setCell_other _ _ _ hj).trans (h.block j hj)⟩
theorem SameBut.drew {xb : Nat} {w w' : World} (h : SameBut xb w w') : SameBut xb w w'.drew := ⟨h.os, h.tape, h.output, h.size, h.block⟩

theorem SameBut.trans {xb : Nat} {a b c : World} (h : SameBut xb a b) (k : SameBut xb b c) : SameBut xb a c := ⟨k.os.trans h.os, k.tape.trans h.tape, k.output.trans h.output, k.size.trans h.size, fun j hj => (k.block j hj).trans (h.block j hj)⟩
theorem Fr.sameBut {w w' : World} {g : FG} {sl : Value} {s : FS} (h : Fr w g sl s) {xb : Nat} (hA : xb ≠ g.fb ∧ xb ≠ g.wb ∧ sl.ownBlock ≠ some xb) (hm : xb ≠ g.mb) (hs : SameBut xb w w') : Fr w' g sl s :=
  h.kept (hs.block _ (Ne.symm hA.1)) (hs.block _ (Ne.symm hm)) (hs.block _ (Ne.symm hA.2.1)) (fun j hj => hs.block _ (fun e => hA.2.2 (by rw [hj, e])))
theorem SameBut.evS {xb : Nat} {w w' : World} (hs : SameBut xb w w') (g : FG) (sl : Value) : EvS (fun j => j = xb) g sl sl w w' :=
  ⟨hs.os, hs.tape, hs.output, by rw [hs.size]; exact Nat.le_refl _, fun k _ _ _ _ h => hs.block k h, .inl rfl⟩

set_option maxHeartbeats 800000 in
/-- As 'frunB', for a body that writes its block in the midst, too. -/
theorem frunC {α : Type} (w : World) (mb wb : Nat) (m : Mem) (hm : MemAt w mb wb m) (most : Nat) (hmost : most ≤ 100000) (nb : Nat) (recv : Value) (hfn : Enters nb) (p : Prog α) (ro : Option α) (sE : FS) (xb : Nat) (F : Nat → Prop)
    (I : World → Prop) (R : Value → α → World → Prop)
    (hIk : ∀ w1 w2, I w1 → (∀ k, k < w1.heap.size → (F k ∨ k = xb) → w2.heap[k]? = w1.heap[k]?) → I w2)
    (hI0 : I w) (hx : xb < w.heap.size ∧ xb ≠ mb ∧ xb ≠ wb) (hF : ∀ k, F k → k < w.heap.size ∧ k ≠ wb)
    (hbody : ∀ (w1 : World) (sl : Value) (s : FS) (x : α) (s1 : FS), Fr w1 ⟨w.heap.size, mb, wb⟩ sl s → I w1 → xb < w1.heap.size → (xb ≠ w.heap.size ∧ xb ≠ wb ∧ sl.ownBlock ≠ some xb) → xb ≠ mb → Apart F ⟨w.heap.size, mb, wb⟩ sl → (∀ k, F k → k < w1.heap.size) → exec p s = some (x, s1) →
      Calls Tryz.prog nb #[recv, .pointer (some ⟨w.heap.size, 0, none⟩)] w1 fun e w2 => e = .returned (.tuple #[]) ∧ ∃ sl2, Fr w2 ⟨w.heap.size, mb, wb⟩ sl2 s1 ∧ EvS (fun k => k = xb) ⟨w.heap.size, mb, wb⟩ sl sl2 w1 w2 ∧ I w2 ∧ R sl2 x w2)
    (hRs : ∀ x (sl sl' : Value) (s : FS) w1 w2, R sl x w1 → Fr w1 ⟨w.heap.size, mb, wb⟩ sl s → Ev ⟨w.heap.size, mb, wb⟩ sl sl' w1 w2 → R sl' x w2)
    (hrun : runs p most 0 (FS.new m) none = some (ro, sE)) :
    Calls Tryz.prog 83 #[.pointer (some ⟨mb, 0, none⟩), bound nb recv, .int .i64 most] w fun e w2 => e = .returned (.bool sE.over) ∧ MemAt w2 mb wb sE.mem ∧ (∃ sl, Fr w2 ⟨w.heap.size, mb, wb⟩ sl sE ∧ ∀ x, ro = some x → R sl x w2) ∧ Left (fun k => k = xb) wb w w2 := by
  obtain ⟨hx1, hx2, hx3⟩ := hx
  refine (frun w mb wb m hm most hmost nb recv hfn p ro sE (fun k => k = xb)
    (fun g sl wx => I wx ∧ Apart F g sl ∧ sl.ownBlock ≠ some xb ∧ w.heap.size ≤ wx.heap.size) (fun g sl r wx => R sl r wx) ?_ ?_ ?_ ?_ hrun).mono ?_
  · refine ⟨hIk _ _ hI0 (fun k hk _ => Below.heap_alloc _ _ _ hk), fun k hk => ⟨?_, (hF k hk).2, by simp [Value.ownBlock]⟩, by simp [Value.ownBlock], by rw [World.size_alloc]; omega⟩
    show k ≠ w.heap.size
    have := (hF k hk).1
    omega
  · intro sl sl' s wa wb' hFr hI hE
    obtain ⟨i1, i2, i3, i4⟩ := hI
    have hxa : xb ≠ w.heap.size := by omega
    refine ⟨hIk _ _ i1 (fun k hk hFk => ?_), i2.ev hE (fun k hk => by have := (hF k hk).1; omega), ?_, Nat.le_trans i4 hE.size⟩
    · rcases hFk with h | h
      · exact hE.keep hk (i2 k h)
      · subst h; exact hE.keep hk ⟨hxa, hx3, i3⟩
    · rcases hE.own with e | ⟨b, e, hb⟩
      · rw [e]; exact i3
      · rw [e]; intro e'; cases e'; omega
  · intro sl sl' s x wa wb' hFr hI hE
    exact hRs x sl sl' s wa wb' hI hFr hE
  · intro wx sl s x s1 hFr hI hlt hex
    obtain ⟨i1, i2, i3, i4⟩ := hI
    have hxa : xb ≠ w.heap.size := by omega
    refine (hbody wx sl s x s1 hFr i1 (by omega) ⟨hxa, hx3, i3⟩ hx2 i2 (fun k hk => by have := (hF k hk).1; omega) hex).mono ?_
    rintro e w2 ⟨he, sl2, hF2, hE2, hI2, hR2⟩
    refine ⟨he, sl2, hF2, ⟨hI2, i2.evS hE2 (fun k hk => by have := (hF k hk).1; omega), ?_, Nat.le_trans i4 hE2.size⟩, hR2, hE2⟩
    rcases hE2.own with e | ⟨b, e, hb⟩
    · rw [e]; exact i3
    · rw [e]; intro e'; cases e'; omega
  · rintro e w2 ⟨he, sl, hF2, hB, hL⟩
    exact ⟨he, hF2.mem, ⟨sl, hF2, hB⟩, hL⟩
end Go.Proofs.YtefbdcmodfbpbaaGreat
