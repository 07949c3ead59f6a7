/-
  Small facts: what a run leaves, what is of a plan.
-/
import Derived.Test.YtpflejobkjdhdaaPlainP
import Derived.StillTailTactics
set_option linter.unusedVariables false
set_option linter.unusedSimpArgs false
namespace Go.Proofs.Ytpflejobkjdhdaa
open Go.RowKit

/-- Another frame on the same memory. -/
theorem Fr.other {w w' : World} {g g' : FG} {sl' : Value} {s s' : FS} (h : Fr w g (.slice none 0 0) s) (h' : Fr w' g' sl' s') (hb : w'.heap[g.fb]? = w.heap[g.fb]?) (hm : g'.mb = g.mb) (hw : g'.wb = g.wb) (hs : s.mem = s'.mem) : Fr w' g (.slice none 0 0) s :=
  ⟨by rw [hb]; exact h.fr, by rw [hs, ← hm, ← hw]; exact h'.mem, ownsRow_kept h.lg (fun k hk => by simp [Value.ownBlock] at hk), h.ne1, h.ne2, h.nf, h.nm, h.nw, h.room, h.at_le, h.li64⟩
theorem Reads.inn {w : World} {F : Nat → Prop} {v : Value} {n stride : Nat} {cells : List Value} (h : Reads w F v n stride cells) (hs : 0 < stride) : Reads w (fun k => F k ∧ k < w.heap.size) v n stride cells := by
  obtain ⟨h1, A, c, h2, h3⟩ := h
  refine ⟨h1, A, c, h2, fun hn => ?_⟩
  obtain ⟨b, o, e, hb, hc⟩ := h3 hn
  have hl : 0 < cells.length := by rw [h1]; exact Nat.mul_pos hn hs
  have h0 := hc 0 _ (List.getElem?_eq_getElem hl)
  exact ⟨b, o, e, ⟨hb, World.block_lt_of_cell? w _ h0⟩, hc⟩
theorem PlanVal.inn {w : World} {F : Nat → Prop} {v : Value} {P : PartD} (h : PlanVal w F v P) : PlanVal w (fun k => F k ∧ k < w.heap.size) v P := by
  obtain ⟨sT, sO, v1, v2, e, h1, h2, u1, u2, e2, ⟨ps, h3, h4, h5⟩, h6⟩ := h
  refine ⟨sT, sO, v1, v2, e, Reads.inn h1 (by omega), Reads.inn h2 (by omega), u1, u2, e2, ⟨ps, h3, h4.inn (by omega), fun i t u ht hu => ?_⟩, Reads.inn h6 (by omega)⟩
  obtain ⟨ws, h7, h8, h9⟩ := h5 i t u ht hu
  exact ⟨ws, h7, h8.inn (by omega), fun i c u hc hu => Reads.inn (h9 i c u hc hu) (by omega)⟩
theorem partWrong_six {P : PartD} (h : partWrong P = 0) : P.thr.length ≤ 6 := by
  unfold partWrong at h
  split at h
  · omega
  · omega

theorem Ev.toBelow {g : FG} {sl' : Value} {w w' : World} {B : Nat} (h : Ev g (.slice none 0 0) sl' w w') (h1 : B ≤ g.fb) (h2 : B ≤ g.wb) (hB : B ≤ w.heap.size) : Below B w w' :=
  ⟨h.os, h.tape, h.output, h.size, fun k hk => h.block k (by omega) (by omega) (by omega) (by simp [Value.ownBlock])⟩
theorem EvS.toBelow {S : Nat → Prop} {g : FG} {sl' : Value} {w w' : World} {B : Nat} (h : EvS S g (.slice none 0 0) sl' w w') (h1 : B ≤ g.fb) (h2 : B ≤ g.wb) (h3 : ∀ k, S k → B ≤ k) (hB : B ≤ w.heap.size) : Below B w w' :=
  ⟨h.os, h.tape, h.output, h.size, fun k hk => h.block k (by omega) (by omega) (by omega) (by simp [Value.ownBlock]) (fun hs => by have := h3 k hs; omega)⟩

theorem below_drewN {B : Nat} {a w : World} (h : Below B a w) (n : Nat) : Below B a (w.drewN n) := ⟨h.os, h.tape, h.output, h.size, h.block⟩
theorem below_end {B : Nat} {a b c : World} (h : Below B a b) (hB : B ≤ a.heap.size) (k : Below b.heap.size b c) : Below B a c := h.trans (k.mono (Nat.le_trans hB h.size))
end Go.Proofs.Ytpflejobkjdhdaa
