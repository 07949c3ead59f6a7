/-
  Partitions of threads alone, as literals in memory; what FewPart gives.
  Small facts: what a run leaves, what is of a plan.
  A partition that is read lies in blocks that there are.
-/
import Derived.Test.YtefbdcmodfbpbaaGreatNode
import Derived.Test.YtefbdcmodfbpbaaGreatOf
import Derived.Test.YtefbdcmodfbpbaaGreatFew
import Derived.StillTailTactics
set_option linter.unusedVariables false
set_option linter.unusedSimpArgs false
namespace Go.Proofs.YtefbdcmodfbpbaaGreat
open Go.RowKit

/-- A partition of threads alone, of the given priorities. -/
def plainPart (ps : List Int) : PartD := { thr := ps.map fun p => { prio := p, caps := 0, control := false, prog := [] }, obj := [] }
theorem plain_enc : ∀ (ps : List Int) (l : List Value), l = ps.flatMap (fun p => [Value.int .i64 p, .int .u32 0, .bool false, .slice none 0 0]) → encThreads (plainPart ps).thr (List.replicate ps.length (.slice none 0 0)) = l
  | [], l, h => by subst h; rfl
  | p :: ps, l, h => by
    subst h
    have := plain_enc ps _ rfl
    simp only [plainPart, List.map_cons, List.length_cons, List.replicate_succ, encThreads, List.flatMap_cons] at this ⊢
    rw [this]; rfl
theorem nil_calls (w : World) (F : Nat → Prop) : CallsAt w F (.slice none 0 0) [] := ⟨[], rfl, ⟨rfl, none, 0, rfl, fun h => absurd h (by simp)⟩, fun i c u h => by simp at h⟩
/-- A literal slice of such threads, in a block of its own. -/
theorem plainPart_at (w : World) (b : Nat) (ps : List Int) (n : Nat) (hn : ps.length = n) (cs : Array Value) (h : w.heap[b]? = some (.cells cs 105 (0, 0))) (hc : cs = (ps.flatMap (fun p => [Value.int .i64 p, .int .u32 0, .bool false, .slice none 0 0])).toArray) :
    PartAt w (fun _ => True) (.agg #[.slice (some ⟨b, 0, none⟩) n n, .slice none 0 0]) (plainPart ps) := by
  subst hn
  refine ⟨_, _, rfl, ⟨List.replicate ps.length (.slice none 0 0), by simp [plainPart], ?_, ?_⟩, ⟨rfl, none, 0, rfl, fun h => absurd h (by simp [plainPart])⟩⟩
  · refine ⟨?_, some ⟨b, 0, none⟩, ps.length, by simp [plainPart], fun _ => ⟨b, 0, rfl, trivial, fun j u hu => ?_⟩⟩
    · exact encThreads_length _ _ (by simp [plainPart])
    · rw [plain_enc ps _ rfl] at hu
      rw [Nat.zero_add, cell_of_block h, hc]
      simpa using hu
  · intro i t u ht hu
    have hu' : u = .slice none 0 0 := by
      have := List.mem_of_getElem? hu
      exact List.eq_of_mem_replicate this
    have ht' : t.prog = [] := by
      have := List.mem_of_getElem? ht
      simp only [plainPart, List.mem_map] at this
      obtain ⟨p, _, rfl⟩ := this
      rfl
    rw [hu', ht']
    exact nil_calls w _
theorem plainPart_ok (ps : List Int) (h : ps.length ≤ 100) : PartOk (plainPart ps) := by
  refine ⟨?_, by simpa [plainPart] using h, by simp [plainPart], ?_⟩
  · intro t ht
    simp only [plainPart, List.mem_map] at ht
    obtain ⟨p, _, rfl⟩ := ht
    exact ⟨by show (0 : Int) ≤ 0; omega, by show (0 : Int) < _; omega⟩
  · intro t ht
    simp only [plainPart, List.mem_map] at ht
    obtain ⟨p, _, rfl⟩ := ht
    exact ⟨by simp, fun c hc => by simp at hc⟩
theorem fewB_partOk {P : PartD} (h : fewB P = true) (hc : CapsOk P.thr) : PartOk P := by
  obtain ⟨h1, h2, h3⟩ := fewB_ok h
  exact ⟨hc, by omega, by omega, fun t ht => ⟨by have := (h3 t ht).1; omega, fun c hcc => by have := (h3 t ht).2 c hcc; unfold CallOk; omega⟩⟩

end Go.Proofs.YtefbdcmodfbpbaaGreat
namespace Go.Proofs.YtefbdcmodfbpbaaGreat
open Go.RowKit

/-- Another frame on the same memory. -/
theorem Fr.other {w w' : World} {g g' : FG} {sl' : Value} {s s' : FS} (h : Fr w g (.slice none 0 0) s) (h' : Fr w' g' sl' s') (hb : w'.heap[g.fb]? = w.heap[g.fb]?) (hm : g'.mb = g.mb) (hw : g'.wb = g.wb) (hs : s.mem = s'.mem) : Fr w' g (.slice none 0 0) s :=
  ⟨by rw [hb]; exact h.fr, by rw [hs, ← hm, ← hw]; exact h'.mem, ownsRow_kept h.lg (fun k hk => by simp [Value.ownBlock] at hk), h.ne1, h.ne2, h.nf, h.nm, h.nw, h.room, h.at_le, h.li64⟩
theorem Reads.inn {w : World} {F : Nat → Prop} {v : Value} {n stride : Nat} {cells : List Value} (h : Reads w F v n stride cells) (hs : 0 < stride) : Reads w (fun k => F k ∧ k < w.heap.size) v n stride cells := by
  obtain ⟨h1, A, c, h2, h3⟩ := h
  refine ⟨h1, A, c, h2, fun hn => ?_⟩
  obtain ⟨b, o, e, hb, hc⟩ := h3 hn
  have hl : 0 < cells.length := by rw [h1]; exact Nat.mul_pos hn hs
  have h0 := hc 0 _ (List.getElem?_eq_getElem hl)
  exact ⟨b, o, e, ⟨hb, World.block_lt_of_cell? w _ h0⟩, hc⟩
theorem PlanVal.inn {w : World} {F : Nat → Prop} {v : Value} {P : PartD} (h : PlanVal w F v P) : PlanVal w (fun k => F k ∧ k < w.heap.size) v P := by
  obtain ⟨sT, sO, v1, v2, e, h1, h2, u1, u2, e2, ⟨ps, h3, h4, h5⟩, h6⟩ := h
  refine ⟨sT, sO, v1, v2, e, Reads.inn h1 (by omega), Reads.inn h2 (by omega), u1, u2, e2, ⟨ps, h3, h4.inn (by omega), fun i t u ht hu => ?_⟩, Reads.inn h6 (by omega)⟩
  obtain ⟨ws, h7, h8, h9⟩ := h5 i t u ht hu
  exact ⟨ws, h7, h8.inn (by omega), fun i c u hc hu => Reads.inn (h9 i c u hc hu) (by omega)⟩
theorem partWrong_six {P : PartD} (h : partWrong P = 0) : P.thr.length ≤ 6 := by
  unfold partWrong at h
  split at h
  · omega
  · omega

theorem Ev.toBelow {g : FG} {sl' : Value} {w w' : World} {B : Nat} (h : Ev g (.slice none 0 0) sl' w w') (h1 : B ≤ g.fb) (h2 : B ≤ g.wb) (hB : B ≤ w.heap.size) : Below B w w' :=
  ⟨h.os, h.tape, h.output, h.size, fun k hk => h.block k (by omega) (by omega) (by omega) (by simp [Value.ownBlock])⟩
theorem EvS.toBelow {S : Nat → Prop} {g : FG} {sl' : Value} {w w' : World} {B : Nat} (h : EvS S g (.slice none 0 0) sl' w w') (h1 : B ≤ g.fb) (h2 : B ≤ g.wb) (h3 : ∀ k, S k → B ≤ k) (hB : B ≤ w.heap.size) : Below B w w' :=
  ⟨h.os, h.tape, h.output, h.size, fun k hk => h.block k (by omega) (by omega) (by omega) (by simp [Value.ownBlock]) (fun hs => by have := h3 k hs; omega)⟩

theorem below_drewN {B : Nat} {a w : World} (h : Below B a w) (n : Nat) : Below B a (w.drewN n) := ⟨h.os, h.tape, h.output, h.size, h.block⟩
theorem below_end {B : Nat} {a b c : World} (h : Below B a b) (hB : B ≤ a.heap.size) (k : Below b.heap.size b c) : Below B a c := h.trans (k.mono (Nat.le_trans hB h.size))
end Go.Proofs.YtefbdcmodfbpbaaGreat
namespace Go.Proofs.YtefbdcmodfbpbaaGreat
open Go.RowKit

theorem PartAt.inn {w : World} {F : Nat → Prop} {v : Value} {P : PartD} (h : PartAt w F v P) : PartAt w (fun k => F k ∧ k < w.heap.size) v P := by
  obtain ⟨u1, u2, e2, ⟨ps, h3, h4, h5⟩, h6⟩ := h
  refine ⟨u1, u2, e2, ⟨ps, h3, h4.inn (by omega), fun i t u ht hu => ?_⟩, Reads.inn h6 (by omega)⟩
  obtain ⟨ws, h7, h8, h9⟩ := h5 i t u ht hu
  exact ⟨ws, h7, h8.inn (by omega), fun i c u hc hu => Reads.inn (h9 i c u hc hu) (by omega)⟩
end Go.Proofs.YtefbdcmodfbpbaaGreat
