/-
  Partitions of threads alone, as literals in memory; what FewPart gives.
-/
import Derived.Test.YtpflejobkjdhdaaNode
import Derived.Test.YtpflejobkjdhdaaOf
import Derived.Test.YtpflejobkjdhdaaFew
set_option linter.unusedVariables false
set_option linter.unusedSimpArgs false
namespace Go.Proofs.Ytpflejobkjdhdaa
open Go.RowKit

/-- A partition of threads alone, of the given priorities. -/
def plainPart (ps : List Int) : PartD := { thr := ps.map fun p => { prio := p, caps := 0, control := false, prog := [] }, obj := [] }
theorem plain_enc : ∀ (ps : List Int) (l : List Value), l = ps.flatMap (fun p => [Value.int .i64 p, .int .u32 0, .bool false, .slice none 0 0]) → encThreads (plainPart ps).thr (List.replicate ps.length (.slice none 0 0)) = l
  | [], l, h => by subst h; rfl
  | p :: ps, l, h => by
    subst h
    have := plain_enc ps _ rfl
    simp only [plainPart, List.map_cons, List.length_cons, List.replicate_succ, encThreads, List.flatMap_cons] at this ⊢
    rw [this]; rfl
theorem nil_calls (w : World) (F : Nat → Prop) : CallsAt w F (.slice none 0 0) [] := ⟨[], rfl, ⟨rfl, none, 0, rfl, fun h => absurd h (by simp)⟩, fun i c u h => by simp at h⟩
/-- A literal slice of such threads, in a block of its own. -/
theorem plainPart_at (w : World) (b : Nat) (ps : List Int) (n : Nat) (hn : ps.length = n) (cs : Array Value) (h : w.heap[b]? = some (.cells cs 48 (0, 0))) (hc : cs = (ps.flatMap (fun p => [Value.int .i64 p, .int .u32 0, .bool false, .slice none 0 0])).toArray) :
    PartAt w (fun _ => True) (.agg #[.slice (some ⟨b, 0, none⟩) n n, .slice none 0 0]) (plainPart ps) := by
  subst hn
  refine ⟨_, _, rfl, ⟨List.replicate ps.length (.slice none 0 0), by simp [plainPart], ?_, ?_⟩, ⟨rfl, none, 0, rfl, fun h => absurd h (by simp [plainPart])⟩⟩
  · refine ⟨?_, some ⟨b, 0, none⟩, ps.length, by simp [plainPart], fun _ => ⟨b, 0, rfl, trivial, fun j u hu => ?_⟩⟩
    · exact encThreads_length _ _ (by simp [plainPart])
    · rw [plain_enc ps _ rfl] at hu
      rw [Nat.zero_add, cell_of_block h, hc]
      simpa using hu
  · intro i t u ht hu
    have hu' : u = .slice none 0 0 := by
      have := List.mem_of_getElem? hu
      exact List.eq_of_mem_replicate this
    have ht' : t.prog = [] := by
      have := List.mem_of_getElem? ht
      simp only [plainPart, List.mem_map] at this
      obtain ⟨p, _, rfl⟩ := this
      rfl
    rw [hu', ht']
    exact nil_calls w _
theorem plainPart_ok (ps : List Int) (h : ps.length ≤ 100) : PartOk (plainPart ps) := by
  refine ⟨?_, by simpa [plainPart] using h, by simp [plainPart], ?_⟩
  · intro t ht
    simp only [plainPart, List.mem_map] at ht
    obtain ⟨p, _, rfl⟩ := ht
    exact ⟨by show (0 : Int) ≤ 0; omega, by show (0 : Int) < _; omega⟩
  · intro t ht
    simp only [plainPart, List.mem_map] at ht
    obtain ⟨p, _, rfl⟩ := ht
    exact ⟨by simp, fun c hc => by simp at hc⟩
theorem fewB_partOk {P : PartD} (h : fewB P = true) (hc : CapsOk P.thr) : PartOk P := by
  obtain ⟨h1, h2, h3⟩ := fewB_ok h
  exact ⟨hc, by omega, by omega, fun t ht => ⟨by have := (h3 t ht).1; omega, fun c hcc => by have := (h3 t ht).2 c hcc; unfold CallOk; omega⟩⟩

end Go.Proofs.Ytpflejobkjdhdaa
