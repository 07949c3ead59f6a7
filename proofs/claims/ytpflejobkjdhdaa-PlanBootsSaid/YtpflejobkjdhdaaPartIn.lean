/-
  A partition that is read lies in blocks that there are.
-/
import Derived.Test.YtpflejobkjdhdaaMoreG
set_option linter.unusedVariables false
set_option linter.unusedSimpArgs false
namespace Go.Proofs.Ytpflejobkjdhdaa
open Go.RowKit

theorem PartAt.inn {w : World} {F : Nat → Prop} {v : Value} {P : PartD} (h : PartAt w F v P) : PartAt w (fun k => F k ∧ k < w.heap.size) v P := by
  obtain ⟨u1, u2, e2, ⟨ps, h3, h4, h5⟩, h6⟩ := h
  refine ⟨u1, u2, e2, ⟨ps, h3, h4.inn (by omega), fun i t u ht hu => ?_⟩, Reads.inn h6 (by omega)⟩
  obtain ⟨ws, h7, h8, h9⟩ := h5 i t u ht hu
  exact ⟨ws, h7, h8.inn (by omega), fun i c u hc hu => Reads.inn (h9 i c u hc hu) (by omega)⟩
end Go.Proofs.Ytpflejobkjdhdaa
