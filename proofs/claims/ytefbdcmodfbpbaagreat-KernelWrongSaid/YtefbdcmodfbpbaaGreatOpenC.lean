/-
  A call among a claim's arguments, opened.
-/
import Derived.Test.YtefbdcmodfbpbaaGreatOpen
set_option linter.unusedVariables false
set_option linter.unusedSimpArgs false
namespace Go.Proofs.YtefbdcmodfbpbaaGreat
open Go.RowKit
section
variable {H : Type} {enc : TypeId × Value → H} {w : World} {base : Nat} {spare : Nat → Bool} {held : Bool}
set_option maxRecDepth 100000 in
theorem open_call_arg {r : Reach} {b0 : Nat} {v : Value} {d : DataW H} {ps : List MemPlace} (hv : Value.okWide Tryz.prog w r b0 28 v) (h : DataW.Trod enc Tryz.prog w base spare held 28 v d ps) :
    ∃ (c : CallD) (u : Value), v = .agg (callCells c u).toArray ∧ IntsAt w (fun _ => True) u c.words := by
  obtain ⟨cs, rfl, hsz⟩ := Go.WideShapes.okWide_struct Tryz.underlying28 hv
  have hC : Tryz.prog.cellsOf 28 = 6 := by kernel_rfl
  obtain ⟨fuel, hf⟩ := h
  have hcs : (Value.agg cs).cells.toList = cs.toList := rfl
  rw [hcs] at hf
  obtain ⟨c, u, e, hw⟩ := open_call (by simpa using hsz.trans hC) hf
  obtain rfl : cs = (callCells c u).toArray := by apply Array.toList_inj.1; simpa using e
  exact ⟨c, u, rfl, hw⟩
end
end Go.Proofs.YtefbdcmodfbpbaaGreat
