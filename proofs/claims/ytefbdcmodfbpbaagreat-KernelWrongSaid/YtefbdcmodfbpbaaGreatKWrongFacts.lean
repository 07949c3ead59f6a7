/-
  KernelWrong: the closed facts of its row, one by one.
-/
import Derived.Test.YtefbdcmodfbpbaaGreatRows
import Derived.Test.YtefbdcmodfbpbaaGreatProg
import Derived.KernelRfl
import Derived.ProofKit
import Derived.OpenShut
set_option linter.unusedVariables false
namespace Go.Proofs.YtefbdcmodfbpbaaGreat
open Go.ChangeShapes Go.WideShapes Go.ChangeAt Go.RowKit
theorem kernelWrongF0 : (Rows.kernelWrongRow.wf (OpenSpec.ofChange Rows.kernelWrongSpec)) = true := by kernel_rfl
theorem kernelWrongF1 : (laidOutB Tryz.prog) = true := by kernel_rfl
theorem kernelWrongF2 : (mapsRowed Tryz.prog) = true := by kernel_rfl
theorem kernelWrongF3 : (Tryz.f5.params.all (Tryz.prog.readableRec ·)) = true := by kernel_rfl
theorem kernelWrongF4 : (namedTie Tryz.prog Rows.kernelWrongRow.named Rows.kernelWrongSpec.vars) = true := by kernel_rfl
theorem kernelWrongF5 : ((Rows.kernelWrongRow.stops == [])) = true := by kernel_rfl
theorem kernelWrongF6 : ((Tryz.prog.stops == [])) = true := by kernel_rfl
theorem kernelWrongF7 : ((Rows.kernelWrongRow.knobs == [])) = true := by kernel_rfl
theorem kernelWrongF8 : ((Tryz.prog.stopKnobs == [])) = true := by kernel_rfl
theorem kernelWrongF9 : ((Rows.kernelWrongRow.inPlace == Tryz.prog.inPlace 5)) = true := by kernel_rfl
theorem kernelWrongF10 : ((Rows.kernelWrongRow.unfollowed == Tryz.prog.unfollowed 5)) = true := by kernel_rfl
theorem kernelWrongF11 : ((Rows.kernelWrongRow.recurses == Tryz.prog.recurses 5)) = true := by kernel_rfl
theorem kernelWrongF12 : ((Rows.kernelWrongRow.named == Tryz.prog.varsNamed 5)) = true := by kernel_rfl
theorem kernelWrongF13 : ((Rows.kernelWrongRow.maps == (Tryz.f5.params.toList ++ Rows.kernelWrongSpec.plain.varTypes Tryz.prog).any (Tryz.prog.mapsRec ·))) = true := by kernel_rfl
theorem kernelWrongF14 : ((Rows.kernelWrongRow.ifaces == (Tryz.f5.params.toList ++ Rows.kernelWrongSpec.plain.varTypes Tryz.prog).any (Tryz.prog.ifacesRec ·))) = true := by kernel_rfl
theorem kernelWrongF15 : ((Rows.kernelWrongRow.mapsOut == Tryz.prog.mapsAmong Tryz.f5.resultTypes.toList)) = true := by kernel_rfl
theorem kernelWrongF16 : ((Rows.kernelWrongRow.loops == (Tryz.f5.params.toList ++ Rows.kernelWrongSpec.plain.varTypes Tryz.prog).any (Tryz.prog.loopsFrom ·))) = true := by kernel_rfl
theorem kernelWrongF17 : ((Rows.kernelWrongRow.wideKeys == (Tryz.f5.params.toList ++ Rows.kernelWrongSpec.plain.varTypes Tryz.prog ++ Tryz.f5.resultTypes.toList).any (Tryz.prog.wideKeysFrom ·))) = true := by kernel_rfl
theorem kernelWrongF18 : (Rows.kernelWrongSpec.vars.all (Tryz.prog.varReadable ·)) = true := by kernel_rfl
theorem kernelWrongF19 : (Tryz.f5.resultTypes.all (fun t => Tryz.prog.readableRec t && decide (t < Tryz.prog.types.size))) = true := by kernel_rfl
theorem kernelWrongF20 : ((Rows.kernelWrongRow.ifacesOut == Tryz.f5.resultTypes.toList.any (Tryz.prog.ifacesRec ·))) = true := by kernel_rfl
theorem kernelWrongF21 : ((Rows.kernelWrongRow.loopsOut == Tryz.f5.resultTypes.toList.any (Tryz.prog.loopsFrom ·))) = true := by kernel_rfl
theorem kernelWrongF22 : ((Rows.kernelWrongRow.plainKeys == Tryz.prog.plainKeys)) = true := by kernel_rfl
theorem kernelWrongF23 : (Rows.kernelWrongRow.shortTexts.isNone) = true := by kernel_rfl
theorem kernelWrongF24 : (Tryz.prog.stopsHeard) = true := by kernel_rfl
theorem kernelWrongF25 : (Tryz.prog.mayEnter) = true := by kernel_rfl
theorem kernelWrongF26 : ((Rows.kernelWrongRow.lifted == Tryz.prog.liftsFinal)) = true := by kernel_rfl
theorem kernelWrongF27 : ((Tryz.prog.make == some Rows.kernelWrongRow.make)) = true := by kernel_rfl
theorem kernelWrongF28 : ((Rows.kernelWrongRow.kinds == (if Rows.kernelWrongRow.domain.isEmpty then [] else Tryz.f5.params.toList.map fun t => match Tryz.prog.underlying t with | some (.int k) => some k | _ => none))) = true := by kernel_rfl
theorem kernelWrongF29 : ((Rows.kernelWrongRow.pinned == Rows.kernelWrongRow.pinnedBy)) = true := by kernel_rfl
theorem kernelWrongF30 : ((Rows.kernelWrongRow.veiled == (Tryz.f5.params.toList ++ Rows.kernelWrongSpec.plain.varTypes Tryz.prog ++ Tryz.f5.resultTypes.toList).any (Tryz.prog.veiledRec ·))) = true := by kernel_rfl
theorem kernelWrongF31 : (Rows.kernelWrongRow.veiledFits Tryz.prog Tryz.f5.params.toList (Tryz.f5.params.toList ++ Rows.kernelWrongSpec.plain.varTypes Tryz.prog ++ Tryz.f5.resultTypes.toList)) = true := by kernel_rfl
theorem kernelWrongBoth {a b : Bool} (h : a = true) (k : b = true) : (a && b) = true := by rw [h, k]; rfl
set_option maxRecDepth 100000 in
theorem kernelWrongFacts : joinedFacts Tryz.prog 5 Tryz.f5 Rows.kernelWrongSpec Rows.kernelWrongRow = true := (kernelWrongBoth (kernelWrongBoth (kernelWrongBoth (kernelWrongBoth (kernelWrongBoth (kernelWrongBoth (kernelWrongBoth (kernelWrongBoth (kernelWrongBoth (kernelWrongBoth (kernelWrongBoth (kernelWrongBoth (kernelWrongBoth (kernelWrongBoth (kernelWrongBoth (kernelWrongBoth (kernelWrongBoth (kernelWrongBoth (kernelWrongBoth (kernelWrongBoth (kernelWrongBoth (kernelWrongBoth (kernelWrongBoth (kernelWrongBoth (kernelWrongBoth (kernelWrongBoth (kernelWrongBoth (kernelWrongBoth (kernelWrongBoth (kernelWrongBoth (kernelWrongBoth kernelWrongF0 kernelWrongF1) kernelWrongF2) kernelWrongF3) kernelWrongF4) kernelWrongF5) kernelWrongF6) kernelWrongF7) kernelWrongF8) kernelWrongF9) kernelWrongF10) kernelWrongF11) kernelWrongF12) kernelWrongF13) kernelWrongF14) kernelWrongF15) kernelWrongF16) kernelWrongF17) kernelWrongF18) kernelWrongF19) kernelWrongF20) kernelWrongF21) kernelWrongF22) kernelWrongF23) kernelWrongF24) kernelWrongF25) kernelWrongF26) kernelWrongF27) kernelWrongF28) kernelWrongF29) kernelWrongF30) kernelWrongF31)
end Go.Proofs.YtefbdcmodfbpbaaGreat
