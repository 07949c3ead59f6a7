/-
  KernelNil: the closed facts of its row, one by one.
-/
import Derived.Test.YtefbdcmodfbpbaaGreatRows
import Derived.Test.YtefbdcmodfbpbaaGreatProg
import Derived.KernelRfl
import Derived.ProofKit
import Derived.OpenShut
set_option linter.unusedVariables false
namespace Go.Proofs.YtefbdcmodfbpbaaGreat
open Go.ChangeShapes Go.WideShapes Go.ChangeAt Go.RowKit
theorem kernelNilF0 : (Rows.kernelNilRow.wf (OpenSpec.ofChange Rows.kernelNilSpec)) = true := by kernel_rfl
theorem kernelNilF1 : (laidOutB Tryz.prog) = true := by kernel_rfl
theorem kernelNilF2 : (mapsRowed Tryz.prog) = true := by kernel_rfl
theorem kernelNilF3 : (Tryz.f4.params.all (Tryz.prog.readableRec ·)) = true := by kernel_rfl
theorem kernelNilF4 : (namedTie Tryz.prog Rows.kernelNilRow.named Rows.kernelNilSpec.vars) = true := by kernel_rfl
theorem kernelNilF5 : ((Rows.kernelNilRow.stops == [])) = true := by kernel_rfl
theorem kernelNilF6 : ((Tryz.prog.stops == [])) = true := by kernel_rfl
theorem kernelNilF7 : ((Rows.kernelNilRow.knobs == [])) = true := by kernel_rfl
theorem kernelNilF8 : ((Tryz.prog.stopKnobs == [])) = true := by kernel_rfl
theorem kernelNilF9 : ((Rows.kernelNilRow.inPlace == Tryz.prog.inPlace 4)) = true := by kernel_rfl
theorem kernelNilF10 : ((Rows.kernelNilRow.unfollowed == Tryz.prog.unfollowed 4)) = true := by kernel_rfl
theorem kernelNilF11 : ((Rows.kernelNilRow.recurses == Tryz.prog.recurses 4)) = true := by kernel_rfl
theorem kernelNilF12 : ((Rows.kernelNilRow.named == Tryz.prog.varsNamed 4)) = true := by kernel_rfl
theorem kernelNilF13 : ((Rows.kernelNilRow.maps == (Tryz.f4.params.toList ++ Rows.kernelNilSpec.plain.varTypes Tryz.prog).any (Tryz.prog.mapsRec ·))) = true := by kernel_rfl
theorem kernelNilF14 : ((Rows.kernelNilRow.ifaces == (Tryz.f4.params.toList ++ Rows.kernelNilSpec.plain.varTypes Tryz.prog).any (Tryz.prog.ifacesRec ·))) = true := by kernel_rfl
theorem kernelNilF15 : ((Rows.kernelNilRow.mapsOut == Tryz.prog.mapsAmong Tryz.f4.resultTypes.toList)) = true := by kernel_rfl
theorem kernelNilF16 : ((Rows.kernelNilRow.loops == (Tryz.f4.params.toList ++ Rows.kernelNilSpec.plain.varTypes Tryz.prog).any (Tryz.prog.loopsFrom ·))) = true := by kernel_rfl
theorem kernelNilF17 : ((Rows.kernelNilRow.wideKeys == (Tryz.f4.params.toList ++ Rows.kernelNilSpec.plain.varTypes Tryz.prog ++ Tryz.f4.resultTypes.toList).any (Tryz.prog.wideKeysFrom ·))) = true := by kernel_rfl
theorem kernelNilF18 : (Rows.kernelNilSpec.vars.all (Tryz.prog.varReadable ·)) = true := by kernel_rfl
theorem kernelNilF19 : (Tryz.f4.resultTypes.all (fun t => Tryz.prog.readableRec t && decide (t < Tryz.prog.types.size))) = true := by kernel_rfl
theorem kernelNilF20 : ((Rows.kernelNilRow.ifacesOut == Tryz.f4.resultTypes.toList.any (Tryz.prog.ifacesRec ·))) = true := by kernel_rfl
theorem kernelNilF21 : ((Rows.kernelNilRow.loopsOut == Tryz.f4.resultTypes.toList.any (Tryz.prog.loopsFrom ·))) = true := by kernel_rfl
theorem kernelNilF22 : ((Rows.kernelNilRow.plainKeys == Tryz.prog.plainKeys)) = true := by kernel_rfl
theorem kernelNilF23 : (Rows.kernelNilRow.shortTexts.isNone) = true := by kernel_rfl
theorem kernelNilF24 : (Tryz.prog.stopsHeard) = true := by kernel_rfl
theorem kernelNilF25 : (Tryz.prog.mayEnter) = true := by kernel_rfl
theorem kernelNilF26 : ((Rows.kernelNilRow.lifted == Tryz.prog.liftsFinal)) = true := by kernel_rfl
theorem kernelNilF27 : ((Tryz.prog.make == some Rows.kernelNilRow.make)) = true := by kernel_rfl
theorem kernelNilF28 : ((Rows.kernelNilRow.kinds == (if Rows.kernelNilRow.domain.isEmpty then [] else Tryz.f4.params.toList.map fun t => match Tryz.prog.underlying t with | some (.int k) => some k | _ => none))) = true := by kernel_rfl
theorem kernelNilF29 : ((Rows.kernelNilRow.pinned == Rows.kernelNilRow.pinnedBy)) = true := by kernel_rfl
theorem kernelNilF30 : ((Rows.kernelNilRow.veiled == (Tryz.f4.params.toList ++ Rows.kernelNilSpec.plain.varTypes Tryz.prog ++ Tryz.f4.resultTypes.toList).any (Tryz.prog.veiledRec ·))) = true := by kernel_rfl
theorem kernelNilF31 : (Rows.kernelNilRow.veiledFits Tryz.prog Tryz.f4.params.toList (Tryz.f4.params.toList ++ Rows.kernelNilSpec.plain.varTypes Tryz.prog ++ Tryz.f4.resultTypes.toList)) = true := by kernel_rfl
theorem kernelNilBoth {a b : Bool} (h : a = true) (k : b = true) : (a && b) = true := by rw [h, k]; rfl
set_option maxRecDepth 100000 in
theorem kernelNilFacts : joinedFacts Tryz.prog 4 Tryz.f4 Rows.kernelNilSpec Rows.kernelNilRow = true := (kernelNilBoth (kernelNilBoth (kernelNilBoth (kernelNilBoth (kernelNilBoth (kernelNilBoth (kernelNilBoth (kernelNilBoth (kernelNilBoth (kernelNilBoth (kernelNilBoth (kernelNilBoth (kernelNilBoth (kernelNilBoth (kernelNilBoth (kernelNilBoth (kernelNilBoth (kernelNilBoth (kernelNilBoth (kernelNilBoth (kernelNilBoth (kernelNilBoth (kernelNilBoth (kernelNilBoth (kernelNilBoth (kernelNilBoth (kernelNilBoth (kernelNilBoth (kernelNilBoth (kernelNilBoth (kernelNilBoth kernelNilF0 kernelNilF1) kernelNilF2) kernelNilF3) kernelNilF4) kernelNilF5) kernelNilF6) kernelNilF7) kernelNilF8) kernelNilF9) kernelNilF10) kernelNilF11) kernelNilF12) kernelNilF13) kernelNilF14) kernelNilF15) kernelNilF16) kernelNilF17) kernelNilF18) kernelNilF19) kernelNilF20) kernelNilF21) kernelNilF22) kernelNilF23) kernelNilF24) kernelNilF25) kernelNilF26) kernelNilF27) kernelNilF28) kernelNilF29) kernelNilF30) kernelNilF31)
end Go.Proofs.YtefbdcmodfbpbaaGreat
