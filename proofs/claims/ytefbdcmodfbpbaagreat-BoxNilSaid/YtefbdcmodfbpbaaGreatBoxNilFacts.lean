/-
  BoxNil: the closed facts of its row, one by one.
-/
import Derived.Test.YtefbdcmodfbpbaaGreatRows
import Derived.Test.YtefbdcmodfbpbaaGreatProg
import Derived.KernelRfl
import Derived.ProofKit
import Derived.OpenShut
set_option linter.unusedVariables false
namespace Go.Proofs.YtefbdcmodfbpbaaGreat
open Go.ChangeShapes Go.WideShapes Go.ChangeAt Go.RowKit
theorem boxNilF0 : (Rows.boxNilRow.wf (OpenSpec.ofChange Rows.boxNilSpec)) = true := by kernel_rfl
theorem boxNilF1 : (laidOutB Tryz.prog) = true := by kernel_rfl
theorem boxNilF2 : (mapsRowed Tryz.prog) = true := by kernel_rfl
theorem boxNilF3 : (Tryz.f6.params.all (Tryz.prog.readableRec ·)) = true := by kernel_rfl
theorem boxNilF4 : (namedTie Tryz.prog Rows.boxNilRow.named Rows.boxNilSpec.vars) = true := by kernel_rfl
theorem boxNilF5 : ((Rows.boxNilRow.stops == [])) = true := by kernel_rfl
theorem boxNilF6 : ((Tryz.prog.stops == [])) = true := by kernel_rfl
theorem boxNilF7 : ((Rows.boxNilRow.knobs == [])) = true := by kernel_rfl
theorem boxNilF8 : ((Tryz.prog.stopKnobs == [])) = true := by kernel_rfl
theorem boxNilF9 : ((Rows.boxNilRow.inPlace == Tryz.prog.inPlace 6)) = true := by kernel_rfl
theorem boxNilF10 : ((Rows.boxNilRow.unfollowed == Tryz.prog.unfollowed 6)) = true := by kernel_rfl
theorem boxNilF11 : ((Rows.boxNilRow.recurses == Tryz.prog.recurses 6)) = true := by kernel_rfl
theorem boxNilF12 : ((Rows.boxNilRow.named == Tryz.prog.varsNamed 6)) = true := by kernel_rfl
theorem boxNilF13 : ((Rows.boxNilRow.maps == (Tryz.f6.params.toList ++ Rows.boxNilSpec.plain.varTypes Tryz.prog).any (Tryz.prog.mapsRec ·))) = true := by kernel_rfl
theorem boxNilF14 : ((Rows.boxNilRow.ifaces == (Tryz.f6.params.toList ++ Rows.boxNilSpec.plain.varTypes Tryz.prog).any (Tryz.prog.ifacesRec ·))) = true := by kernel_rfl
theorem boxNilF15 : ((Rows.boxNilRow.mapsOut == Tryz.prog.mapsAmong Tryz.f6.resultTypes.toList)) = true := by kernel_rfl
theorem boxNilF16 : ((Rows.boxNilRow.loops == (Tryz.f6.params.toList ++ Rows.boxNilSpec.plain.varTypes Tryz.prog).any (Tryz.prog.loopsFrom ·))) = true := by kernel_rfl
theorem boxNilF17 : ((Rows.boxNilRow.wideKeys == (Tryz.f6.params.toList ++ Rows.boxNilSpec.plain.varTypes Tryz.prog ++ Tryz.f6.resultTypes.toList).any (Tryz.prog.wideKeysFrom ·))) = true := by kernel_rfl
theorem boxNilF18 : (Rows.boxNilSpec.vars.all (Tryz.prog.varReadable ·)) = true := by kernel_rfl
theorem boxNilF19 : (Tryz.f6.resultTypes.all (fun t => Tryz.prog.readableRec t && decide (t < Tryz.prog.types.size))) = true := by kernel_rfl
theorem boxNilF20 : ((Rows.boxNilRow.ifacesOut == Tryz.f6.resultTypes.toList.any (Tryz.prog.ifacesRec ·))) = true := by kernel_rfl
theorem boxNilF21 : ((Rows.boxNilRow.loopsOut == Tryz.f6.resultTypes.toList.any (Tryz.prog.loopsFrom ·))) = true := by kernel_rfl
theorem boxNilF22 : ((Rows.boxNilRow.plainKeys == Tryz.prog.plainKeys)) = true := by kernel_rfl
theorem boxNilF23 : (Rows.boxNilRow.shortTexts.isNone) = true := by kernel_rfl
theorem boxNilF24 : (Tryz.prog.stopsHeard) = true := by kernel_rfl
theorem boxNilF25 : (Tryz.prog.mayEnter) = true := by kernel_rfl
theorem boxNilF26 : ((Rows.boxNilRow.lifted == Tryz.prog.liftsFinal)) = true := by kernel_rfl
theorem boxNilF27 : ((Tryz.prog.make == some Rows.boxNilRow.make)) = true := by kernel_rfl
theorem boxNilF28 : ((Rows.boxNilRow.kinds == (if Rows.boxNilRow.domain.isEmpty then [] else Tryz.f6.params.toList.map fun t => match Tryz.prog.underlying t with | some (.int k) => some k | _ => none))) = true := by kernel_rfl
theorem boxNilF29 : ((Rows.boxNilRow.pinned == Rows.boxNilRow.pinnedBy)) = true := by kernel_rfl
theorem boxNilF30 : ((Rows.boxNilRow.veiled == (Tryz.f6.params.toList ++ Rows.boxNilSpec.plain.varTypes Tryz.prog ++ Tryz.f6.resultTypes.toList).any (Tryz.prog.veiledRec ·))) = true := by kernel_rfl
theorem boxNilF31 : (Rows.boxNilRow.veiledFits Tryz.prog Tryz.f6.params.toList (Tryz.f6.params.toList ++ Rows.boxNilSpec.plain.varTypes Tryz.prog ++ Tryz.f6.resultTypes.toList)) = true := by kernel_rfl
theorem boxNilBoth {a b : Bool} (h : a = true) (k : b = true) : (a && b) = true := by rw [h, k]; rfl
set_option maxRecDepth 100000 in
theorem boxNilFacts : joinedFacts Tryz.prog 6 Tryz.f6 Rows.boxNilSpec Rows.boxNilRow = true := (boxNilBoth (boxNilBoth (boxNilBoth (boxNilBoth (boxNilBoth (boxNilBoth (boxNilBoth (boxNilBoth (boxNilBoth (boxNilBoth (boxNilBoth (boxNilBoth (boxNilBoth (boxNilBoth (boxNilBoth (boxNilBoth (boxNilBoth (boxNilBoth (boxNilBoth (boxNilBoth (boxNilBoth (boxNilBoth (boxNilBoth (boxNilBoth (boxNilBoth (boxNilBoth (boxNilBoth (boxNilBoth (boxNilBoth (boxNilBoth (boxNilBoth boxNilF0 boxNilF1) boxNilF2) boxNilF3) boxNilF4) boxNilF5) boxNilF6) boxNilF7) boxNilF8) boxNilF9) boxNilF10) boxNilF11) boxNilF12) boxNilF13) boxNilF14) boxNilF15) boxNilF16) boxNilF17) boxNilF18) boxNilF19) boxNilF20) boxNilF21) boxNilF22) boxNilF23) boxNilF24) boxNilF25) boxNilF26) boxNilF27) boxNilF28) boxNilF29) boxNilF30) boxNilF31)
end Go.Proofs.YtefbdcmodfbpbaaGreat
