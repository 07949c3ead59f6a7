/-
  No cell of these rows narrows 'for every input' (looked for: loops, veiled, ifaces, maps, wideKeys, modest, calm, conditions, laid).
  DERIVED. THE GIVEN ROWS OF THIS SEAT. 6 by the template 'for every input the law returns true; each argument reads behind the call as it read before'; 0 by the template 'total and deterministic' (their statements: YtpidlgmigmbbbaaTotals.lean).
  GIVEN WITH THE SEED: the statements are not yours to turn. If you find one false, say at which input.
  Laid BY PROGRAM, IN A SANDBOX (cutbox-rows.mjs): the forced cells as the released guide's own fill.sh prints them over the translation fe8b42fccc361ddb… (all of the seat's roots in one cut). By AI agents, Wed Nov 11 2026. No macro, syntax, notation, axiom, sorry.
-/
import Derived.Test.YtpidlgmigmbbbaaChecked
import GoSem.Claim
import GoSem.ClaimJoined
import GoSem.ClaimMapViews
import Derived.JoinedTies
import Derived.KernelRfl
namespace Go.Proofs.Ytpidlgmigmbbbaa
/- THE CELL 'sum', in the pinned program and in every row, IS THE sha256 OF THE DUMP (.gsa) THAT YtpidlgmigmbbbaaProg.lean LOADS. Nothing in Lean hashes anything: it is a label: what it is worth is what the hold of that sum in a sandbox is worth. -/
noncomputable def Try.pinned : Pinned := { name := "ytpidlgmigmbbbaa", sum := "fe8b42fccc361ddbb8e4ade812b644ff880638ae16da8adba7f3fedce71d7eff", checked := Try.checked }
namespace Rows
def none {H : Type} : Left H := { results := [], args := [] }

/-- 'septumlaw23.PortOrder': WHATEVER THE INPUT: true; the input reads as it did. -/
def portOrderSpec : ChangeSpec := { name := "portOrder", fn := fun _ => fun
  | [d1, d2, d3] => { results := [.lit (.bool true)], args := [d1, d2, d3] }
  | _ => none }
def portOrderRow : OpenClaim := { program := "ytpidlgmigmbbbaa", sum := "fe8b42fccc361ddbb8e4ade812b644ff880638ae16da8adba7f3fedce71d7eff", func := "septum/septumlaw23.PortOrder", spec := "portOrder", unfollowed := true, recurses := true, apart := false }
def PortOrderSaid : Prop := portOrderRow.holds Try.pinned (OpenSpec.ofChange portOrderSpec)

/-- ITS FALSE NEIGHBOUR: 'it returns false'. Refute it at one input. -/
def portOrderWrong : ChangeSpec := { name := "portOrder", fn := fun _ => fun
  | [d1, d2, d3] => { results := [.lit (.bool false)], args := [d1, d2, d3] }
  | _ => none }
def PortOrderWrongFalsely : Prop := portOrderRow.holds Try.pinned (OpenSpec.ofChange portOrderWrong)

/-- 'septumlaw23.PortBlind': WHATEVER THE INPUT: true; the input reads as it did. -/
def portBlindSpec : ChangeSpec := { name := "portBlind", fn := fun _ => fun
  | [d1, d2, d3] => { results := [.lit (.bool true)], args := [d1, d2, d3] }
  | _ => none }
def portBlindRow : OpenClaim := { program := "ytpidlgmigmbbbaa", sum := "fe8b42fccc361ddbb8e4ade812b644ff880638ae16da8adba7f3fedce71d7eff", func := "septum/septumlaw23.PortBlind", spec := "portBlind", unfollowed := true, recurses := true, apart := false }
def PortBlindSaid : Prop := portBlindRow.holds Try.pinned (OpenSpec.ofChange portBlindSpec)

/-- ITS FALSE NEIGHBOUR: 'it returns false'. Refute it at one input. -/
def portBlindWrong : ChangeSpec := { name := "portBlind", fn := fun _ => fun
  | [d1, d2, d3] => { results := [.lit (.bool false)], args := [d1, d2, d3] }
  | _ => none }
def PortBlindWrongFalsely : Prop := portBlindRow.holds Try.pinned (OpenSpec.ofChange portBlindWrong)

/-- 'septumlaw14.ReadyBest': WHATEVER THE INPUT: true; the input reads as it did. -/
def readyBestSpec : ChangeSpec := { name := "readyBest", fn := fun _ => fun
  | [d1, d2, d3, d4] => { results := [.lit (.bool true)], args := [d1, d2, d3, d4] }
  | _ => none }
def readyBestRow : OpenClaim := { program := "ytpidlgmigmbbbaa", sum := "fe8b42fccc361ddbb8e4ade812b644ff880638ae16da8adba7f3fedce71d7eff", func := "septum/septumlaw14.ReadyBest", spec := "readyBest", unfollowed := true, recurses := true, apart := false }
def ReadyBestSaid : Prop := readyBestRow.holds Try.pinned (OpenSpec.ofChange readyBestSpec)

/-- ITS FALSE NEIGHBOUR: 'it returns false'. Refute it at one input. -/
def readyBestWrong : ChangeSpec := { name := "readyBest", fn := fun _ => fun
  | [d1, d2, d3, d4] => { results := [.lit (.bool false)], args := [d1, d2, d3, d4] }
  | _ => none }
def ReadyBestWrongFalsely : Prop := readyBestRow.holds Try.pinned (OpenSpec.ofChange readyBestWrong)

/-- 'septumlaw18.SpinRising': WHATEVER THE INPUT: true; the input reads as it did. -/
def spinRisingSpec : ChangeSpec := { name := "spinRising", fn := fun _ => fun
  | [d1, d2] => { results := [.lit (.bool true)], args := [d1, d2] }
  | _ => none }
def spinRisingRow : OpenClaim := { program := "ytpidlgmigmbbbaa", sum := "fe8b42fccc361ddbb8e4ade812b644ff880638ae16da8adba7f3fedce71d7eff", func := "septum/septumlaw18.SpinRising", spec := "spinRising", unfollowed := true, recurses := true, apart := false }
def SpinRisingSaid : Prop := spinRisingRow.holds Try.pinned (OpenSpec.ofChange spinRisingSpec)

/-- ITS FALSE NEIGHBOUR: 'it returns false'. Refute it at one input. -/
def spinRisingWrong : ChangeSpec := { name := "spinRising", fn := fun _ => fun
  | [d1, d2] => { results := [.lit (.bool false)], args := [d1, d2] }
  | _ => none }
def SpinRisingWrongFalsely : Prop := spinRisingRow.holds Try.pinned (OpenSpec.ofChange spinRisingWrong)

/-- 'septumlaw18.SpinTurns': WHATEVER THE INPUT: true; the input reads as it did. -/
def spinTurnsSpec : ChangeSpec := { name := "spinTurns", fn := fun _ => fun
  | [d1, d2] => { results := [.lit (.bool true)], args := [d1, d2] }
  | _ => none }
def spinTurnsRow : OpenClaim := { program := "ytpidlgmigmbbbaa", sum := "fe8b42fccc361ddbb8e4ade812b644ff880638ae16da8adba7f3fedce71d7eff", func := "septum/septumlaw18.SpinTurns", spec := "spinTurns", unfollowed := true, recurses := true, apart := false }
def SpinTurnsSaid : Prop := spinTurnsRow.holds Try.pinned (OpenSpec.ofChange spinTurnsSpec)

/-- ITS FALSE NEIGHBOUR: 'it returns false'. Refute it at one input. -/
def spinTurnsWrong : ChangeSpec := { name := "spinTurns", fn := fun _ => fun
  | [d1, d2] => { results := [.lit (.bool false)], args := [d1, d2] }
  | _ => none }
def SpinTurnsWrongFalsely : Prop := spinTurnsRow.holds Try.pinned (OpenSpec.ofChange spinTurnsWrong)

/-- 'septumlaw15.DispatchIdle': WHATEVER THE INPUT: true; the input reads as it did. -/
def dispatchIdleSpec : ChangeSpec := { name := "dispatchIdle", fn := fun _ => fun
  | [d1, d2] => { results := [.lit (.bool true)], args := [d1, d2] }
  | _ => none }
def dispatchIdleRow : OpenClaim := { program := "ytpidlgmigmbbbaa", sum := "fe8b42fccc361ddbb8e4ade812b644ff880638ae16da8adba7f3fedce71d7eff", func := "septum/septumlaw15.DispatchIdle", spec := "dispatchIdle", unfollowed := true, recurses := true, apart := false }
def DispatchIdleSaid : Prop := dispatchIdleRow.holds Try.pinned (OpenSpec.ofChange dispatchIdleSpec)

/-- ITS FALSE NEIGHBOUR: 'it returns false'. Refute it at one input. -/
def dispatchIdleWrong : ChangeSpec := { name := "dispatchIdle", fn := fun _ => fun
  | [d1, d2] => { results := [.lit (.bool false)], args := [d1, d2] }
  | _ => none }
def DispatchIdleWrongFalsely : Prop := dispatchIdleRow.holds Try.pinned (OpenSpec.ofChange dispatchIdleWrong)

/- THE SECOND FORM. 'bulk': how many values and letters a reading holds, each counted each time it is reached (what is shared counts as often as it is met; a slice's spare places count too). A statement '..UptoSaid' is the law's where the arguments, and the package variables that the reading takes, are together of bulk at most 1048576: NARROWER than '..Said'. Prove '..Said' where nothing that the law and all that it calls make is longer than what came in: it says more and counts as full. Else prove '..UptoSaid'. A law counts once. -/
mutual
def uptoBulk {H : Type} : DataW H → Nat
  | .lit (.string bytes) => bytes.length + 1
  | .lit _ => 1
  | .nil => 1
  | .ptr d => uptoBulk d + 1
  | .slice elems spare => uptoBulkAll elems + uptoBulkAll spare + 1
  | .agg parts => uptoBulkAll parts + 1
  | .iface _ d => uptoBulk d + 1
  | .map entries => uptoBulkEntries entries + 1
  | .held _ => 1
def uptoBulkAll {H : Type} : List (DataW H) → Nat
  | [] => 0
  | d :: r => uptoBulk d + uptoBulkAll r
def uptoBulkEntries {H : Type} : List (Lit × DataW H) → Nat
  | [] => 0
  | x :: r => uptoBulkEntry x + uptoBulkEntries r
def uptoBulkEntry {H : Type} : Lit × DataW H → Nat
  | (.string bytes, d) => bytes.length + uptoBulk d + 1
  | (_, d) => uptoBulk d + 1
 end
def uptoSmall : (H : Type) → List (DataW H) → Bool := fun _ ds => decide (uptoBulkAll ds ≤ 1048576)
def OpenSpec.upto (s : _root_.Go.ChangeSpec) : _root_.Go.OpenSpec := { _root_.Go.OpenSpec.ofChange s with cond := some uptoSmall }

/-- 'septumlaw23.PortOrder', WHERE WHAT IT READS IS OF BULK AT MOST 1048576: true; the input reads as it did. -/
def portOrderUptoRow : OpenClaim := { program := "ytpidlgmigmbbbaa", sum := "fe8b42fccc361ddbb8e4ade812b644ff880638ae16da8adba7f3fedce71d7eff", func := "septum/septumlaw23.PortOrder", spec := "portOrder", unfollowed := true, recurses := true, apart := false, narrowed := true }
def PortOrderUptoSaid : Prop := portOrderUptoRow.holds Try.pinned (OpenSpec.upto portOrderSpec)

/-- 'septumlaw23.PortBlind', WHERE WHAT IT READS IS OF BULK AT MOST 1048576: true; the input reads as it did. -/
def portBlindUptoRow : OpenClaim := { program := "ytpidlgmigmbbbaa", sum := "fe8b42fccc361ddbb8e4ade812b644ff880638ae16da8adba7f3fedce71d7eff", func := "septum/septumlaw23.PortBlind", spec := "portBlind", unfollowed := true, recurses := true, apart := false, narrowed := true }
def PortBlindUptoSaid : Prop := portBlindUptoRow.holds Try.pinned (OpenSpec.upto portBlindSpec)

/-- 'septumlaw14.ReadyBest', WHERE WHAT IT READS IS OF BULK AT MOST 1048576: true; the input reads as it did. -/
def readyBestUptoRow : OpenClaim := { program := "ytpidlgmigmbbbaa", sum := "fe8b42fccc361ddbb8e4ade812b644ff880638ae16da8adba7f3fedce71d7eff", func := "septum/septumlaw14.ReadyBest", spec := "readyBest", unfollowed := true, recurses := true, apart := false, narrowed := true }
def ReadyBestUptoSaid : Prop := readyBestUptoRow.holds Try.pinned (OpenSpec.upto readyBestSpec)

/-- 'septumlaw18.SpinRising', WHERE WHAT IT READS IS OF BULK AT MOST 1048576: true; the input reads as it did. -/
def spinRisingUptoRow : OpenClaim := { program := "ytpidlgmigmbbbaa", sum := "fe8b42fccc361ddbb8e4ade812b644ff880638ae16da8adba7f3fedce71d7eff", func := "septum/septumlaw18.SpinRising", spec := "spinRising", unfollowed := true, recurses := true, apart := false, narrowed := true }
def SpinRisingUptoSaid : Prop := spinRisingUptoRow.holds Try.pinned (OpenSpec.upto spinRisingSpec)

/-- 'septumlaw18.SpinTurns', WHERE WHAT IT READS IS OF BULK AT MOST 1048576: true; the input reads as it did. -/
def spinTurnsUptoRow : OpenClaim := { program := "ytpidlgmigmbbbaa", sum := "fe8b42fccc361ddbb8e4ade812b644ff880638ae16da8adba7f3fedce71d7eff", func := "septum/septumlaw18.SpinTurns", spec := "spinTurns", unfollowed := true, recurses := true, apart := false, narrowed := true }
def SpinTurnsUptoSaid : Prop := spinTurnsUptoRow.holds Try.pinned (OpenSpec.upto spinTurnsSpec)

/-- 'septumlaw15.DispatchIdle', WHERE WHAT IT READS IS OF BULK AT MOST 1048576: true; the input reads as it did. -/
def dispatchIdleUptoRow : OpenClaim := { program := "ytpidlgmigmbbbaa", sum := "fe8b42fccc361ddbb8e4ade812b644ff880638ae16da8adba7f3fedce71d7eff", func := "septum/septumlaw15.DispatchIdle", spec := "dispatchIdle", unfollowed := true, recurses := true, apart := false, narrowed := true }
def DispatchIdleUptoSaid : Prop := dispatchIdleUptoRow.holds Try.pinned (OpenSpec.upto dispatchIdleSpec)

end Rows
end Go.Proofs.Ytpidlgmigmbbbaa
