/-
  No cell of these rows narrows 'for every input' (looked for: loops, veiled, ifaces, maps, wideKeys, modest, calm, conditions, laid).
  DERIVED. THE GIVEN ROWS OF THIS SEAT. 6 by the template 'for every input the law returns true; each argument reads behind the call as it read before'; 0 by the template 'total and deterministic' (their statements: YtefbdcmodfbpbaaGreatTotals.lean).
  GIVEN WITH THE SEED: the statements are not yours to turn. If you find one false, say at which input.
  Laid BY PROGRAM, IN A SANDBOX (cutbox-rows.mjs): the forced cells as the released guide's own fill.sh prints them over the translation 30cda0a575996d14… (all of the seat's roots in one cut). By AI agents, Wed Nov 11 2026. No macro, syntax, notation, axiom, sorry.
-/
import Derived.Test.YtefbdcmodfbpbaaGreatChecked
import GoSem.Claim
import GoSem.ClaimJoined
import GoSem.ClaimMapViews
import Derived.JoinedTies
import Derived.KernelRfl
namespace Go.Proofs.YtefbdcmodfbpbaaGreat
/- THE CELL 'sum', in the pinned program and in every row, IS THE sha256 OF THE DUMP (.gsa) THAT YtefbdcmodfbpbaaGreatProg.lean LOADS. Nothing in Lean hashes anything: it is a label: what it is worth is what the hold of that sum in a sandbox is worth. -/
noncomputable def Tryz.pinned : Pinned := { name := "ytefbdcmodfbpbaagreat", sum := "30cda0a575996d143af4f937378a3ad334610c06b5ff332105d4ef2d643ae315", checked := Tryz.checked }
namespace Rows
def none {H : Type} : Left H := { results := [], args := [] }

/-- 'septumlaw31.ModelOdd': WHATEVER THE INPUT: true; the input reads as it did. -/
def modelOddSpec : ChangeSpec := { name := "modelOdd", fn := fun _ => fun
  | [d1, d2, d3, d4, d5] => { results := [.lit (.bool true)], args := [d1, d2, d3, d4, d5] }
  | _ => none }
def modelOddRow : OpenClaim := { program := "ytefbdcmodfbpbaagreat", sum := "30cda0a575996d143af4f937378a3ad334610c06b5ff332105d4ef2d643ae315", func := "septum/septumlaw31.ModelOdd", spec := "modelOdd", inPlace := ["slices.overlaps[int]"], unfollowed := true, recurses := true, apart := false }
def ModelOddSaid : Prop := modelOddRow.holds Tryz.pinned (OpenSpec.ofChange modelOddSpec)

/-- ITS FALSE NEIGHBOUR: 'it returns false'. Refute it at one input. -/
def modelOddWrong : ChangeSpec := { name := "modelOdd", fn := fun _ => fun
  | [d1, d2, d3, d4, d5] => { results := [.lit (.bool false)], args := [d1, d2, d3, d4, d5] }
  | _ => none }
def ModelOddWrongFalsely : Prop := modelOddRow.holds Tryz.pinned (OpenSpec.ofChange modelOddWrong)

/-- 'septumlaw25.KernelNil': WHATEVER THE INPUT: true; the input reads as it did. -/
def kernelNilSpec : ChangeSpec := { name := "kernelNil", fn := fun _ => fun
  | [d] => { results := [.lit (.bool true)], args := [d] }
  | _ => none }
def kernelNilRow : OpenClaim := { program := "ytefbdcmodfbpbaagreat", sum := "30cda0a575996d143af4f937378a3ad334610c06b5ff332105d4ef2d643ae315", func := "septum/septumlaw25.KernelNil", spec := "kernelNil", unfollowed := true, recurses := true, apart := false }
def KernelNilSaid : Prop := kernelNilRow.holds Tryz.pinned (OpenSpec.ofChange kernelNilSpec)

/-- ITS FALSE NEIGHBOUR: 'it returns false'. Refute it at one input. -/
def kernelNilWrong : ChangeSpec := { name := "kernelNil", fn := fun _ => fun
  | [d] => { results := [.lit (.bool false)], args := [d] }
  | _ => none }
def KernelNilWrongFalsely : Prop := kernelNilRow.holds Tryz.pinned (OpenSpec.ofChange kernelNilWrong)

/-- 'septumlaw25.KernelWrong': WHATEVER THE INPUT: true; the input reads as it did. -/
def kernelWrongSpec : ChangeSpec := { name := "kernelWrong", fn := fun _ => fun
  | [d1, d2, d3] => { results := [.lit (.bool true)], args := [d1, d2, d3] }
  | _ => none }
def kernelWrongRow : OpenClaim := { program := "ytefbdcmodfbpbaagreat", sum := "30cda0a575996d143af4f937378a3ad334610c06b5ff332105d4ef2d643ae315", func := "septum/septumlaw25.KernelWrong", spec := "kernelWrong", unfollowed := true, recurses := true, apart := false }
def KernelWrongSaid : Prop := kernelWrongRow.holds Tryz.pinned (OpenSpec.ofChange kernelWrongSpec)

/-- ITS FALSE NEIGHBOUR: 'it returns false'. Refute it at one input. -/
def kernelWrongWrong : ChangeSpec := { name := "kernelWrong", fn := fun _ => fun
  | [d1, d2, d3] => { results := [.lit (.bool false)], args := [d1, d2, d3] }
  | _ => none }
def KernelWrongWrongFalsely : Prop := kernelWrongRow.holds Tryz.pinned (OpenSpec.ofChange kernelWrongWrong)

/-- 'septumlaw27.BoxNil': WHATEVER THE INPUT: true; the input reads as it did. -/
def boxNilSpec : ChangeSpec := { name := "boxNil", fn := fun _ => fun
  | [d1, d2, d3] => { results := [.lit (.bool true)], args := [d1, d2, d3] }
  | _ => none }
def boxNilRow : OpenClaim := { program := "ytefbdcmodfbpbaagreat", sum := "30cda0a575996d143af4f937378a3ad334610c06b5ff332105d4ef2d643ae315", func := "septum/septumlaw27.BoxNil", spec := "boxNil", unfollowed := true, recurses := true, apart := false }
def BoxNilSaid : Prop := boxNilRow.holds Tryz.pinned (OpenSpec.ofChange boxNilSpec)

/-- ITS FALSE NEIGHBOUR: 'it returns false'. Refute it at one input. -/
def boxNilWrong : ChangeSpec := { name := "boxNil", fn := fun _ => fun
  | [d1, d2, d3] => { results := [.lit (.bool false)], args := [d1, d2, d3] }
  | _ => none }
def BoxNilWrongFalsely : Prop := boxNilRow.holds Tryz.pinned (OpenSpec.ofChange boxNilWrong)

/-- 'septumlaw29.SeptumNil': WHATEVER THE INPUT: true; the input reads as it did. -/
def septumNilSpec : ChangeSpec := { name := "septumNil", fn := fun _ => fun
  | [d1, d2] => { results := [.lit (.bool true)], args := [d1, d2] }
  | _ => none }
def septumNilRow : OpenClaim := { program := "ytefbdcmodfbpbaagreat", sum := "30cda0a575996d143af4f937378a3ad334610c06b5ff332105d4ef2d643ae315", func := "septum/septumlaw29.SeptumNil", spec := "septumNil", unfollowed := true, recurses := true, apart := false }
def SeptumNilSaid : Prop := septumNilRow.holds Tryz.pinned (OpenSpec.ofChange septumNilSpec)

/-- ITS FALSE NEIGHBOUR: 'it returns false'. Refute it at one input. -/
def septumNilWrong : ChangeSpec := { name := "septumNil", fn := fun _ => fun
  | [d1, d2] => { results := [.lit (.bool false)], args := [d1, d2] }
  | _ => none }
def SeptumNilWrongFalsely : Prop := septumNilRow.holds Tryz.pinned (OpenSpec.ofChange septumNilWrong)

/-- 'septumlaw29.SeptumNews': WHATEVER THE INPUT: true; the input reads as it did. -/
def septumNewsSpec : ChangeSpec := { name := "septumNews", fn := fun _ => fun
  | [d] => { results := [.lit (.bool true)], args := [d] }
  | _ => none }
def septumNewsRow : OpenClaim := { program := "ytefbdcmodfbpbaagreat", sum := "30cda0a575996d143af4f937378a3ad334610c06b5ff332105d4ef2d643ae315", func := "septum/septumlaw29.SeptumNews", spec := "septumNews", unfollowed := true, recurses := true, apart := false }
def SeptumNewsSaid : Prop := septumNewsRow.holds Tryz.pinned (OpenSpec.ofChange septumNewsSpec)

/-- ITS FALSE NEIGHBOUR: 'it returns false'. Refute it at one input. -/
def septumNewsWrong : ChangeSpec := { name := "septumNews", fn := fun _ => fun
  | [d] => { results := [.lit (.bool false)], args := [d] }
  | _ => none }
def SeptumNewsWrongFalsely : Prop := septumNewsRow.holds Tryz.pinned (OpenSpec.ofChange septumNewsWrong)

/- THE SECOND FORM. 'bulk': how many values and letters a reading holds, each counted each time it is reached (what is shared counts as often as it is met; a slice's spare places count too). A statement '..UptoSaid' is the law's where the arguments, and the package variables that the reading takes, are together of bulk at most 1048576: NARROWER than '..Said'. Prove '..Said' where nothing that the law and all that it calls make is longer than what came in: it says more and counts as full. Else prove '..UptoSaid'. A law counts once. -/
mutual
def uptoBulk {H : Type} : DataW H → Nat
  | .lit (.string bytes) => bytes.length + 1
  | .lit _ => 1
  | .nil => 1
  | .ptr d => uptoBulk d + 1
  | .slice elems spare => uptoBulkAll elems + uptoBulkAll spare + 1
  | .agg parts => uptoBulkAll parts + 1
  | .iface _ d => uptoBulk d + 1
  | .map entries => uptoBulkEntries entries + 1
  | .held _ => 1
def uptoBulkAll {H : Type} : List (DataW H) → Nat
  | [] => 0
  | d :: r => uptoBulk d + uptoBulkAll r
def uptoBulkEntries {H : Type} : List (Lit × DataW H) → Nat
  | [] => 0
  | x :: r => uptoBulkEntry x + uptoBulkEntries r
def uptoBulkEntry {H : Type} : Lit × DataW H → Nat
  | (.string bytes, d) => bytes.length + uptoBulk d + 1
  | (_, d) => uptoBulk d + 1
 end
def uptoSmall : (H : Type) → List (DataW H) → Bool := fun _ ds => decide (uptoBulkAll ds ≤ 1048576)
def OpenSpec.upto (s : _root_.Go.ChangeSpec) : _root_.Go.OpenSpec := { _root_.Go.OpenSpec.ofChange s with cond := some uptoSmall }

/-- 'septumlaw31.ModelOdd', WHERE WHAT IT READS IS OF BULK AT MOST 1048576: true; the input reads as it did. -/
def modelOddUptoRow : OpenClaim := { program := "ytefbdcmodfbpbaagreat", sum := "30cda0a575996d143af4f937378a3ad334610c06b5ff332105d4ef2d643ae315", func := "septum/septumlaw31.ModelOdd", spec := "modelOdd", inPlace := ["slices.overlaps[int]"], unfollowed := true, recurses := true, apart := false, narrowed := true }
def ModelOddUptoSaid : Prop := modelOddUptoRow.holds Tryz.pinned (OpenSpec.upto modelOddSpec)

/-- 'septumlaw25.KernelNil', WHERE WHAT IT READS IS OF BULK AT MOST 1048576: true; the input reads as it did. -/
def kernelNilUptoRow : OpenClaim := { program := "ytefbdcmodfbpbaagreat", sum := "30cda0a575996d143af4f937378a3ad334610c06b5ff332105d4ef2d643ae315", func := "septum/septumlaw25.KernelNil", spec := "kernelNil", unfollowed := true, recurses := true, apart := false, narrowed := true }
def KernelNilUptoSaid : Prop := kernelNilUptoRow.holds Tryz.pinned (OpenSpec.upto kernelNilSpec)

/-- 'septumlaw25.KernelWrong', WHERE WHAT IT READS IS OF BULK AT MOST 1048576: true; the input reads as it did. -/
def kernelWrongUptoRow : OpenClaim := { program := "ytefbdcmodfbpbaagreat", sum := "30cda0a575996d143af4f937378a3ad334610c06b5ff332105d4ef2d643ae315", func := "septum/septumlaw25.KernelWrong", spec := "kernelWrong", unfollowed := true, recurses := true, apart := false, narrowed := true }
def KernelWrongUptoSaid : Prop := kernelWrongUptoRow.holds Tryz.pinned (OpenSpec.upto kernelWrongSpec)

/-- 'septumlaw27.BoxNil', WHERE WHAT IT READS IS OF BULK AT MOST 1048576: true; the input reads as it did. -/
def boxNilUptoRow : OpenClaim := { program := "ytefbdcmodfbpbaagreat", sum := "30cda0a575996d143af4f937378a3ad334610c06b5ff332105d4ef2d643ae315", func := "septum/septumlaw27.BoxNil", spec := "boxNil", unfollowed := true, recurses := true, apart := false, narrowed := true }
def BoxNilUptoSaid : Prop := boxNilUptoRow.holds Tryz.pinned (OpenSpec.upto boxNilSpec)

/-- 'septumlaw29.SeptumNil', WHERE WHAT IT READS IS OF BULK AT MOST 1048576: true; the input reads as it did. -/
def septumNilUptoRow : OpenClaim := { program := "ytefbdcmodfbpbaagreat", sum := "30cda0a575996d143af4f937378a3ad334610c06b5ff332105d4ef2d643ae315", func := "septum/septumlaw29.SeptumNil", spec := "septumNil", unfollowed := true, recurses := true, apart := false, narrowed := true }
def SeptumNilUptoSaid : Prop := septumNilUptoRow.holds Tryz.pinned (OpenSpec.upto septumNilSpec)

/-- 'septumlaw29.SeptumNews', WHERE WHAT IT READS IS OF BULK AT MOST 1048576: true; the input reads as it did. -/
def septumNewsUptoRow : OpenClaim := { program := "ytefbdcmodfbpbaagreat", sum := "30cda0a575996d143af4f937378a3ad334610c06b5ff332105d4ef2d643ae315", func := "septum/septumlaw29.SeptumNews", spec := "septumNews", unfollowed := true, recurses := true, apart := false, narrowed := true }
def SeptumNewsUptoSaid : Prop := septumNewsUptoRow.holds Tryz.pinned (OpenSpec.upto septumNewsSpec)

end Rows
end Go.Proofs.YtefbdcmodfbpbaaGreat
