/-
  The first so many of a list, but some. Plain Lean: no Go here.
-/
import Derived.Test.YtefbdcmodfbpbaaGreatRefQ
set_option linter.unusedVariables false
set_option linter.unusedSimpArgs false
namespace Go.Proofs.YtefbdcmodfbpbaaGreat
open Go.RowKit

def bestStep (n : Nat) (but out : List Int) (x : Int) : List Int := if out.length < n ∧ but.contains x = false then out ++ [x] else out
def bestR (n : Nat) (but all : List Int) : List Int := all.foldl (bestStep n but) []
theorem bestStep_len (n : Nat) (but out : List Int) (x : Int) : (bestStep n but out x).length ≤ out.length + 1 := by
  unfold bestStep; split <;> simp
theorem bestFold_len (n : Nat) (but : List Int) : ∀ (all out : List Int), (all.foldl (bestStep n but) out).length ≤ out.length + all.length
  | [], out => by simp
  | x :: all, out => by
    have h1 := bestFold_len n but all (bestStep n but out x)
    have h2 := bestStep_len n but out x
    simp only [List.foldl_cons, List.length_cons]; omega
theorem best_next (n : Nat) (but all : List Int) (k : Nat) (hk : k < all.length) : (all.take (k + 1)).foldl (bestStep n but) [] = bestStep n but ((all.take k).foldl (bestStep n but) []) all[k] := by
  rw [List.take_succ_eq_append_getElem hk, List.foldl_append]; rfl
end Go.Proofs.YtefbdcmodfbpbaaGreat
