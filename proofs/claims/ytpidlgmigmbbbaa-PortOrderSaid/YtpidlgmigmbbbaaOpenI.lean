/-
  A slice of int64 among a claim's arguments, opened.
-/
import Derived.Test.YtpidlgmigmbbbaaOpen
import Derived.Test.YtpidlgmigmbbbaaThread
import Derived.OpenShut
set_option linter.unusedVariables false
set_option linter.unusedSimpArgs false
namespace Go.Proofs.Ytpidlgmigmbbbaa
open Go.ChangeShapes Go.WideShapes Go.ChangeAt Go.RowKit
section
variable {H : Type} {enc : TypeId × Value → H} {w : World} {base : Nat} {spare : Nat → Bool} {held : Bool}
set_option maxRecDepth 100000 in
theorem open_i64s {r : Reach} {b0 : Nat} {v : Value} {d : DataW H} {ps : List MemPlace} (hval : Value.okWide Try.prog w r b0 22 v) (h : DataW.Trod enc Try.prog w base spare held 22 v d ps) :
    ∃ xs : List Int, IntsAt w (fun _ => True) v xs ∧ ∀ x ∈ xs, I64 x := by
  obtain ⟨A, ln, cp, rfl⟩ := okWide_slice Try.underlying22 hval
  obtain ⟨n, hn⟩ := h
  obtain ⟨v', xs, L, e0, hL, hR, hq⟩ := open_row (α := Int) (fun l a => l = [.int .i64 a] ∧ I64 a) 1 (by omega) Try.underlying22 (by kernel_rfl) (fun n cs' y hl hy => by
    obtain ⟨k, rfl, _, hw⟩ := DataW.trod_int Try.underlying2 hy
    exact ⟨k, rfl, bounds_i64 hw⟩) hn
  have hv : Value.slice A ln cp = v' := by simpa [Value.cells] using e0
  subst hv
  refine ⟨xs, ?_, ?_⟩
  · have e : L.flatten = encInts xs := by
      clear hR hn
      induction L generalizing xs with
      | nil => cases xs with | nil => rfl | cons a b => simp at hL
      | cons l L ih =>
        cases xs with
        | nil => simp at hL
        | cons a xs =>
          have h0 := (hq 0 l a rfl rfl).1
          have := ih xs (by simpa using hL) (fun i l a h1 h2 => hq (i + 1) l a (by simpa using h1) (by simpa using h2))
          simp only [List.flatten_cons, this, h0, encInts, List.map_cons]
          rfl
    rw [e] at hR
    exact hR
  · intro x hx
    obtain ⟨i, hi, rfl⟩ := List.getElem_of_mem hx
    exact (hq i L[i] xs[i] (List.getElem?_eq_getElem (by omega)) (List.getElem?_eq_getElem hi)).2
end
end Go.Proofs.Ytpidlgmigmbbbaa
