/-
  What the statements of layer 12 ask first (awake).
-/
import Derived.Test.YtpflejobkjdhdaaPlainP
set_option linter.unusedVariables false
set_option linter.unusedSimpArgs false
namespace Go.Proofs.Ytpflejobkjdhdaa
open Go.RowKit

set_option maxRecDepth 100000 in
set_option maxHeartbeats 1600000 in
theorem awake12_any (w : World) : Calls Try.prog 10 #[] w fun e w' => e = .returned (.bool true) ∧ Below w.heap.size w w' := by
  have HO := Lib.hid (fun (W : World) (b : Nat) (cs : Array Value) h hc => planOf_yes (plainPart [1]) _ _ (plainPart_ok _ (by simp)) (by decide) W (plainPart_at W b [1] 1 rfl cs h hc))
  go_enter Try.func10, Try.ntmps10
  go_wp2_with fail
  go_at_call 12
  refine (HO.out _ w.heap.size _ (heap_alloc_new w _) (by rfl)).mono ?_
  rintro e w1 ⟨pv, rfl, hP, hb⟩
  obtain ⟨sT, sO, v1, v2, rfl, h1, h2, h3⟩ := hP
  obtain ⟨A1, c1, e1⟩ := h1.slice
  obtain ⟨A2, c2, e2⟩ := h2.slice
  obtain ⟨u1, u2, e0, h5, h6⟩ := h3
  cases e0
  obtain ⟨A3, c3, rfl⟩ := h5.slice
  obtain ⟨A4, c4, rfl⟩ := ObjsAt.slice h6
  rw [thAts_length] at e1
  rw [obAts_length] at e2
  subst e1 e2
  have hb1 : Below w.heap.size w w1 := ((Below.refl _ _).alloc (Nat.le_refl _) _).trans (hb.mono (by simp))
  have Hb1 := Lib.hid hb1
  clear h1 h2 h5 h6 hb hb1
  have q1 : (plainPart [1]).thr.length = 1 := rfl
  have q2 : (plainPart [1]).obj.length = 0 := rfl
  have q3 : planWords (plainPart [1]) = 75 := rfl
  simp only [planArr, q1, q2, q3]
  clear q1 q2 q3 HO
  go_wp2
  go_ret
  exact ⟨rfl, Hb1.out.alloc Hb1.out.size _⟩
end Go.Proofs.Ytpflejobkjdhdaa
