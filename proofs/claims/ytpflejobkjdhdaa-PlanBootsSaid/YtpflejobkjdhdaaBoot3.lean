/-
  plan.number, boot.
-/
import Derived.Test.YtpflejobkjdhdaaBoot2
import Derived.Test.YtpflejobkjdhdaaOf
set_option linter.unusedVariables false
set_option linter.unusedSimpArgs false
namespace Go.Proofs.Ytpflejobkjdhdaa
open Go.RowKit

def numOf (n : Nat) (node : Int) : Int := ofNode n node + 1
theorem numOf_range (n : Nat) (node : Int) : 0 ≤ numOf n node ∧ numOf n node ≤ n := by
  have := firstAt_ge (fun y => node == y) (thAts n) 0
  rw [thAts_length] at this
  unfold numOf ofNode
  omega

set_option maxRecDepth 100000 in
set_option maxHeartbeats 1600000 in
theorem number_any (P : PartD) (pv : Value) (F : Nat → Prop) (hn : P.thr.length ≤ 6) (node : Int) (w : World) (h : PlanVal w F pv P) :
    Calls Try.prog 90 #[pv, .int .i64 node] w fun e w' => e = .returned (.int .i64 (numOf P.thr.length node)) ∧ Below w.heap.size w w' := by
  obtain ⟨sT, sO, v1, v2, rfl, h1, h2, h3⟩ := h
  obtain ⟨A1, c1, e1⟩ := h1.slice
  rw [thAts_length] at e1
  subst e1
  have HI := Lib.hid h1
  have hR : firstAt (fun y => node == y) ((thAts P.thr.length).drop 0) 0 + 1 = numOf P.thr.length node := rfl
  generalize numOf P.thr.length node = R at *
  have HR := Lib.hid hR
  clear h1 h2 h3 hR
  unfold planArr
  go_enter Try.func90, Try.ntmps90
  go_wp2
  have HB : Hid (Below w.heap.size w (w.alloc (.cells (planArr (.slice A1 P.thr.length c1) sO v1 v2 (planWords P)) 31))) := Lib.hid ((Below.refl _ _).alloc (Nat.le_refl _) _)
  go_loop [10] (fun i => ∃ k : Nat, k ≤ P.thr.length ∧ i = .int .i64 k ∧ firstAt (fun y => node == y) ((thAts P.thr.length).drop k) k + 1 = R) (fun i => P.thr.length - (intOf i).toNat)
  case atStart => exact ⟨0, Nat.zero_le _, rfl, HR.out⟩
  case round =>
    obtain ⟨k, hk, rfl, hr⟩ := hrel
    by_cases hlt : k < P.thr.length
    · have hlc : (k : Int) < (P.thr.length : Int) := by omega
      have hl2 : k < (thAts P.thr.length).length := by rw [thAts_length]; exact hlt
      obtain ⟨b1, o1, c1', e, hFb1, hcells1⟩ := HI.out.cell (by rw [thAts_length]; omega)
      rw [thAts_length] at e
      cases e
      have e0 := hcells1 k (thAt k) (by simp [thAts, hlt])
      have lb1 : b1 < w.heap.size := World.block_lt_of_cell? w _ e0
      have hge : (thAts P.thr.length)[k]? = some (thAt k) := by simp [thAts, hlt]
      rw [firstAt_drop _ _ _ _ hge] at hr
      have Hr := Lib.hid hr
      clear hr hge hcells1 hl2
      unfold thAt at *
      cases hxy : (51 + 24 * (k : Int) == node) with
      | true =>
        have hyx : (node == 51 + 24 * (k : Int)) = true := by simp at hxy ⊢; omega
        have hr' : (k : Int) + 1 = R := by rw [← Hr.out, hyx]; rfl
        have Hr' := Lib.hid hr'
        clear hr' hyx
        go_wp2
        go_ret
        exact ⟨by rw [← Hr'.out]; rfl, HB.out⟩
      | false =>
        have hyx : (node == 51 + 24 * (k : Int)) = false := by simp at hxy ⊢; omega
        have hr' : firstAt (fun y => node == y) ((thAts P.thr.length).drop (k + 1)) (k + 1) + 1 = R := by rw [← Hr.out, hyx]; rfl
        have Hr' := Lib.hid hr'
        clear hr' hyx
        go_wp2
        go_round
        case rel => exact ⟨k + 1, by omega, by go_num, Hr'.out⟩
        case measure => simp [intOf]; omega
    · have hr' : R = 0 := by rw [← hr, List.drop_eq_nil_of_le (by rw [thAts_length]; omega)]; rfl
      have Hr' := Lib.hid hr'
      clear hr hr'
      go_wp2
      go_ret
      exact ⟨by rw [Hr'.out]; rfl, HB.out⟩
end Go.Proofs.Ytpflejobkjdhdaa
