/-
  septumlaw11.SameCall at two calls that are alike; the walk of ReportBack.
-/
import Derived.Test.YtpmafppcccbmaaaDoorReadCall
import Derived.Test.YtpmafppcccbmaaaDoorLines
set_option linter.unusedVariables false
set_option linter.unusedSimpArgs false
namespace Go.Proofs.YtpmafppcccbmaaaDoor
open Go.RowKit

set_option maxRecDepth 100000 in
set_option maxHeartbeats 3200000 in
theorem same_any (c : CallD) (F1 F2 : Nat → Prop) (v1 v2 : Value) (hl : c.words.length ≤ 1000000) (w : World) (h1 : IntsAt w F1 v1 c.words) (h2 : IntsAt w F2 v2 c.words) :
    Calls Tryd.prog 15 #[callV c v1, callV c v2] w fun e w' => e = .returned (.bool true) ∧ Below w.heap.size w w' := by
  obtain ⟨A1, n1, rfl⟩ := h1.slice
  obtain ⟨A2, n2, rfl⟩ := h2.slice
  have b0 : (c.kind != c.kind) = false := by simp
  have b1 : (c.handle != c.handle) = false := by simp
  have b2 : (c.a != c.a) = false := by simp
  have b3 : (c.b != c.b) = false := by simp
  have b4 : (c.timeout != c.timeout) = false := by simp
  have hbw : Below w.heap.size w ((w.alloc (.cells #[.int .i64 c.kind, .int .i64 c.handle, .int .i64 c.a, .int .i64 c.b, .slice A1 c.words.length n1, .int .i64 c.timeout] 24)).alloc (.cells #[.int .i64 c.kind, .int .i64 c.handle, .int .i64 c.a, .int .i64 c.b, .slice A2 c.words.length n2, .int .i64 c.timeout] 24)) := ((Below.refl _ _).alloc (Nat.le_refl _) _).alloc (by simp) _
  have HB := Lib.hid hbw
  have G1 := Lib.hid h1
  have G2 := Lib.hid h2
  clear hbw h1 h2
  unfold callV
  go_enter Tryd.func15, Tryd.ntmps15
  go_wp2
  go_loopw [5, 51] (fun _ i wr => ∃ k n : Nat, k ≤ c.words.length ∧ i = .int .i64 k ∧ wr = (((w.alloc (.cells #[.int .i64 c.kind, .int .i64 c.handle, .int .i64 c.a, .int .i64 c.b, .slice A1 c.words.length n1, .int .i64 c.timeout] 24)).alloc (.cells #[.int .i64 c.kind, .int .i64 c.handle, .int .i64 c.a, .int .i64 c.b, .slice A2 c.words.length n2, .int .i64 c.timeout] 24)).drewN n)) (fun _ i _ => c.words.length - (intOf i).toNat)
  case atStart => exact ⟨0, 0, Nat.zero_le _, rfl, rfl⟩
  case round =>
    obtain ⟨k, n, hk, rfl, rfl⟩ := hrel
    by_cases hlt : k < c.words.length
    · obtain ⟨d1, o1, t1, e1, _, g1⟩ := G1.out.cells (by omega)
      obtain ⟨d2, o2, t2, e2, _, g2⟩ := G2.out.cells (by omega)
      cases e1
      cases e2
      have k1 := g1 k c.words[k] (List.getElem?_eq_getElem hlt)
      have k2 := g2 k c.words[k] (List.getElem?_eq_getElem hlt)
      rw [← HB.out.cell (p := ⟨d1, o1 + k, none⟩) (World.block_lt_of_cell? w _ k1)] at k1
      rw [← HB.out.cell (p := ⟨d2, o2 + k, none⟩) (World.block_lt_of_cell? w _ k2)] at k2
      have i1 : (k : Int) < (c.words.length : Int) := by omega
      have i3 : (0 : Int) ≤ (k : Int) := by omega
      clear g1 g2
      generalize c.words[k] = x at *
      have hb0 : (x != x) = false := by simp
      go_wp2
      go_quiet (fail)
      go_wp2
      go_roundw
      case rel => exact ⟨k + 1, _, by omega, by go_num, rfl⟩
      case measure => simp [intOf]; omega
    · go_wp2
      go_ret
      exact ⟨rfl, HB.out.trans ⟨rfl, rfl, rfl, Nat.le_refl _, fun _ _ => rfl⟩⟩
end Go.Proofs.YtpmafppcccbmaaaDoor
