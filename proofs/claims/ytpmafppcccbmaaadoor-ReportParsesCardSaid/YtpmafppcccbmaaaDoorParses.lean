/-
  The walk of ReportParses.
-/
import Derived.Test.YtpmafppcccbmaaaDoorWritten
import Derived.Test.YtpmafppcccbmaaaDoorLines
set_option linter.unusedVariables false
set_option linter.unusedSimpArgs false
namespace Go.Proofs.YtpmafppcccbmaaaDoor
open Go.RowKit

theorem spacedL_ge (xs : List Int) : xs.length ≤ (spacedL xs).length := by
  unfold spacedL
  induction xs with
  | nil => simp
  | cons x xs ih => rw [List.flatMap_cons, List.length_append, List.length_cons, List.length_cons]; omega
theorem words_len (c : CallD) : c.words.length ≤ (callL c).length := by
  unfold callL
  have := spacedL_ge c.words
  simp only [List.length_append]
  omega
set_option maxRecDepth 100000 in
set_option maxHeartbeats 3200000 in
theorem parses_any (s : List UInt8) (w : World) (hT : TabsP w) :
    Calls Tryd.prog 5 #[.string (sb s)] w fun r w' => r = .returned (.bool true) ∧ Below w.heap.size w w' := by
  have HA := Lib.hid (fun (W : World) (hb : Below w.heap.size w W) => awake30_any W (hT.on hb).tabs)
  have HT := Lib.hid hT
  have hsz := sb_size s
  clear hT
  by_cases g1 : s.length ≤ 500
  · have d2 : ¬ (500 : Int) < (s.length : Int) := by omega
    go_enter Tryd.func5, Tryd.ntmps5
    go_wp2_with (go_at_call 9; refine (HA.out _ (Below.refl _ _)).mono ?_; rintro r w1 ⟨rfl, hb1⟩; refine Hid.out ?_)
    have H1 := Lib.hid hb1
    have HP := Lib.hid (fun (W : World) (hb : Below w.heap.size w W) => parse_any s (by omega) W (HT.out.on hb))
    clear hb1
    refine Lib.hid ?_
    go_wp2_with fail
    go_at_call 14
    refine (HP.out _ ?_).mono ?_
    · exact H1.out
    · rintro e w2 ⟨hb2, hx⟩
      have H2 := Lib.hid hb2
      clear hb2
      rcases hx with ⟨hnone, rfl⟩ | ⟨c, v, hsome, rfl, hi⟩
      · have hW : writtenL s = false := by
          cases h : writtenL s with
          | false => rfl
          | true => exact absurd hnone (written_some s h)
        have HW := Lib.hid (fun W => (written_any s (by omega) W))
        rw [hW] at HW
        unfold callV zeroCall
        clear hnone hW
        go_wp2_with (go_at_call 16; refine (HW.out _).mono ?_; rintro r w3 ⟨rfl, hb3⟩; refine Hid.out ?_)
        have H3 := Lib.hid (keep_below (keep_alloc (keep_below H1.out (Nat.le_refl _) H2.out) (Nat.le_refl _) _) (Nat.le_refl _) hb3)
        clear hb3
        refine Lib.hid ?_
        go_wp2_with fail
        go_ret
        exact ⟨rfl, H3.out⟩
      · obtain ⟨A, n, rfl⟩ := IntsAt.slice hi
        obtain ⟨hcall, hk0, hk1, hok⟩ := parse_some s c hsome
        have hlw : c.words.length ≤ 1000000 := by have := words_len c; rw [hcall] at this; omega
        have HC := Lib.hid (fun (o : Obj) => callsLaw_any c hok (fun k => w1.heap.size ≤ k) (.slice A c.words.length n) hlw (w2.alloc o) (IntsAt.kept (fun k hk _ => Below.heap_alloc _ _ _ hk) hi))
        rw [hcall] at HC
        unfold callV at HC ⊢
        clear hi hsome hcall hok
        go_wp2_with (go_at_call 13; refine (HC.out _).mono ?_; rintro r w3 ⟨rfl, hb3⟩; refine Hid.out ?_)
        have H3 := Lib.hid (keep_below (keep_alloc (keep_below H1.out (Nat.le_refl _) H2.out) (Nat.le_refl _) _) (Nat.le_refl _) hb3)
        have c0 := keep_cell hb3 (b := w2.heap.size) (j := 0) (by simp; rfl)
        have hk2 : ¬ 23 < c.kind := by omega
        clear hb3
        refine Lib.hid ?_
        go_wp2_with fail
        go_ret
        exact ⟨rfl, H3.out⟩
  · have d2 : (500 : Int) < (s.length : Int) := by omega
    go_enter Tryd.func5, Tryd.ntmps5
    go_wp2_with (go_at_call 9; refine (HA.out _ (Below.refl _ _)).mono ?_; rintro r w1 ⟨rfl, hb1⟩; refine Hid.out ?_)
    have H1 := Lib.hid hb1
    clear hb1
    refine Lib.hid ?_
    go_wp2_with (go_at_call 9; refine (HA.out _ H1.out).mono ?_; rintro r w2 ⟨rfl, hb2⟩)
    go_ret
    exact ⟨rfl, keep_below H1.out (Nat.le_refl _) hb2⟩
end Go.Proofs.YtpmafppcccbmaaaDoor
