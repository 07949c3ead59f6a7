/-
  report.kindOf, report.numbers.
-/
import Derived.Test.YtpmafppcccbmaaaDoorParse
set_option linter.unusedVariables false
set_option linter.unusedSimpArgs false
namespace Go.Proofs.YtpmafppcccbmaaaDoor
open Go.RowKit

set_option maxRecDepth 100000 in
set_option maxHeartbeats 1600000 in
theorem kindOf_any (l : List UInt8) (w : World) (hT : Tabs w) :
    Calls Tryd.prog 31 #[.string (sb l)] w fun e w' => e = .returned (.int .i64 (kindIx l)) ∧ w = w' := by
  have HK := Lib.hid (kindIx_hit l)
  have HZ := Lib.hid (kindIx_none l)
  have HN := Lib.hid (fun k : Int => name_any k w hT)
  go_enter Tryd.func31, Tryd.ntmps31
  go_wp2
  go_loop [3, 4] (fun _ i => ∃ k : Nat, k ≤ 24 ∧ i = .int .i64 k ∧ Hid (∀ j, j < k → kindNames.getD j [] ≠ l)) (fun _ i => 24 - (intOf i).toNat)
  case atStart => exact ⟨0, by omega, rfl, Lib.hid (fun j h => by omega)⟩
  case round =>
    obtain ⟨k, hk, rfl, hn⟩ := hrel
    by_cases hlt : k < 24
    · have e1 : nameL (k : Int) = kindNames.getD k [] := (nameL_nat k (by omega) (by omega)).1
      have hN := HN.out (k : Int)
      rw [e1] at hN
      have HN1 := Lib.hid hN
      clear e1 hN
      by_cases he : kindNames.getD k [] = l
      · have hr := HK.out k hlt he hn.out
        have HR := Lib.hid hr
        rw [he] at HN1
        clear hr he
        go_wp2_with (go_at_call 27; refine HN1.out.mono ?_; rintro e w1 ⟨rfl, rfl⟩)
        go_ret
        exact ⟨by rw [HR.out]; rfl, rfl⟩
      · have hne := sb_bne he
        have hn' : Hid (∀ j, j < k + 1 → kindNames.getD j [] ≠ l) := Lib.hid (fun j hj => by
          rcases Nat.lt_or_ge j k with h | h
          · exact hn.out j h
          · have : j = k := by omega
            subst this
            exact he)
        generalize kindNames.getD k [] = nm at *
        go_wp2_with (go_at_call 27; refine HN1.out.mono ?_; rintro e w1 ⟨rfl, rfl⟩)
        go_round
        case rel => exact ⟨k + 1, by omega, by go_num, hn'⟩
        case measure => simp [intOf]; omega
    · have hr := HZ.out (fun j hj => hn.out j (by omega))
      have HR := Lib.hid hr
      clear hr
      go_wp2
      go_ret
      exact ⟨by rw [HR.out]; rfl, rfl⟩
end Go.Proofs.YtpmafppcccbmaaaDoor
