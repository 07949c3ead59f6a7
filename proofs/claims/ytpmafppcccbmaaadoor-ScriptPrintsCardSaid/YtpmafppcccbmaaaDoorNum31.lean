/-
  septumref31.Number, CallText; script's bit.
-/
import Derived.Test.YtpmafppcccbmaaaDoorCall
import Derived.Test.YtpmafppcccbmaaaDoorPlain
set_option linter.unusedVariables false
set_option linter.unusedSimpArgs false
namespace Go.Proofs.YtpmafppcccbmaaaDoor
open Go.RowKit

set_option maxRecDepth 100000 in
set_option maxHeartbeats 1600000 in
theorem number31_any (n : Int) (h0 : -9223372036854775808 ≤ n) (h1 : n ≤ 9223372036854775807) (w : World) :
    Calls Tryd.prog 42 #[.int .i64 n] w fun e w' => e = .returned (.string (sb (Lib.itoa n))) ∧ Below w.heap.size w w' := by
  have HN := Lib.hid (itoa_nat n)
  have HL := Lib.hid (fun (m : Int) (l : List UInt8) (h : NumRel n m l) => h.length h0 h1)
  by_cases hs : n < 0
  all_goals
    go_enter Tryd.func42, Tryd.ntmps42
    go_wp2
    go_loopw [0, 3] (fun v s wr => ∃ (m : Int) (l : List UInt8), v = .int .i64 m ∧ s = .string (sb l) ∧ -9223372036854775808 ≤ m ∧ m ≤ 9223372036854775807 ∧ Hid (NumRel n m l) ∧ Hid (Below w.heap.size w wr)) (fun v _ _ => (intOf v).natAbs)
    case atStart => exact ⟨n, [], rfl, rfl, h0, h1, Lib.hid (NumRel.start n), Lib.hid (Below.refl _ _)⟩
    case round =>
      obtain ⟨m, l, rfl, rfl, m0, m1, HR, HB⟩ := hrel
      have hz : w.heap.size ≤ wr.heap.size := HB.out.size
      obtain ⟨ew, ea⟩ := tdiv_wrap m0 m1
      have Ha := Lib.hid ea
      clear ea
      have hll := HL.out m l HR.out
      have hl1 : (sb [digitOf m]).size + (sb l).size ≤ 9223372036854775807 := by rw [sb_size, sb_size]; simp; omega
      by_cases hq : m.natAbs < 10
      · have e0 : m.tdiv 10 = 0 := by have := Ha.out; omega
        have hl2 : (ByteArray.mk #[45]).size + (sb (digitOf m :: l)).size ≤ 9223372036854775807 := by rw [sb_size, show (ByteArray.mk #[45]).size = 1 from rfl]; simp; omega
        by_cases hn : m.tmod 10 < 0
        all_goals
          first | have e := digit_neg hn | have e := digit_pos hn
          have hconv := conv_one (W := wr.alloc (.cells #[.int .u8 ((digitOf m).toNat)] 5)) wr.heap.size (digitOf m) (by simp)
          rw [← e] at hconv
          clear e
          have ea := sb_append [digitOf m] l
          simp only [List.singleton_append] at ea
          go_wp2
          go_ret
          refine ⟨?_, HB.out.alloc hz _⟩
          rw [HN.out, HR.out.last hq]
          first
            | (rw [if_neg (by omega)]; done)
            | (rw [if_neg (by omega)]; rfl)
            | (rw [if_pos (by omega)]; exact ret_str (sb_append [45] _))
      · have e0 : ¬ m.tdiv 10 = 0 := by have := Ha.out; omega
        have e1 : (m.tdiv 10 == 0) = false := by simpa using e0
        by_cases hn : m.tmod 10 < 0
        all_goals
          first | have e := digit_neg hn | have e := digit_pos hn
          have hconv := conv_one (W := wr.alloc (.cells #[.int .u8 ((digitOf m).toNat)] 5)) wr.heap.size (digitOf m) (by simp)
          rw [← e] at hconv
          clear e
          have ea := sb_append [digitOf m] l
          simp only [List.singleton_append] at ea
          go_wp2
          go_roundw
          case rel => exact ⟨m.tdiv 10, digitOf m :: l, rfl, rfl, by have := Ha.out; omega, by have := Ha.out; omega, Lib.hid (HR.out.next hq), Lib.hid (HB.out.alloc hz _)⟩
          case measure =>
            show (m.tdiv 10).natAbs < m.natAbs
            rw [Ha.out]; omega
theorem number31_i64 (n : Int) (h : I64 n) (w : World) :
    Calls Tryd.prog 42 #[.int .i64 n] w fun e w' => e = .returned (.string (sb (Lib.itoa n))) ∧ Below w.heap.size w w' := number31_any n h.1 h.2 w

theorem bit_any (b : Bool) (w : World) :
    Calls Tryd.prog 60 #[.bool b] w fun e w' => e = .returned (.int .i64 (if b then 1 else 0)) ∧ w = w' := by
  cases b
  all_goals
    go_enter Tryd.func60, Tryd.ntmps60
    go_wp2
    go_ret
    exact ⟨rfl, rfl⟩
theorem bit31_any (b : Bool) (w : World) :
    Calls Tryd.prog 43 #[.bool b] w fun e w' => e = .returned (.string (sb (Lib.itoa (if b then 1 else 0)))) ∧ w = w' := by
  have h1 : sb (Lib.itoa 1) = ByteArray.mk #[49] := by rw [itoa_nat, if_neg (by decide), show (1 : Int).natAbs = 1 from rfl, decDigits_small 1 (by decide)]; rfl
  have h0 : sb (Lib.itoa 0) = ByteArray.mk #[48] := by rw [itoa_nat, if_neg (by decide), show (0 : Int).natAbs = 0 from rfl, decDigits_small 0 (by decide)]; rfl
  cases b
  all_goals
    go_enter Tryd.func43, Tryd.ntmps43
    go_wp2
    go_ret
    refine ⟨ret_str ?_, rfl⟩
    first | rfl | exact h1.symm | exact h0.symm
end Go.Proofs.YtpmafppcccbmaaaDoor
