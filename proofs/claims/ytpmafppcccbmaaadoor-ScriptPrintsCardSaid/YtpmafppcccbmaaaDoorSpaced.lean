/-
  report.number, report.spaced: numbers, a blank ahead of each.
-/
import Derived.Test.YtpmafppcccbmaaaDoorNames
import Derived.Test.YtpmafppcccbmaaaDoorBld
import Derived.Test.YtpmafppcccbmaaaDoorNum
set_option linter.unusedVariables false
set_option linter.unusedSimpArgs false
namespace Go.Proofs.YtpmafppcccbmaaaDoor
open Go.RowKit

theorem fmt_any (n : Int) (h : I64 n) (w : World) (hT : Tabs w) :
    Calls Tryd.prog 61 #[.int .i64 n, .int .i64 10] w fun e w' => e = .returned (.string (sb (Lib.itoa n))) ∧ Below w.heap.size w w' := by
  refine (Tryd.strconv_FormatInt_10 n h.1 h.2 w hT.pow).mono ?_
  rintro e w' ⟨rfl, k, os, rfl⟩
  exact ⟨rfl, below_grow w k os⟩
theorem itoaGo_any (n : Int) (h : I64 n) (w : World) (hT : Tabs w) :
    Calls Tryd.prog 25 #[.int .i64 n] w fun e w' => e = .returned (.string (sb (Lib.itoa n))) ∧ Below w.heap.size w w' := by
  refine (Tryd.strconv_Itoa n h.1 h.2 w hT.pow).mono ?_
  rintro e w' ⟨rfl, k, os, rfl⟩
  exact ⟨rfl, below_grow w k os⟩

theorem num_any (n : Int) (h : I64 n) (w : World) (hT : Tabs w) :
    Calls Tryd.prog 48 #[.int .i64 n] w fun e w' => e = .returned (.string (sb (Lib.itoa n))) ∧ Below w.heap.size w w' := by
  go_enter Tryd.func48, Tryd.ntmps48
  go_wp2_with (go_at_call 61; refine (fmt_any n h _ hT).mono ?_; rintro e w' ⟨rfl, hb⟩)
  go_ret
  exact ⟨rfl, hb⟩

/-- Words, a blank ahead of each. -/
def spacedL (xs : List Int) : List UInt8 := xs.flatMap fun x => 32 :: Lib.itoa x
theorem itoa_len {n : Int} (h : I64 n) : (Lib.itoa n).length ≤ 21 := by
  rw [itoa_nat]
  have := digits_le20 n.natAbs (by have := h.1; have := h.2; omega)
  split <;> simp [Lib.decDigits_length] <;> omega
theorem spacedL_len (xs : List Int) (h : ∀ x ∈ xs, I64 x) : (spacedL xs).length ≤ 22 * xs.length := by
  induction xs with
  | nil => simp [spacedL]
  | cons x xs ih =>
    have := ih (fun y hy => h y (by simp [hy]))
    have := itoa_len (h x (by simp))
    simp only [spacedL, List.flatMap_cons, List.length_append, List.length_cons] at *
    omega
theorem spacedL_snoc (xs : List Int) (k : Nat) (hk : k < xs.length) : spacedL (xs.take (k + 1)) = spacedL (xs.take k) ++ (32 :: Lib.itoa xs[k]) := by
  unfold spacedL
  rw [List.take_succ_eq_append_getElem hk, List.flatMap_append]
  simp only [List.flatMap_cons, List.flatMap_nil, List.append_nil]

set_option maxRecDepth 100000 in
set_option maxHeartbeats 1600000 in
theorem spaced_any (xs : List Int) (hx : ∀ x ∈ xs, I64 x) (F : Nat → Prop) (v : Value) (hlen : xs.length ≤ 1000000) (w : World) (hT : Tabs w) (h : IntsAt w F v xs) :
    Calls Tryd.prog 28 #[v] w fun e w' => e = .returned (.string (sb (spacedL xs))) ∧ Below w.heap.size w w' := by
  obtain ⟨A, c, rfl⟩ := h.slice
  have Hx := Lib.hid hx
  have H := Lib.hid h
  have HT := Lib.hid hT
  clear hx h hT
  have hB := bld_fresh w
  have HB := Lib.hid hB
  clear hB
  go_enter Tryd.func28, Tryd.ntmps28
  go_wp2
  go_loopw [5, 8] (fun _ i wr => ∃ k : Nat, k ≤ xs.length ∧ i = .int .i64 k ∧ Hid (Bld 78 w.heap.size w.heap.size (spacedL (xs.take k)) wr) ∧ Hid (Below w.heap.size w wr)) (fun _ i _ => xs.length - (intOf i).toNat)
  case atStart => exact ⟨0, Nat.zero_le _, rfl, by simpa [spacedL] using HB, Lib.hid ((Below.refl _ _).alloc (Nat.le_refl _) _)⟩
  case round =>
    obtain ⟨k, hk, rfl, hb, hw⟩ := hrel
    have hsz := hw.out.size
    by_cases hlt : k < xs.length
    · obtain ⟨b, o, c', e, hF, hcells⟩ := H.out.cells (by omega)
      cases e
      have d := hcells k xs[k] (List.getElem?_eq_getElem hlt)
      have lb := World.block_lt_of_cell? w _ d
      rw [← hw.out.cell (p := ⟨b, o + k, none⟩) lb] at d
      have hxk := Hx.out xs[k] (List.getElem_mem hlt)
      have HS := Lib.hid (spacedL_snoc xs k hlt)
      have hll := spacedL_len (xs.take k) (fun y hy => Hx.out y (List.mem_of_mem_take hy))
      rw [List.length_take] at hll
      have hil := itoa_len hxk
      have hlc : (k : Int) < (xs.length : Int) := by omega
      have HN := fun W hb => num_any xs[k] hxk W (HT.out.on (w' := W) hb)
      have HNH := Lib.hid HN
      clear hcells HN
      generalize xs[k] = x at *
      have hl1 : (ByteArray.mk #[32]).size + (sb (Lib.itoa x)).size ≤ 9223372036854775807 := by rw [sb_size, show (ByteArray.mk #[32]).size = 1 from rfl]; omega
      have ea : ByteArray.mk #[32] ++ sb (Lib.itoa x) = sb (32 :: Lib.itoa x) := sb_append [32] _
      go_wp2_with (go_at_call 48; refine (HNH.out _ hw.out).mono ?_; rintro e w1 ⟨rfl, hb1⟩)
      go_at_call 47
      refine (writeString_any 78 bears_builder (by decide) w.heap.size w.heap.size _ (32 :: Lib.itoa x) w1 (bld_kept hb.out hb1) (by simp only [List.length_cons]; omega) (Nat.le_trans hsz hb1.size)).mono ?_
      rintro e w2 ⟨rfl, hb2, hw2, _⟩
      have hw' := Lib.hid ((hw.out.trans (hb1.mono hsz)).trans hw2)
      rw [← HS.out] at hb2
      have hb' := Lib.hid hb2
      clear hb2 hw2 hb1 ea
      go_wp2
      go_roundw
      case rel => exact ⟨k + 1, by omega, by go_num, hb', hw'⟩
      case measure => simp [intOf]; omega
    · have e : xs.take k = xs := List.take_of_length_le (by omega)
      rw [e] at hb
      clear e
      go_wp2_with (go_at_call 41; refine (string_any 78 w.heap.size w.heap.size _ _ hb.out hsz).mono ?_; rintro e w1 ⟨rfl, hb1, _⟩)
      go_ret
      exact ⟨rfl, hw.out.trans hb1⟩
end Go.Proofs.YtpmafppcccbmaaaDoor
