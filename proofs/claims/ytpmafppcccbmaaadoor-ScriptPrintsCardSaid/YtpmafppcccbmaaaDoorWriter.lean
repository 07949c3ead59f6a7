/-
  script.writer: line.
-/
import Derived.Test.YtpmafppcccbmaaaDoorSpaced
set_option linter.unusedVariables false
set_option linter.unusedSimpArgs false
namespace Go.Proofs.YtpmafppcccbmaaaDoor
open Go.RowKit

/-- Numbers that stand in a row. -/
def RowAt (W : World) (A : Option Addr) (xs : List Int) : Prop := ∀ (i : Nat) (x : Int), xs[i]? = some x → ∃ g o, A = some ⟨g, o, none⟩ ∧ W.cell? ⟨g, o + i, none⟩ = some (.int .i64 x)
def wlineL (name : List UInt8) (xs : List Int) : List UInt8 := name ++ (spacedL xs ++ [10])

theorem others_below {b : Nat} {a w w' : World} (h : Others b a w) (hb : Below w.heap.size w w') : Others b a w' := fun k x hk hkb hx => by
  have h1 := h k x hk hkb hx
  rw [hb.block k (Array.getElem?_eq_some_iff.1 h1).1]
  exact h1
theorem drew_below {a w : World} (h : Below a.drew.heap.size a.drew w) : Below a.heap.size a w := (Below.drew (Below.refl a.heap.size a)).trans h
set_option maxRecDepth 100000 in
set_option maxHeartbeats 1600000 in
theorem wline_any (B b : Nat) (l name : List UInt8) (xs : List Int) (A : Option Addr) (c : Nat) (w : World) (hB : Bld 80 B b l w) (hBw : B ≤ w.heap.size) (hT : ∀ W, Below B w W → Tabs W) (hx : ∀ x ∈ xs, I64 x)
    (hl : l.length + name.length + 22 * xs.length + 1 ≤ 140737488355328) (hxl : xs.length ≤ 1000000) (hA : ∀ W, Below B w W → Others b w W → RowAt W A xs) :
    Calls Tryd.prog 40 #[.pointer (some ⟨b, 0, none⟩), .string (sb name), .slice A xs.length c] w fun e w' => e = .returned (.tuple #[]) ∧ Bld 80 B b (l ++ wlineL name xs) w' ∧ Below B w w' ∧ Others b w w' := by
  have HB := Lib.hid hB
  have HT := Lib.hid hT
  have Hx := Lib.hid hx
  have HA := Lib.hid hA
  clear hB hT hx hA
  go_enter Tryd.func40, Tryd.ntmps40
  go_wp2_with (go_at_call 47; refine (writeString_any 80 bears_writer (by decide) B b l name w HB.out (by omega) hBw).mono ?_; rintro e w1 ⟨rfl, hb1, hw1, ho1⟩; refine Hid.out ?_)
  have H1 := Lib.hid hb1
  have W1 := Lib.hid hw1
  have O1 := Lib.hid ho1
  clear hb1 hw1 ho1
  refine Lib.hid ?_
  go_wp2
  go_loopw [7, 15] (fun _ i wr => ∃ k : Nat, k ≤ xs.length ∧ i = .int .i64 k ∧ Hid (Bld 80 B b (l ++ name ++ spacedL (xs.take k)) wr) ∧ Hid (Below B w wr) ∧ Hid (Others b w wr)) (fun _ i _ => xs.length - (intOf i).toNat)
  case atStart => exact ⟨0, Nat.zero_le _, rfl, by simpa [spacedL] using H1, W1, O1⟩
  case round =>
    obtain ⟨k, hk, rfl, hb, hw, ho⟩ := hrel
    have hsz := hw.out.size
    by_cases hlt : k < xs.length
    · obtain ⟨g, o, rfl, d⟩ := HA.out _ hw.out ho.out k xs[k] (List.getElem?_eq_getElem hlt)
      have hxk := Hx.out xs[k] (List.getElem_mem hlt)
      have HS := Lib.hid (spacedL_snoc xs k hlt)
      have hll := spacedL_len (xs.take k) (fun y hy => Hx.out y (List.mem_of_mem_take hy))
      rw [List.length_take] at hll
      have hil := itoa_len hxk
      have hlc : (k : Int) < (xs.length : Int) := by omega
      have HNH := Lib.hid (fun W (hb : Below B w W) => fmt_any xs[k] hxk W (HT.out W hb))
      generalize xs[k] = x at *
      have hl1 : (ByteArray.mk #[32]).size + (sb (Lib.itoa x)).size ≤ 9223372036854775807 := by rw [sb_size, show (ByteArray.mk #[32]).size = 1 from rfl]; omega
      have hl2 : ¬ 9223372036854775807 < 1 + (sb (Lib.itoa x)).size := by rw [sb_size]; omega
      have hl3 : ¬ 9223372036854775807 < (ByteArray.mk #[32]).size + (sb (Lib.itoa x)).size := by omega
      have ea : ByteArray.mk #[32] ++ sb (Lib.itoa x) = sb (32 :: Lib.itoa x) := sb_append [32] _
      go_wp2_with fail
      go_region_with (first
        | (go_at_call 61; refine (HNH.out _ (Below.drew hw.out)).mono ?_; rintro e w1 ⟨rfl, hb3⟩)
        | (go_at_call 47; refine (writeString_any 80 bears_writer (by decide) B b _ (32 :: Lib.itoa x) _ (bld_kept (w := wr) hb.out (drew_below hb3)) (by simp only [List.length_append, List.length_cons]; omega) (Nat.le_trans (Nat.le_trans hBw hsz) (Below.size (drew_below hb3)))).mono ?_; rintro e w2 ⟨rfl, hb2, hw2, ho2⟩))
      have hw' := Lib.hid ((hw.out.trans ((drew_below hb3).mono (Nat.le_trans hBw hsz))).trans hw2)
      have ho' : Hid (Others b w w2) := Lib.hid ((others_below ho.out (drew_below hb3)).trans ho2)
      rw [List.append_assoc, ← HS.out] at hb2
      have hb' := Lib.hid hb2
      clear hb2 hw2 hb3 ea ho2
      go_wp2
      go_roundw
      case rel => exact ⟨k + 1, by omega, by go_num, hb', hw', ho'⟩
      case measure => simp [intOf]; omega
    · have e : xs.take k = xs := List.take_of_length_le (by omega)
      rw [e] at hb
      clear e
      have hll := spacedL_len xs Hx.out
      go_wp2_with (go_at_call 62; refine (writeByte_any 80 bears_writer (by decide) B b _ 10 _ hb.out (by simp only [List.length_append]; omega) (Nat.le_trans hBw hsz)).mono ?_; rintro e w1 ⟨rfl, hb1, hw1, ho1⟩)
      refine bodyPost_end (v := .tuple #[]) (by simp [results, Tryd.results40, go_sem]) rfl ⟨rfl, ?_, hw.out.trans hw1, ho.out.trans ho1⟩
      have : l ++ wlineL name xs = l ++ name ++ spacedL xs ++ [10] := by unfold wlineL; simp
      rw [this]
      exact hb1
end Go.Proofs.YtpmafppcccbmaaaDoor
