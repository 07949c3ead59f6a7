/-
  What all texts of this seat import, and small facts of the walks.
-/
import Derived.Test.YtpmafppcccbmaaaDoorDec
import Derived.Test.YtpmafppcccbmaaaDoorProg
import Derived.Lib.Hide
import Derived.WalkKit
import Derived.WalkSpells
import Derived.WalkLawsBesides
import Derived.KernelRfl
import Derived.Deep.QuietTactic
import Derived.BigQuiet
import Derived.Deep.RegionHeld3
import Derived.Deep.AppendLies
import Derived.Deep.RegionLaw
import Derived.BigRegion
import Derived.Deep.DeepCutAuto
import Derived.Laws.IdiomStrings
set_option linter.unusedVariables false
set_option linter.unusedSimpArgs false
namespace Go.Proofs.YtpmafppcccbmaaaDoor
open Go.RowKit

theorem bcell {W w1 : World} (hb : Below W.heap.size W w1) : (∀ b o, b < W.heap.size → w1.cell? ⟨b, o, none⟩ = W.cell? ⟨b, o, none⟩) ∧ (∀ b o, b < W.heap.size → w1.frozen? ⟨b, o, none⟩ = W.frozen? ⟨b, o, none⟩) :=
  ⟨fun b o h => hb.cell (p := ⟨b, o, none⟩) h, fun b o h => hb.frozen (p := ⟨b, o, none⟩) h⟩

theorem cat (x y : List UInt8) (h : x.length + y.length ≤ 140737488355328) : ∃ z, Hid (z = x ++ y) ∧ z.length ≤ x.length + y.length ∧ ¬ 9223372036854775807 < (sb x).size + (sb y).size ∧ sb x ++ sb y = sb z :=
  ⟨x ++ y, Lib.hid rfl, by simp, by rw [sb_size, sb_size]; omega, sb_append x y⟩
/-- .. with a constant behind, or ahead. -/
theorem catK (x y : List UInt8) (k : ByteArray) (n : Nat) (hk : k = sb y) (hn : y.length = n) (h : x.length + n ≤ 140737488355328) : ∃ z, Hid (z = x ++ y) ∧ z.length ≤ x.length + n ∧ ¬ 9223372036854775807 < (sb x).size + n ∧ sb x ++ k = sb z := by
  subst hk hn
  obtain ⟨z, a, b, c, d⟩ := cat x y h
  exact ⟨z, a, b, by rw [sb_size y] at c; exact c, d⟩
theorem catL (x y : List UInt8) (k : ByteArray) (n : Nat) (hk : k = sb x) (hn : x.length = n) (h : n + y.length ≤ 140737488355328) : ∃ z, Hid (z = x ++ y) ∧ z.length ≤ n + y.length ∧ ¬ 9223372036854775807 < n + (sb y).size ∧ k ++ sb y = sb z := by
  subst hk hn
  obtain ⟨z, a, b, c, d⟩ := cat x y h
  exact ⟨z, a, b, by rw [sb_size x] at c; exact c, d⟩
theorem sb_isEmpty (l : List UInt8) : (sb l).toList.isEmpty = l.isEmpty := by rw [ByteArray.toList_eq, sb_toList]
theorem sb_beq (a b : List UInt8) : ((sb a).toList == (sb b).toList) = (a == b) := by rw [ByteArray.toList_eq, ByteArray.toList_eq, sb_toList, sb_toList]
theorem sb_bne {a b : List UInt8} (h : a ≠ b) : ((sb a).toList == (sb b).toList) = false := by rw [sb_beq]; simpa using h
theorem keep_cell {wa wb : World} (hb : Below wa.heap.size wa wb) {b j : Nat} {v : Value} (h : wa.cell? ⟨b, j, none⟩ = some v) : wb.cell? ⟨b, j, none⟩ = some v := by
  rw [hb.cell (p := ⟨b, j, none⟩) (World.block_lt_of_cell? wa _ h)]; exact h
theorem keep_below {B : Nat} {w0 wa wb : World} (h : Below B w0 wa) (hB : B ≤ w0.heap.size) (hb : Below wa.heap.size wa wb) : Below B w0 wb := h.trans (hb.mono (Nat.le_trans hB h.size))
theorem keep_alloc {B : Nat} {w0 wa : World} (h : Below B w0 wa) (hB : B ≤ w0.heap.size) (o : Obj) : Below B w0 (wa.alloc o) := h.alloc (Nat.le_trans hB h.size) o
theorem ret_str {a b : ByteArray} (h : a = b) : Ending.returned (.string a) = .returned (.string b) := by rw [h]

/-- One byte, as a text. -/
theorem conv_one {W : World} (b : Nat) (c : UInt8) (hc : W.cell? ⟨b, 0, none⟩ = some (.int .u8 c.toNat)) :
    (convert 76 9 (.slice (some ⟨b, 0, none⟩) 1 1)).run Tryd.prog W = .ok (.string (sb [c])) W :=
  run_convert_bytes_back W 76 9 5 ⟨b, 0, none⟩ 1 [c] Tryd.underlying76 Tryd.underlying5 Tryd.underlying9 (fun j hj => by
    have : j = 0 := by simp at hj; omega
    subst this
    simpa [Addr.add] using hc)
end Go.Proofs.YtpmafppcccbmaaaDoor
