/-
  script.Print.
-/
import Derived.Test.YtpmafppcccbmaaaDoorConfD
set_option linter.unusedVariables false
set_option linter.unusedSimpArgs false
namespace Go.Proofs.YtpmafppcccbmaaaDoor
open Go.RowKit

theorem row_any (Wa : World) (b : Nat) (xs : List Int) (hb : Wa.heap.size ≠ b) (W : World) (ho : Others b (Wa.alloc (.cells (encInts xs).toArray 2)) W) : RowAt W (some ⟨Wa.heap.size, 0, none⟩) xs := by
  have z := others_block ho (heap_alloc_new Wa (.cells (encInts xs).toArray 2)) hb (by decide)
  intro i u hu
  refine ⟨_, 0, rfl, ?_⟩
  rw [cell_of_row _ _ _ _ _ _ z]
  simp [encInts, hu]
/-- A line of numbers behind a stored loop variable. -/
theorem wlineN (B b : Nat) (l name : List UInt8) (xs : List Int) (wr : World) (o : Array Value) (tb : TypeId) (hto : tb ≠ 5) (hB : Bld 80 B b l wr) (hBw : B ≤ wr.heap.size) (hT : ∀ W, Below B wr W → Tabs W)
    (hx : ∀ x ∈ xs, I64 x) (hxl : xs.length ≤ 10) (hl : l.length + name.length + 1000 ≤ 140737488355328) :
    Calls Tryd.prog 40 #[.pointer (some ⟨b, 0, none⟩), .string (sb name), .slice (some ⟨wr.heap.size + 1, 0, none⟩) xs.length xs.length] (((wr.alloc (.cells o tb)).alloc (.cells (encInts xs).toArray 2)).drew)
      fun e w2 => e = .returned (.tuple #[]) ∧ Bld 80 B b (l ++ wlineL name xs) w2 ∧ Below B wr w2 ∧ Others b wr w2 ∧ w2.heap[wr.heap.size]? = some (.cells o tb (0, 0)) := by
  have hbl := bld_lt hB
  have hs1 : (wr.alloc (.cells o tb)).heap.size = wr.heap.size + 1 := by simp
  have hbw : Below wr.heap.size wr (((wr.alloc (.cells o tb)).alloc (.cells (encInts xs).toArray 2)).drew) := Below.drew (Below.alloc (Below.alloc (Below.refl _ _) (Nat.le_refl _) _) (by omega) _)
  have hbB := hbw.mono hBw
  have h := wline_any B b l name xs (some ⟨(wr.alloc (.cells o tb)).heap.size, 0, none⟩) xs.length _ (bld_kept hB hbw) (Nat.le_trans hBw hbw.size) (fun W hW => hT W (hbB.trans hW)) hx (by omega) (by omega) (fun W _ ho => row_any (wr.alloc (.cells o tb)) b xs (by omega) W ho)
  rw [hs1] at h
  refine h.mono ?_
  rintro e w2 ⟨rfl, hb2, hw2, ho2⟩
  have z0 : (((wr.alloc (.cells o tb)).alloc (.cells (encInts xs).toArray 2)).drew).heap[wr.heap.size]? = some (.cells o tb (0, 0)) := heap_alloc2_old _ _ _
  exact ⟨rfl, hb2, hbB.trans hw2, (others_below (Lib.OthersKept.refl _ _ _) hbw).trans ho2, others_block ho2 z0 (by omega) hto⟩
end Go.Proofs.YtpmafppcccbmaaaDoor
