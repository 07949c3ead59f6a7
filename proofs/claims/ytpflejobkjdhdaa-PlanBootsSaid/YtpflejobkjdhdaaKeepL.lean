/-
  Cells that are kept, for regions that draw their order.
-/
import Derived.Test.YtpflejobkjdhdaaKeep2
set_option linter.unusedVariables false
set_option linter.unusedSimpArgs false
namespace Go.Proofs.Ytpflejobkjdhdaa
open Go.RowKit

theorem keepc {w w' : World} {p : Addr} {u : Value} (hb : Below w.heap.size w w') (h : w.cell? p = some u) : w'.cell? p = some u := (hb.cell (World.block_lt_of_cell? w _ h)).trans h
theorem keepa {w : World} {o : Obj} {p : Addr} {u : Value} (h : w.cell? p = some u) : (w.alloc o).cell? p = some u := keepc ((Below.refl w.heap.size w).alloc (Nat.le_refl _) o) h
theorem keeps2 {w : World} {p q r : Addr} {x y u : Value} (h : w.cell? r = some u) (hp : p.block ≠ r.block) (hq : q.block ≠ r.block) : ((w.setCell p x).setCell q y).cell? r = some u := by
  rw [World.cell?_setCell_far _ _ _ _ hq, World.cell?_setCell_far _ _ _ _ hp]; exact h
theorem keepfa {w : World} {o : Obj} {p : Addr} (h : w.frozen? p = false) (hl : p.block < w.heap.size) : (w.alloc o).frozen? p = false := (World.frozen?_of_block (w := w) (Below.heap_alloc w o p.block hl)).trans h
theorem keeps1 {w : World} {p r : Addr} {x u : Value} (h : w.cell? r = some u) (hp : p.block ≠ r.block) : (w.setCell p x).cell? r = some u := by
  rw [World.cell?_setCell_far _ _ _ _ hp]; exact h
theorem belowS {B : Nat} {w0 w : World} {p q : Addr} {x y : Value} (h : Below B w0 w) (hp : B ≤ p.block) (hq : B ≤ q.block) : Below B w0 ((w.setCell p x).setCell q y) := (h.setCell hp x).setCell hq y
theorem belowDA {B : Nat} {w W : World} {o : Obj} (h : Below B w W.drew) (hB : B ≤ w.heap.size) : Below B w (W.alloc o).drew := Below.drew ((show Below B w W from ⟨h.os, h.tape, h.output, h.size, h.block⟩).alloc (Nat.le_trans hB h.size) o)
theorem belowDS {B : Nat} {w0 w : World} {p q : Addr} {x y : Value} (h : Below B w0 w.drew) (hp : B ≤ p.block) (hq : B ≤ q.block) : Below B w0 ((w.setCell p x).setCell q y).drew := Below.drew (belowS (show Below B w0 w from ⟨h.os, h.tape, h.output, h.size, h.block⟩) hp hq)
theorem keepDA {w : World} {o : Obj} {p : Addr} {u : Value} (h : w.drew.cell? p = some u) : (w.alloc o).drew.cell? p = some u := keepa (w := w) h
theorem belowAA {B : Nat} {w W : World} {o o' : Obj} (h : Below B w (W.alloc o)) (hW : B ≤ W.heap.size) (hw : w.heap.size ≤ W.heap.size) : Below B w (W.alloc o') :=
  ⟨h.os, h.tape, h.output, by simp; omega, fun k hk => by rw [Below.heap_alloc W o' k (by omega), ← Below.heap_alloc W o k (by omega)]; exact h.block k hk⟩
theorem keepaa {W : World} {o o' : Obj} {r : Addr} {u : Value} (h : (W.alloc o).cell? r = some u) (hr : r.block < W.heap.size) : (W.alloc o').cell? r = some u := by
  rw [World.cell?_of_block (w := W.alloc o) (w' := W.alloc o') (by rw [Below.heap_alloc W o' _ hr, Below.heap_alloc W o _ hr])]; exact h
theorem belowA {B : Nat} {w W : World} {o : Obj} (h : Below B w W) (hB : B ≤ w.heap.size) : Below B w (W.alloc o) := h.alloc (Nat.le_trans hB h.size) o
theorem belowN {B : Nat} {w W W' : World} (h' : Below W.heap.size W W') (h : Below B w W) (hB : B ≤ w.heap.size) : Below B w W' := h.trans (h'.mono (Nat.le_trans hB h.size))
theorem belowD {B : Nat} {w W : World} (h : Below B w W) : Below B w W.drew := h.drew

end Go.Proofs.Ytpflejobkjdhdaa
