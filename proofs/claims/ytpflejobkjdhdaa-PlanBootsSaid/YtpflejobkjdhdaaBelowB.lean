/-
  Worlds behind boxed arguments.
-/
import Derived.Test.YtpflejobkjdhdaaMoreG
import Derived.Test.YtpflejobkjdhdaaBootLaw3
set_option linter.unusedVariables false
set_option linter.unusedSimpArgs false
namespace Go.Proofs.Ytpflejobkjdhdaa
open Go.RowKit

theorem below_box {w W : World} {o : Obj} (h : Below (w.heap.size + 1) (w.alloc o) W) : Below w.heap.size w W := ((Below.refl _ _).alloc (Nat.le_refl _) _).trans (h.mono (by omega))
theorem below_next {w W W' : World} {o : Obj} (h : Below (w.heap.size + 1) (w.alloc o) W) (h' : Below W.heap.size W W') : Below (w.heap.size + 1) (w.alloc o) W' := h.trans (h'.mono (by have := h.size; simpa using this))
theorem box_cells {w W : World} {cs : Array Value} {t : TypeId} (h : Below (w.heap.size + 1) (w.alloc (.cells cs t)) W) : (∀ k, W.cell? ⟨w.heap.size, k, none⟩ = cs[k]?) ∧ (∀ k, W.frozen? ⟨w.heap.size, k, none⟩ = false) :=
  below_cells h (b := w.heap.size) (by omega) (heap_alloc_new w _)
theorem Left.below {S : Nat → Prop} {wb B : Nat} {w w' : World} (h : Left S wb w w') (hB : B ≤ w.heap.size) (h1 : B ≤ wb) (h2 : ∀ k, S k → B ≤ k) : Below B w w' :=
  ⟨h.os, h.tape, h.output, h.size, fun k hk => h.block k (by omega) (by omega) (fun hs => by have := h2 k hs; omega)⟩
end Go.Proofs.Ytpflejobkjdhdaa
