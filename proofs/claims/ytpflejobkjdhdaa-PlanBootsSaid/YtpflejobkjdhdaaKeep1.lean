/-
  A slice copied by append onto an empty one, as one step of a region that draws its order.
-/
import Derived.Test.YtpflejobkjdhdaaBelowB
import Derived.Deep.RegionLawGrows
import Derived.Deep.Upon
set_option linter.unusedVariables false
set_option linter.unusedSimpArgs false
namespace Go.Proofs.Ytpflejobkjdhdaa
open Go.RowKit

/-- A copy: nothing, or a row of one's own. -/
def CopyAt (w : World) (B : Nat) (e : TypeId) (size : Nat) (v : Value) (m : Nat) (news : List Value) : Prop :=
  ∃ A c, v = .slice A m c ∧ (0 < m → w.ownsRow B e size v m news)
theorem ownsRow_below {w w' : World} {B : Nat} {e size n : Nat} {v : Value} {xs : List Value} (h : w.ownsRow B e size v n xs) (hb : Below w.heap.size w w') : w'.ownsRow B e size v n xs := by
  obtain ⟨hl, h⟩ := h
  refine ⟨hl, ?_⟩
  rcases h with h | ⟨g, cap, cur, h1, h2, h3, h4⟩
  · exact .inl h
  · exact .inr ⟨g, cap, cur, h1, h2, (hb.block g (Array.getElem?_eq_some_iff.1 h3).1).trans h3, h4⟩
theorem CopyAt.later {w w' : World} {B : Nat} {e : TypeId} {size : Nat} {v : Value} {m : Nat} {news : List Value} (h : CopyAt w B e size v m news) (hb : Below w.heap.size w w') : CopyAt w' B e size v m news := by
  obtain ⟨A, c, e, h⟩ := h
  exact ⟨A, c, e, fun hm => ownsRow_below (h hm) hb⟩

theorem step_append_copy {P : Program} {ops : Array Oper} {o : Oper} {a : Act} {w : World} {K : Act → World → Prop} {Q : Exit → Act → World → Prop} {E : Prop}
    (hg : o.guard = none) (s x : Operand) (t : TypeId) (hop : o.op = Op.call { callee := Callee.builtin Builtin.append, args := #[s, x], argTypes := #[t, t] })
    (e : TypeId) (i : TypeInfo) (z : Value) (size bytes : Nat) (h1 : P.underlying t = some (.slice e)) (h2 : P.info? e = some i) (h3 : i.zero = some z) (h4 : i.size = size) (h5 : i.bytes = bytes) (h6 : z.cells.size = size) (h7 : 0 < size)
    (b : Addr) (hs : a.eval s = .slice (some b) 0 0) (A : Option Addr) (m c : Nat) (F : Nat → Prop) (news : List Value) (hx : a.eval x = .slice A m c) (hr : Reads w F (.slice A m c) m size news) (h1c : ∀ u ∈ news, u.oneCell' = true)
    (b1 : m ≤ maxLen) (b2 : m * bytes ≤ 140737488355328)
    (hK : ∀ A' c' w', CopyAt w' w.heap.size e size (.slice A' m c') m news → Below w.heap.size w w' → K (a.put o.dst (.slice A' m c')) w') :
    if Region.wanted o (yielded ops a.tmps) = true then Oper.wp P o a w K Q else E := by
  obtain ⟨hl, A1, c1, e1, hc⟩ := hr
  obtain ⟨rfl, _, rfl⟩ : A = A1 ∧ m = m ∧ c = c1 := by simpa using e1
  by_cases hm : 0 < m
  · obtain ⟨g, o', rfl, _, hcells⟩ := hc hm
    refine step_append_grows hg s x t hop e i z size bytes h1 h2 h3 h4 h5 h6 h7 (some b) 0 0 [] hs (fun h => by cases h) (by simp) (fun b' _ j u hu => by simp at hu) ⟨g, o', none⟩ m c news hx hl (fun j u hu => by rw [Go.WideShapes.add_plain]; exact hcells j u hu) h1c (by omega) (by omega) (by rw [Nat.zero_add]; exact b2) ?_
    intro v' w' hown hgr
    rw [Nat.zero_add, List.nil_append] at hown
    obtain ⟨g', cap', rfl, hg1, hg2⟩ := hown.form hm
    exact hK _ _ w' ⟨_, _, rfl, fun _ => hown⟩ ⟨hgr.os, hgr.tape, hgr.output, hgr.size, fun k hk => hgr.block k hk (by simp)⟩
  · obtain rfl : m = 0 := by omega
    obtain rfl : news = [] := List.eq_nil_of_length_eq_zero (by simpa using hl)
    have hsrc : Src P i.size t (.slice A 0 c) 0 [] w := by
      cases A with
      | none => exact Src.ofNil w h1 c
      | some ad => exact Src.ofSlice w h1 ad 0 c [] (by simp) (fun j u hu => by simp at hu) (fun u hu => by simp at hu)
    have hrun := run_append_nothing (P := P) w t t o.type e i h1 h2 (some b) 0 0 (Nat.le_refl _) _ hsrc
    have hw : Region.wanted o (yielded ops a.tmps) = true := by simp [Region.wanted, hg]
    rw [if_pos hw]
    unfold Oper.wp
    simp [execOp, hop, resolve, invoke, builtin, hs, hx, hrun, Result.andThen]
    exact hK _ _ w ⟨_, _, rfl, fun h => absurd h (by omega)⟩ (Below.refl _ _)
theorem at_new {w : World} {o : Obj} {b : Nat} (h : b = w.heap.size) : (w.alloc o).heap[b]? = some o := by subst h; exact heap_alloc_new w o
theorem at_old {w : World} {o : Obj} {b : Nat} {x : Option Obj} (h : b < w.heap.size) (h' : w.heap[b]? = x) : (w.alloc o).heap[b]? = x := (Below.heap_alloc w o b h).trans h'
theorem at_drew {w : World} {b : Nat} {x : Option Obj} (h' : w.heap[b]? = x) : w.drew.heap[b]? = x := h'
theorem part_in {W w' : World} {G : Prop} {b : Nat} {x y : Value} {t : TypeId} (hb : Below W.heap.size W w') (h : W.heap[b]? = some (.cells #[x, y] t (0, 0)))
    (k : b < w'.heap.size → w'.heap[b]? = some (.cells #[x, y] t (0, 0)) → w'.cell? ⟨b, 0, none⟩ = some x → w'.cell? ⟨b, 1, none⟩ = some y → w'.frozen? ⟨b, 0, none⟩ = false → w'.frozen? ⟨b, 1, none⟩ = false → G) : G := by
  have hlt := (Array.getElem?_eq_some_iff.1 h).1
  have h' := (hb.block b hlt).trans h
  exact k (Nat.lt_of_lt_of_le hlt hb.size) h' (by rw [cell_of_row _ _ _ _ _ _ h']; rfl) (by rw [cell_of_row _ _ _ _ _ _ h']; rfl) (frozen_of_row _ _ _ _ _ h') (frozen_of_row _ _ _ _ _ h')
theorem CopyAt.lower {w : World} {B B' : Nat} {e : TypeId} {size : Nat} {v : Value} {m : Nat} {news : List Value} (h : CopyAt w B e size v m news) (hB : B' ≤ B) : CopyAt w B' e size v m news := by
  obtain ⟨A, c, e1, h⟩ := h
  refine ⟨A, c, e1, fun hm => ?_⟩
  obtain ⟨hl, h⟩ := h hm
  refine ⟨hl, ?_⟩
  rcases h with h | ⟨g, cap, cur, h1, h2, h3⟩
  · exact .inl h
  · exact .inr ⟨g, cap, cur, h1, Nat.le_trans hB h2, h3⟩
theorem set_blockK {w : World} {b : Nat} {cs : Array Value} {t : TypeId} {fr : Nat × Nat} (h : w.heap[b]? = some (.cells cs t fr)) (k : Nat) (v : Value) : (w.setCell ⟨b, k, none⟩ v).heap[b]? = some (.cells (cs.setIfInBounds k v) t fr) := by
  have hlt := (Array.getElem?_eq_some_iff.1 h).1
  have h' : w.heap[b] = .cells cs t fr := by simpa [Array.getElem?_eq_getElem hlt] using h
  show (w.heap.modify b _)[b]? = _
  rw [Array.getElem?_eq_getElem (by simpa using hlt), Array.getElem_modify_self, h']
  rfl
theorem set2 {w : World} {b : Nat} {x y u v : Value} {t : TypeId} {fr : Nat × Nat} (h : w.heap[b]? = some (.cells #[x, y] t fr)) : ((w.setCell ⟨b, 0, none⟩ u).setCell ⟨b, 1, none⟩ v).heap[b]? = some (.cells #[u, v] t fr) :=
  set_blockK (set_blockK h 0 u) 1 v
theorem CopyAt.set2 {w : World} {B : Nat} {e : TypeId} {size : Nat} {v : Value} {m : Nat} {news : List Value} {b i j : Nat} {cs : Array Value} {t : TypeId} {fr : Nat × Nat} {x y : Value} (h : CopyAt w B e size v m news) (hb : w.heap[b]? = some (.cells cs t fr)) (hne : t ≠ e) : CopyAt ((w.setCell ⟨b, i, none⟩ x).setCell ⟨b, j, none⟩ y) B e size v m news := by
  obtain ⟨A, c, e1, h⟩ := h
  refine ⟨A, c, e1, fun hm => ?_⟩
  obtain ⟨hl, h⟩ := h hm
  refine ⟨hl, ?_⟩
  rcases h with h | ⟨g, cap, cur, h1, h2, h3, h4⟩
  · exact .inl h
  · have hg : g ≠ b := by
      rintro rfl
      rw [hb] at h3
      simp only [Option.some.injEq, Obj.cells.injEq] at h3
      exact hne h3.2.1
    exact .inr ⟨g, cap, cur, h1, h2, by rw [block_setCell_other _ _ _ hg, block_setCell_other _ _ _ hg]; exact h3, h4⟩
end Go.Proofs.Ytpflejobkjdhdaa
