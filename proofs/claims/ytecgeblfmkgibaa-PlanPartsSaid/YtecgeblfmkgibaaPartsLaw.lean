/-
  A plan's things share no word. Plain Lean.
-/
import Derived.Test.YtecgeblfmkgibaaThings
set_option linter.unusedVariables false
set_option linter.unusedSimpArgs false
namespace Go.Proofs.Ytecgeblfmkgibaa
open Go.RowKit

/-- Where the thing 'i' begins, and how many words it has. -/
def thingAt : Nat → Nat
  | 0 => 0 | 1 => 2 | 2 => 4 | 3 => 3 | 4 => 5 | 5 => 6 | 6 => 8 | 7 => 41 | 8 => 43
  | j + 9 => 51 + 24 * j
def thingN (m : Nat) : Nat → Nat
  | 0 => 2 | 1 => 1 | 2 => 1 | 3 => 1 | 4 => 1 | 5 => 2 | 6 => 33 | 7 => 2 | 8 => m
  | _ + 9 => 24

theorem nine (i : Nat) : i = 0 ∨ i = 1 ∨ i = 2 ∨ i = 3 ∨ i = 4 ∨ i = 5 ∨ i = 6 ∨ i = 7 ∨ i = 8 ∨ ∃ j, i = j + 9 := by
  rcases Nat.lt_or_ge i 9 with h | h
  · omega
  · exact .inr (.inr (.inr (.inr (.inr (.inr (.inr (.inr (.inr ⟨i - 9, by omega⟩))))))))
theorem things_get (n m i : Nat) (hi : i < 9 + n + m) : (atFirst ++ thAts n ++ obAts n m)[i]? = some (thingAt i : Int) := by
  rcases nine i with rfl | rfl | rfl | rfl | rfl | rfl | rfl | rfl | rfl | ⟨j, rfl⟩
  iterate 9 (rw [List.append_assoc]; rfl)
  rw [List.append_assoc, List.getElem?_append_right (by simp [atFirst])]
  simp only [atFirst, List.length_cons, List.length_nil]
  rw [show j + 9 - (0 + 1 + 1 + 1 + 1 + 1 + 1 + 1 + 1 + 1) = j by omega]
  rcases Nat.lt_or_ge j n with h | h
  · rw [List.getElem?_append_left (by rw [thAts_length]; exact h)]
    simp [thAts, List.getElem?_range h, thAt, thingAt]
  · rw [List.getElem?_append_right (by rw [thAts_length]; exact h), thAts_length]
    simp [obAts, List.getElem?_range (show j - n < m by omega), obAt, thingAt]
    omega
theorem manys_get (n m i : Nat) (hi : i < 9 + n + m) : (manyFirst m ++ List.replicate (n + m) (24 : Int))[i]? = some (thingN m i : Int) := by
  rcases nine i with rfl | rfl | rfl | rfl | rfl | rfl | rfl | rfl | rfl | ⟨j, rfl⟩
  iterate 9 rfl
  rw [List.getElem?_append_right (by simp [manyFirst])]
  simp only [manyFirst, List.length_cons, List.length_nil]
  rw [show j + 9 - (0 + 1 + 1 + 1 + 1 + 1 + 1 + 1 + 1 + 1) = j by omega, List.getElem?_replicate, if_pos (by omega)]
  rfl
theorem thing_in (n m i : Nat) (hm : m ≤ 8) (hi : i < 9 + n + m) : thingAt i + thingN m i ≤ 51 + 24 * (n + m) := by
  rcases nine i with rfl | rfl | rfl | rfl | rfl | rfl | rfl | rfl | rfl | ⟨j, rfl⟩ <;> simp only [thingAt, thingN] <;> omega
theorem thing_apart (m i j : Nat) (hm : m ≤ 8) (h : i < j) : thingAt i + thingN m i ≤ thingAt j ∨ thingAt j + thingN m j ≤ thingAt i := by
  rcases nine i with rfl | rfl | rfl | rfl | rfl | rfl | rfl | rfl | rfl | ⟨a, rfl⟩ <;> rcases nine j with rfl | rfl | rfl | rfl | rfl | rfl | rfl | rfl | rfl | ⟨b, rfl⟩ <;> simp only [thingAt, thingN] <;> omega
/-- The words of the things ahead of 'i', and the first 'k' of thing 'i'. -/
def Taken (m i k a : Nat) : Prop := (∃ j, j < i ∧ thingAt j ≤ a ∧ a < thingAt j + thingN m j) ∨ (thingAt i ≤ a ∧ a < thingAt i + k)
theorem taken_not (m i k : Nat) (hm : m ≤ 8) (hk : k < thingN m i) : ¬ Taken m i k (thingAt i + k) := by
  rintro (⟨j, hj, h1, h2⟩ | ⟨h1, h2⟩)
  · have := thing_apart m j i hm hj; omega
  · omega
theorem taken_next (m i k a : Nat) (h : Taken m i k a ∨ a = thingAt i + k) : Taken m i (k + 1) a := by
  rcases h with (⟨j, hj, h1, h2⟩ | ⟨h1, h2⟩) | h
  · exact .inl ⟨j, hj, h1, h2⟩
  · exact .inr ⟨h1, by omega⟩
  · exact .inr ⟨by omega, by omega⟩
theorem taken_done (m i a : Nat) (h : Taken m i (thingN m i) a) : Taken m (i + 1) 0 a := by
  rcases h with ⟨j, hj, h1, h2⟩ | ⟨h1, h2⟩
  · exact .inl ⟨j, by omega, h1, h2⟩
  · exact .inl ⟨i, by omega, h1, h2⟩
/-- The words marked so far, in memory. -/
def UsedAt (w : World) (ub m i k : Nat) : Prop := ∃ us : List Bool, w.heap[ub]? = some (.cells (us.map Value.bool).toArray 4 (0, 0)) ∧ us.length = 600 ∧ ∀ a, us[a]? = some true → Taken m i k a
theorem UsedAt.cell {w : World} {ub m i k : Nat} (h : UsedAt w ub m i k) (hm : m ≤ 8) (hk : k < thingN m i) (ha : thingAt i + k < 600) : w.cell? ⟨ub, thingAt i + k, none⟩ = some (.bool false) := by
  obtain ⟨us, h1, h2, h3⟩ := h
  rw [cell_of_block h1]
  have hlt : thingAt i + k < us.length := by omega
  have e : us[thingAt i + k]? = some us[thingAt i + k] := List.getElem?_eq_getElem hlt
  have hf : us[thingAt i + k] = false := by
    cases hb : us[thingAt i + k] with
    | false => rfl
    | true => rw [hb] at e; exact absurd (h3 _ e) (taken_not m i k hm hk)
  simp only [List.getElem?_toArray, List.getElem?_map, e, hf, Option.map_some]
theorem UsedAt.put {w : World} {ub m i k : Nat} (h : UsedAt w ub m i k) : UsedAt (w.setCell ⟨ub, thingAt i + k, none⟩ (.bool true)) ub m i (k + 1) := by
  obtain ⟨us, h1, h2, h3⟩ := h
  refine ⟨us.set (thingAt i + k) true, ?_, by simpa using h2, fun a ha => ?_⟩
  · rw [block_setCell h1]
    simp [List.map_set]
  · rw [List.getElem?_set] at ha
    split at ha
    · rename_i e; exact taken_next _ _ _ _ (.inr e.symm)
    · exact taken_next _ _ _ _ (.inl (h3 a ha))
end Go.Proofs.Ytecgeblfmkgibaa
