/-
  PlanBoots, the plain law: whom the reference calls best is whom the boot lets run. Plain Lean: no Go here.
-/
import Derived.Test.YtefbdcmodfbpbaaGreatModel
import Derived.Test.YtefbdcmodfbpbaaGreatBestD
import Derived.Test.YtefbdcmodfbpbaaGreatBootLaw3
set_option linter.unusedVariables false
set_option linter.unusedSimpArgs false
namespace Go.Proofs.YtefbdcmodfbpbaaGreat
open Go.RowKit

theorem orderFrom_ord (ls : Nat → List Int) : ∀ k, k ≤ 16 → orderFrom ls k ++ (ord ls (16 - k)).map (·.1) = (ord ls 16).map (·.1)
  | 0, _ => by simp [orderFrom]
  | k + 1, h => by
    have ih := orderFrom_ord ls k (by omega)
    rw [← ih, orderFrom_succ, List.append_assoc]
    congr 1
    rw [show 16 - k = (15 - k) + 1 by omega, show 16 - (k + 1) = 15 - k by omega]
    simp [ord, Function.comp_def]
theorem orderR_ord (ls : Nat → List Int) : orderR ls = (ord ls 16).map (·.1) := by
  have := orderFrom_ord ls 16 (Nat.le_refl _)
  simpa [ord, orderR] using this
theorem ord_map (f : Int → Int) (ls L : Nat → List Int) (h : ∀ p, L p = (ls p).map f) : ∀ p, ord L p = (ord ls p).map fun y => (f y.1, y.2)
  | 0 => rfl
  | p + 1 => by
    simp only [ord, List.map_append, List.map_map, h p, ord_map f ls L h p]
    rfl
theorem blist_qlist : ∀ (ts : List ThreadD) (i : Nat) (L ls : Nat → List Int), (∀ p, L p = (ls p).map thAt) → ∀ p, blist ts i L p = (qlist ts i ls p).map thAt
  | [], i, L, ls, h, p => h p
  | t :: ts, i, L, ls, h, p => by
    refine blist_qlist ts (i + 1) _ _ (fun q => ?_) p
    unfold addL
    split
    · rw [h, List.map_append]; rfl
    · exact h q
theorem qlist_mem : ∀ (ts : List ThreadD) (i : Nat) (L : Nat → List Int) (p : Nat) (x : Int), x ∈ qlist ts i L p → x ∈ L p ∨ ∃ j : Nat, j < i + ts.length ∧ x = j
  | [], i, L, p, x, h => .inl h
  | t :: ts, i, L, p, x, h => by
    rcases qlist_mem ts (i + 1) _ p x h with h1 | ⟨j, h1, h2⟩
    · rcases addL_mem h1 with h2 | h2
      · exact .inl h2
      · exact .inr ⟨i, by simp, h2⟩
    · exact .inr ⟨j, by simp only [List.length_cons]; omega, h2⟩
theorem ord_mem {L : Nat → List Int} {y : Int × Nat} : ∀ {p : Nat}, y ∈ ord L p → y.1 ∈ L y.2
  | 0, h => by simp [ord] at h
  | p + 1, h => by
    simp only [ord, List.mem_append, List.mem_map] at h
    rcases h with ⟨x, hx, rfl⟩ | h
    · exact hx
    · exact ord_mem h
/-- The first two of those that are ready. -/
def bootBest (P : PartD) : List Int := (orderR (qlist P.thr 0 fun _ => [])).take 2
theorem bestFold_take (n : Nat) : ∀ (all out : List Int), out.length ≤ n → all.foldl (bestStep n []) out = out ++ all.take (n - out.length)
  | [], out, h => by simp
  | x :: all, out, h => by
    rw [List.foldl_cons]
    unfold bestStep
    by_cases hl : out.length < n
    · rw [if_pos ⟨hl, by simp⟩]
      have := bestFold_take n all (out ++ [x]) (by simp; omega)
      unfold bestStep at this
      rw [this, show n - out.length = (n - (out ++ [x]).length) + 1 by simp; omega]
      simp
    · rw [if_neg (fun h => hl h.1)]
      have := bestFold_take n all out h
      unfold bestStep at this
      rw [this, show n - out.length = 0 by omega]; simp
theorem best_boot (P : PartD) : bestR 2 [] (orderR (qlist P.thr 0 fun _ => [])) = bootBest P := by
  unfold bestR bootBest
  rw [bestFold_take 2 _ _ (by simp)]; simp
theorem coreV_best (P : PartD) (c : Nat) (hc : c < 2) : coreV P.thr.length (bootOrd P) c = match (bootBest P)[c]? with
  | some x => x + 1
  | none => 0 := by
  have e : bootOrd P = (ord (qlist P.thr 0 fun _ => []) 16).map fun y => (thAt y.1, y.2) := ord_map thAt _ _ (fun p => blist_qlist P.thr 0 (fun _ => []) (fun _ => []) (fun p => rfl) p) 16
  unfold coreV bootBest
  rw [e, List.getElem?_map, List.getElem?_take, if_pos hc, orderR_ord, List.getElem?_map]
  cases h : (ord (qlist P.thr 0 fun _ => []) 16)[c]? with
  | none => rfl
  | some y =>
    have hm := ord_mem (List.mem_of_getElem? h)
    rcases qlist_mem _ _ _ _ _ hm with h1 | ⟨j, h1, h2⟩
    · simp at h1
    · show numOf P.thr.length (thAt y.1) = y.1 + 1
      rw [h2]; exact numOf_at _ _ (by omega)
theorem bootBest_range (P : PartD) {c : Nat} {x : Int} (h : (bootBest P)[c]? = some x) : 0 ≤ x ∧ x < P.thr.length := by
  have h1 := List.mem_of_mem_take (List.mem_of_getElem? h)
  rw [orderR_ord] at h1
  simp only [List.mem_map] at h1
  obtain ⟨y, hy, rfl⟩ := h1
  rcases qlist_mem _ _ _ _ _ (ord_mem hy) with h1 | ⟨j, h1, h2⟩
  · simp at h1
  · omega
theorem partRightO {P : PartD} (h : partWrong P = 0) : ∀ o ∈ P.obj, rightObjectB o = true := by
  unfold partWrong at h
  split at h
  · omega
  · split at h
    · omega
    · split at h
      · omega
      · split at h
        · omega
        · rename_i h4
          intro o ho
          have := h4
          simp only [List.any_eq_true, not_exists, not_and, Bool.not_eq_true, Bool.not_eq_false'] at this
          exact this o ho
theorem poolSize {P : PartD} (h : partWrong P = 0) : ∀ o ∈ P.obj, o.kind = 4 → 0 ≤ o.size ∧ o.size ≤ 1000 := by
  intro o ho hk
  have := partRightO h o ho
  unfold rightObjectB at this
  rw [if_neg (by omega), if_neg (by omega), if_neg (by omega), if_pos (by omega)] at this
  simp only [withinB, Bool.and_eq_true, decide_eq_true_eq] at this
  omega
end Go.Proofs.YtefbdcmodfbpbaaGreat
