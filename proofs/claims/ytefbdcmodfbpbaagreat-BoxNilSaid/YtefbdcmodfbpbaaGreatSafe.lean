/-
  Programs that may be stuck where they aren't off: what their straight run comes to is what a run in a new frame comes to, too. Plain Lean: no Go here.
-/
import Derived.Test.YtefbdcmodfbpbaaGreatSegs
set_option linter.unusedVariables false
set_option linter.unusedSimpArgs false
namespace Go.Proofs.YtefbdcmodfbpbaaGreat
open Go.RowKit

/-- Whatever the accesses answer: off behind any of them, it comes to an end, with an answer of 'O'. -/
def Safe {α : Type} (O : α → Prop) : Prog α → Prop
  | .ret _ => True
  | .acc _ k => (∃ a, offrun (k 0) = some a ∧ O a) ∧ ∀ v, Safe O (k v)
  | .off k => ∀ b, Safe O (k b)
  | .mark k => Safe O k
  | .stuck => True
theorem Safe.pure {α : Type} (O : α → Prop) (a : α) : Safe O (pure a : Prog α) := trivial
theorem Safe.stuck {α : Type} (O : α → Prop) : Safe O (Prog.stuck : Prog α) := trivial
theorem Safe.bind' {α β : Type} {O : α → Prop} {O' : β → Prop} (p : Prog α) (f : α → Prog β) : Safe O p → (∀ a, O a → ∃ b, offrun (f a) = some b ∧ O' b) → (∀ a, Safe O' (f a)) → Safe O' (p.bind f) := by
  induction p with
  | ret a => intro _ _ hf; exact hf a
  | acc x k ih =>
    intro h ho hf
    refine ⟨?_, fun v => ih v (h.2 v) ho hf⟩
    obtain ⟨a, h1, h2⟩ := h.1
    obtain ⟨b, h3, h4⟩ := ho a h2
    refine ⟨b, ?_, h4⟩
    show offrun ((k 0).bind f) = some b
    rw [offrun_bind, h1]; exact h3
  | off k ih => intro h ho hf b; exact ih b (h b) ho hf
  | mark k ih => intro h ho hf; exact ih h ho hf
  | stuck => intro _ _ _; trivial
theorem Safe.bind {α β : Type} {O : α → Prop} {O' : β → Prop} {p : Prog α} {f : α → Prog β} (h : Safe O p) (ho : ∀ a, O a → ∃ b, offrun (f a) = some b ∧ O' b) (hf : ∀ a, Safe O' (f a)) : Safe O' (p >>= f) := Safe.bind' p f h ho hf
theorem Safe.ite {α : Type} {O : α → Prop} {b : Bool} {p q : Prog α} (h1 : Safe O p) (h2 : Safe O q) : Safe O (if b = true then p else q) := by
  cases b
  · exact h2
  · exact h1
theorem Safe.of_tot {α : Type} (p : Prog α) : Tot p → Safe (fun _ => True) p := by
  induction p with
  | ret a => intro _; trivial
  | acc x k ih => intro h; exact ⟨by obtain ⟨a, ha⟩ := Tot.offrun (k 0) (h 0); exact ⟨a, ha, trivial⟩, fun v => ih v (h v)⟩
  | off k ih => intro h b; exact ih b (h b)
  | mark k ih => intro h; exact ih h
  | stuck => intro _; trivial
theorem srun_wprS {α : Type} {O : α → Prop} (p : Prog α) : Safe O p → ∀ (m m' : Mem) (a : α) (c n : Nat), srun p m = some (a, m', c) → c ≤ n → wpr p m n O (fun b m2 j => b = a ∧ m2 = m' ∧ j = n - c) := by
  induction p with
  | ret b =>
    intro _ m m' a c n h hc
    simp only [srun, Option.some.injEq, Prod.mk.injEq] at h
    obtain ⟨rfl, rfl, rfl⟩ := h
    exact ⟨rfl, rfl, rfl⟩
  | acc x k ih =>
    intro ht m m' a c n h hc
    simp only [srun, Option.map_eq_some_iff, Prod.mk.injEq] at h
    obtain ⟨⟨a1, m1, c1⟩, h1, rfl, rfl, rfl⟩ := h
    refine ⟨ht.1, n - 1, by simp only at hc; omega, ?_⟩
    refine wpr_mono _ (fun _ h => h) (fun b m2 j hq => ?_) (ih _ (ht.2 _) _ _ _ _ (n - 1) h1 (by simp only at hc; omega))
    exact ⟨hq.1, hq.2.1, by rw [hq.2.2]; simp only; omega⟩
  | off k ih => intro ht m m' a c n h hc; exact ih false (ht false) m m' a c n h hc
  | mark k ih => intro ht m m' a c n h hc; exact ih ht m m' a c n h hc
  | stuck => intro _ m m' a c n h; cases h
/-- What a run in a new frame comes to. -/
theorem does_runsS {α : Type} {O : α → Prop} {p : Prog α} {m : Mem} {a : α} {g : Int → Int} {c most : Nat} (h : Does p m a g c) (ht : Safe O p) (hc : c ≤ most) (h0 : 0 < most) :
    ∃ s, runs p most 0 (FS.new m) none = some (some a, s) ∧ s.over = true ∧ rdM s.mem = g ∧ s.mem.length = m.length := by
  obtain ⟨m1, c1, e1, r1, l1, b1⟩ := h
  obtain ⟨r, m2, j, s, h1, h2, h3, h4⟩ := runs_of_wpr (srun_wprS p ht m m1 a c1 c1 e1 (Nat.le_refl _)) (Nat.le_trans b1 hc) h0
  rw [h4.1] at h1
  exact ⟨s, h1, h2, by rw [h3, h4.2.1]; exact r1, by rw [h3, h4.2.1]; exact l1⟩
end Go.Proofs.YtefbdcmodfbpbaaGreat
