/-
  Programs that come to an end, however the accesses answer; what the straight run of such a program comes to is what a run in a new frame comes to.
-/
import Derived.Test.YtpflejobkjdhdaaStep
set_option linter.unusedVariables false
set_option linter.unusedSimpArgs false
namespace Go.Proofs.Ytpflejobkjdhdaa
open Go.RowKit

/-- Nothing of a program is stuck. -/
def Tot {α : Type} : Prog α → Prop
  | .ret _ => True
  | .acc _ k => ∀ v, Tot (k v)
  | .off k => ∀ b, Tot (k b)
  | .mark k => Tot k
  | .stuck => False
theorem Tot.pure {α : Type} (a : α) : Tot (pure a : Prog α) := trivial
theorem Tot.bind' {α β : Type} (p : Prog α) (f : α → Prog β) : Tot p → (∀ a, Tot (f a)) → Tot (p.bind f) := by
  induction p with
  | ret a => intro _ hf; exact hf a
  | acc x k ih => intro h hf v; exact ih v (h v) hf
  | off k ih => intro h hf b; exact ih b (h b) hf
  | mark k ih => intro h hf; exact ih h hf
  | stuck => intro h; exact h.elim
theorem Tot.bind {α β : Type} {p : Prog α} {f : α → Prog β} (h : Tot p) (hf : ∀ a, Tot (f a)) : Tot (p >>= f) := Tot.bind' p f h hf
theorem Tot.ite {α : Type} {b : Bool} {p q : Prog α} (h1 : Tot p) (h2 : Tot q) : Tot (if b = true then p else q) := by
  cases b
  · exact h2
  · exact h1
theorem Tot.ld (a : Int) : Tot (ld a) := fun _ => trivial
theorem Tot.st (a v : Int) : Tot (st a v) := fun _ => trivial
theorem Tot.ad (a d : Int) : Tot (ad a d) := fun _ => trivial
theorem Tot.off : Tot isOff := fun _ => trivial
theorem Tot.offrun {α : Type} (p : Prog α) : Tot p → ∃ a, offrun p = some a := by
  induction p with
  | ret a => intro _; exact ⟨a, rfl⟩
  | acc x k ih => intro h; exact ih 0 (h 0)
  | off k ih => intro h; exact ih true (h true)
  | mark k ih => intro h; exact ih h
  | stuck => intro h; exact h.elim
theorem Tot.exec {α : Type} (p : Prog α) : Tot p → ∀ s, ∃ r s', exec p s = some (r, s') := by
  induction p with
  | ret a => intro _ s; exact ⟨a, s, rfl⟩
  | acc x k ih => intro h s; exact ih _ (h _) _
  | off k ih => intro h s; exact ih _ (h _) _
  | mark k ih => intro h s; exact ih h _
  | stuck => intro h; exact h.elim
theorem Tot.runs {α : Type} {p : Prog α} (h : Tot p) : ∀ (k j : Nat) (s : FS) (r : Option α), ∃ r' s', runs p k j s r = some (r', s')
  | 0, j, s, r => ⟨r, s, rfl⟩
  | k + 1, j, s, r => by
    unfold Go.Proofs.Ytpflejobkjdhdaa.runs
    split
    · exact ⟨_, _, rfl⟩
    · obtain ⟨a, s1, h1⟩ := h.exec p (s.begin_ j)
      rw [h1]
      exact Tot.runs h k (j + 1) _ _

/-- The straight run: the answer, the memory, how many accesses. -/
def srun {α : Type} : Prog α → Mem → Option (α × Mem × Nat)
  | .ret a, m => some (a, m, 0)
  | .acc x k, m => (srun (k (x.val m)) (x.mem m)).map fun y => (y.1, y.2.1, y.2.2 + 1)
  | .off k, m => srun (k false) m
  | .mark k, m => srun k m
  | .stuck, _ => none
theorem srun_bind' {α β : Type} (p : Prog α) (f : α → Prog β) : ∀ (m : Mem), srun (p.bind f) m = (srun p m).bind fun y => (srun (f y.1) y.2.1).map fun z => (z.1, z.2.1, y.2.2 + z.2.2) := by
  induction p with
  | ret a =>
    intro m
    show srun (f a) m = _
    simp only [srun, Option.bind_some]
    cases srun (f a) m with
    | none => rfl
    | some z => simp
  | acc x k ih =>
    intro m
    show ((srun ((k (x.val m)).bind f) (x.mem m)).map fun y => (y.1, y.2.1, y.2.2 + 1)) = _
    rw [ih]
    simp only [srun]
    cases srun (k (x.val m)) (x.mem m) with
    | none => rfl
    | some y =>
      simp only [Option.bind_some, Option.map_some]
      cases srun (f y.1) y.2.1 with
      | none => rfl
      | some z => simp only [Option.map_some, Option.some.injEq, Prod.mk.injEq, true_and]; omega
  | off k ih => intro m; exact ih false m
  | mark k ih => intro m; exact ih m
  | stuck => intro m; rfl
/-- Two programs one behind the other. -/
theorem srun_seq {α β : Type} {p : Prog α} {f : α → Prog β} {m m1 m2 : Mem} {a : α} {b : β} {c d : Nat} (h1 : srun p m = some (a, m1, c)) (h2 : srun (f a) m1 = some (b, m2, d)) : srun (p >>= f) m = some (b, m2, c + d) := by
  show srun (p.bind f) m = _
  rw [srun_bind', h1]
  simp only [Option.bind_some, h2, Option.map_some]
theorem srun_pure {α : Type} (a : α) (m : Mem) : srun (pure a : Prog α) m = some (a, m, 0) := rfl
theorem srun_ld (a : Int) (m : Mem) : srun (ld a) m = some (rdM m a, m, 1) := rfl
theorem srun_st (a v : Int) (m : Mem) : srun (st a v) m = some ((), wrM m a v, 1) := rfl
theorem srun_ad (a d : Int) (m : Mem) : srun (ad a d) m = some (rdM m a, wrM m a (wrap64 (rdM m a + d)), 1) := rfl
theorem srun_off (m : Mem) : srun isOff m = some (false, m, 0) := rfl

theorem srun_wpr {α : Type} (p : Prog α) : Tot p → ∀ (m m' : Mem) (a : α) (c n : Nat), srun p m = some (a, m', c) → c ≤ n → wpr p m n (fun _ => True) (fun b m2 j => b = a ∧ m2 = m' ∧ j = n - c) := by
  induction p with
  | ret b =>
    intro _ m m' a c n h hc
    simp only [srun, Option.some.injEq, Prod.mk.injEq] at h
    obtain ⟨rfl, rfl, rfl⟩ := h
    exact ⟨rfl, rfl, rfl⟩
  | acc x k ih =>
    intro ht m m' a c n h hc
    simp only [srun, Option.map_eq_some_iff, Prod.mk.injEq] at h
    obtain ⟨⟨a1, m1, c1⟩, h1, rfl, rfl, rfl⟩ := h
    obtain ⟨a0, h0⟩ := Tot.offrun (k 0) (ht 0)
    refine ⟨⟨a0, h0, trivial⟩, n - 1, by simp only at hc; omega, ?_⟩
    refine wpr_mono _ (fun _ h => h) (fun b m2 j hq => ?_) (ih _ (ht _) _ _ _ _ (n - 1) h1 (by simp only at hc; omega))
    exact ⟨hq.1, hq.2.1, by rw [hq.2.2]; simp only; omega⟩
  | off k ih => intro ht m m' a c n h hc; exact ih false (ht false) m m' a c n h hc
  | mark k ih => intro ht m m' a c n h hc; exact ih ht m m' a c n h hc
  | stuck => intro ht; exact ht.elim

/-- What a run in a new frame comes to. -/
theorem srun_runs {α : Type} {p : Prog α} (ht : Tot p) {m m' : Mem} {a : α} {c most : Nat} (h : srun p m = some (a, m', c)) (hc : c ≤ most) (h0 : 0 < most) :
    ∃ s, runs p most 0 (FS.new m) none = some (some a, s) ∧ s.over = true ∧ s.mem = m' := by
  obtain ⟨r, m2, j, s, h1, h2, h3, h4⟩ := runs_of_wpr (srun_wpr p ht m m' a c c h (Nat.le_refl _)) hc h0
  rw [h4.1] at h1
  exact ⟨s, h1, h2, h3.trans h4.2.1⟩
end Go.Proofs.Ytpflejobkjdhdaa
