/-
  A boot's memory: its length. What a partition that is right is.
-/
import Derived.Test.YtpflejobkjdhdaaBoot5
set_option linter.unusedVariables false
set_option linter.unusedSimpArgs false
namespace Go.Proofs.Ytpflejobkjdhdaa
open Go.RowKit

theorem Acc.mem_length (x : Acc) (m : Mem) : (x.mem m).length = m.length := by
  cases x <;> simp [Acc.mem, wrM_length]
theorem acc_length (s : FS) (x : Acc) : (s.acc x).2.mem.length = s.mem.length := by
  unfold FS.acc
  split
  · rfl
  · split
    · rfl
    · split
      · exact x.mem_length _
      · rfl
theorem exec_length {α : Type} (p : Prog α) : ∀ (s : FS) (r : α) (s1 : FS), exec p s = some (r, s1) → s1.mem.length = s.mem.length := by
  induction p with
  | ret a => intro s r s1 h; simp only [exec, Option.some.injEq, Prod.mk.injEq] at h; rw [h.2]
  | acc x k ih => intro s r s1 h; exact (ih _ _ _ _ h).trans (acc_length s x)
  | off k ih => intro s r s1 h; exact ih _ _ _ _ h
  | mark k ih =>
    intro s r s1 h
    have e : s.doMark.mem = s.mem := by unfold FS.doMark; split <;> rfl
    exact (ih _ _ _ h).trans (by rw [e])
  | stuck => intro s r s1 h; cases h
theorem runs_length {α : Type} (p : Prog α) : ∀ (k j : Nat) (s : FS) (r ro : Option α) (sE : FS), runs p k j s r = some (ro, sE) → sE.mem.length = s.mem.length
  | 0, j, s, r, ro, sE, h => by simp only [runs, Option.some.injEq, Prod.mk.injEq] at h; rw [h.2]
  | k + 1, j, s, r, ro, sE, h => by
    unfold runs at h
    split at h
    · simp only [Option.some.injEq, Prod.mk.injEq] at h; rw [h.2]
    · cases hx : exec p (s.begin_ j) with
      | none => rw [hx] at h; cases h
      | some y =>
        rw [hx] at h
        have h1 := runs_length p k (j + 1) _ _ _ _ h
        have h2 := exec_length p _ _ _ hx
        exact h1.trans h2
theorem bootM_length (P : PartD) : (bootM P).length = planWords P := by
  obtain ⟨r, s, h1, h2⟩ := bootM_eq P
  rw [← h2, runs_length _ _ _ _ _ _ _ h1]
  simp [FS.new]

theorem rdM_wrM (m : Mem) (a b v : Int) (h0 : 0 ≤ a) (h1 : a < m.length) : rdM (wrM m a v) b = if b = a then v else rdM m b := by
  have e : wrM m a v = m.set a.toNat v := by unfold wrM; rw [if_pos ⟨h0, h1⟩]
  rw [e]
  unfold rdM
  rw [List.length_set]
  by_cases hb : 0 ≤ b ∧ b < m.length
  · rw [if_pos hb, if_pos hb]
    by_cases e : b = a
    · subst e
      rw [if_pos rfl, List.getD_eq_getElem?_getD, List.getElem?_set_self (by omega)]; rfl
    · rw [if_neg e, List.getD_eq_getElem?_getD, List.getElem?_set_ne (by omega), List.getD_eq_getElem?_getD]
  · rw [if_neg hb, if_neg hb, if_neg (by omega)]

/-- A partition that is right: its sizes, priorities, objects. -/
theorem partRight {P : PartD} (h : partWrong P = 0) : P.thr.length ≤ 6 ∧ 1 ≤ P.thr.length ∧ P.obj.length ≤ 8 ∧ PriosOk P.thr ∧ ObjsOk P.obj := by
  unfold partWrong at h
  split at h
  · omega
  · split at h
    · omega
    · split at h
      · omega
      · rename_i h1 h2 h3
        split at h
        · omega
        · rename_i h4
          refine ⟨by omega, by omega, by omega, fun t ht => ?_, fun o ho => ?_⟩
          · have := h3
            simp only [List.any_eq_true, not_exists, not_and, Bool.not_eq_true, Bool.not_eq_false'] at this
            have := this t ht
            simp only [rightThreadB, withinB, Bool.and_eq_true, decide_eq_true_eq] at this
            omega
          · have := h4
            simp only [List.any_eq_true, not_exists, not_and, Bool.not_eq_true, Bool.not_eq_false'] at this
            have := this o ho
            unfold rightObjectB at this
            unfold I64
            split at this
            · simp only [withinB, Bool.and_eq_true, decide_eq_true_eq] at this; omega
            · split at this
              · simp only [Bool.and_eq_true, decide_eq_true_eq] at this; omega
              · split at this
                · simp only [decide_eq_true_eq] at this; omega
                · split at this
                  · simp only [withinB, Bool.and_eq_true, decide_eq_true_eq] at this; omega
                  · split at this
                    · simp only [withinB, Bool.and_eq_true, decide_eq_true_eq] at this; omega
                    · cases this
end Go.Proofs.Ytpflejobkjdhdaa
