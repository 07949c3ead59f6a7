/-
  What a boot leaves in memory. Plain Lean: no Go here.
-/
import Derived.Test.YtpflejobkjdhdaaQLaw
import Derived.Test.YtpflejobkjdhdaaBoot6
set_option linter.unusedVariables false
set_option linter.unusedSimpArgs false
namespace Go.Proofs.Ytpflejobkjdhdaa
open Go.RowKit

theorem QAt.congr {f g : Int → Int} {N : Nat} {L : Nat → List Int} {V : Nat} (h : QAt f N L V) (hg : ∀ x, ¬ QOut N x → g x = f x) : QAt g N L V := by
  have hq : ∀ p : Nat, p < 16 → ∀ y ∈ hd p :: L p, ¬ QOut N y ∧ ¬ QOut N (y + 1) := by
    intro p hp y hy
    rcases List.mem_cons.1 hy with e | e
    · rw [e]; exact ⟨fun h => h.1 (by unfold hd; omega), fun h => h.1 (by unfold hd; omega)⟩
    · obtain ⟨j, hj, e'⟩ := h.node p hp y e
      rw [e']; exact ⟨fun h => (h.2 j hj).1 rfl, fun h => (h.2 j hj).2 rfl⟩
  refine ⟨fun p hp => (h.seg p hp).kept (fun y hy => hg y (hq p hp y hy).1) (fun y hy => ?_), ?_, h.small, h.bits, h.node, h.nodup, h.disj⟩
  · have hy' : y ∈ hd p :: L p := by simp at hy ⊢; exact hy.symm
    exact hg _ (hq p hp y hy').2
  · rw [hg 8 (fun h => h.1 (by omega))]; exact h.word

theorem does_qInitFrom (N : Nat) : ∀ (n k : Nat) (m : Mem), k + n = 16 → 41 ≤ m.length → ∃ g, Does (kQInitFrom 8 n k) m () g (2 * n) ∧
    (∀ p : Nat, k ≤ p → p < 16 → g (hd p) = hd p ∧ g (hd p + 1) = hd p) ∧ ∀ x, x < hd k ∨ 41 ≤ x → g x = rdM m x
  | 0, k, m, hk, hm => ⟨rdM m, Does.pure _ _ _, fun p h1 h2 => by omega, fun x _ => rfl⟩
  | n + 1, k, m, hk, hm => by
    have hin : ∀ x : Int, 0 ≤ x → x < 41 → InR m x := fun x h0 h1 => ⟨h0, by omega⟩
    have hb : hd k = 9 + 2 * (k : Int) := rfl
    have hd1 := does_init (hd k) m (hin _ (by omega) (by omega)) (hin _ (by omega) (by omega)) (by omega)
    obtain ⟨m1, c1, e1, r1, l1, b1⟩ := hd1
    obtain ⟨g, h1, h2, h3⟩ := does_qInitFrom N n (k + 1) m1 (by omega) (by omega)
    refine ⟨g, ?_, fun p hp hp2 => ?_, fun x hx => ?_⟩
    · unfold kQInitFrom
      rw [qHead_hd k (by omega)]
      obtain ⟨m2, c2, e2, r2, l2, b2⟩ := h1
      exact ⟨m2, c1 + c2, srun_seq e1 e2, r2, l2.trans l1, by omega⟩
    · rcases Nat.lt_or_ge k p with h | h
      · exact h2 p h hp2
      · obtain rfl : p = k := by omega
        rw [h3 _ (by left; unfold hd; omega), h3 _ (by left; unfold hd; omega), r1]
        exact ⟨by rw [upd_other _ _ _ _ (by omega), upd_same], upd_same _ _ _⟩
    · rw [h3 x (by rcases hx with h | h; · left; unfold hd at *; omega
                   · right; exact h), r1]
      rw [upd_other _ _ _ _ (by unfold hd at *; omega), upd_other _ _ _ _ (by unfold hd at *; omega)]

theorem does_qInit (N : Nat) (m : Mem) (hm : 41 ≤ m.length) : ∃ g, Does (kQInit 8) m () g 33 ∧ QAt g N (fun _ => []) 0 ∧ ∀ x, x < 8 ∨ 41 ≤ x → g x = rdM m x := by
  have hi : InR m 8 := ⟨by omega, by omega⟩
  obtain ⟨m1, c1, e1, r1, l1, b1⟩ := Does.st 8 0 m hi
  obtain ⟨g, h1, h2, h3⟩ := does_qInitFrom N 16 0 m1 rfl (by omega)
  refine ⟨g, ?_, ⟨fun p hp => h2 p (by omega) hp, ?_, by omega, fun p hp => by simp, fun p hp y hy => by simp at hy, fun p hp => List.nodup_nil, fun p q _ _ _ y hy => by simp at hy⟩, fun x hx => ?_⟩
  · obtain ⟨m2, c2, e2, r2, l2, b2⟩ := h1
    exact ⟨m2, c1 + c2, srun_seq e1 e2, r2, l2.trans l1, by omega⟩
  · rw [h3 8 (by left; unfold hd; omega), r1]; simp [upd]
  · rw [h3 x (by rcases hx with h | h; · left; unfold hd; omega
                 · right; exact h), r1, upd_other _ _ _ _ (by omega)]

/-- The queue behind a boot. -/
def blist : List ThreadD → Nat → (Nat → List Int) → (Nat → List Int)
  | [], _, L => L
  | t :: ts, i, L => blist ts (i + 1) (addL L t.prio.toNat (thAt i))
def bword : List ThreadD → Nat → Nat
  | [], V => V
  | t :: ts, V => bword ts (V ||| 2 ^ t.prio.toNat)

theorem addL_mem {L : Nat → List Int} {p q : Nat} {x y : Int} (h : y ∈ addL L p x q) : y ∈ L q ∨ y = x := by
  unfold addL at h
  split at h
  · rename_i e
    rcases List.mem_append.1 h with h | h
    · left; rw [e]; exact h
    · right; simpa using h
  · exact .inl h

theorem does_bootThr (N : Nat) (hN : N ≤ 6) : ∀ (ts : List ThreadD) (i : Nat) (m : Mem) (L : Nat → List Int) (V : Nat), i + ts.length = N → PriosOk ts → 51 + 24 * N ≤ m.length → QAt (rdM m) N L V → (∀ q, q < 16 → ∀ j : Nat, i ≤ j → thAt j ∉ L q) →
    ∃ g, Does (kBootThrFrom ts i) m () g (12 * ts.length) ∧ QAt g N (blist ts i L) (bword ts V) ∧
      (∀ (j : Nat) (t : ThreadD), ts[j]? = some t → ∀ c : Int, 0 ≤ c → c < 19 → g (thAt (i + j : Nat) + 5 + c) = if c = 1 ∨ c = 2 then t.prio else rdM m (thAt (i + j : Nat) + 5 + c)) ∧
      ∀ x, QOut N x → x < thAt i ∨ 51 + 24 * N ≤ x → g x = rdM m x
  | [], i, m, L, V, hi, hp, hm, hq, hn => ⟨rdM m, Does.pure _ _ _, hq, fun j t h => by simp at h, fun x _ _ => rfl⟩
  | t :: ts, i, m, L, V, hi, hp, hm, hq, hn => by
    have hiN : i < N := by simp only [List.length_cons] at hi; omega
    have ht := hp t (by simp)
    have hin : ∀ x : Int, 0 ≤ x → x < 51 + 24 * N → InR m x := fun x h0 h1 => ⟨h0, by omega⟩
    have ha : thAt (i : Nat) = 51 + 24 * (i : Int) := rfl
    obtain ⟨m1, c1, e1, r1, l1, b1⟩ := Does.st (thAt i + 6) t.prio m (hin _ (by omega) (by omega))
    obtain ⟨m2, c2, e2, r2, l2, b2⟩ := Does.st (thAt i + 7) t.prio m1 ((hin _ (by omega) (by omega)).len l1)
    obtain ⟨m3, c3, e3, r3, l3, b3⟩ := does_init (thAt i + 2) m2 ((hin _ (by omega) (by omega)).len (l2.trans l1)) ((hin _ (by omega) (by omega)).len (l2.trans l1)) (by omega)
    have l31 : m3.length = m.length := l3.trans (l2.trans l1)
    have f3 : rdM m3 = upd (upd (upd (upd (rdM m) (thAt i + 6) t.prio) (thAt i + 7) t.prio) (thAt i + 2) (thAt i + 2)) (thAt i + 2 + 1) (thAt i + 2) := by rw [r3, r2, r1]
    have k3 : ∀ x, x ≠ thAt i + 6 → x ≠ thAt i + 7 → x ≠ thAt i + 2 → x ≠ thAt i + 3 → rdM m3 x = rdM m x := by
      intro x h1 h2 h3 h4
      rw [f3, upd_other _ _ _ _ (by omega), upd_other _ _ _ _ h3, upd_other _ _ _ _ h2, upd_other _ _ _ _ h1]
    have q3 : QAt (rdM m3) N L V := hq.congr (fun x hx => by
      have hno : ∀ d : Int, 2 ≤ d → d < 24 → x ≠ thAt i + d := by
        intro d h0 h1 e
        refine hx ⟨by omega, fun j hj => ?_⟩
        rw [e]; unfold thAt; omega
      exact k3 x (hno 6 (by omega) (by omega)) (hno 7 (by omega) (by omega)) (hno 2 (by omega) (by omega)) (hno 3 (by omega) (by omega)))
    obtain ⟨p, hpp⟩ : ∃ p : Nat, t.prio = p := ⟨t.prio.toNat, by omega⟩
    have hp16 : p < 16 := by omega
    obtain ⟨g4, d4, q4, o4⟩ := q3.add hN (by omega) i p hiN hp16 (fun q hq => hn q hq i (Nat.le_refl _))
    obtain ⟨m4, c4, e4, r4, l4, b4⟩ := d4
    rw [← r4] at q4
    have hn4 : ∀ q, q < 16 → ∀ j : Nat, i + 1 ≤ j → thAt j ∉ addL L p (thAt i) q := by
      intro q hq j hj hm
      rcases addL_mem hm with h | h
      · exact hn q hq j (by omega) h
      · unfold thAt at h; omega
    obtain ⟨g, d5, q5, w5, o5⟩ := does_bootThr N hN ts (i + 1) m4 (addL L p (thAt i)) (V ||| 2 ^ p) (by simp only [List.length_cons] at hi; omega) (fun u hu => hp u (by simp [hu])) (by omega) q4 hn4
    have hpe : t.prio.toNat = p := by omega
    refine ⟨g, ?_, ?_, ?_, ?_⟩
    · unfold kBootThrFrom
      obtain ⟨m5, c5, e5, r5, l5, b5⟩ := d5
      rw [hpp] at e1 e2
      rw [hpp]
      exact ⟨m5, _, srun_seq e1 (srun_seq e2 (srun_seq e3 (srun_seq e4 e5))), r5, by omega, by simp only [List.length_cons]; omega⟩
    · show QAt g N (blist ts (i + 1) (addL L t.prio.toNat (thAt i))) (bword ts (V ||| 2 ^ t.prio.toNat))
      rw [hpe]; exact q5
    · intro j u hu c h0 h1
      cases j with
      | zero =>
        simp at hu; subst hu
        rw [Nat.add_zero, o5 _ ⟨by omega, fun j hj => by unfold thAt; omega⟩ (by left; unfold thAt; omega), r4, o4 _ ⟨by omega, fun j hj => by unfold thAt; omega⟩]
        split
        · rename_i hc
          rw [f3, upd_other _ _ _ _ (by omega), upd_other _ _ _ _ (by omega)]
          rcases hc with rfl | rfl
          · rw [upd_other _ _ _ _ (by omega), show thAt i + 5 + 1 = thAt i + 6 by omega, upd_same]
          · rw [show thAt i + 5 + 2 = thAt i + 7 by omega, upd_same]
        · exact k3 _ (by omega) (by omega) (by omega) (by omega)
      | succ j =>
        have hjl : j < ts.length := by
          have := (List.getElem?_eq_some_iff.1 (show ts[j]? = some u by simpa using hu)).1
          exact this
        have := w5 j u (by simpa using hu) c h0 h1
        rw [show i + 1 + j = i + (j + 1) by omega] at this
        rw [this]
        split
        · rfl
        · rw [r4, o4 _ ⟨by unfold thAt; omega, fun k hk => by unfold thAt; omega⟩]
          exact k3 _ (by unfold thAt; omega) (by unfold thAt; omega) (by unfold thAt; omega) (by unfold thAt; omega)
    · intro x hx hlo
      rw [o5 x hx (by unfold thAt at *; omega), r4, o4 x hx]
      simp only [List.length_cons] at hi
      exact k3 x (by unfold thAt at *; omega) (by unfold thAt at *; omega) (by unfold thAt at *; omega) (by unfold thAt at *; omega)
end Go.Proofs.Ytpflejobkjdhdaa
