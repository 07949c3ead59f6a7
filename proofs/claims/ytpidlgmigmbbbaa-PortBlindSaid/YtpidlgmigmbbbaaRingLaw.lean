/-
  Rings in a memory of words, plainly: what Put and Get do to them. Plain Lean: no Go here.
-/
import Derived.Test.YtpidlgmigmbbbaaRing
import Derived.Test.YtpidlgmigmbbbaaQLaw
set_option linter.unusedVariables false
set_option linter.unusedSimpArgs false
namespace Go.Proofs.Ytpidlgmigmbbbaa
open Go.RowKit

/-- A ring at 'a' of room for 'c' words: 't' were taken, and 'l' is in it. -/
structure RingAt (f : Int → Int) (a c t : Int) (l : List Int) : Prop where
  taken : f a = t
  put : f (a + 1) = t + l.length
  room : (l.length : Int) ≤ c
  item : ∀ (i : Nat) (x : Int), l[i]? = some x → f (a + 2 + (t + i) % c) = x
theorem RingAt.congr {f g : Int → Int} {a c t : Int} {l : List Int} (h : RingAt f a c t l) (hc : 1 ≤ c) (hg : ∀ x, a ≤ x → x < a + 2 + c → g x = f x) : RingAt g a c t l := by
  refine ⟨(hg _ (by omega) (by omega)).trans h.taken, (hg _ (by omega) (by omega)).trans h.put, h.room, fun i x hx => ?_⟩
  have h1 : 0 ≤ (t + i) % c := Int.emod_nonneg _ (by omega)
  have h2 : (t + i) % c < c := Int.emod_lt_of_pos _ (by omega)
  exact (hg _ (by omega) (by omega)).trans (h.item i x hx)
theorem rPlace_at (a c n : Int) (ha : 0 ≤ a) (ha2 : a ≤ 100000) (c0 : 1 ≤ c) (c1 : c ≤ 16) (n0 : 0 ≤ n) (n1 : n ≤ 1000000) : rPlace a c n = a + 2 + n % c := by
  have h1 : 0 ≤ n % c := Int.emod_nonneg _ (by omega)
  have h2 : n % c < c := Int.emod_lt_of_pos _ (by omega)
  have e : n % 18446744073709551616 = n := Int.emod_eq_of_lt n0 (by omega)
  unfold rPlace
  rw [e, wrap_small (x := a + 2) (by omega) (by omega), wrap_small (by omega) (by omega)]
theorem does_counts (a : Int) (m : Mem) (ha : 0 ≤ a) (ha2 : a ≤ 100000) : Does (kCounts a) m (rdM m a, rdM m (a + 1)) (rdM m) 2 := by
  have e : wrap64 (a + 1) = a + 1 := wrap_small (by omega) (by omega)
  obtain ⟨m1, c1, e1, r1, l1, b1⟩ := Does.ld a m
  obtain ⟨m2, c2, e2, r2, l2, b2⟩ := Does.ld (a + 1) m1
  refine ⟨m2, c1 + (c2 + 0), ?_, r2.trans r1, l2.trans l1, by omega⟩
  unfold kCounts
  rw [e, ← r1]
  exact srun_seq (by rw [r1]; exact e1) (srun_seq e2 rfl)
theorem modRing {c t i j : Int} (c0 : 1 ≤ c) (h0 : 0 ≤ i) (h1 : i < j) (h2 : j - i < c) : (t + i) % c ≠ (t + j) % c := by
  intro e
  have h : (j - i) % c = 0 := by
    have e2 := Int.emod_eq_emod_iff_emod_sub_eq_zero.1 e.symm
    rwa [show t + j - (t + i) = j - i by omega] at e2
  rw [Int.emod_eq_of_lt (by omega) h2] at h
  omega
/-- Put, where there is room. -/
theorem RingAt.put_yes {a c t : Int} {l : List Int} {m : Mem} (h : RingAt (rdM m) a c t l) (c0 : 1 ≤ c) (c1 : c ≤ 16) (ha : 0 ≤ a) (ha2 : a ≤ 100000) (hm : a + 2 + c ≤ m.length) (t0 : 0 ≤ t) (t1 : t ≤ 900000) (hl : (l.length : Int) < c) (v : Int) :
    ∃ g, Does (kRPut a c v) m true g 4 ∧ RingAt g a c t (l ++ [v]) ∧ ∀ x, x < a ∨ a + 2 + c ≤ x → g x = rdM m x := by
  have hp : rdM m (a + 1) = t + l.length := h.put
  have e1 : wrap64 (rdM m (a + 1) - rdM m a) = l.length := by rw [hp, h.taken, wrap_small (by omega) (by omega)]; omega
  have e2 : wrap64 (a + 1) = a + 1 := wrap_small (by omega) (by omega)
  have e3 : wrap64 (rdM m (a + 1) + 1) = t + l.length + 1 := by rw [hp, wrap_small (by omega) (by omega)]
  have e4 : rPlace a c (rdM m (a + 1)) = a + 2 + (t + l.length) % c := by rw [hp]; exact rPlace_at a c _ ha ha2 c0 c1 (by omega) (by omega)
  have g1 : 0 ≤ (t + l.length) % c := Int.emod_nonneg _ (by omega)
  have g2 : (t + l.length) % c < c := Int.emod_lt_of_pos _ (by omega)
  obtain ⟨m1, d1, x1, r1, l1, b1⟩ := does_counts a m ha ha2
  obtain ⟨m2, d2, x2, r2, l2, b2⟩ := Does.st (a + 2 + (t + l.length) % c) v m1 ⟨by omega, by omega⟩
  obtain ⟨m3, d3, x3, r3, l3, b3⟩ := Does.st (a + 1) (t + l.length + 1) m2 ⟨by omega, by omega⟩
  refine ⟨rdM m3, ⟨m3, d1 + (0 + (d2 + (d3 + (0 + 0)))), ?_, rfl, by omega, by omega⟩, ?_, fun x hx => by rw [r3, upd_other _ _ _ _ (by omega), r2, upd_other _ _ _ _ (by omega), r1]⟩
  · unfold kRPut
    refine srun_seq x1 ?_
    refine srun_seq (p := isOff) (a := false) (m1 := m1) (c := 0) rfl ?_
    show srun (if decide (c ≤ wrap64 (rdM m (a + 1) - rdM m a)) = true then _ else _) m1 = _
    rw [if_neg (by rw [e1]; simp; omega), e4, e2, e3]
    exact srun_seq x2 (srun_seq x3 rfl)
  · refine ⟨?_, ?_, by simp; omega, fun i x hx => ?_⟩
    · rw [r3, upd_other _ _ _ _ (by omega), r2, upd_other _ _ _ _ (by omega), r1]; exact h.taken
    · rw [r3, upd_same]; simp; omega
    · rcases Nat.lt_or_ge i l.length with hi | hi
      · rw [List.getElem?_append_left hi] at hx
        have q1 : 0 ≤ (t + i) % c := Int.emod_nonneg _ (by omega)
        have q2 : (t + i) % c < c := Int.emod_lt_of_pos _ (by omega)
        have q3 : (t + (i : Int)) % c ≠ (t + (l.length : Int)) % c := modRing c0 (by omega) (by omega) (by omega)
        rw [r3, upd_other _ _ _ _ (by omega), r2, upd_other _ _ _ _ (by omega), r1]
        exact h.item i x hx
      · rw [List.getElem?_append_right hi] at hx
        have hi0 : i - l.length = 0 := by
          rcases Nat.eq_zero_or_pos (i - l.length) with h' | h'
          · exact h'
          · rw [List.getElem?_eq_none (by simp; omega)] at hx; cases hx
        rw [hi0] at hx
        simp only [List.getElem?_cons_zero, Option.some.injEq] at hx
        have hil : i = l.length := by omega
        rw [r3, upd_other _ _ _ _ (by rw [hil]; omega), r2, hil, upd_same, hx]
/-- Put, where there is none. -/
theorem RingAt.put_no {a c t : Int} {l : List Int} {m : Mem} (h : RingAt (rdM m) a c t l) (c0 : 1 ≤ c) (c1 : c ≤ 16) (ha : 0 ≤ a) (ha2 : a ≤ 100000) (t0 : 0 ≤ t) (t1 : t ≤ 900000) (hl : (l.length : Int) = c) (v : Int) :
    Does (kRPut a c v) m false (rdM m) 2 := by
  have e1 : wrap64 (rdM m (a + 1) - rdM m a) = l.length := by rw [h.put, h.taken, wrap_small (by omega) (by omega)]; omega
  obtain ⟨m1, d1, x1, r1, l1, b1⟩ := does_counts a m ha ha2
  refine ⟨m1, d1 + (0 + 0), ?_, r1, l1, by omega⟩
  unfold kRPut
  refine srun_seq x1 ?_
  refine srun_seq (p := isOff) (a := false) (m1 := m1) (c := 0) rfl ?_
  show srun (if decide (c ≤ wrap64 (rdM m (a + 1) - rdM m a)) = true then _ else _) m1 = _
  rw [if_pos (by rw [e1]; simp; omega)]
  rfl
/-- Get, where there is one. -/
theorem RingAt.get_yes {a c t v : Int} {l : List Int} {m : Mem} (h : RingAt (rdM m) a c t (v :: l)) (c0 : 1 ≤ c) (c1 : c ≤ 16) (ha : 0 ≤ a) (ha2 : a ≤ 100000) (hm : a + 2 + c ≤ m.length) (t0 : 0 ≤ t) (t1 : t ≤ 900000) :
    ∃ g, Does (kRGet a c) m (v, true) g 4 ∧ RingAt g a c (t + 1) l ∧ ∀ x, x < a ∨ a + 2 + c ≤ x → g x = rdM m x := by
  have hr := h.room
  simp only [List.length_cons] at hr
  have hp : rdM m (a + 1) = t + (l.length + 1 : Nat) := h.put
  have e2 : wrap64 (rdM m a + 1) = t + 1 := by rw [h.taken, wrap_small (by omega) (by omega)]
  have e4 : rPlace a c (rdM m a) = a + 2 + t % c := by rw [h.taken]; exact rPlace_at a c _ ha ha2 c0 c1 (by omega) (by omega)
  have g1 : 0 ≤ t % c := Int.emod_nonneg _ (by omega)
  have g2 : t % c < c := Int.emod_lt_of_pos _ (by omega)
  obtain ⟨m1, d1, x1, r1, l1, b1⟩ := does_counts a m ha ha2
  obtain ⟨m2, d2, x2, r2, l2, b2⟩ := Does.ld (a + 2 + t % c) m1
  have hv : rdM m1 (a + 2 + t % c) = v := by
    rw [r1]
    have := h.item 0 v rfl
    simpa using this
  rw [hv] at x2
  obtain ⟨m3, d3, x3, r3, l3, b3⟩ := Does.st a (t + 1) m2 ⟨by omega, by omega⟩
  refine ⟨rdM m3, ⟨m3, d1 + (0 + (d2 + (d3 + (0 + 0)))), ?_, rfl, by omega, by omega⟩, ?_, fun x hx => by rw [r3, upd_other _ _ _ _ (by omega), r2, r1]⟩
  · unfold kRGet
    refine srun_seq x1 ?_
    refine srun_seq (p := isOff) (a := false) (m1 := m1) (c := 0) rfl ?_
    show srun (if (rdM m (a + 1) == rdM m a) = true then _ else _) m1 = _
    rw [if_neg (by rw [hp, h.taken]; simp; omega), e4, e2]
    exact srun_seq x2 (srun_seq x3 rfl)
  · refine ⟨by rw [r3, upd_same], ?_, by omega, fun i x hx => ?_⟩
    · rw [r3, upd_other _ _ _ _ (by omega), r2, r1, hp]; omega
    · have q1 : 0 ≤ (t + 1 + i) % c := Int.emod_nonneg _ (by omega)
      rw [r3, upd_other _ _ _ _ (by omega), r2, r1]
      have := h.item (i + 1) x (by simpa using hx)
      rw [show t + 1 + (i : Int) = t + ((i + 1 : Nat) : Int) by omega]
      exact this
/-- Get, where there is none. -/
theorem RingAt.get_no {a c t : Int} {m : Mem} (h : RingAt (rdM m) a c t []) (ha : 0 ≤ a) (ha2 : a ≤ 100000) :
    Does (kRGet a c) m (0, false) (rdM m) 2 := by
  have hp : rdM m (a + 1) = t + (0 : Nat) := h.put
  obtain ⟨m1, d1, x1, r1, l1, b1⟩ := does_counts a m ha ha2
  refine ⟨m1, d1 + (0 + 0), ?_, r1, l1, by omega⟩
  unfold kRGet
  refine srun_seq x1 ?_
  refine srun_seq (p := isOff) (a := false) (m1 := m1) (c := 0) rfl ?_
  show srun (if (rdM m (a + 1) == rdM m a) = true then _ else _) m1 = _
  rw [if_pos (by rw [hp, h.taken]; simp)]
  rfl
end Go.Proofs.Ytpidlgmigmbbbaa
