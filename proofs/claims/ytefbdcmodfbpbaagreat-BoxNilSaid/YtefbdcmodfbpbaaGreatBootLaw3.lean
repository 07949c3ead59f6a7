/-
  What a boot leaves in memory. Plain Lean: no Go here.
  What a boot leaves in memory: objects; the order of those that are ready. Plain Lean: no Go here.
  What a boot leaves in memory: the whole. Plain Lean: no Go here.
  Worlds behind boxed arguments.
-/
import Derived.Test.YtefbdcmodfbpbaaGreatQLaw
import Derived.Test.YtefbdcmodfbpbaaGreatBoot6
import Derived.Test.YtefbdcmodfbpbaaGreatMoreG
set_option linter.unusedVariables false
set_option linter.unusedSimpArgs false
namespace Go.Proofs.YtefbdcmodfbpbaaGreat
open Go.RowKit

theorem QAt.congr {f g : Int → Int} {N : Nat} {L : Nat → List Int} {V : Nat} (h : QAt f N L V) (hg : ∀ x, ¬ QOut N x → g x = f x) : QAt g N L V := by
  have hq : ∀ p : Nat, p < 16 → ∀ y ∈ hd p :: L p, ¬ QOut N y ∧ ¬ QOut N (y + 1) := by
    intro p hp y hy
    rcases List.mem_cons.1 hy with e | e
    · rw [e]; exact ⟨fun h => h.1 (by unfold hd; omega), fun h => h.1 (by unfold hd; omega)⟩
    · obtain ⟨j, hj, e'⟩ := h.node p hp y e
      rw [e']; exact ⟨fun h => (h.2 j hj).1 rfl, fun h => (h.2 j hj).2 rfl⟩
  refine ⟨fun p hp => (h.seg p hp).kept (fun y hy => hg y (hq p hp y hy).1) (fun y hy => ?_), ?_, h.small, h.bits, h.node, h.nodup, h.disj⟩
  · have hy' : y ∈ hd p :: L p := by simp at hy ⊢; exact hy.symm
    exact hg _ (hq p hp y hy').2
  · rw [hg 8 (fun h => h.1 (by omega))]; exact h.word

theorem does_qInitFrom (N : Nat) : ∀ (n k : Nat) (m : Mem), k + n = 16 → 41 ≤ m.length → ∃ g, Does (kQInitFrom 8 n k) m () g (2 * n) ∧
    (∀ p : Nat, k ≤ p → p < 16 → g (hd p) = hd p ∧ g (hd p + 1) = hd p) ∧ ∀ x, x < hd k ∨ 41 ≤ x → g x = rdM m x
  | 0, k, m, hk, hm => ⟨rdM m, Does.pure _ _ _, fun p h1 h2 => by omega, fun x _ => rfl⟩
  | n + 1, k, m, hk, hm => by
    have hin : ∀ x : Int, 0 ≤ x → x < 41 → InR m x := fun x h0 h1 => ⟨h0, by omega⟩
    have hb : hd k = 9 + 2 * (k : Int) := rfl
    have hd1 := does_init (hd k) m (hin _ (by omega) (by omega)) (hin _ (by omega) (by omega)) (by omega)
    obtain ⟨m1, c1, e1, r1, l1, b1⟩ := hd1
    obtain ⟨g, h1, h2, h3⟩ := does_qInitFrom N n (k + 1) m1 (by omega) (by omega)
    refine ⟨g, ?_, fun p hp hp2 => ?_, fun x hx => ?_⟩
    · unfold kQInitFrom
      rw [qHead_hd k (by omega)]
      obtain ⟨m2, c2, e2, r2, l2, b2⟩ := h1
      exact ⟨m2, c1 + c2, srun_seq e1 e2, r2, l2.trans l1, by omega⟩
    · rcases Nat.lt_or_ge k p with h | h
      · exact h2 p h hp2
      · obtain rfl : p = k := by omega
        rw [h3 _ (by left; unfold hd; omega), h3 _ (by left; unfold hd; omega), r1]
        exact ⟨by rw [upd_other _ _ _ _ (by omega), upd_same], upd_same _ _ _⟩
    · rw [h3 x (by rcases hx with h | h; · left; unfold hd at *; omega
                   · right; exact h), r1]
      rw [upd_other _ _ _ _ (by unfold hd at *; omega), upd_other _ _ _ _ (by unfold hd at *; omega)]

theorem does_qInit (N : Nat) (m : Mem) (hm : 41 ≤ m.length) : ∃ g, Does (kQInit 8) m () g 33 ∧ QAt g N (fun _ => []) 0 ∧ ∀ x, x < 8 ∨ 41 ≤ x → g x = rdM m x := by
  have hi : InR m 8 := ⟨by omega, by omega⟩
  obtain ⟨m1, c1, e1, r1, l1, b1⟩ := Does.st 8 0 m hi
  obtain ⟨g, h1, h2, h3⟩ := does_qInitFrom N 16 0 m1 rfl (by omega)
  refine ⟨g, ?_, ⟨fun p hp => h2 p (by omega) hp, ?_, by omega, fun p hp => by simp, fun p hp y hy => by simp at hy, fun p hp => List.nodup_nil, fun p q _ _ _ y hy => by simp at hy⟩, fun x hx => ?_⟩
  · obtain ⟨m2, c2, e2, r2, l2, b2⟩ := h1
    exact ⟨m2, c1 + c2, srun_seq e1 e2, r2, l2.trans l1, by omega⟩
  · rw [h3 8 (by left; unfold hd; omega), r1]; simp [upd]
  · rw [h3 x (by rcases hx with h | h; · left; unfold hd; omega
                 · right; exact h), r1, upd_other _ _ _ _ (by omega)]

/-- The queue behind a boot. -/
def blist : List ThreadD → Nat → (Nat → List Int) → (Nat → List Int)
  | [], _, L => L
  | t :: ts, i, L => blist ts (i + 1) (addL L t.prio.toNat (thAt i))
def bword : List ThreadD → Nat → Nat
  | [], V => V
  | t :: ts, V => bword ts (V ||| 2 ^ t.prio.toNat)

theorem addL_mem {L : Nat → List Int} {p q : Nat} {x y : Int} (h : y ∈ addL L p x q) : y ∈ L q ∨ y = x := by
  unfold addL at h
  split at h
  · rename_i e
    rcases List.mem_append.1 h with h | h
    · left; rw [e]; exact h
    · right; simpa using h
  · exact .inl h

theorem does_bootThr (N : Nat) (hN : N ≤ 6) : ∀ (ts : List ThreadD) (i : Nat) (m : Mem) (L : Nat → List Int) (V : Nat), i + ts.length = N → PriosOk ts → 51 + 24 * N ≤ m.length → QAt (rdM m) N L V → (∀ q, q < 16 → ∀ j : Nat, i ≤ j → thAt j ∉ L q) →
    ∃ g, Does (kBootThrFrom ts i) m () g (12 * ts.length) ∧ QAt g N (blist ts i L) (bword ts V) ∧
      (∀ (j : Nat) (t : ThreadD), ts[j]? = some t → ∀ c : Int, 0 ≤ c → c < 19 → g (thAt (i + j : Nat) + 5 + c) = if c = 1 ∨ c = 2 then t.prio else rdM m (thAt (i + j : Nat) + 5 + c)) ∧
      ∀ x, QOut N x → x < thAt i ∨ 51 + 24 * N ≤ x → g x = rdM m x
  | [], i, m, L, V, hi, hp, hm, hq, hn => ⟨rdM m, Does.pure _ _ _, hq, fun j t h => by simp at h, fun x _ _ => rfl⟩
  | t :: ts, i, m, L, V, hi, hp, hm, hq, hn => by
    have hiN : i < N := by simp only [List.length_cons] at hi; omega
    have ht := hp t (by simp)
    have hin : ∀ x : Int, 0 ≤ x → x < 51 + 24 * N → InR m x := fun x h0 h1 => ⟨h0, by omega⟩
    have ha : thAt (i : Nat) = 51 + 24 * (i : Int) := rfl
    obtain ⟨m1, c1, e1, r1, l1, b1⟩ := Does.st (thAt i + 6) t.prio m (hin _ (by omega) (by omega))
    obtain ⟨m2, c2, e2, r2, l2, b2⟩ := Does.st (thAt i + 7) t.prio m1 ((hin _ (by omega) (by omega)).len l1)
    obtain ⟨m3, c3, e3, r3, l3, b3⟩ := does_init (thAt i + 2) m2 ((hin _ (by omega) (by omega)).len (l2.trans l1)) ((hin _ (by omega) (by omega)).len (l2.trans l1)) (by omega)
    have l31 : m3.length = m.length := l3.trans (l2.trans l1)
    have f3 : rdM m3 = upd (upd (upd (upd (rdM m) (thAt i + 6) t.prio) (thAt i + 7) t.prio) (thAt i + 2) (thAt i + 2)) (thAt i + 2 + 1) (thAt i + 2) := by rw [r3, r2, r1]
    have k3 : ∀ x, x ≠ thAt i + 6 → x ≠ thAt i + 7 → x ≠ thAt i + 2 → x ≠ thAt i + 3 → rdM m3 x = rdM m x := by
      intro x h1 h2 h3 h4
      rw [f3, upd_other _ _ _ _ (by omega), upd_other _ _ _ _ h3, upd_other _ _ _ _ h2, upd_other _ _ _ _ h1]
    have q3 : QAt (rdM m3) N L V := hq.congr (fun x hx => by
      have hno : ∀ d : Int, 2 ≤ d → d < 24 → x ≠ thAt i + d := by
        intro d h0 h1 e
        refine hx ⟨by omega, fun j hj => ?_⟩
        rw [e]; unfold thAt; omega
      exact k3 x (hno 6 (by omega) (by omega)) (hno 7 (by omega) (by omega)) (hno 2 (by omega) (by omega)) (hno 3 (by omega) (by omega)))
    obtain ⟨p, hpp⟩ : ∃ p : Nat, t.prio = p := ⟨t.prio.toNat, by omega⟩
    have hp16 : p < 16 := by omega
    obtain ⟨g4, d4, q4, o4⟩ := q3.add hN (by omega) i p hiN hp16 (fun q hq => hn q hq i (Nat.le_refl _))
    obtain ⟨m4, c4, e4, r4, l4, b4⟩ := d4
    rw [← r4] at q4
    have hn4 : ∀ q, q < 16 → ∀ j : Nat, i + 1 ≤ j → thAt j ∉ addL L p (thAt i) q := by
      intro q hq j hj hm
      rcases addL_mem hm with h | h
      · exact hn q hq j (by omega) h
      · unfold thAt at h; omega
    obtain ⟨g, d5, q5, w5, o5⟩ := does_bootThr N hN ts (i + 1) m4 (addL L p (thAt i)) (V ||| 2 ^ p) (by simp only [List.length_cons] at hi; omega) (fun u hu => hp u (by simp [hu])) (by omega) q4 hn4
    have hpe : t.prio.toNat = p := by omega
    refine ⟨g, ?_, ?_, ?_, ?_⟩
    · unfold kBootThrFrom
      obtain ⟨m5, c5, e5, r5, l5, b5⟩ := d5
      rw [hpp] at e1 e2
      rw [hpp]
      exact ⟨m5, _, srun_seq e1 (srun_seq e2 (srun_seq e3 (srun_seq e4 e5))), r5, by omega, by simp only [List.length_cons]; omega⟩
    · show QAt g N (blist ts (i + 1) (addL L t.prio.toNat (thAt i))) (bword ts (V ||| 2 ^ t.prio.toNat))
      rw [hpe]; exact q5
    · intro j u hu c h0 h1
      cases j with
      | zero =>
        simp at hu; subst hu
        rw [Nat.add_zero, o5 _ ⟨by omega, fun j hj => by unfold thAt; omega⟩ (by left; unfold thAt; omega), r4, o4 _ ⟨by omega, fun j hj => by unfold thAt; omega⟩]
        split
        · rename_i hc
          rw [f3, upd_other _ _ _ _ (by omega), upd_other _ _ _ _ (by omega)]
          rcases hc with rfl | rfl
          · rw [upd_other _ _ _ _ (by omega), show thAt i + 5 + 1 = thAt i + 6 by omega, upd_same]
          · rw [show thAt i + 5 + 2 = thAt i + 7 by omega, upd_same]
        · exact k3 _ (by omega) (by omega) (by omega) (by omega)
      | succ j =>
        have hjl : j < ts.length := by
          have := (List.getElem?_eq_some_iff.1 (show ts[j]? = some u by simpa using hu)).1
          exact this
        have := w5 j u (by simpa using hu) c h0 h1
        rw [show i + 1 + j = i + (j + 1) by omega] at this
        rw [this]
        split
        · rfl
        · rw [r4, o4 _ ⟨by unfold thAt; omega, fun k hk => by unfold thAt; omega⟩]
          exact k3 _ (by unfold thAt; omega) (by unfold thAt; omega) (by unfold thAt; omega) (by unfold thAt; omega)
    · intro x hx hlo
      rw [o5 x hx (by unfold thAt at *; omega), r4, o4 x hx]
      simp only [List.length_cons] at hi
      exact k3 x (by unfold thAt at *; omega) (by unfold thAt at *; omega) (by unfold thAt at *; omega) (by unfold thAt at *; omega)
end Go.Proofs.YtefbdcmodfbpbaaGreat
namespace Go.Proofs.YtefbdcmodfbpbaaGreat
open Go.RowKit

theorem does_bInitFrom (a n : Int) (ha : 0 ≤ a) (ha2 : a ≤ 100000) : ∀ (k i : Nat) (m : Mem), i + k ≤ 100 → a + 1 + i + k ≤ m.length → ∃ g, Does (kBInitFrom a n k i) m () g k ∧ ∀ x, x < a ∨ a + 1 + i + k ≤ x → g x = rdM m x
  | 0, i, m, hi, hm => ⟨rdM m, Does.pure _ _ _, fun x _ => rfl⟩
  | k + 1, i, m, hi, hm => by
    have e : wrap64 (wrap64 (a + 1) + i) = a + 1 + i := by
      rw [wrap_small (x := a + 1) (by omega) (by omega)]
      exact wrap_small (by omega) (by omega)
    obtain ⟨m1, c1, e1, r1, l1, b1⟩ := Does.st (a + 1 + i) (blkNext n i) m ⟨by omega, by omega⟩
    obtain ⟨g, ⟨m2, c2, e2, r2, l2, b2⟩, h2⟩ := does_bInitFrom a n ha ha2 k (i + 1) m1 (by omega) (by omega)
    refine ⟨g, ⟨m2, c1 + c2, ?_, r2, l2.trans l1, by omega⟩, fun x hx => ?_⟩
    · unfold kBInitFrom
      rw [e]
      exact srun_seq e1 e2
    · rw [h2 x (by omega), r1, upd_other _ _ _ _ (by omega)]
theorem does_bInit (a n : Int) (ha : 0 ≤ a) (ha2 : a ≤ 100000) (m : Mem) (hm : a + 17 ≤ m.length) : ∃ g, Does (kBInit a n) m () g 17 ∧ ∀ x, x < a ∨ a + 17 ≤ x → g x = rdM m x := by
  unfold kBInit
  cases hb : blkB n with
  | false => exact ⟨rdM m, Does.ff rfl (Does.pure _ _ _), fun x _ => rfl⟩
  | true =>
    obtain ⟨n0, n1⟩ : 1 ≤ n ∧ n ≤ 16 := by simpa [blkB] using hb
    obtain ⟨m1, c1, e1, r1, l1, b1⟩ := Does.st a 1 m ⟨by omega, by omega⟩
    obtain ⟨g, ⟨m2, c2, e2, r2, l2, b2⟩, h2⟩ := does_bInitFrom a n ha ha2 n.toNat 0 m1 (by omega) (by omega)
    refine ⟨g, Does.tt rfl ⟨m2, c1 + c2, srun_seq e1 e2, r2, l2.trans l1, by omega⟩, fun x hx => ?_⟩
    rw [h2 x (by omega), r1, upd_other _ _ _ _ (by omega)]
theorem does_bootObj (n : Nat) (hn : n ≤ 6) : ∀ (os : List ObjD) (i : Nat) (m : Mem), i + os.length ≤ 8 → 51 + 24 * n + 24 * (i + os.length) ≤ m.length → ∃ g, Does (kBootObjFrom n os i) m () g (21 * os.length) ∧ ∀ x, x < obAt n i → g x = rdM m x
  | [], i, m, hi, hm => ⟨rdM m, Does.pure _ _ _, fun x _ => rfl⟩
  | o :: os, i, m, hi, hm => by
    simp only [List.length_cons] at hi hm
    have ha : obAt n i = 51 + 24 * (n : Int) + 24 * (i : Int) := rfl
    have hb : obAt n ((i + 1 : Nat) : Int) = 51 + 24 * (n : Int) + 24 * ((i + 1 : Nat) : Int) := rfl
    have hin : ∀ m' : Mem, m'.length = m.length → ∀ x : Int, 0 ≤ x → x < obAt n i + 24 → InR m' x := fun m' l x h0 h1 => ⟨h0, by omega⟩
    obtain ⟨m1, c1, e1, r1, l1, b1⟩ := does_init (obAt n i) m (hin m rfl _ (by omega) (by omega)) (hin m rfl _ (by omega) (by omega)) (by omega)
    obtain ⟨m2, c2, e2, r2, l2, b2⟩ := does_init (obAt n i + 2) m1 (hin m1 l1 _ (by omega) (by omega)) (hin m1 l1 _ (by omega) (by omega)) (by omega)
    have k2 : ∀ x, x < obAt n i → rdM m2 x = rdM m x := by
      intro x hx
      rw [r2, upd_other _ _ _ _ (by omega), upd_other _ _ _ _ (by omega), r1, upd_other _ _ _ _ (by omega), upd_other _ _ _ _ (by omega)]
    cases hk : o.kind == 4 with
    | true =>
      obtain ⟨g3, ⟨m3, c3, e3, r3, l3, b3⟩, h3⟩ := does_bInit (obAt n i + 4) o.size (by omega) (by omega) m2 (by omega)
      obtain ⟨g, ⟨m4, c4, e4, r4, l4, b4⟩, h4⟩ := does_bootObj n hn os (i + 1) m3 (by omega) (by omega)
      refine ⟨g, ⟨m4, c1 + (c2 + (c3 + c4)), ?_, r4, by omega, by simp only [List.length_cons]; omega⟩, fun x hx => ?_⟩
      · unfold kBootObjFrom
        refine srun_seq e1 (srun_seq e2 ?_)
        rw [if_pos hk]
        exact srun_seq e3 e4
      · rw [h4 x (by omega), r3, h3 x (by omega), k2 x hx]
    | false =>
      obtain ⟨g, ⟨m4, c4, e4, r4, l4, b4⟩, h4⟩ := does_bootObj n hn os (i + 1) m2 (by omega) (by omega)
      refine ⟨g, ⟨m4, c1 + (c2 + c4), ?_, r4, by omega, by simp only [List.length_cons]; omega⟩, fun x hx => ?_⟩
      · unfold kBootObjFrom
        refine srun_seq e1 (srun_seq e2 ?_)
        rw [if_neg (by rw [hk]; decide)]
        exact e4
      · rw [h4 x (by omega), k2 x hx]

/-- All that are ready, the most urgent first, each with its priority. -/
def ord (L : Nat → List Int) : Nat → List (Int × Nat)
  | 0 => []
  | p + 1 => (L p).map (fun y => (y, p)) ++ ord L p
theorem ord_split {L : Nat → List Int} : ∀ {p : Nat} {pre post : List (Int × Nat)} {x : Int} {q : Nat}, ord L p = pre ++ (x, q) :: post → q < p ∧ ∃ l1 l2, L q = l1 ++ x :: l2 ∧ post = l2.map (fun y => (y, q)) ++ ord L q
  | 0, pre, post, x, q, h => by simp [ord] at h
  | p + 1, pre, post, x, q, h => by
    simp only [ord] at h
    rcases List.append_eq_append_iff.1 h with ⟨cs, e1, e2⟩ | ⟨bs, e1, e2⟩
    · obtain ⟨h1, h2⟩ := ord_split e2
      exact ⟨by omega, h2⟩
    · cases bs with
      | nil =>
        obtain ⟨h1, h2⟩ := ord_split (pre := []) (by simpa using e2.symm)
        exact ⟨by omega, h2⟩
      | cons b bs =>
        simp only [List.cons_append, List.cons.injEq] at e2
        obtain ⟨rfl, e3⟩ := e2
        obtain ⟨l1, l', h1, h2, h3⟩ := List.map_eq_append_iff.1 e1
        cases l' with
        | nil => simp at h3
        | cons y l2 =>
          simp only [List.map_cons, List.cons.injEq, Prod.mk.injEq] at h3
          obtain ⟨⟨rfl, rfl⟩, h4⟩ := h3
          exact ⟨by omega, l1, l2, h1, by rw [e3, h4]⟩

theorem mod_succ_bit (V p : Nat) : V % 2 ^ (p + 1) = V % 2 ^ p + (if V.testBit p then 2 ^ p else 0) := by
  rw [Nat.mod_pow_succ, Nat.testBit_eq_decide_div_mod_eq]
  have h2 : V / 2 ^ p % 2 = 0 ∨ V / 2 ^ p % 2 = 1 := by omega
  rcases h2 with h | h <;> simp [h]
theorem log2_top {x p : Nat} (h1 : 2 ^ p ≤ x) (h2 : x < 2 ^ (p + 1)) : Nat.log2 x = p := by
  have : x ≠ 0 := by have := Nat.two_pow_pos p; omega
  rw [Nat.log2_eq_iff this]; exact ⟨h1, h2⟩
/-- The bits below a priority tell the most urgent one below it. -/
theorem top_bits {L : Nat → List Int} {V : Nat} (hb : ∀ p, p < 16 → V.testBit p = !(L p).isEmpty) : ∀ p, p ≤ 16 → (V % 2 ^ p = 0 → ord L p = []) ∧ (V % 2 ^ p ≠ 0 → ∃ x l, Nat.log2 (V % 2 ^ p) < p ∧ L (Nat.log2 (V % 2 ^ p)) = x :: l ∧ ord L p = (x :: l).map (fun y => (y, Nat.log2 (V % 2 ^ p))) ++ ord L (Nat.log2 (V % 2 ^ p)))
  | 0, _ => ⟨fun _ => rfl, fun h => by simp [Nat.mod_one] at h⟩
  | p + 1, hp => by
    have hbp := hb p (by omega)
    have hlt := Nat.mod_lt V (Nat.two_pow_pos p)
    rw [mod_succ_bit]
    obtain ⟨i1, i2⟩ := top_bits hb p (by omega)
    cases hL : L p with
    | nil =>
      rw [hL] at hbp
      have hbp' : V.testBit p = false := by simpa using hbp
      rw [if_neg (by rw [hbp']; decide), Nat.add_zero]
      have ho : ord L (p + 1) = ord L p := by simp [ord, hL]
      rw [ho]
      exact ⟨i1, fun h => by obtain ⟨x, l, h1, h2, h3⟩ := i2 h; exact ⟨x, l, by omega, h2, h3⟩⟩
    | cons x l =>
      rw [hL] at hbp
      have hbp' : V.testBit p = true := by simpa using hbp
      rw [if_pos hbp']
      have h2 := Nat.two_pow_pos p
      refine ⟨fun h => by omega, fun _ => ?_⟩
      have hl : Nat.log2 (V % 2 ^ p + 2 ^ p) = p := log2_top (by omega) (by rw [Nat.pow_succ]; omega)
      rw [hl]
      exact ⟨x, l, by omega, hL, by simp [ord, hL]⟩

theorem qMask_mod (V p : Nat) (hV : V < 65536) (hp : p ≤ 16) : qMask (V : Int) (p : Int) = ((V % 2 ^ p : Nat) : Int) := by
  have hle : 2 ^ p ≤ 2 ^ 16 := Nat.pow_le_pow_right (by omega) hp
  have hpos : 0 < 2 ^ p := Nat.two_pow_pos p
  have e0 : (2 : Int) ^ ((p : Int).toNat) = ((2 ^ p : Nat) : Int) := by simp
  have e1 : IntKind.u64.wrap (IntKind.u64.wrap (2 ^ ((p : Int).toNat)) - 1) = ((2 ^ p - 1 : Nat) : Int) := by
    rw [e0, IntKind.wrap_u64, IntKind.wrap_u64]; omega
  have e2 : IntKind.u64.wrap (V : Int) = (V : Int) := by rw [IntKind.wrap_u64]; omega
  unfold qMask
  rw [e1, e2, u64_and_nat _ _ (by omega) (by omega), Nat.and_two_pow_sub_one_eq_mod]

def headR : List (Int × Nat) → Int × Int × Bool
  | [] => (0, 0, false)
  | x :: _ => (x.1, x.2, true)
theorem does_next (h n z : Int) (m : Mem) (hz : rdM m n = z) : Does (kNext h n) m (if z == h then (0, false) else (z, true)) (rdM m) 1 := by
  unfold kNext
  refine (Does.ld n m).bind (d := 0) (fun m1 r1 l1 => ?_) (by omega)
  refine (Does.off m1).bind (d := 0) (fun m2 r2 l2 => ?_) (by omega)
  refine Does.ff rfl ?_
  rw [hz]
  have r : rdM m2 = rdM m := r2.trans r1
  cases hq : z == h with
  | true => exact Does.tt rfl (by rw [← r]; exact Does.pure _ _ _)
  | false => exact Does.ff rfl (by rw [← r]; exact Does.pure _ _ _)
theorem does_below {N : Nat} {L : Nat → List Int} {V : Nat} {m : Mem} (h : QAt (rdM m) N L V) (p : Nat) (hp : p ≤ 16) : Does (kBelow 8 p) m (headR (ord L p)) (rdM m) 2 := by
  unfold kBelow
  obtain ⟨t1, t2⟩ := top_bits h.bits p hp
  refine (Does.ld 8 m).bind (d := 1) (fun m1 r1 l1 => ?_) (by omega)
  refine (Does.off m1).bind (d := 1) (fun m2 r2 l2 => ?_) (by omega)
  refine Does.ff rfl ?_
  have r : rdM m2 = rdM m := r2.trans r1
  rw [h.word, qMask_mod V p h.small hp]
  by_cases hz : V % 2 ^ p = 0
  · rw [t1 hz]
    exact Does.tt (by rw [hz]; rfl) ((by rw [← r]; exact Does.pure _ _ _))
  · obtain ⟨x, l, h1, h2, h3⟩ := t2 hz
    have hb : bitLen ((V % 2 ^ p : Nat) : Int) = (Nat.log2 (V % 2 ^ p) : Int) + 1 := by
      unfold bitLen
      rw [if_neg (by omega), Int.toNat_natCast]
    rw [hb]
    generalize Nat.log2 (V % 2 ^ p) = q at *
    have hq16 : q < 16 := by omega
    have hw : wrap64 ((q : Int) + 1 - 1) = q := by rw [wrap_small (by omega) (by omega)]; omega
    rw [hw, qHead_hd q hq16]
    refine Does.ff (by rw [beq_eq_false_iff_ne]; exact fun e => hz (by exact_mod_cast e)) ?_
    have hs := h.seg q hq16
    rw [h2] at hs
    have hxn : x ≠ hd q := by
      obtain ⟨j, hj, e⟩ := h.node q hq16 x (by rw [h2]; simp)
      rw [e]; unfold thAt hd; omega
    have d1 := does_next (hd q) (hd q) x m2 (by rw [r]; exact hs.1)
    rw [if_neg (by simpa using hxn)] at d1
    rw [r] at d1
    refine Does.bind (a := (x, true)) (c := 1) (d := 0) (g := rdM m) ?_ (fun m3 r3 l3 => ?_) (by omega)
    · unfold kFirst
      exact d1.bind (d := 0) (fun m3 r3 l3 => by rw [← r3]; exact Does.pure _ _ _) (by omega)
    · rw [h3]
      exact Does.tt rfl (by rw [← r3]; exact Does.pure _ _ _)
theorem does_qFirst {N : Nat} {L : Nat → List Int} {V : Nat} {m : Mem} (h : QAt (rdM m) N L V) : Does (kQFirst 8) m (headR (ord L 16)) (rdM m) 2 := by
  unfold kQFirst
  have d := does_below h 16 (by omega)
  exact Does.bind (a := headR (ord L 16)) (d := 0) d (fun m1 r1 l1 => by
    rw [← r1]
    generalize headR (ord L 16) = r
    obtain ⟨_, _, _⟩ := r
    exact Does.pure _ _ _) (by omega)
theorem does_qAfter {N : Nat} {L : Nat → List Int} {V : Nat} {m : Mem} (h : QAt (rdM m) N L V) {pre post : List (Int × Nat)} {x : Int} {q : Nat} (ho : ord L 16 = pre ++ (x, q) :: post) : Does (kQAfter 8 x q) m (headR post) (rdM m) 3 := by
  obtain ⟨hq, l1, l2, hL, hpost⟩ := ord_split ho
  have hs := h.seg q hq
  rw [hL, Seg.split] at hs
  unfold kQAfter
  refine Does.tt (by simp [levelB]; omega) ?_
  rw [qHead_hd q hq]
  cases l2 with
  | cons y l2 =>
    have hyn : y ≠ hd q := by
      obtain ⟨j, hj, e⟩ := h.node q hq y (by rw [hL]; simp)
      rw [e]; unfold thAt hd; omega
    have d1 := does_next (hd q) x y m hs.2.1
    rw [if_neg (by simpa using hyn)] at d1
    refine d1.bind (d := 0) (fun m1 r1 l1 => ?_) (by omega)
    refine (Does.off m1).bind (d := 0) (fun m2 r2 l2' => ?_) (by omega)
    refine Does.ff rfl (Does.tt rfl ?_)
    rw [hpost, ← r1, ← r2]
    exact Does.pure _ _ _
  | nil =>
    have d1 := does_next (hd q) x (hd q) m hs.2.1
    rw [if_pos (by simp)] at d1
    refine d1.bind (d := 2) (fun m1 r1 l1 => ?_) (by omega)
    refine (Does.off m1).bind (d := 2) (fun m2 r2 l2' => ?_) (by omega)
    refine Does.ff rfl (Does.ff rfl ?_)
    have r : rdM m2 = rdM m := r2.trans r1
    rw [hpost, ← r]
    have d := does_below (m := m2) (by rw [r]; exact h) q (by omega)
    simp only [List.map_nil, List.nil_append]
    exact Does.bind (a := headR (ord L q)) (d := 0) d (fun m3 r3 l3 => by
      rw [← r3]
      generalize headR (ord L q) = rr
      obtain ⟨_, _, _⟩ := rr
      exact Does.pure _ _ _) (by omega)
end Go.Proofs.YtefbdcmodfbpbaaGreat
namespace Go.Proofs.YtefbdcmodfbpbaaGreat
open Go.RowKit

theorem firstAt_at {α : Type} [DecidableEq α] (x : α) : ∀ (xs : List α) (k j : Nat), xs.Nodup → xs[j]? = some x → firstAt (fun y => decide (x = y)) xs k = ((k + j : Nat) : Int)
  | [], k, j, _, h => by simp at h
  | y :: xs, k, j, hn, h => by
    unfold firstAt
    cases j with
    | zero => simp at h; subst h; simp
    | succ j =>
      have hx : xs[j]? = some x := by simpa using h
      have hne : x ≠ y := by
        intro e
        have := List.mem_of_getElem? hx
        rw [e] at this
        exact (List.nodup_cons.1 hn).1 this
      rw [if_neg (by simpa using hne), firstAt_at x xs (k + 1) j (List.nodup_cons.1 hn).2 hx]
      omega
theorem thAts_nodup (n : Nat) : (thAts n).Nodup := by
  unfold thAts
  exact List.Pairwise.map _ (fun a b h e => h (by unfold thAt at e; omega)) List.nodup_range
theorem numOf_at (n j : Nat) (h : j < n) : numOf n (thAt j) = j + 1 := by
  have := firstAt_at (thAt j) (thAts n) 0 j (thAts_nodup n) (by simp [thAts, h])
  unfold numOf ofNode
  have e : (fun y => thAt (j : Int) == y) = fun y => decide (thAt (j : Int) = y) := by funext y; rfl
  rw [e, this]; omega

/-- Who runs on a core behind a boot: his number and 1; 0: nobody. -/
def coreV (n : Nat) (o : List (Int × Nat)) (c : Nat) : Int := match o[c]? with
  | some y => numOf n y.1
  | none => 0

theorem does_cores {N : Nat} {L : Nat → List Int} {V : Nat} {m : Mem} (nt : Nat) (h : QAt (rdM m) N L V) (hm : 41 ≤ m.length) (h0 : rdM m 3 = 0) (h5 : rdM m 5 = 0) :
    ∃ g, Does (kCores nt 2 0 (headR (ord L 16)).1 (headR (ord L 16)).2.1 (headR (ord L 16)).2.2) m () g 8 ∧ g 3 = coreV nt (ord L 16) 0 ∧ g 5 = coreV nt (ord L 16) 1 ∧ ∀ x, x ≠ 3 → x ≠ 5 → g x = rdM m x := by
  have hq : ∀ m' : Mem, (∀ x, x ≠ 3 → x ≠ 5 → rdM m' x = rdM m x) → QAt (rdM m') N L V := fun m' hx => h.congr (fun x hx' => hx x (fun e => hx' ⟨by omega, fun j _ => by rw [e]; unfold thAt; omega⟩) (fun e => hx' ⟨by omega, fun j _ => by rw [e]; unfold thAt; omega⟩))
  cases ho : ord L 16 with
  | nil => exact ⟨rdM m, Does.ff rfl (Does.pure _ _ _), by rw [h0]; rfl, by rw [h5]; rfl, fun x _ _ => rfl⟩
  | cons a post =>
    obtain ⟨x, q⟩ := a
    obtain ⟨m1, c1, e1, r1, l1, b1⟩ := Does.st 3 (numOf nt x) m ⟨by omega, by omega⟩
    have q1 : QAt (rdM m1) N L V := hq m1 (fun y h1 h2 => by rw [r1, upd_other _ _ _ _ h1])
    obtain ⟨m2, c2, e2, r2, l2, b2⟩ := does_qAfter q1 (pre := []) (post := post) (x := x) (q := q) (by simpa using ho)
    cases post with
    | nil =>
      refine ⟨rdM m2, ⟨m2, c1 + (c2 + 0), ?_, rfl, by omega, by omega⟩, ?_, ?_, fun y h1 h2 => by rw [r2, r1, upd_other _ _ _ _ h1]⟩
      · show srun (kCores nt 2 0 x q true) m = _
        unfold kCores
        rw [if_pos rfl]
        exact srun_seq e1 (srun_seq e2 rfl)
      · rw [r2, r1, upd_same]; rfl
      · rw [r2, r1, upd_other _ _ _ _ (by omega), h5]; rfl
    | cons b rest =>
      obtain ⟨y, q2⟩ := b
      obtain ⟨m3, c3, e3, r3, l3, b3⟩ := Does.st 5 (numOf nt y) m2 ⟨by omega, by omega⟩
      have q3 : QAt (rdM m3) N L V := hq m3 (fun z h1 h2 => by rw [r3, upd_other _ _ _ _ h2, r2, r1, upd_other _ _ _ _ h1])
      obtain ⟨m4, c4, e4, r4, l4, b4⟩ := does_qAfter q3 (pre := [(x, q)]) (post := rest) (x := y) (q := q2) (by simpa using ho)
      refine ⟨rdM m4, ⟨m4, c1 + (c2 + (c3 + (c4 + 0))), ?_, rfl, by omega, by omega⟩, ?_, ?_, fun z h1 h2 => by rw [r4, r3, upd_other _ _ _ _ h2, r2, r1, upd_other _ _ _ _ h1]⟩
      · show srun (kCores nt 2 0 x q true) m = _
        unfold kCores
        rw [if_pos rfl]
        refine srun_seq e1 (srun_seq e2 ?_)
        show srun (kCores nt 1 1 y q2 true) m2 = _
        unfold kCores
        rw [if_pos rfl]
        exact srun_seq e3 (srun_seq e4 rfl)
      · rw [r4, r3, upd_other _ _ _ _ (by omega), r2, r1, upd_same]; rfl
      · rw [r4, r3, upd_same]; rfl

theorem rdM_zeros (n : Nat) (x : Int) : rdM (List.replicate n 0) x = 0 := by
  unfold rdM
  split
  · rename_i h
    rw [List.getD_eq_getElem?_getD, List.getElem?_replicate]
    split <;> rfl
  · rfl

/-- The order of those that are ready behind a boot. -/
def bootOrd (P : PartD) : List (Int × Nat) := ord (blist P.thr 0 fun _ => []) 16
/-- What a boot's memory reads. -/
structure BootAt (P : PartD) (g : Int → Int) : Prop where
  q : QAt g P.thr.length (blist P.thr 0 fun _ => []) (bword P.thr 0)
  field : ∀ (j : Nat) (t : ThreadD), P.thr[j]? = some t → ∀ c : Int, 0 ≤ c → c < 19 → g (thAt j + 5 + c) = if c = 1 ∨ c = 2 then t.prio else 0
  core0 : g 3 = coreV P.thr.length (bootOrd P) 0
  core1 : g 5 = coreV P.thr.length (bootOrd P) 1
  low : ∀ x, (0 ≤ x ∧ x < 8 ∨ 43 ≤ x ∧ x < 51) → x ≠ 3 → x ≠ 5 → g x = 0

theorem does_boot (P : PartD) (hn : P.thr.length ≤ 6) (hn2 : P.obj.length ≤ 8) (hp : PriosOk P.thr) : ∃ g, Does (kBoot P) (List.replicate (planWords P) 0) () g 400 ∧ BootAt P g := by
  have hw : (List.replicate (planWords P) (0 : Int)).length = planWords P := by simp
  have hpw : planWords P = 51 + 24 * (P.thr.length + P.obj.length) := rfl
  obtain ⟨g1, ⟨m1, c1, e1, r1, l1, b1⟩, q1, o1⟩ := does_qInit P.thr.length (List.replicate (planWords P) 0) (by omega)
  obtain ⟨m2, c2, e2, r2, l2, b2⟩ := does_init 41 m1 ⟨by omega, by omega⟩ ⟨by omega, by omega⟩ (by omega)
  have k2 : ∀ x, x ≠ 41 → x ≠ 42 → rdM m2 x = rdM m1 x := fun x h1 h2 => by rw [r2, upd_other _ _ _ _ (by omega), upd_other _ _ _ _ h1]
  have z2 : ∀ x, x < 8 ∨ 43 ≤ x → rdM m2 x = 0 := fun x hx => by rw [k2 x (by omega) (by omega), r1, o1 x (by omega), rdM_zeros]
  have q2 : QAt (rdM m2) P.thr.length (fun _ => []) 0 := by
    rw [← r1] at q1
    exact q1.congr (fun x hx => k2 x (fun e => hx ⟨by omega, fun j _ => by rw [e]; unfold thAt; omega⟩) (fun e => hx ⟨by omega, fun j _ => by rw [e]; unfold thAt; omega⟩))
  obtain ⟨g3, ⟨m3, c3, e3, r3, l3, b3⟩, q3, w3, o3⟩ := does_bootThr P.thr.length hn P.thr 0 m2 (fun _ => []) 0 (by omega) hp (by omega) q2 (fun q _ j _ h => by simp at h)
  obtain ⟨g4, ⟨m4, c4, e4, r4, l4, b4⟩, o4⟩ := does_bootObj P.thr.length hn P.obj 0 m3 (by omega) (by omega)
  have ho0 : obAt P.thr.length ((0 : Nat) : Int) = 51 + 24 * (P.thr.length : Int) := by unfold obAt; omega
  have q4 : QAt (rdM m4) P.thr.length (blist P.thr 0 fun _ => []) (bword P.thr 0) := by
    rw [← r3] at q3
    refine q3.congr (fun x hx => ?_)
    have hx4 : x < obAt P.thr.length ((0 : Nat) : Int) := by
      rw [ho0]
      rcases Classical.em (x < 51 + 24 * (P.thr.length : Int)) with h | h
      · exact h
      · exact (hx ⟨by omega, fun j hj => by unfold thAt; omega⟩).elim
    rw [r4, o4 x hx4]
  have z4 : ∀ x, (0 ≤ x ∧ x < 8 ∨ 43 ≤ x ∧ x < 51) → rdM m4 x = 0 := by
    intro x hx
    have ht : thAt ((0 : Nat) : Int) = 51 := by unfold thAt; omega
    rw [r4, o4 x (by rw [ho0]; omega), r3, o3 x ⟨by omega, fun j hj => by unfold thAt; omega⟩ (by left; rw [ht]; omega), z2 x (by omega)]
  obtain ⟨m5, c5, e5, r5, l5, b5⟩ := does_qFirst q4
  have q5 : QAt (rdM m5) P.thr.length (blist P.thr 0 fun _ => []) (bword P.thr 0) := by rw [r5]; exact q4
  obtain ⟨g, ⟨m6, c6, e6, r6, l6, b6⟩, v3, v5, o6⟩ := does_cores P.thr.length q5 (by omega) (by rw [r5]; exact z4 3 (by omega)) (by rw [r5]; exact z4 5 (by omega))
  refine ⟨g, ⟨m6, c1 + (c2 + (c3 + (c4 + (c5 + c6)))), ?_, r6, by omega, by omega⟩, ?_, ?_, v3, v5, ?_⟩
  · unfold kBoot
    exact srun_seq e1 (srun_seq e2 (srun_seq e3 (srun_seq e4 (srun_seq e5 e6))))
  · refine q5.congr (fun x hx => ?_)
    exact o6 x (fun e => hx ⟨by omega, fun j _ => by rw [e]; unfold thAt; omega⟩) (fun e => hx ⟨by omega, fun j _ => by rw [e]; unfold thAt; omega⟩)
  · intro j t ht c h0 h1
    have hj := (List.getElem?_eq_some_iff.1 ht).1
    have hw := w3 j t ht c h0 h1
    rw [Nat.zero_add] at hw
    rw [o6 _ (by unfold thAt; omega) (by unfold thAt; omega), r5, r4, o4 _ (by rw [ho0]; unfold thAt; omega), r3, hw]
    split
    · rfl
    · exact z2 _ (by unfold thAt; omega)
  · intro x hx h3 h5
    rw [o6 x h3 h5, r5, z4 x hx]

theorem bootM_at (P : PartD) (hn : P.thr.length ≤ 6) (hn2 : P.obj.length ≤ 8) (hp : PriosOk P.thr) : BootAt P (rdM (bootM P)) := by
  obtain ⟨g, hd, hb⟩ := does_boot P hn hn2 hp
  obtain ⟨s, h1, h2, h3, h4⟩ := hd.runs (tot_boot P) (most := 4000) (by omega) (by omega)
  have e : bootM P = s.mem := by
    have h1' : bootRun P = some (some (), s) := h1
    unfold bootM
    rw [h1']; rfl
  rw [e, h3]; exact hb
end Go.Proofs.YtefbdcmodfbpbaaGreat
namespace Go.Proofs.YtefbdcmodfbpbaaGreat
open Go.RowKit

theorem below_box {w W : World} {o : Obj} (h : Below (w.heap.size + 1) (w.alloc o) W) : Below w.heap.size w W := ((Below.refl _ _).alloc (Nat.le_refl _) _).trans (h.mono (by omega))
theorem below_next {w W W' : World} {o : Obj} (h : Below (w.heap.size + 1) (w.alloc o) W) (h' : Below W.heap.size W W') : Below (w.heap.size + 1) (w.alloc o) W' := h.trans (h'.mono (by have := h.size; simpa using this))
theorem box_cells {w W : World} {cs : Array Value} {t : TypeId} (h : Below (w.heap.size + 1) (w.alloc (.cells cs t)) W) : (∀ k, W.cell? ⟨w.heap.size, k, none⟩ = cs[k]?) ∧ (∀ k, W.frozen? ⟨w.heap.size, k, none⟩ = false) :=
  below_cells h (b := w.heap.size) (by omega) (heap_alloc_new w _)
theorem Left.below {S : Nat → Prop} {wb B : Nat} {w w' : World} (h : Left S wb w w') (hB : B ≤ w.heap.size) (h1 : B ≤ wb) (h2 : ∀ k, S k → B ≤ k) : Below B w w' :=
  ⟨h.os, h.tape, h.output, h.size, fun k hk => h.block k (by omega) (by omega) (fun hs => by have := h2 k hs; omega)⟩
end Go.Proofs.YtefbdcmodfbpbaaGreat
