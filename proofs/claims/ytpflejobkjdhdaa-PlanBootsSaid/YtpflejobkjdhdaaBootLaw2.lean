/-
  What a boot leaves in memory: objects; the order of those that are ready. Plain Lean: no Go here.
-/
import Derived.Test.YtpflejobkjdhdaaBootLaw
set_option linter.unusedVariables false
set_option linter.unusedSimpArgs false
namespace Go.Proofs.Ytpflejobkjdhdaa
open Go.RowKit

theorem does_bInitFrom (a n : Int) (ha : 0 ≤ a) (ha2 : a ≤ 100000) : ∀ (k i : Nat) (m : Mem), i + k ≤ 100 → a + 1 + i + k ≤ m.length → ∃ g, Does (kBInitFrom a n k i) m () g k ∧ ∀ x, x < a ∨ a + 1 + i + k ≤ x → g x = rdM m x
  | 0, i, m, hi, hm => ⟨rdM m, Does.pure _ _ _, fun x _ => rfl⟩
  | k + 1, i, m, hi, hm => by
    have e : wrap64 (wrap64 (a + 1) + i) = a + 1 + i := by
      rw [wrap_small (x := a + 1) (by omega) (by omega)]
      exact wrap_small (by omega) (by omega)
    obtain ⟨m1, c1, e1, r1, l1, b1⟩ := Does.st (a + 1 + i) (blkNext n i) m ⟨by omega, by omega⟩
    obtain ⟨g, ⟨m2, c2, e2, r2, l2, b2⟩, h2⟩ := does_bInitFrom a n ha ha2 k (i + 1) m1 (by omega) (by omega)
    refine ⟨g, ⟨m2, c1 + c2, ?_, r2, l2.trans l1, by omega⟩, fun x hx => ?_⟩
    · unfold kBInitFrom
      rw [e]
      exact srun_seq e1 e2
    · rw [h2 x (by omega), r1, upd_other _ _ _ _ (by omega)]
theorem does_bInit (a n : Int) (ha : 0 ≤ a) (ha2 : a ≤ 100000) (m : Mem) (hm : a + 17 ≤ m.length) : ∃ g, Does (kBInit a n) m () g 17 ∧ ∀ x, x < a ∨ a + 17 ≤ x → g x = rdM m x := by
  unfold kBInit
  cases hb : blkB n with
  | false => exact ⟨rdM m, Does.ff rfl (Does.pure _ _ _), fun x _ => rfl⟩
  | true =>
    obtain ⟨n0, n1⟩ : 1 ≤ n ∧ n ≤ 16 := by simpa [blkB] using hb
    obtain ⟨m1, c1, e1, r1, l1, b1⟩ := Does.st a 1 m ⟨by omega, by omega⟩
    obtain ⟨g, ⟨m2, c2, e2, r2, l2, b2⟩, h2⟩ := does_bInitFrom a n ha ha2 n.toNat 0 m1 (by omega) (by omega)
    refine ⟨g, Does.tt rfl ⟨m2, c1 + c2, srun_seq e1 e2, r2, l2.trans l1, by omega⟩, fun x hx => ?_⟩
    rw [h2 x (by omega), r1, upd_other _ _ _ _ (by omega)]
theorem does_bootObj (n : Nat) (hn : n ≤ 6) : ∀ (os : List ObjD) (i : Nat) (m : Mem), i + os.length ≤ 8 → 51 + 24 * n + 24 * (i + os.length) ≤ m.length → ∃ g, Does (kBootObjFrom n os i) m () g (21 * os.length) ∧ ∀ x, x < obAt n i → g x = rdM m x
  | [], i, m, hi, hm => ⟨rdM m, Does.pure _ _ _, fun x _ => rfl⟩
  | o :: os, i, m, hi, hm => by
    simp only [List.length_cons] at hi hm
    have ha : obAt n i = 51 + 24 * (n : Int) + 24 * (i : Int) := rfl
    have hb : obAt n ((i + 1 : Nat) : Int) = 51 + 24 * (n : Int) + 24 * ((i + 1 : Nat) : Int) := rfl
    have hin : ∀ m' : Mem, m'.length = m.length → ∀ x : Int, 0 ≤ x → x < obAt n i + 24 → InR m' x := fun m' l x h0 h1 => ⟨h0, by omega⟩
    obtain ⟨m1, c1, e1, r1, l1, b1⟩ := does_init (obAt n i) m (hin m rfl _ (by omega) (by omega)) (hin m rfl _ (by omega) (by omega)) (by omega)
    obtain ⟨m2, c2, e2, r2, l2, b2⟩ := does_init (obAt n i + 2) m1 (hin m1 l1 _ (by omega) (by omega)) (hin m1 l1 _ (by omega) (by omega)) (by omega)
    have k2 : ∀ x, x < obAt n i → rdM m2 x = rdM m x := by
      intro x hx
      rw [r2, upd_other _ _ _ _ (by omega), upd_other _ _ _ _ (by omega), r1, upd_other _ _ _ _ (by omega), upd_other _ _ _ _ (by omega)]
    cases hk : o.kind == 4 with
    | true =>
      obtain ⟨g3, ⟨m3, c3, e3, r3, l3, b3⟩, h3⟩ := does_bInit (obAt n i + 4) o.size (by omega) (by omega) m2 (by omega)
      obtain ⟨g, ⟨m4, c4, e4, r4, l4, b4⟩, h4⟩ := does_bootObj n hn os (i + 1) m3 (by omega) (by omega)
      refine ⟨g, ⟨m4, c1 + (c2 + (c3 + c4)), ?_, r4, by omega, by simp only [List.length_cons]; omega⟩, fun x hx => ?_⟩
      · unfold kBootObjFrom
        refine srun_seq e1 (srun_seq e2 ?_)
        rw [if_pos hk]
        exact srun_seq e3 e4
      · rw [h4 x (by omega), r3, h3 x (by omega), k2 x hx]
    | false =>
      obtain ⟨g, ⟨m4, c4, e4, r4, l4, b4⟩, h4⟩ := does_bootObj n hn os (i + 1) m2 (by omega) (by omega)
      refine ⟨g, ⟨m4, c1 + (c2 + c4), ?_, r4, by omega, by simp only [List.length_cons]; omega⟩, fun x hx => ?_⟩
      · unfold kBootObjFrom
        refine srun_seq e1 (srun_seq e2 ?_)
        rw [if_neg (by rw [hk]; decide)]
        exact e4
      · rw [h4 x (by omega), k2 x hx]

/-- All that are ready, the most urgent first, each with its priority. -/
def ord (L : Nat → List Int) : Nat → List (Int × Nat)
  | 0 => []
  | p + 1 => (L p).map (fun y => (y, p)) ++ ord L p
theorem ord_split {L : Nat → List Int} : ∀ {p : Nat} {pre post : List (Int × Nat)} {x : Int} {q : Nat}, ord L p = pre ++ (x, q) :: post → q < p ∧ ∃ l1 l2, L q = l1 ++ x :: l2 ∧ post = l2.map (fun y => (y, q)) ++ ord L q
  | 0, pre, post, x, q, h => by simp [ord] at h
  | p + 1, pre, post, x, q, h => by
    simp only [ord] at h
    rcases List.append_eq_append_iff.1 h with ⟨cs, e1, e2⟩ | ⟨bs, e1, e2⟩
    · obtain ⟨h1, h2⟩ := ord_split e2
      exact ⟨by omega, h2⟩
    · cases bs with
      | nil =>
        obtain ⟨h1, h2⟩ := ord_split (pre := []) (by simpa using e2.symm)
        exact ⟨by omega, h2⟩
      | cons b bs =>
        simp only [List.cons_append, List.cons.injEq] at e2
        obtain ⟨rfl, e3⟩ := e2
        obtain ⟨l1, l', h1, h2, h3⟩ := List.map_eq_append_iff.1 e1
        cases l' with
        | nil => simp at h3
        | cons y l2 =>
          simp only [List.map_cons, List.cons.injEq, Prod.mk.injEq] at h3
          obtain ⟨⟨rfl, rfl⟩, h4⟩ := h3
          exact ⟨by omega, l1, l2, h1, by rw [e3, h4]⟩

theorem mod_succ_bit (V p : Nat) : V % 2 ^ (p + 1) = V % 2 ^ p + (if V.testBit p then 2 ^ p else 0) := by
  rw [Nat.mod_pow_succ, Nat.testBit_eq_decide_div_mod_eq]
  have h2 : V / 2 ^ p % 2 = 0 ∨ V / 2 ^ p % 2 = 1 := by omega
  rcases h2 with h | h <;> simp [h]
theorem log2_top {x p : Nat} (h1 : 2 ^ p ≤ x) (h2 : x < 2 ^ (p + 1)) : Nat.log2 x = p := by
  have : x ≠ 0 := by have := Nat.two_pow_pos p; omega
  rw [Nat.log2_eq_iff this]; exact ⟨h1, h2⟩
/-- The bits below a priority tell the most urgent one below it. -/
theorem top_bits {L : Nat → List Int} {V : Nat} (hb : ∀ p, p < 16 → V.testBit p = !(L p).isEmpty) : ∀ p, p ≤ 16 → (V % 2 ^ p = 0 → ord L p = []) ∧ (V % 2 ^ p ≠ 0 → ∃ x l, Nat.log2 (V % 2 ^ p) < p ∧ L (Nat.log2 (V % 2 ^ p)) = x :: l ∧ ord L p = (x :: l).map (fun y => (y, Nat.log2 (V % 2 ^ p))) ++ ord L (Nat.log2 (V % 2 ^ p)))
  | 0, _ => ⟨fun _ => rfl, fun h => by simp [Nat.mod_one] at h⟩
  | p + 1, hp => by
    have hbp := hb p (by omega)
    have hlt := Nat.mod_lt V (Nat.two_pow_pos p)
    rw [mod_succ_bit]
    obtain ⟨i1, i2⟩ := top_bits hb p (by omega)
    cases hL : L p with
    | nil =>
      rw [hL] at hbp
      have hbp' : V.testBit p = false := by simpa using hbp
      rw [if_neg (by rw [hbp']; decide), Nat.add_zero]
      have ho : ord L (p + 1) = ord L p := by simp [ord, hL]
      rw [ho]
      exact ⟨i1, fun h => by obtain ⟨x, l, h1, h2, h3⟩ := i2 h; exact ⟨x, l, by omega, h2, h3⟩⟩
    | cons x l =>
      rw [hL] at hbp
      have hbp' : V.testBit p = true := by simpa using hbp
      rw [if_pos hbp']
      have h2 := Nat.two_pow_pos p
      refine ⟨fun h => by omega, fun _ => ?_⟩
      have hl : Nat.log2 (V % 2 ^ p + 2 ^ p) = p := log2_top (by omega) (by rw [Nat.pow_succ]; omega)
      rw [hl]
      exact ⟨x, l, by omega, hL, by simp [ord, hL]⟩

theorem qMask_mod (V p : Nat) (hV : V < 65536) (hp : p ≤ 16) : qMask (V : Int) (p : Int) = ((V % 2 ^ p : Nat) : Int) := by
  have hle : 2 ^ p ≤ 2 ^ 16 := Nat.pow_le_pow_right (by omega) hp
  have hpos : 0 < 2 ^ p := Nat.two_pow_pos p
  have e0 : (2 : Int) ^ ((p : Int).toNat) = ((2 ^ p : Nat) : Int) := by simp
  have e1 : IntKind.u64.wrap (IntKind.u64.wrap (2 ^ ((p : Int).toNat)) - 1) = ((2 ^ p - 1 : Nat) : Int) := by
    rw [e0, IntKind.wrap_u64, IntKind.wrap_u64]; omega
  have e2 : IntKind.u64.wrap (V : Int) = (V : Int) := by rw [IntKind.wrap_u64]; omega
  unfold qMask
  rw [e1, e2, u64_and_nat _ _ (by omega) (by omega), Nat.and_two_pow_sub_one_eq_mod]

def headR : List (Int × Nat) → Int × Int × Bool
  | [] => (0, 0, false)
  | x :: _ => (x.1, x.2, true)
theorem does_next (h n z : Int) (m : Mem) (hz : rdM m n = z) : Does (kNext h n) m (if z == h then (0, false) else (z, true)) (rdM m) 1 := by
  unfold kNext
  refine (Does.ld n m).bind (d := 0) (fun m1 r1 l1 => ?_) (by omega)
  refine (Does.off m1).bind (d := 0) (fun m2 r2 l2 => ?_) (by omega)
  refine Does.ff rfl ?_
  rw [hz]
  have r : rdM m2 = rdM m := r2.trans r1
  cases hq : z == h with
  | true => exact Does.tt rfl (by rw [← r]; exact Does.pure _ _ _)
  | false => exact Does.ff rfl (by rw [← r]; exact Does.pure _ _ _)
theorem does_below {N : Nat} {L : Nat → List Int} {V : Nat} {m : Mem} (h : QAt (rdM m) N L V) (p : Nat) (hp : p ≤ 16) : Does (kBelow 8 p) m (headR (ord L p)) (rdM m) 2 := by
  unfold kBelow
  obtain ⟨t1, t2⟩ := top_bits h.bits p hp
  refine (Does.ld 8 m).bind (d := 1) (fun m1 r1 l1 => ?_) (by omega)
  refine (Does.off m1).bind (d := 1) (fun m2 r2 l2 => ?_) (by omega)
  refine Does.ff rfl ?_
  have r : rdM m2 = rdM m := r2.trans r1
  rw [h.word, qMask_mod V p h.small hp]
  by_cases hz : V % 2 ^ p = 0
  · rw [t1 hz]
    exact Does.tt (by rw [hz]; rfl) ((by rw [← r]; exact Does.pure _ _ _))
  · obtain ⟨x, l, h1, h2, h3⟩ := t2 hz
    have hb : bitLen ((V % 2 ^ p : Nat) : Int) = (Nat.log2 (V % 2 ^ p) : Int) + 1 := by
      unfold bitLen
      rw [if_neg (by omega), Int.toNat_natCast]
    rw [hb]
    generalize Nat.log2 (V % 2 ^ p) = q at *
    have hq16 : q < 16 := by omega
    have hw : wrap64 ((q : Int) + 1 - 1) = q := by rw [wrap_small (by omega) (by omega)]; omega
    rw [hw, qHead_hd q hq16]
    refine Does.ff (by rw [beq_eq_false_iff_ne]; exact fun e => hz (by exact_mod_cast e)) ?_
    have hs := h.seg q hq16
    rw [h2] at hs
    have hxn : x ≠ hd q := by
      obtain ⟨j, hj, e⟩ := h.node q hq16 x (by rw [h2]; simp)
      rw [e]; unfold thAt hd; omega
    have d1 := does_next (hd q) (hd q) x m2 (by rw [r]; exact hs.1)
    rw [if_neg (by simpa using hxn)] at d1
    rw [r] at d1
    refine Does.bind (a := (x, true)) (c := 1) (d := 0) (g := rdM m) ?_ (fun m3 r3 l3 => ?_) (by omega)
    · unfold kFirst
      exact d1.bind (d := 0) (fun m3 r3 l3 => by rw [← r3]; exact Does.pure _ _ _) (by omega)
    · rw [h3]
      exact Does.tt rfl (by rw [← r3]; exact Does.pure _ _ _)
theorem does_qFirst {N : Nat} {L : Nat → List Int} {V : Nat} {m : Mem} (h : QAt (rdM m) N L V) : Does (kQFirst 8) m (headR (ord L 16)) (rdM m) 2 := by
  unfold kQFirst
  have d := does_below h 16 (by omega)
  exact Does.bind (a := headR (ord L 16)) (d := 0) d (fun m1 r1 l1 => by
    rw [← r1]
    generalize headR (ord L 16) = r
    obtain ⟨_, _, _⟩ := r
    exact Does.pure _ _ _) (by omega)
theorem does_qAfter {N : Nat} {L : Nat → List Int} {V : Nat} {m : Mem} (h : QAt (rdM m) N L V) {pre post : List (Int × Nat)} {x : Int} {q : Nat} (ho : ord L 16 = pre ++ (x, q) :: post) : Does (kQAfter 8 x q) m (headR post) (rdM m) 3 := by
  obtain ⟨hq, l1, l2, hL, hpost⟩ := ord_split ho
  have hs := h.seg q hq
  rw [hL, Seg.split] at hs
  unfold kQAfter
  refine Does.tt (by simp [levelB]; omega) ?_
  rw [qHead_hd q hq]
  cases l2 with
  | cons y l2 =>
    have hyn : y ≠ hd q := by
      obtain ⟨j, hj, e⟩ := h.node q hq y (by rw [hL]; simp)
      rw [e]; unfold thAt hd; omega
    have d1 := does_next (hd q) x y m hs.2.1
    rw [if_neg (by simpa using hyn)] at d1
    refine d1.bind (d := 0) (fun m1 r1 l1 => ?_) (by omega)
    refine (Does.off m1).bind (d := 0) (fun m2 r2 l2' => ?_) (by omega)
    refine Does.ff rfl (Does.tt rfl ?_)
    rw [hpost, ← r1, ← r2]
    exact Does.pure _ _ _
  | nil =>
    have d1 := does_next (hd q) x (hd q) m hs.2.1
    rw [if_pos (by simp)] at d1
    refine d1.bind (d := 2) (fun m1 r1 l1 => ?_) (by omega)
    refine (Does.off m1).bind (d := 2) (fun m2 r2 l2' => ?_) (by omega)
    refine Does.ff rfl (Does.ff rfl ?_)
    have r : rdM m2 = rdM m := r2.trans r1
    rw [hpost, ← r]
    have d := does_below (m := m2) (by rw [r]; exact h) q (by omega)
    simp only [List.map_nil, List.nil_append]
    exact Does.bind (a := headR (ord L q)) (d := 0) d (fun m3 r3 l3 => by
      rw [← r3]
      generalize headR (ord L q) = rr
      obtain ⟨_, _, _⟩ := rr
      exact Does.pure _ _ _) (by omega)
end Go.Proofs.Ytpflejobkjdhdaa
