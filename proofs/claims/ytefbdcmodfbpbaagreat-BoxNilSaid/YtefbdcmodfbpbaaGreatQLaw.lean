/-
  The queue of threads that are ready, in a memory of words: what adding to it does. Plain Lean: no Go here.
-/
import Derived.Test.YtefbdcmodfbpbaaGreatSegs
import Derived.Test.YtefbdcmodfbpbaaGreatBoot6
import Derived.IntWalk
set_option linter.unusedVariables false
set_option linter.unusedSimpArgs false
namespace Go.Proofs.YtefbdcmodfbpbaaGreat
open Go.RowKit

theorem wrap_small {x : Int} (h0 : -1000000000000 ≤ x) (h1 : x ≤ 1000000000000) : wrap64 x = x := wrap64_i64 (i64_small h0 h1)
def hd (p : Nat) : Int := 9 + 2 * p
theorem qHead_hd (p : Nat) (h : p < 16) : qHead 8 p = hd p := by
  unfold qHead hd
  rw [wrap_small (x := 8 + 1) (by omega) (by omega), wrap_small (x := (p : Int) * 2) (by omega) (by omega), wrap_small (by omega) (by omega)]
  omega

theorem does_init (h : Int) (m : Mem) (h0 : InR m h) (h1 : InR m (h + 1)) (hs : h ≤ 100000) : Does (kInit h) m () (upd (upd (rdM m) h h) (h + 1) h) 2 := by
  have e : wrap64 (h + 1) = h + 1 := wrap_small (by have := h0.1; omega) (by omega)
  unfold kInit
  rw [e]
  refine (Does.st h h m h0).bind (d := 1) (fun m1 r1 l1 => ?_) (by omega)
  rw [← r1]
  exact (Does.st (h + 1) h m1 (by unfold InR at *; rw [l1]; exact h1)).bind (d := 0) (fun m2 r2 l2 => by rw [← r2]; exact Does.pure _ _ _) (by omega)
theorem does_link (n k : Int) (m : Mem) (h0 : InR m n) (h1 : InR m (k + 1)) (hs : k ≤ 100000) : Does (kLink n k) m () (upd (upd (rdM m) n k) (k + 1) n) 2 := by
  have e : wrap64 (k + 1) = k + 1 := wrap_small (by have := h1.1; omega) (by omega)
  unfold kLink
  rw [e]
  refine (Does.st n k m h0).bind (d := 1) (fun m1 r1 l1 => ?_) (by omega)
  rw [← r1]
  exact (Does.st (k + 1) n m1 (by unfold InR at *; rw [l1]; exact h1)).bind (d := 0) (fun m2 r2 l2 => by rw [← r2]; exact Does.pure _ _ _) (by omega)
theorem InR.len {m m' : Mem} {a : Int} (h : InR m a) (l : m'.length = m.length) : InR m' a := by unfold InR at *; rw [l]; exact h
theorem does_append (h x : Int) (m : Mem) (z : Int) (hz : rdM m (h + 1) = z) (i1 : InR m (h + 1)) (i2 : InR m x) (i3 : InR m (x + 1)) (i4 : InR m z) (hs : h ≤ 100000) (hx : x ≤ 100000) :
    Does (kAppend h x) m () (upd (upd (upd (upd (rdM m) z x) (x + 1) z) x h) (h + 1) x) 5 := by
  have e : wrap64 (h + 1) = h + 1 := wrap_small (by have := i1.1; omega) (by omega)
  unfold kAppend kAhead
  rw [e]
  refine Does.bind (a := ()) (c := 5) (d := 0) (g := upd (upd (upd (upd (rdM m) z x) (x + 1) z) x h) (h + 1) x) ?_ (fun m2 r2 l2 => by rw [← r2]; exact Does.pure _ _ _) (by omega)
  refine (Does.ld (h + 1) m).bind (d := 4) (fun m1 r1 l1 => ?_) (by omega)
  refine (Does.off m1).bind (d := 4) (fun m2 r2 l2 => ?_) (by omega)
  refine Does.ff rfl ?_
  rw [hz]
  have l : m2.length = m.length := l2.trans l1
  have r : rdM m2 = rdM m := r2.trans r1
  refine Does.bind (a := ()) (d := 2) (does_link z x m2 (i4.len l) (i3.len l) hx) (fun m3 r3 l3 => ?_) (by omega)
  refine Does.bind (a := ()) (d := 0) (g := upd (upd (upd (upd (rdM m) z x) (x + 1) z) x h) (h + 1) x) ((does_link x h m3 (i2.len (l3.trans l)) (i1.len (l3.trans l)) hs).to (by rw [r3, r])) (fun m4 r4 l4 => by rw [← r4]; exact Does.pure _ _ _) (by omega)

theorem bits_or_small (v : Nat) (p : Nat) (hv : v < 65536) (hp : p < 16) : bits .or .i64 (v : Int) (wrap64 (2 ^ p)) = ((v ||| 2 ^ p : Nat) : Int) := by
  have h2 : 2 ^ p ≤ 2 ^ 15 := Nat.pow_le_pow_right (by omega) (by omega)
  have h3 : v ||| 2 ^ p < 2 ^ 16 := Nat.or_lt_two_pow (by omega) (by omega)
  have e0 : ((2 : Int) ^ p) = ((2 ^ p : Nat) : Int) := by simp
  rw [e0]
  generalize 2 ^ p = k at *
  rw [wrap_small (by omega) (by omega)]
  show IntKind.i64.wrap ((BitVec.ofInt 64 (v : Int) ||| BitVec.ofInt 64 (k : Int)).toNat : Int) = _
  rw [BitVec.toNat_or, ofInt_u64 v (by omega), ofInt_u64 k (by omega)]
  exact Go.IntWalk.i64_in _ (by omega)
theorem does_mark (p : Nat) (v : Nat) (m : Mem) (hv : rdM m 8 = v) (hl : v < 65536) (hp : p < 16) (hi : InR m 8) : Does (kMark 8 p true) m () (upd (rdM m) 8 ((v ||| 2 ^ p : Nat) : Int)) 2 := by
  unfold kMark
  refine Does.tt rfl ?_
  refine (Does.ld 8 m).bind (d := 1) (fun m1 r1 l1 => ?_) (by omega)
  rw [hv, Int.toNat_natCast, bits_or_small v p hl hp, ← r1]
  exact (Does.st 8 _ m1 (hi.len l1)).bind (d := 0) (fun m2 r2 l2 => by rw [← r2]; exact Does.pure _ _ _) (by omega)

/-- The queue, as it stands in memory: of each priority its nodes; the word of those that have some. -/
structure QAt (f : Int → Int) (N : Nat) (L : Nat → List Int) (V : Nat) : Prop where
  seg : ∀ p, p < 16 → Seg f (hd p) (L p) (hd p)
  word : f 8 = V
  small : V < 65536
  bits : ∀ p, p < 16 → V.testBit p = !(L p).isEmpty
  node : ∀ p, p < 16 → ∀ y ∈ L p, ∃ j : Nat, j < N ∧ y = thAt j
  nodup : ∀ p, p < 16 → (L p).Nodup
  disj : ∀ p q, p < 16 → q < 16 → p ≠ q → ∀ y ∈ L p, y ∉ L q
/-- A word that is none of the queue's, nor of a node's two. -/
def QOut (N : Nat) (x : Int) : Prop := ¬ (8 ≤ x ∧ x ≤ 40) ∧ ∀ j : Nat, j < N → x ≠ thAt j ∧ x ≠ thAt j + 1
def addL (L : Nat → List Int) (p : Nat) (x : Int) : Nat → List Int := fun q => if q = p then L p ++ [x] else L q

theorem or_bit (v p q : Nat) : (v ||| 2 ^ p).testBit q = (v.testBit q || decide (p = q)) := by
  rw [Nat.testBit_or, Nat.testBit_two_pow]

theorem QAt.lastNode {f : Int → Int} {N : Nat} {L : Nat → List Int} {V : Nat} (h : QAt f N L V) {p : Nat} (hp : p < 16) : lastOf (hd p) (L p) = hd p ∨ ∃ j : Nat, j < N ∧ lastOf (hd p) (L p) = thAt j ∧ lastOf (hd p) (L p) ∈ L p := by
  have := lastOf_mem (hd p) (L p)
  rcases List.mem_cons.1 this with e | e
  · exact .inl e
  · obtain ⟨j, hj, ej⟩ := h.node p hp _ e
    exact .inr ⟨j, hj, ej, e⟩

theorem QAt.add {N : Nat} {L : Nat → List Int} {V : Nat} {m : Mem} (h : QAt (rdM m) N L V) (hN : N ≤ 6) (hm : 51 + 24 * N ≤ m.length) (j p : Nat) (hj : j < N) (hp : p < 16) (hnew : ∀ q, q < 16 → thAt j ∉ L q) :
    ∃ g, Does (kQAdd 8 (thAt j) p) m () g 8 ∧ QAt g N (addL L p (thAt j)) (V ||| 2 ^ p) ∧ ∀ x, QOut N x → g x = rdM m x := by
  obtain ⟨z, hz⟩ : ∃ z, z = lastOf (hd p) (L p) := ⟨_, rfl⟩
  have hlast := (h.seg p hp).last
  rw [← hz] at hlast
  have hzc := h.lastNode hp
  rw [← hz] at hzc
  have hin : ∀ x : Int, 0 ≤ x → x < 51 + 24 * N → InR m x := fun x h0 h1 => ⟨h0, by omega⟩
  have hxj : thAt j = 51 + 24 * (j : Int) := rfl
  have hzr : 0 ≤ z ∧ z < 51 + 24 * N := by
    rcases hzc with e | ⟨i, hi, e, _⟩
    · rw [e]; unfold hd; omega
    · rw [e]; unfold thAt; omega
  have hb : hd p = 9 + 2 * (p : Int) := rfl
  have hd1 := does_append (hd p) (thAt j) m z hlast.1 (hin _ (by omega) (by omega)) (hin _ (by omega) (by omega)) (hin _ (by omega) (by omega)) (hin _ hzr.1 hzr.2) (by omega) (by omega)
  obtain ⟨g1, hg1⟩ : ∃ g1, g1 = upd (upd (upd (upd (rdM m) z (thAt j)) (thAt j + 1) z) (thAt j) (hd p)) (hd p + 1) (thAt j) := ⟨_, rfl⟩
  rw [← hg1] at hd1
  have hzne : z ≠ thAt j := by
    rcases hzc with e | ⟨i, hi, e, he⟩
    · rw [e]; unfold hd thAt; omega
    · intro e2; rw [e2] at he; exact hnew p hp he
  -- what the new memory reads
  have hkeep : ∀ x, x ≠ z → x ≠ thAt j + 1 → x ≠ thAt j → x ≠ hd p + 1 → g1 x = rdM m x := by
    intro x h1 h2 h3 h4
    rw [hg1, upd_other _ _ _ _ h4, upd_other _ _ _ _ h3, upd_other _ _ _ _ h2, upd_other _ _ _ _ h1]
  have hzodd : z ≠ thAt j + 1 ∧ z ≠ hd p + 1 ∧ z ≠ 8 := by
    rcases hzc with e | ⟨i, hi, e, _⟩
    · rw [e]; unfold hd thAt; omega
    · rw [e]; unfold hd thAt; omega
  have gz : g1 z = thAt j := by
    rw [hg1, upd_other _ _ _ _ hzodd.2.1, upd_other _ _ _ _ hzne, upd_other _ _ _ _ hzodd.1, upd_same]
  have gx1 : g1 (thAt j + 1) = z := by
    rw [hg1, upd_other _ _ _ _ (by unfold hd thAt; omega), upd_other _ _ _ _ (by omega), upd_same]
  have gx : g1 (thAt j) = hd p := by
    rw [hg1, upd_other _ _ _ _ (by unfold hd thAt; omega), upd_same]
  have gh : g1 (hd p + 1) = thAt j := by rw [hg1, upd_same]
  have g8 : g1 8 = V := by
    rw [hkeep 8 (Ne.symm hzodd.2.2) (by unfold thAt; omega) (by unfold thAt; omega) (by unfold hd; omega)]; exact h.word
  have hd2 : ∀ m', rdM m' = g1 → m'.length = m.length → Does (kMark 8 (p : Int) true) m' () (upd g1 8 ((V ||| 2 ^ p : Nat) : Int)) 2 := by
    intro m' r l
    rw [← r] at g8 ⊢
    exact does_mark p V m' g8 h.small hp ((hin 8 (by omega) (by omega)).len l)
  refine ⟨upd g1 8 ((V ||| 2 ^ p : Nat) : Int), ?_, ?_, ?_⟩
  · unfold kQAdd
    refine Does.tt (by simp [levelB]; omega) ?_
    rw [qHead_hd p hp]
    refine Does.bind (a := ()) (c := 5) (d := 2) hd1 (fun m1 r1 l1 => ?_) (by omega)
    exact Does.bind (a := ()) (c := 2) (d := 0) (hd2 m1 r1 l1) (fun m2 r2 l2 => by rw [← r2]; exact Does.pure _ _ _) (by omega)
  · have hb8 : ∀ x, x ≠ 8 → upd g1 8 ((V ||| 2 ^ p : Nat) : Int) x = g1 x := fun x hx => upd_other _ _ _ _ hx
    have hne8 : ∀ q : Nat, q < 16 → ∀ y ∈ hd q :: L q, y ≠ 8 ∧ y + 1 ≠ 8 := by
      intro q hq y hy
      rcases List.mem_cons.1 hy with e | e
      · rw [e]; unfold hd; omega
      · obtain ⟨i, hi, e'⟩ := h.node q hq y e
        rw [e']; unfold thAt; omega
    refine ⟨fun q hq => ?_, upd_same _ _ _, ?_, fun q hq => ?_, fun q hq y hy => ?_, fun q hq => ?_, fun q r hq hr hqr y hy hy' => ?_⟩
    · by_cases e : q = p
      · subst e
        have hs := h.seg q hq
        rw [show addL L q (thAt j) q = L q ++ [thAt j] by simp [addL]]
        rw [show L q ++ [thAt j] = L q ++ thAt j :: [] from rfl, Seg.split]
        have hnd : (hd q :: L q).Nodup := List.nodup_cons.2 ⟨fun hm => by
          obtain ⟨i, hi, e⟩ := h.node q hq _ hm
          unfold hd thAt at e; omega, h.nodup q hq⟩
        refine ⟨hs.retarget hnd (fun y hy hyz => ?_) (fun y hy => ?_) ?_ ?_, ?_, ?_⟩
        · rw [hb8 y (hne8 q hq y hy).1]
          rw [← hz] at hyz
          refine hkeep y hyz ?_ ?_ ?_
          · rcases List.mem_cons.1 hy with e | e
            · rw [e]; unfold hd thAt; omega
            · obtain ⟨i, hi, e'⟩ := h.node q hq y e
              rw [e']; unfold thAt; omega
          · rcases List.mem_cons.1 hy with e | e
            · rw [e]; unfold hd thAt; omega
            · intro e2; rw [e2] at e; exact hnew q hq e
          · rcases List.mem_cons.1 hy with e | e
            · rw [e]; omega
            · obtain ⟨i, hi, e'⟩ := h.node q hq y e
              rw [e']; unfold hd thAt; omega
        · rw [hb8 _ (hne8 q hq y (List.mem_cons_of_mem _ hy)).2]
          obtain ⟨i, hi, e'⟩ := h.node q hq y hy
          have hyj : y ≠ thAt j := fun e2 => by rw [e2] at hy; exact hnew q hq hy
          rw [e'] at hyj ⊢
          refine hkeep _ ?_ ?_ ?_ ?_
          · rcases hzc with e | ⟨i2, hi2, e, _⟩
            · rw [e]; unfold hd thAt; omega
            · rw [e]; unfold thAt; omega
          · unfold thAt at hyj ⊢; omega
          · unfold thAt; omega
          · unfold hd thAt; omega
        · rw [← hz, hb8 z hzodd.2.2]; exact gz
        · rw [← hz, hb8 _ (by unfold thAt; omega)]; exact gx1
        · rw [hb8 _ (by unfold thAt; omega)]; exact gx
        · rw [hb8 _ (by unfold hd; omega)]; exact gh
      · rw [show addL L p (thAt j) q = L q by simp [addL, e]]
        have hzq : ∀ y ∈ hd q :: L q, y ≠ z ∧ y + 1 ≠ z := by
          intro y hy
          rcases List.mem_cons.1 hy with e1 | e1
          · rw [e1]
            rcases hzc with e2 | ⟨i2, hi2, e2, _⟩
            · rw [e2]; unfold hd; omega
            · rw [e2]; unfold hd thAt; omega
          · obtain ⟨i, hi, e'⟩ := h.node q hq y e1
            rcases hzc with e2 | ⟨i2, hi2, e2, e3⟩
            · rw [e2, e']; unfold hd thAt; omega
            · refine ⟨fun e4 => ?_, by rw [e2, e']; unfold thAt; omega⟩
              rw [← e4] at e3
              exact h.disj q p hq hp e y e1 e3
        refine (h.seg q hq).kept (fun y hy => ?_) (fun y hy => ?_)
        · rw [hb8 y (hne8 q hq y hy).1]
          refine hkeep y (hzq y hy).1 ?_ ?_ ?_
          · rcases List.mem_cons.1 hy with e1 | e1
            · rw [e1]; unfold hd thAt; omega
            · obtain ⟨i, hi, e'⟩ := h.node q hq y e1
              rw [e']; unfold thAt; omega
          · rcases List.mem_cons.1 hy with e1 | e1
            · rw [e1]; unfold hd thAt; omega
            · intro e2; rw [e2] at e1; exact hnew q hq e1
          · rcases List.mem_cons.1 hy with e1 | e1
            · rw [e1]; unfold hd; omega
            · obtain ⟨i, hi, e'⟩ := h.node q hq y e1
              rw [e']; unfold hd thAt; omega
        · have hy' : y ∈ hd q :: L q := by simp at hy ⊢; exact hy.symm
          rw [hb8 _ (hne8 q hq y hy').2]
          refine hkeep _ (hzq y hy').2 ?_ ?_ ?_
          · rcases List.mem_cons.1 hy' with e1 | e1
            · rw [e1]; unfold hd thAt; omega
            · intro e2
              have : y = thAt j := by omega
              rw [this] at e1; exact hnew q hq e1
          · rcases List.mem_cons.1 hy' with e1 | e1
            · rw [e1]; unfold hd thAt; omega
            · obtain ⟨i, hi, e'⟩ := h.node q hq y e1
              rw [e']; unfold thAt; omega
          · rcases List.mem_cons.1 hy' with e1 | e1
            · rw [e1]; unfold hd; omega
            · obtain ⟨i, hi, e'⟩ := h.node q hq y e1
              rw [e']; unfold hd thAt; omega
    · have := h.small
      have h2 : 2 ^ p < 2 ^ 16 := Nat.pow_lt_pow_right (by omega) hp
      exact Nat.or_lt_two_pow (by omega) h2
    · rw [or_bit, h.bits q hq]
      by_cases e : q = p
      · subst e; simp [addL]
      · simp [addL, e]; intro e2; exact (e e2.symm).elim
    · unfold addL at hy
      split at hy
      · rename_i e
        rcases List.mem_append.1 hy with e1 | e1
        · rw [← e] at e1; exact h.node q hq y e1
        · simp at e1; exact ⟨j, hj, e1⟩
      · exact h.node q hq y hy
    · unfold addL
      split
      · refine List.nodup_append.2 ⟨h.nodup p hp, by simp, ?_⟩
        intro a ha b hb e
        simp at hb
        rw [e, hb] at ha
        exact hnew p hp ha
      · exact h.nodup q hq
    · unfold addL at hy hy'
      split at hy
      · rename_i e
        subst e
        rw [if_neg (fun e2 => hqr e2.symm)] at hy'
        rcases List.mem_append.1 hy with e1 | e1
        · exact h.disj q r hq hr hqr y e1 hy'
        · simp at e1; rw [e1] at hy'; exact hnew r hr hy'
      · split at hy'
        · rename_i e
          subst e
          rcases List.mem_append.1 hy' with e1 | e1
          · exact h.disj q r hq hr hqr y hy e1
          · simp at e1; rw [e1] at hy; exact hnew q hq hy
        · exact h.disj q r hq hr hqr y hy hy'
  · intro x hx
    obtain ⟨x1, x2⟩ := hx
    rw [upd_other _ _ _ _ (by omega)]
    refine hkeep x ?_ (x2 j hj).2 (x2 j hj).1 (by unfold hd; omega)
    rcases hzc with e | ⟨i, hi, e, _⟩
    · rw [e]; unfold hd; omega
    · rw [e]; exact (x2 i hi).1
end Go.Proofs.YtefbdcmodfbpbaaGreat
