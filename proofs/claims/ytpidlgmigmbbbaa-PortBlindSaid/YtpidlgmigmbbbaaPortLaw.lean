/-
  What a boot leaves in the words of objects that are no pools: nothing. Plain Lean: no Go here.
  Post and Fetch, plainly: what they do to a ring in a partition's memory. Plain Lean: no Go here.
-/
import Derived.Test.YtpidlgmigmbbbaaBootLaw3
import Derived.Test.YtpidlgmigmbbbaaRingLaw
import Derived.Test.YtpidlgmigmbbbaaPort
set_option linter.unusedVariables false
set_option linter.unusedSimpArgs false
namespace Go.Proofs.Ytpidlgmigmbbbaa
open Go.RowKit

theorem does_bootObj2 (n : Nat) (hn : n ≤ 6) : ∀ (os : List ObjD) (i : Nat) (m : Mem), i + os.length ≤ 8 → 51 + 24 * n + 24 * (i + os.length) ≤ m.length → ∃ g, Does (kBootObjFrom n os i) m () g (21 * os.length) ∧ (∀ x, x < obAt n i → g x = rdM m x) ∧
    ∀ (j : Nat) (o : ObjD), os[j]? = some o → o.kind ≠ 4 → ∀ c : Int, 4 ≤ c → c < 24 → g (obAt n ((i + j : Nat) : Int) + c) = rdM m (obAt n ((i + j : Nat) : Int) + c)
  | [], i, m, hi, hm => ⟨rdM m, Does.pure _ _ _, fun x _ => rfl, fun j o h => by simp at h⟩
  | o :: os, i, m, hi, hm => by
    simp only [List.length_cons] at hi hm
    have ha : obAt n i = 51 + 24 * (n : Int) + 24 * (i : Int) := rfl
    have hb : obAt n ((i + 1 : Nat) : Int) = 51 + 24 * (n : Int) + 24 * ((i + 1 : Nat) : Int) := rfl
    have hin : ∀ m' : Mem, m'.length = m.length → ∀ x : Int, 0 ≤ x → x < obAt n i + 24 → InR m' x := fun m' l x h0 h1 => ⟨h0, by omega⟩
    obtain ⟨m1, c1, e1, r1, l1, b1⟩ := does_init (obAt n i) m (hin m rfl _ (by omega) (by omega)) (hin m rfl _ (by omega) (by omega)) (by omega)
    obtain ⟨m2, c2, e2, r2, l2, b2⟩ := does_init (obAt n i + 2) m1 (hin m1 l1 _ (by omega) (by omega)) (hin m1 l1 _ (by omega) (by omega)) (by omega)
    have k2 : ∀ x, x < obAt n i ∨ obAt n i + 4 ≤ x → rdM m2 x = rdM m x := by
      intro x hx
      rw [r2, upd_other _ _ _ _ (by omega), upd_other _ _ _ _ (by omega), r1, upd_other _ _ _ _ (by omega), upd_other _ _ _ _ (by omega)]
    have hstep : ∀ m3 : Mem, m3.length = m.length → (∀ x, x < obAt n i ∨ obAt n i + 24 ≤ x → rdM m3 x = rdM m x) → (o.kind ≠ 4 → ∀ c : Int, 4 ≤ c → c < 24 → rdM m3 (obAt n i + c) = rdM m (obAt n i + c)) →
        ∀ g : Int → Int, (∀ x, x < obAt n ((i + 1 : Nat) : Int) → g x = rdM m3 x) → (∀ (j : Nat) (o' : ObjD), os[j]? = some o' → o'.kind ≠ 4 → ∀ c : Int, 4 ≤ c → c < 24 → g (obAt n ((i + 1 + j : Nat) : Int) + c) = rdM m3 (obAt n ((i + 1 + j : Nat) : Int) + c)) →
        ∀ (j : Nat) (o' : ObjD), (o :: os)[j]? = some o' → o'.kind ≠ 4 → ∀ c : Int, 4 ≤ c → c < 24 → g (obAt n ((i + j : Nat) : Int) + c) = rdM m (obAt n ((i + j : Nat) : Int) + c) := by
      intro m3 _ h3 h3' g h4 h5 j o' hj hk c hc0 hc1
      cases j with
      | zero =>
        simp only [List.getElem?_cons_zero, Option.some.injEq] at hj
        subst hj
        rw [Nat.add_zero, h4 _ (by omega), h3' hk c hc0 hc1]
      | succ j =>
        rw [show i + (j + 1) = i + 1 + j by omega, h5 j o' (by simpa using hj) hk c hc0 hc1]
        exact h3 _ (by unfold obAt; omega)
    cases hk : o.kind == 4 with
    | true =>
      obtain ⟨g3, ⟨m3, c3, e3, r3, l3, b3⟩, h3⟩ := does_bInit (obAt n i + 4) o.size (by omega) (by omega) m2 (by omega)
      obtain ⟨g, ⟨m4, c4, e4, r4, l4, b4⟩, h4, h5⟩ := does_bootObj2 n hn os (i + 1) m3 (by omega) (by omega)
      refine ⟨g, ⟨m4, c1 + (c2 + (c3 + c4)), ?_, r4, by omega, by simp only [List.length_cons]; omega⟩, fun x hx => ?_, hstep m3 (by omega) (fun x hx => by rw [r3, h3 x (by omega), k2 x (by omega)]) (fun h => absurd (by simpa using hk) h) g h4 h5⟩
      · unfold kBootObjFrom
        refine srun_seq e1 (srun_seq e2 ?_)
        rw [if_pos hk]
        exact srun_seq e3 e4
      · rw [h4 x (by omega), r3, h3 x (by omega), k2 x (.inl hx)]
    | false =>
      obtain ⟨g, ⟨m4, c4, e4, r4, l4, b4⟩, h4, h5⟩ := does_bootObj2 n hn os (i + 1) m2 (by omega) (by omega)
      refine ⟨g, ⟨m4, c1 + (c2 + c4), ?_, r4, by omega, by simp only [List.length_cons]; omega⟩, fun x hx => ?_, hstep m2 (by omega) (fun x hx => k2 x (by omega)) (fun _ c hc0 hc1 => k2 _ (by omega)) g h4 h5⟩
      · unfold kBootObjFrom
        refine srun_seq e1 (srun_seq e2 ?_)
        rw [if_neg (by rw [hk]; decide)]
        exact e4
      · rw [h4 x (by omega), k2 x (.inl hx)]

theorem Does.unique {α : Type} {p : Prog α} {m : Mem} {a b : α} {g h : Int → Int} {c d : Nat} (h1 : Does p m a g c) (h2 : Does p m b h d) : a = b ∧ g = h := by
  obtain ⟨m1, c1, e1, r1, _, _⟩ := h1
  obtain ⟨m2, c2, e2, r2, _, _⟩ := h2
  rw [e1] at e2
  cases e2
  exact ⟨rfl, r1.symm.trans r2⟩

theorem does_boot2 (P : PartD) (hn : P.thr.length ≤ 6) (hn2 : P.obj.length ≤ 8) (hp : PriosOk P.thr) : ∃ g, Does (kBoot P) (List.replicate (planWords P) 0) () g 400 ∧
    ∀ (j : Nat) (o : ObjD), P.obj[j]? = some o → o.kind ≠ 4 → ∀ c : Int, 4 ≤ c → c < 24 → g (obAt P.thr.length (j : Int) + c) = 0 := by
  have hw : (List.replicate (planWords P) (0 : Int)).length = planWords P := by simp
  have hpw : planWords P = 51 + 24 * (P.thr.length + P.obj.length) := rfl
  obtain ⟨g1, ⟨m1, c1, e1, r1, l1, b1⟩, q1, o1⟩ := does_qInit P.thr.length (List.replicate (planWords P) 0) (by omega)
  obtain ⟨m2, c2, e2, r2, l2, b2⟩ := does_init 41 m1 ⟨by omega, by omega⟩ ⟨by omega, by omega⟩ (by omega)
  have k2 : ∀ x, x ≠ 41 → x ≠ 42 → rdM m2 x = rdM m1 x := fun x h1 h2 => by rw [r2, upd_other _ _ _ _ (by omega), upd_other _ _ _ _ h1]
  have z2 : ∀ x, x < 8 ∨ 43 ≤ x → rdM m2 x = 0 := fun x hx => by rw [k2 x (by omega) (by omega), r1, o1 x (by omega), rdM_zeros]
  have q2 : QAt (rdM m2) P.thr.length (fun _ => []) 0 := by
    rw [← r1] at q1
    exact q1.congr (fun x hx => k2 x (fun e => hx ⟨by omega, fun j _ => by rw [e]; unfold thAt; omega⟩) (fun e => hx ⟨by omega, fun j _ => by rw [e]; unfold thAt; omega⟩))
  obtain ⟨g3, ⟨m3, c3, e3, r3, l3, b3⟩, q3, w3, o3⟩ := does_bootThr P.thr.length hn P.thr 0 m2 (fun _ => []) 0 (by omega) hp (by omega) q2 (fun q _ j _ h => by simp at h)
  obtain ⟨g4, ⟨m4, c4, e4, r4, l4, b4⟩, o4, o4'⟩ := does_bootObj2 P.thr.length hn P.obj 0 m3 (by omega) (by omega)
  have ho0 : obAt P.thr.length ((0 : Nat) : Int) = 51 + 24 * (P.thr.length : Int) := by unfold obAt; omega
  have q4 : QAt (rdM m4) P.thr.length (blist P.thr 0 fun _ => []) (bword P.thr 0) := by
    rw [← r3] at q3
    refine q3.congr (fun x hx => ?_)
    have hx4 : x < obAt P.thr.length ((0 : Nat) : Int) := by
      rw [ho0]
      rcases Classical.em (x < 51 + 24 * (P.thr.length : Int)) with h | h
      · exact h
      · exact (hx ⟨by omega, fun j hj => by unfold thAt; omega⟩).elim
    rw [r4, o4 x hx4]
  have z4 : ∀ x, (0 ≤ x ∧ x < 8 ∨ 43 ≤ x ∧ x < 51) → rdM m4 x = 0 := by
    intro x hx
    have ht : thAt ((0 : Nat) : Int) = 51 := by unfold thAt; omega
    rw [r4, o4 x (by rw [ho0]; omega), r3, o3 x ⟨by omega, fun j hj => by unfold thAt; omega⟩ (by left; rw [ht]; omega), z2 x (by omega)]
  obtain ⟨m5, c5, e5, r5, l5, b5⟩ := does_qFirst q4
  have q5 : QAt (rdM m5) P.thr.length (blist P.thr 0 fun _ => []) (bword P.thr 0) := by rw [r5]; exact q4
  obtain ⟨g, ⟨m6, c6, e6, r6, l6, b6⟩, v3, v5, o6⟩ := does_cores P.thr.length q5 (by omega) (by rw [r5]; exact z4 3 (by omega)) (by rw [r5]; exact z4 5 (by omega))
  refine ⟨g, ⟨m6, c1 + (c2 + (c3 + (c4 + (c5 + c6)))), ?_, r6, by omega, by omega⟩, ?_⟩
  · unfold kBoot
    exact srun_seq e1 (srun_seq e2 (srun_seq e3 (srun_seq e4 (srun_seq e5 e6))))
  · intro j o hj hk c hc0 hc1
    have hjl := (List.getElem?_eq_some_iff.1 hj).1
    have h4 := o4' j o hj hk c hc0 hc1
    rw [Nat.zero_add] at h4
    rw [o6 _ (by unfold obAt; omega) (by unfold obAt; omega), r5, r4, h4, r3, o3 _ ⟨by unfold obAt; omega, fun j hj => by unfold obAt thAt; omega⟩ (by right; unfold obAt; omega)]
    exact z2 _ (by unfold obAt; omega)
theorem bootM_obj (P : PartD) (hn : P.thr.length ≤ 6) (hn2 : P.obj.length ≤ 8) (hp : PriosOk P.thr) (j : Nat) (o : ObjD) (hj : P.obj[j]? = some o) (hk : o.kind ≠ 4) (c : Int) (h0 : 4 ≤ c) (h1 : c < 24) : rdM (bootM P) (obAt P.thr.length (j : Int) + c) = 0 := by
  obtain ⟨g, hd, hb⟩ := does_boot2 P hn hn2 hp
  obtain ⟨s, h1', h2, h3, h4⟩ := hd.runs (tot_boot P) (most := 4000) (by omega) (by omega)
  have e : bootM P = s.mem := by
    have h1'' : bootRun P = some (some (), s) := h1'
    unfold bootM
    rw [h1'']; rfl
  rw [e, h3]; exact hb j o hj hk c h0 h1
end Go.Proofs.Ytpidlgmigmbbbaa
namespace Go.Proofs.Ytpidlgmigmbbbaa
open Go.RowKit

/-- The ring of an object. -/
def ORing (P : PartD) (f : Int → Int) (o t : Int) (l : List Int) : Prop := RingAt f (obAt P.thr.length o + 4) (objD P o).size t l
/-- What is asked of a memory and an object's ring. -/
structure OOk (P : PartD) (n : Nat) (o : Int) : Prop where
  nT : P.thr.length ≤ 6
  nO : P.obj.length ≤ 8
  o0 : 0 ≤ o
  o1 : o < P.obj.length
  c0 : 1 ≤ (objD P o).size
  c1 : (objD P o).size ≤ 16
  len : n = planWords P
theorem OOk.bounds {P : PartD} {n : Nat} {o : Int} (h : OOk P n o) : 0 ≤ obAt P.thr.length o + 4 ∧ obAt P.thr.length o + 4 ≤ 100000 ∧ obAt P.thr.length o + 4 + 2 + (objD P o).size ≤ n := by
  obtain ⟨h1, h2, h3, h4, h5, h6, h7⟩ := h
  have : planWords P = 51 + 24 * (P.thr.length + P.obj.length) := rfl
  unfold obAt
  omega
theorem ORing.other {P : PartD} {f g : Int → Int} {o o' t : Int} {l : List Int} {n : Nat} (h : ORing P f o' t l) (k : OOk P n o') (hne : o ≠ o') (k' : OOk P n o) (hg : ∀ x, x < obAt P.thr.length o + 4 ∨ obAt P.thr.length o + 4 + 2 + (objD P o).size ≤ x → g x = f x) : ORing P g o' t l := by
  refine RingAt.congr h k.c0 (fun x h1 h2 => hg x ?_)
  have := k.c1
  have := k'.c1
  unfold obAt at *
  omega
theorem does_post_yes {P : PartD} {m : Mem} {o t v : Int} {l : List Int} (h : ORing P (rdM m) o t l) (k : OOk P m.length o) (hk : isKB P o 6 = true) (t0 : 0 ≤ t) (t1 : t ≤ 900000) (hl : (l.length : Int) < (objD P o).size) :
    ∃ g, Does (kPost P o v) m 0 g 10 ∧ ORing P g o t (l ++ [v]) ∧ ∀ x, x < obAt P.thr.length o + 4 ∨ obAt P.thr.length o + 4 + 2 + (objD P o).size ≤ x → g x = rdM m x := by
  obtain ⟨b0, b1, b2⟩ := k.bounds
  obtain ⟨g, ⟨m1, c1, e1, r1, l1, d1⟩, h1, h2⟩ := RingAt.put_yes h k.c0 k.c1 b0 b1 b2 t0 t1 hl v
  refine ⟨g, ⟨m1, c1 + 0, ?_, r1, l1, by omega⟩, h1, h2⟩
  unfold kPost
  rw [if_pos hk]
  exact srun_seq e1 rfl
theorem does_post_no {P : PartD} {m : Mem} {o t v : Int} {l : List Int} (h : ORing P (rdM m) o t l) (k : OOk P m.length o) (hk : isKB P o 6 = true) (t0 : 0 ≤ t) (t1 : t ≤ 900000) (hl : (l.length : Int) = (objD P o).size) :
    Does (kPost P o v) m 11 (rdM m) 10 := by
  obtain ⟨b0, b1, b2⟩ := k.bounds
  obtain ⟨m1, c1, e1, r1, l1, d1⟩ := RingAt.put_no h k.c0 k.c1 b0 b1 t0 t1 hl v
  refine ⟨m1, c1 + 0, ?_, r1, l1, by omega⟩
  unfold kPost
  rw [if_pos hk]
  exact srun_seq e1 rfl
theorem does_fetch_yes {P : PartD} {m : Mem} {o t v : Int} {l : List Int} (h : ORing P (rdM m) o t (v :: l)) (k : OOk P m.length o) (hk : isKB P o 7 = true) (t0 : 0 ≤ t) (t1 : t ≤ 900000) :
    ∃ g, Does (kFetch P o) m (v, 0) g 10 ∧ ORing P g o (t + 1) l ∧ ∀ x, x < obAt P.thr.length o + 4 ∨ obAt P.thr.length o + 4 + 2 + (objD P o).size ≤ x → g x = rdM m x := by
  obtain ⟨b0, b1, b2⟩ := k.bounds
  obtain ⟨g, ⟨m1, c1, e1, r1, l1, d1⟩, h1, h2⟩ := RingAt.get_yes h k.c0 k.c1 b0 b1 b2 t0 t1
  refine ⟨g, ⟨m1, c1 + 0, ?_, r1, l1, by omega⟩, h1, h2⟩
  unfold kFetch
  rw [if_pos hk]
  exact srun_seq e1 rfl
theorem does_fetch_no {P : PartD} {m : Mem} {o t : Int} (h : ORing P (rdM m) o t []) (k : OOk P m.length o) (hk : isKB P o 7 = true) :
    Does (kFetch P o) m (0, 12) (rdM m) 10 := by
  obtain ⟨b0, b1, b2⟩ := k.bounds
  obtain ⟨m1, c1, e1, r1, l1, d1⟩ := RingAt.get_no h b0 b1
  refine ⟨m1, c1 + 0, ?_, r1, l1, by omega⟩
  unfold kFetch
  rw [if_pos hk]
  exact srun_seq e1 rfl
/-- Behind a boot each ring is empty. -/
theorem boot_ring {P : PartD} (hp : PriosOk P.thr) {o : Int} (k : OOk P (bootM P).length o) (h4 : (objD P o).kind ≠ 4) : ORing P (rdM (bootM P)) o 0 [] := by
  have hj := objD_get k.o0 k.o1
  have h := bootM_obj P k.nT k.nO hp o.toNat (objD P o) hj h4
  rw [Int.toNat_of_nonneg k.o0] at h
  have h1 := h 4 (by omega) (by omega)
  have h2 := h 5 (by omega) (by omega)
  exact ⟨h1, (by rw [show obAt P.thr.length o + 4 + 1 = obAt P.thr.length o + 5 by omega, h2]; rfl), by have := k.c0; simp; omega, fun i x hx => by simp at hx⟩
theorem rightRings {P : PartD} (h : ∀ o ∈ P.obj, rightObjectB o = true) : RingOk P := by
  intro o ho hk
  have := h o ho
  unfold rightObjectB at this
  split at this
  · omega
  · split at this
    · omega
    · split at this
      · omega
      · split at this
        · simp only [withinB, Bool.and_eq_true, decide_eq_true_eq] at this; omega
        · split at this
          · simp only [withinB, Bool.and_eq_true, decide_eq_true_eq] at this; omega
          · cases this
end Go.Proofs.Ytpidlgmigmbbbaa
