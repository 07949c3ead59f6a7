/-
  Programs that come to an end, however the accesses answer; what the straight run of such a program comes to is what a run in a new frame comes to.
  Doubly linked lists in a memory of words, plainly: what linking does to them. Plain Lean: no Go here.
-/
import Derived.Test.YtefbdcmodfbpbaaGreatStep
set_option linter.unusedVariables false
set_option linter.unusedSimpArgs false
namespace Go.Proofs.YtefbdcmodfbpbaaGreat
open Go.RowKit

/-- Nothing of a program is stuck. -/
def Tot {α : Type} : Prog α → Prop
  | .ret _ => True
  | .acc _ k => ∀ v, Tot (k v)
  | .off k => ∀ b, Tot (k b)
  | .mark k => Tot k
  | .stuck => False
theorem Tot.pure {α : Type} (a : α) : Tot (pure a : Prog α) := trivial
theorem Tot.bind' {α β : Type} (p : Prog α) (f : α → Prog β) : Tot p → (∀ a, Tot (f a)) → Tot (p.bind f) := by
  induction p with
  | ret a => intro _ hf; exact hf a
  | acc x k ih => intro h hf v; exact ih v (h v) hf
  | off k ih => intro h hf b; exact ih b (h b) hf
  | mark k ih => intro h hf; exact ih h hf
  | stuck => intro h; exact h.elim
theorem Tot.bind {α β : Type} {p : Prog α} {f : α → Prog β} (h : Tot p) (hf : ∀ a, Tot (f a)) : Tot (p >>= f) := Tot.bind' p f h hf
theorem Tot.ite {α : Type} {b : Bool} {p q : Prog α} (h1 : Tot p) (h2 : Tot q) : Tot (if b = true then p else q) := by
  cases b
  · exact h2
  · exact h1
theorem Tot.ld (a : Int) : Tot (ld a) := fun _ => trivial
theorem Tot.st (a v : Int) : Tot (st a v) := fun _ => trivial
theorem Tot.ad (a d : Int) : Tot (ad a d) := fun _ => trivial
theorem Tot.off : Tot isOff := fun _ => trivial
theorem Tot.offrun {α : Type} (p : Prog α) : Tot p → ∃ a, offrun p = some a := by
  induction p with
  | ret a => intro _; exact ⟨a, rfl⟩
  | acc x k ih => intro h; exact ih 0 (h 0)
  | off k ih => intro h; exact ih true (h true)
  | mark k ih => intro h; exact ih h
  | stuck => intro h; exact h.elim
theorem Tot.exec {α : Type} (p : Prog α) : Tot p → ∀ s, ∃ r s', exec p s = some (r, s') := by
  induction p with
  | ret a => intro _ s; exact ⟨a, s, rfl⟩
  | acc x k ih => intro h s; exact ih _ (h _) _
  | off k ih => intro h s; exact ih _ (h _) _
  | mark k ih => intro h s; exact ih h _
  | stuck => intro h; exact h.elim
theorem Tot.runs {α : Type} {p : Prog α} (h : Tot p) : ∀ (k j : Nat) (s : FS) (r : Option α), ∃ r' s', runs p k j s r = some (r', s')
  | 0, j, s, r => ⟨r, s, rfl⟩
  | k + 1, j, s, r => by
    unfold Go.Proofs.YtefbdcmodfbpbaaGreat.runs
    split
    · exact ⟨_, _, rfl⟩
    · obtain ⟨a, s1, h1⟩ := h.exec p (s.begin_ j)
      rw [h1]
      exact Tot.runs h k (j + 1) _ _

/-- The straight run: the answer, the memory, how many accesses. -/
def srun {α : Type} : Prog α → Mem → Option (α × Mem × Nat)
  | .ret a, m => some (a, m, 0)
  | .acc x k, m => (srun (k (x.val m)) (x.mem m)).map fun y => (y.1, y.2.1, y.2.2 + 1)
  | .off k, m => srun (k false) m
  | .mark k, m => srun k m
  | .stuck, _ => none
theorem srun_bind' {α β : Type} (p : Prog α) (f : α → Prog β) : ∀ (m : Mem), srun (p.bind f) m = (srun p m).bind fun y => (srun (f y.1) y.2.1).map fun z => (z.1, z.2.1, y.2.2 + z.2.2) := by
  induction p with
  | ret a =>
    intro m
    show srun (f a) m = _
    simp only [srun, Option.bind_some]
    cases srun (f a) m with
    | none => rfl
    | some z => simp
  | acc x k ih =>
    intro m
    show ((srun ((k (x.val m)).bind f) (x.mem m)).map fun y => (y.1, y.2.1, y.2.2 + 1)) = _
    rw [ih]
    simp only [srun]
    cases srun (k (x.val m)) (x.mem m) with
    | none => rfl
    | some y =>
      simp only [Option.bind_some, Option.map_some]
      cases srun (f y.1) y.2.1 with
      | none => rfl
      | some z => simp only [Option.map_some, Option.some.injEq, Prod.mk.injEq, true_and]; omega
  | off k ih => intro m; exact ih false m
  | mark k ih => intro m; exact ih m
  | stuck => intro m; rfl
/-- Two programs one behind the other. -/
theorem srun_seq {α β : Type} {p : Prog α} {f : α → Prog β} {m m1 m2 : Mem} {a : α} {b : β} {c d : Nat} (h1 : srun p m = some (a, m1, c)) (h2 : srun (f a) m1 = some (b, m2, d)) : srun (p >>= f) m = some (b, m2, c + d) := by
  show srun (p.bind f) m = _
  rw [srun_bind', h1]
  simp only [Option.bind_some, h2, Option.map_some]
theorem srun_pure {α : Type} (a : α) (m : Mem) : srun (pure a : Prog α) m = some (a, m, 0) := rfl
theorem srun_ld (a : Int) (m : Mem) : srun (ld a) m = some (rdM m a, m, 1) := rfl
theorem srun_st (a v : Int) (m : Mem) : srun (st a v) m = some ((), wrM m a v, 1) := rfl
theorem srun_ad (a d : Int) (m : Mem) : srun (ad a d) m = some (rdM m a, wrM m a (wrap64 (rdM m a + d)), 1) := rfl
theorem srun_off (m : Mem) : srun isOff m = some (false, m, 0) := rfl

theorem srun_wpr {α : Type} (p : Prog α) : Tot p → ∀ (m m' : Mem) (a : α) (c n : Nat), srun p m = some (a, m', c) → c ≤ n → wpr p m n (fun _ => True) (fun b m2 j => b = a ∧ m2 = m' ∧ j = n - c) := by
  induction p with
  | ret b =>
    intro _ m m' a c n h hc
    simp only [srun, Option.some.injEq, Prod.mk.injEq] at h
    obtain ⟨rfl, rfl, rfl⟩ := h
    exact ⟨rfl, rfl, rfl⟩
  | acc x k ih =>
    intro ht m m' a c n h hc
    simp only [srun, Option.map_eq_some_iff, Prod.mk.injEq] at h
    obtain ⟨⟨a1, m1, c1⟩, h1, rfl, rfl, rfl⟩ := h
    obtain ⟨a0, h0⟩ := Tot.offrun (k 0) (ht 0)
    refine ⟨⟨a0, h0, trivial⟩, n - 1, by simp only at hc; omega, ?_⟩
    refine wpr_mono _ (fun _ h => h) (fun b m2 j hq => ?_) (ih _ (ht _) _ _ _ _ (n - 1) h1 (by simp only at hc; omega))
    exact ⟨hq.1, hq.2.1, by rw [hq.2.2]; simp only; omega⟩
  | off k ih => intro ht m m' a c n h hc; exact ih false (ht false) m m' a c n h hc
  | mark k ih => intro ht m m' a c n h hc; exact ih ht m m' a c n h hc
  | stuck => intro ht; exact ht.elim

/-- What a run in a new frame comes to. -/
theorem srun_runs {α : Type} {p : Prog α} (ht : Tot p) {m m' : Mem} {a : α} {c most : Nat} (h : srun p m = some (a, m', c)) (hc : c ≤ most) (h0 : 0 < most) :
    ∃ s, runs p most 0 (FS.new m) none = some (some a, s) ∧ s.over = true ∧ s.mem = m' := by
  obtain ⟨r, m2, j, s, h1, h2, h3, h4⟩ := runs_of_wpr (srun_wpr p ht m m' a c c h (Nat.le_refl _)) hc h0
  rw [h4.1] at h1
  exact ⟨s, h1, h2, h3.trans h4.2.1⟩
end Go.Proofs.YtefbdcmodfbpbaaGreat
namespace Go.Proofs.YtefbdcmodfbpbaaGreat
open Go.RowKit

/-- A memory as a function, a word changed. -/
def upd (f : Int → Int) (a v : Int) : Int → Int := fun x => if x = a then v else f x
theorem upd_same (f : Int → Int) (a v : Int) : upd f a v a = v := by simp [upd]
theorem upd_other (f : Int → Int) (a v x : Int) (h : x ≠ a) : upd f a v x = f x := by simp [upd, h]

/-- From 'a' over the nodes of 'l' to 'b'. -/
def Seg (f : Int → Int) : Int → List Int → Int → Prop
  | a, [], b => f a = b ∧ f (b + 1) = a
  | a, x :: l, b => f a = x ∧ f (x + 1) = a ∧ Seg f x l b
theorem Seg.kept {f g : Int → Int} : ∀ {l : List Int} {a b : Int}, Seg f a l b → (∀ y ∈ a :: l, g y = f y) → (∀ y ∈ l ++ [b], g (y + 1) = f (y + 1)) → Seg g a l b
  | [], a, b, h, h1, h2 => ⟨(h1 a (by simp)).trans h.1, (h2 b (by simp)).trans h.2⟩
  | x :: l, a, b, h, h1, h2 => ⟨(h1 a (by simp)).trans h.1, (h2 x (by simp)).trans h.2.1, h.2.2.kept (fun y hy => h1 y (by simp at hy ⊢; right; exact hy)) (fun y hy => h2 y (by simp at hy ⊢; right; exact hy))⟩
def lastOf (a : Int) (l : List Int) : Int := l.getLast?.getD a
theorem lastOf_cons (a x : Int) (l : List Int) : lastOf a (x :: l) = lastOf x l := by
  unfold lastOf
  cases l with
  | nil => rfl
  | cons y l => simp [List.getLast?_cons]
theorem lastOf_mem (a : Int) (l : List Int) : lastOf a l ∈ a :: l := by
  induction l generalizing a with
  | nil => simp [lastOf]
  | cons x l ih => rw [lastOf_cons]; exact List.mem_cons_of_mem _ (ih x)
theorem Seg.last {f : Int → Int} : ∀ {l : List Int} {a b : Int}, Seg f a l b → f (b + 1) = lastOf a l ∧ f (lastOf a l) = b
  | [], a, b, h => ⟨h.2, h.1⟩
  | x :: l, a, b, h => by rw [lastOf_cons]; exact h.2.2.last
theorem Seg.split {f : Int → Int} : ∀ {l1 : List Int} {a n b : Int} {l2 : List Int}, Seg f a (l1 ++ n :: l2) b ↔ Seg f a l1 n ∧ Seg f n l2 b
  | [], a, n, b, l2 => by
    simp only [List.nil_append, Seg]
    constructor
    · rintro ⟨h1, h2, h3⟩; exact ⟨⟨h1, h2⟩, h3⟩
    · rintro ⟨⟨h1, h2⟩, h3⟩; exact ⟨h1, h2, h3⟩
  | x :: l1, a, n, b, l2 => by
    simp only [List.cons_append, Seg, Seg.split (l1 := l1)]
    constructor
    · rintro ⟨h1, h2, h3, h4⟩; exact ⟨⟨h1, h2, h3⟩, h4⟩
    · rintro ⟨⟨h1, h2, h3⟩, h4⟩; exact ⟨h1, h2, h3, h4⟩
/-- The end goes to another node. -/
theorem Seg.retarget {f g : Int → Int} : ∀ {l : List Int} {a b n : Int}, Seg f a l b → (a :: l).Nodup → (∀ y ∈ a :: l, y ≠ lastOf a l → g y = f y) → (∀ y ∈ l, g (y + 1) = f (y + 1)) → g (lastOf a l) = n → g (n + 1) = lastOf a l → Seg g a l n
  | [], a, b, n, h, _, _, _, h3, h4 => ⟨h3, h4⟩
  | x :: l, a, b, n, h, hn, h1, h2, h3, h4 => by
    rw [lastOf_cons] at h1 h3 h4
    have hn' := List.nodup_cons.1 hn
    refine ⟨?_, ?_, h.2.2.retarget hn'.2 (fun y hy => h1 y (List.mem_cons_of_mem _ hy)) (fun y hy => h2 y (List.mem_cons_of_mem _ hy)) h3 h4⟩
    · rw [h1 a (by simp) (fun e => hn'.1 (by rw [e]; exact lastOf_mem x l))]; exact h.1
    · rw [h2 x (by simp)]; exact h.2.1

/-- A word of a memory. -/
def InR (m : Mem) (a : Int) : Prop := 0 ≤ a ∧ a < m.length
theorem rd_wr (m : Mem) (a v : Int) (h : InR m a) : rdM (wrM m a v) = upd (rdM m) a v := by
  funext b
  obtain ⟨h0, h1⟩ := h
  have e : wrM m a v = m.set a.toNat v := by unfold wrM; rw [if_pos ⟨h0, h1⟩]
  rw [e]
  show rdM (m.set a.toNat v) b = if b = a then v else rdM m b
  unfold rdM
  rw [List.length_set]
  by_cases hb : 0 ≤ b ∧ b < m.length
  · rw [if_pos hb, if_pos hb]
    by_cases e : b = a
    · subst e
      rw [if_pos rfl, List.getD_eq_getElem?_getD, List.getElem?_set_self (by omega)]; rfl
    · rw [if_neg e, List.getD_eq_getElem?_getD, List.getElem?_set_ne (by omega), List.getD_eq_getElem?_getD]
  · rw [if_neg hb, if_neg hb, if_neg (by omega)]
theorem wr_len (m : Mem) (a v : Int) : (wrM m a v).length = m.length := by unfold wrM; split <;> simp
theorem InR.wr {m : Mem} {a : Int} (h : InR m a) (b v : Int) : InR (wrM m b v) a := by unfold InR at *; rw [wr_len]; exact h

/-- A program's straight run: the answer, the memory as a function, its length, the number of accesses. -/
def Does {α : Type} (p : Prog α) (m : Mem) (a : α) (g : Int → Int) (c : Nat) : Prop := ∃ m' c', srun p m = some (a, m', c') ∧ rdM m' = g ∧ m'.length = m.length ∧ c' ≤ c
theorem Does.pure {α : Type} (a : α) (m : Mem) (c : Nat) : Does (pure a : Prog α) m a (rdM m) c := ⟨m, 0, rfl, rfl, rfl, Nat.zero_le _⟩
theorem Does.ld (a : Int) (m : Mem) : Does (ld a) m (rdM m a) (rdM m) 1 := ⟨m, 1, rfl, rfl, rfl, Nat.le_refl _⟩
theorem Does.off (m : Mem) : Does isOff m false (rdM m) 0 := ⟨m, 0, rfl, rfl, rfl, Nat.le_refl _⟩
theorem Does.st (a v : Int) (m : Mem) (h : InR m a) : Does (st a v) m () (upd (rdM m) a v) 1 := ⟨wrM m a v, 1, rfl, rd_wr m a v h, wr_len m a v, Nat.le_refl _⟩
/-- One behind the other: what follows is shown at every memory that reads so. -/
theorem Does.bind {α β : Type} {p : Prog α} {k : α → Prog β} {m : Mem} {a : α} {b : β} {g h : Int → Int} {c d e : Nat} (h1 : Does p m a g c) (h2 : ∀ m', rdM m' = g → m'.length = m.length → Does (k a) m' b h d) (he : c + d ≤ e) : Does (p >>= k) m b h e := by
  obtain ⟨m1, c1, e1, r1, l1, b1⟩ := h1
  obtain ⟨m2, c2, e2, r2, l2, b2⟩ := h2 m1 r1 l1
  exact ⟨m2, c1 + c2, srun_seq e1 e2, r2, l2.trans l1, by omega⟩
theorem Does.more {α : Type} {p : Prog α} {m : Mem} {a : α} {g : Int → Int} {c d : Nat} (h : Does p m a g c) (hd : c ≤ d) : Does p m a g d := by
  obtain ⟨m1, c1, e1, r1, l1, b1⟩ := h
  exact ⟨m1, c1, e1, r1, l1, by omega⟩
theorem Does.to {α : Type} {p : Prog α} {m : Mem} {a : α} {g g' : Int → Int} {c : Nat} (h : Does p m a g c) (e : g = g') : Does p m a g' c := e ▸ h
theorem Does.tt {α : Type} {b : Bool} {p q : Prog α} {m : Mem} {a : α} {g : Int → Int} {c : Nat} (hb : b = true) (h : Does p m a g c) : Does (if b = true then p else q) m a g c := by rw [if_pos hb]; exact h
theorem Does.ff {α : Type} {b : Bool} {p q : Prog α} {m : Mem} {a : α} {g : Int → Int} {c : Nat} (hb : b = false) (h : Does q m a g c) : Does (if b = true then p else q) m a g c := by rw [if_neg (by rw [hb]; decide)]; exact h
/-- What a run in a new frame comes to. -/
theorem Does.runs {α : Type} {p : Prog α} {m : Mem} {a : α} {g : Int → Int} {c most : Nat} (h : Does p m a g c) (ht : Tot p) (hc : c ≤ most) (h0 : 0 < most) :
    ∃ s, runs p most 0 (FS.new m) none = some (some a, s) ∧ s.over = true ∧ rdM s.mem = g ∧ s.mem.length = m.length := by
  obtain ⟨m1, c1, e1, r1, l1, b1⟩ := h
  obtain ⟨s, h1, h2, h3⟩ := srun_runs ht e1 (Nat.le_trans b1 hc) h0
  exact ⟨s, h1, h2, by rw [h3]; exact r1, by rw [h3]; exact l1⟩
end Go.Proofs.YtefbdcmodfbpbaaGreat
