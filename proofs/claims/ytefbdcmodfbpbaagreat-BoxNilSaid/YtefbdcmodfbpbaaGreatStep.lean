/-
  The accesses of a frame as a program over words: what one run of a body in a frame does, and what running it step by step comes to. Plain Lean: no Go here.
  What a frame comes to step by step: a body that is sound on the straight road is done within as many steps as it has accesses. Plain Lean: no Go here.
-/
import Derived.RowKit
set_option linter.unusedVariables false
set_option linter.unusedSimpArgs false
namespace Go.Proofs.YtefbdcmodfbpbaaGreat
open Go.RowKit (wrap64)

/-- A memory of words. -/
abbrev Mem := List Int

def rdM (m : Mem) (a : Int) : Int := if 0 ≤ a ∧ a < m.length then m.getD a.toNat 0 else 0
def wrM (m : Mem) (a v : Int) : Mem := if 0 ≤ a ∧ a < m.length then m.set a.toNat v else m

/-- One access. -/
inductive Acc where
  | ld (a : Int)
  | st (a v : Int)
  | ad (a d : Int)

def Acc.val : Acc → Mem → Int
  | .ld a, m => rdM m a
  | .st _ _, _ => 0
  | .ad a _, m => rdM m a
def Acc.mem : Acc → Mem → Mem
  | .ld _, m => m
  | .st a v, m => wrM m a v
  | .ad a d, m => wrM m a (wrap64 (rdM m a + d))

/-- What a body does with its frame. -/
inductive Prog (α : Type) where
  | ret (a : α)
  | acc (x : Acc) (k : Int → Prog α)
  | off (k : Bool → Prog α)
  | mark (k : Prog α)
  | stuck

namespace Prog
def bind {α β : Type} : Prog α → (α → Prog β) → Prog β
  | .ret a, f => f a
  | .acc x k, f => .acc x fun v => (k v).bind f
  | .off k, f => .off fun b => (k b).bind f
  | .mark k, f => .mark (k.bind f)
  | .stuck, _ => .stuck
instance : Monad Prog where
  pure := Prog.ret
  bind := Prog.bind
end Prog

def ld (a : Int) : Prog Int := .acc (.ld a) .ret
def st (a v : Int) : Prog Unit := .acc (.st a v) fun _ => .ret ()
def ad (a d : Int) : Prog Int := .acc (.ad a d) .ret
def isOff : Prog Bool := .off .ret
def markNow : Prog Unit := .mark (.ret ())

/-- A frame's state, and the memory's. -/
structure FS where
  log : List (Int × Int)
  at_ : Nat
  fresh : Bool
  off : Bool
  now : Int
  mark : Int
  marked : Bool
  over : Bool
  mem : Mem

/-- One access in a frame. -/
def FS.acc (s : FS) (x : Acc) : Int × FS :=
  if s.off then (0, s)
  else if s.at_ < s.log.length then ((s.log.getD s.at_ (0, 0)).1, { s with at_ := s.at_ + 1 })
  else if s.fresh then (x.val s.mem, { s with fresh := false, log := s.log ++ [(x.val s.mem, s.now)], at_ := s.at_ + 1, mem := x.mem s.mem })
  else (0, { s with off := true })

def FS.doMark (s : FS) : FS :=
  if s.off = false ∧ 0 < s.at_ then { s with mark := (s.log.getD (s.at_ - 1) (0, 0)).2, marked := true } else s

def exec {α : Type} : Prog α → FS → Option (α × FS)
  | .ret a, s => some (a, s)
  | .acc x k, s => exec (k (s.acc x).1) (s.acc x).2
  | .off k, s => exec (k s.off) s
  | .mark k, s => exec k s.doMark
  | .stuck, _ => none

theorem exec_bind {α β : Type} (p : Prog α) (f : α → Prog β) : ∀ (s : FS), exec (p.bind f) s = (exec p s).bind fun x => exec (f x.1) x.2 := by
  induction p with
  | ret a => intro s; rfl
  | acc x k ih => intro s; simp only [Prog.bind, exec]; exact ih _ _
  | off k ih => intro s; simp only [Prog.bind, exec]; exact ih _ _
  | mark k ih => intro s; simp only [Prog.bind, exec]; exact ih _
  | stuck => intro s; rfl

theorem exec_bind_some {α β : Type} {p : Prog α} {f : α → Prog β} {s : FS} {y : β × FS} (h : exec (p >>= f) s = some y) :
    ∃ a s1, exec p s = some (a, s1) ∧ exec (f a) s1 = some y := by
  have h' : exec (p.bind f) s = some y := h
  rw [exec_bind] at h'
  cases hp : exec p s with
  | none => rw [hp] at h'; cases h'
  | some x => rw [hp] at h'; exact ⟨x.1, x.2, rfl, h'⟩

/-- Going off: what a body comes to when no access answers any more. -/
def offrun {α : Type} : Prog α → Option α
  | .ret a => some a
  | .acc _ k => offrun (k 0)
  | .off k => offrun (k true)
  | .mark k => offrun k
  | .stuck => none

theorem offrun_bind {α β : Type} (p : Prog α) (f : α → Prog β) : offrun (p.bind f) = (offrun p).bind fun x => offrun (f x) := by
  induction p with
  | ret a => rfl
  | acc x k ih => exact ih _
  | off k ih => exact ih _
  | mark k ih => exact ih
  | stuck => rfl

theorem exec_off {α : Type} (p : Prog α) : ∀ (s : FS), s.off = true → exec p s = (offrun p).map fun a => (a, s) := by
  induction p with
  | ret a => intro s _; rfl
  | acc x k ih => intro s h; simp only [exec, FS.acc, h, if_true, offrun]; exact ih 0 s h
  | off k ih => intro s h; simp only [exec, h, offrun]; exact ih true s h
  | mark k ih =>
    intro s h
    have : s.doMark = s := by simp [FS.doMark, h]
    simp only [exec, offrun, this]; exact ih s h
  | stuck => intro s _; rfl

/-- The straight run: it comes to 'a' and the memory 'm'' behind 'l' accesses (their answers); wherever the frame may go off the rest is sound. -/
inductive Run {α : Type} : Prog α → Mem → List Int → α → Mem → Prop
  | ret (a : α) (m : Mem) : Run (.ret a) m [] a m
  | acc (x : Acc) (k : Int → Prog α) (m : Mem) (l : List Int) (a : α) (m' : Mem) : (offrun (k 0)).isSome → Run (k (x.val m)) (x.mem m) l a m' → Run (.acc x k) m (x.val m :: l) a m'
  | off (k : Bool → Prog α) (m : Mem) (l : List Int) (a : α) (m' : Mem) : Run (k false) m l a m' → Run (.off k) m l a m'
  | mark (k : Prog α) (m : Mem) (l : List Int) (a : α) (m' : Mem) : Run k m l a m' → Run (.mark k) m l a m'

/-- The straight run, reckoned: with a postcondition for its end, and one for wherever the frame goes off; 'n' accesses at most. -/
def wpr {α : Type} : Prog α → Mem → Nat → (α → Prop) → (α → Mem → Nat → Prop) → Prop
  | .ret a, m, n, _, Q => Q a m n
  | .acc x k, m, n, O, Q => (∃ a, offrun (k 0) = some a ∧ O a) ∧ ∃ n', n = n' + 1 ∧ wpr (k (x.val m)) (x.mem m) n' O Q
  | .off k, m, n, O, Q => wpr (k false) m n O Q
  | .mark k, m, n, O, Q => wpr k m n O Q
  | .stuck, _, _, _, _ => False

theorem wpr_mono {α : Type} (p : Prog α) : ∀ {m : Mem} {n : Nat} {O O' : α → Prop} {Q Q' : α → Mem → Nat → Prop}, (∀ a, O a → O' a) → (∀ a m n, Q a m n → Q' a m n) → wpr p m n O Q → wpr p m n O' Q' := by
  induction p with
  | ret a => intro m n O O' Q Q' _ hq h; exact hq _ _ _ h
  | acc x k ih =>
    intro m n O O' Q Q' ho hq h
    obtain ⟨⟨a, h1, h2⟩, n', h3, h4⟩ := h
    exact ⟨⟨a, h1, ho _ h2⟩, n', h3, ih _ ho hq h4⟩
  | off k ih => intro m n O O' Q Q' ho hq h; exact ih _ ho hq h
  | mark k ih => intro m n O O' Q Q' ho hq h; exact ih ho hq h
  | stuck => intro m n O O' Q Q' _ _ h; exact h

theorem wpr_bind {α β : Type} (p : Prog α) (f : α → Prog β) : ∀ {m : Mem} {n : Nat} {O : β → Prop} {Q : β → Mem → Nat → Prop},
    wpr p m n (fun a => ∃ b, offrun (f a) = some b ∧ O b) (fun a m n => wpr (f a) m n O Q) → wpr (p.bind f) m n O Q := by
  induction p with
  | ret a => intro m n O Q h; exact h
  | acc x k ih =>
    intro m n O Q h
    obtain ⟨⟨a, h1, b, h2, h3⟩, n', h4, h5⟩ := h
    refine ⟨⟨b, ?_, h3⟩, n', h4, ih _ h5⟩
    rw [offrun_bind, h1]; exact h2
  | off k ih => intro m n O Q h; exact ih _ h
  | mark k ih => intro m n O Q h; exact ih h
  | stuck => intro m n O Q h; exact h
end Go.Proofs.YtefbdcmodfbpbaaGreat
namespace Go.Proofs.YtefbdcmodfbpbaaGreat
open Go.RowKit (wrap64)

def FS.new (m : Mem) : FS := { log := [], at_ := 0, fresh := false, off := true, now := 0, mark := 0, marked := false, over := false, mem := m }
def FS.begin_ (s : FS) (now : Int) : FS := { s with at_ := 0, fresh := true, off := false, now := now, marked := false, mark := 0 }
def FS.finish_ (s : FS) : FS := { s with over := !s.off, off := true }

/-- 'k' steps at most, from time 'now' on: the last answer of the body, and the frame's state. -/
def runs {α : Type} (p : Prog α) : Nat → Nat → FS → Option α → Option (Option α × FS)
  | 0, _, s, r => some (r, s)
  | k + 1, now, s, r => if s.over then some (r, s) else (exec p (s.begin_ now)).bind fun x => runs p k (now + 1) x.2.finish_ (some x.1)

/-- A run of 'n' accesses at most, from memory 'm' on: the answer, the memory, the answers of the accesses, whether it came to its end. -/
def lim {α : Type} : Prog α → Mem → Nat → List Int → Option (α × Mem × List Int × Bool)
  | .ret a, m, _, l => some (a, m, l, true)
  | .acc _ k, m, 0, l => (offrun (k 0)).map fun a => (a, m, l, false)
  | .acc x k, m, n + 1, l => lim (k (x.val m)) (x.mem m) n (l ++ [x.val m])
  | .off k, m, n, l => lim (k false) m n l
  | .mark k, m, n, l => lim k m n l
  | .stuck, _, _, _ => none

/-- The next 'd' accesses: their answers, and the memory behind them. -/
def ans {α : Type} : Prog α → Mem → Nat → Option (List Int × Mem)
  | _, m, 0 => some ([], m)
  | .ret _, _, _ + 1 => none
  | .acc x k, m, d + 1 => (ans (k (x.val m)) (x.mem m) d).map fun y => (x.val m :: y.1, y.2)
  | .off k, m, d + 1 => ans (k false) m (d + 1)
  | .mark k, m, d + 1 => ans k m (d + 1)
  | .stuck, _, _ + 1 => none

theorem ans_zero {α : Type} (p : Prog α) (m : Mem) : ans p m 0 = some ([], m) := by cases p <;> rfl

/-- What a step of a frame gives, but its marks. -/
structure Gives (s : FS) (now : Int) (over : Bool) (mem : Mem) (vals : List Int) (off : Bool) : Prop where
  now_ : s.now = now
  over_ : s.over = over
  mem_ : s.mem = mem
  vals_ : s.log.map (·.1) = vals
  off_ : s.off = off

theorem exec_used {α : Type} (p : Prog α) : ∀ (s : FS) (a : α) (m : Mem) (l : List Int) (b : Bool), s.off = false → s.fresh = false → s.at_ = s.log.length →
    lim p s.mem 0 (s.log.map (·.1)) = some (a, m, l, b) → ∃ s', exec p s = some (a, s') ∧ Gives s' s.now s.over m l (!b) := by
  induction p with
  | ret a =>
    intro s a' m l b h1 _ _ h4
    simp only [lim, Option.some.injEq, Prod.mk.injEq] at h4
    obtain ⟨rfl, rfl, rfl, rfl⟩ := h4
    exact ⟨s, rfl, ⟨rfl, rfl, rfl, rfl, h1⟩⟩
  | acc x k _ =>
    intro s a m l b h1 h2 h3 h4
    simp only [lim, Option.map_eq_some_iff, Prod.mk.injEq] at h4
    obtain ⟨a', h5, rfl, rfl, rfl, rfl⟩ := h4
    refine ⟨{ s with off := true }, ?_, ⟨rfl, rfl, rfl, rfl, rfl⟩⟩
    have e : s.acc x = (0, { s with off := true }) := by
      unfold FS.acc; rw [if_neg (by simp [h1]), if_neg (by omega), if_neg (by simp [h2])]
    simp only [exec, e]
    rw [exec_off _ _ rfl, h5]; rfl
  | off k ih =>
    intro s a m l b h1 h2 h3 h4
    simp only [exec, h1]
    exact ih false s a m l b h1 h2 h3 h4
  | mark k ih =>
    intro s a m l b h1 h2 h3 h4
    simp only [exec]
    have hm : s.doMark.off = false ∧ s.doMark.fresh = false ∧ s.doMark.at_ = s.doMark.log.length ∧ s.doMark.mem = s.mem ∧ s.doMark.log = s.log ∧ s.doMark.now = s.now ∧ s.doMark.over = s.over := by
      unfold FS.doMark; split <;> simp [h1, h2, h3]
    obtain ⟨m1, m2, m3, m4, m5, m6, m7⟩ := hm
    obtain ⟨s', h5, h6⟩ := ih s.doMark a m l b m1 m2 m3 (by rw [m4, m5]; exact h4)
    exact ⟨s', h5, by rw [m6, m7] at h6; exact h6⟩
  | stuck => intro s a m l b _ _ _ h4; cases h4

theorem exec_fresh {α : Type} (p : Prog α) : ∀ (m : Mem) (d : Nat) (la : List Int) (md : Mem) (pre : List Int) (s : FS) (a : α) (m' : Mem) (l : List Int) (b : Bool), ans p m d = some (la, md) →
    s.off = false → s.fresh = true → s.at_ = pre.length → s.log.map (·.1) = pre ++ la → s.mem = md → lim p m (d + 1) pre = some (a, m', l, b) →
    ∃ s', exec p s = some (a, s') ∧ Gives s' s.now s.over m' l (!b) := by
  induction p with
  | ret a =>
    intro m d la md pre s a' m' l b h1 h2 h3 h4 h5 h6 h7
    cases d with
    | zero =>
      simp only [ans, Option.some.injEq, Prod.mk.injEq] at h1
      obtain ⟨rfl, rfl⟩ := h1
      simp only [lim, Option.some.injEq, Prod.mk.injEq] at h7
      obtain ⟨rfl, rfl, rfl, rfl⟩ := h7
      exact ⟨s, rfl, ⟨rfl, rfl, h6, by simpa using h5, h2⟩⟩
    | succ d => cases h1
  | acc x k ih =>
    intro m d la md pre s a m' l b h1 h2 h3 h4 h5 h6 h7
    cases d with
    | zero =>
      simp only [ans, Option.some.injEq, Prod.mk.injEq] at h1
      obtain ⟨rfl, rfl⟩ := h1
      have hl : s.log.length = pre.length := by have := congrArg List.length h5; simpa using this
      have e : s.acc x = (x.val m, { s with fresh := false, log := s.log ++ [(x.val m, s.now)], at_ := s.at_ + 1, mem := x.mem m }) := by
        unfold FS.acc; rw [if_neg (by simp [h2]), if_neg (by omega), if_pos h3, h6]
      simp only [exec, e]
      simp only [lim] at h7
      refine exec_used _ { s with fresh := false, log := s.log ++ [(x.val m, s.now)], at_ := s.at_ + 1, mem := x.mem m } a m' l b h2 rfl (by simp; omega) ?_
      simp only [List.map_append, h5]
      simpa using h7
    | succ d =>
      simp only [ans, Option.map_eq_some_iff, Prod.mk.injEq] at h1
      obtain ⟨⟨la', md'⟩, h8, rfl, rfl⟩ := h1
      have hl : s.log.length = pre.length + (la'.length + 1) := by have := congrArg List.length h5; simpa using this
      have hv : (s.log.getD s.at_ (0, 0)).1 = x.val m := by
        have h9 : (s.log.map (·.1)).getD s.at_ 0 = x.val m := by
          rw [h5, h4, List.getD_eq_getElem?_getD, List.getElem?_append_right (Nat.le_refl _)]; simp
        rw [← h9, List.getD_eq_getElem?_getD, List.getD_eq_getElem?_getD, List.getElem?_map]
        cases s.log[s.at_]? <;> rfl
      have e : s.acc x = (x.val m, { s with at_ := s.at_ + 1 }) := by
        unfold FS.acc; rw [if_neg (by simp [h2]), if_pos (by omega), hv]
      simp only [exec, e]
      simp only [lim] at h7
      exact ih (x.val m) (x.mem m) d la' md' (pre ++ [x.val m]) { s with at_ := s.at_ + 1 } a m' l b h8 h2 h3 (by simp [h4]) (by simpa using h5) h6 h7
  | off k ih =>
    intro m d la md pre s a m' l b h1 h2 h3 h4 h5 h6 h7
    simp only [exec, h2]
    exact ih false m d la md pre s a m' l b (by cases d <;> simpa [ans_zero, ans] using h1) h2 h3 h4 h5 h6 h7
  | mark k ih =>
    intro m d la md pre s a m' l b h1 h2 h3 h4 h5 h6 h7
    simp only [exec]
    have hm : s.doMark.off = false ∧ s.doMark.fresh = true ∧ s.doMark.at_ = pre.length ∧ s.doMark.mem = s.mem ∧ s.doMark.log = s.log ∧ s.doMark.now = s.now ∧ s.doMark.over = s.over := by
      unfold FS.doMark; split <;> simp [h2, h3, h4]
    obtain ⟨m1, m2, m3, m4, m5, m6, m7⟩ := hm
    obtain ⟨s', h8, h9⟩ := ih m d la md pre s.doMark a m' l b (by cases d <;> simpa [ans_zero, ans] using h1) m1 m2 m3 (by rw [m5]; exact h5) (by rw [m4]; exact h6) h7
    exact ⟨s', h8, by rw [m6, m7] at h9; exact h9⟩
  | stuck =>
    intro m d la md pre s a m' l b h1 h2 h3 h4 h5 h6 h7
    cases h7

/-- Behind a run that went off: so many accesses were done. -/
theorem lim_ans {α : Type} (p : Prog α) : ∀ (m : Mem) (d : Nat) (pre : List Int) (a : α) (m' : Mem) (l : List Int), lim p m d pre = some (a, m', l, false) → ∃ la, ans p m d = some (la, m') ∧ l = pre ++ la := by
  induction p with
  | ret a => intro m d pre a' m' l h; simp [lim] at h
  | acc x k ih =>
    intro m d pre a m' l h
    cases d with
    | zero =>
      simp only [lim, Option.map_eq_some_iff, Prod.mk.injEq] at h
      obtain ⟨_, _, _, rfl, rfl, _⟩ := h
      exact ⟨[], rfl, by simp⟩
    | succ d =>
      simp only [lim] at h
      obtain ⟨la, h1, h2⟩ := ih _ _ _ _ _ _ _ h
      exact ⟨x.val m :: la, by simp [ans, h1], by simp [h2]⟩
  | off k ih => intro m d pre a m' l h; obtain ⟨la, h1, h2⟩ := ih _ _ _ _ _ _ _ h; exact ⟨la, by cases d <;> simpa [ans_zero, ans] using h1, h2⟩
  | mark k ih => intro m d pre a m' l h; obtain ⟨la, h1, h2⟩ := ih _ _ _ _ _ _ h; exact ⟨la, by cases d <;> simpa [ans_zero, ans] using h1, h2⟩
  | stuck => intro m d pre a m' l h; cases h

theorem wpr_lim {α : Type} (p : Prog α) : ∀ (m : Mem) (n : Nat) (O : α → Prop) (Q : α → Mem → Nat → Prop) (pre : List Int), wpr p m n O Q →
    ∃ c a m' l, c ≤ n ∧ Q a m' (n - c) ∧ (∀ j, c ≤ j → lim p m j pre = some (a, m', l, true)) ∧ ∀ j, j < c → ∃ a' m'' l', O a' ∧ lim p m j pre = some (a', m'', l', false) := by
  induction p with
  | ret a => intro m n O Q pre h; exact ⟨0, a, m, pre, Nat.zero_le _, h, fun _ _ => rfl, fun j hj => absurd hj (by omega)⟩
  | acc x k ih =>
    intro m n O Q pre h
    obtain ⟨⟨a0, h1, h2⟩, n', rfl, h4⟩ := h
    obtain ⟨c, a, m', l, g1, g2, g3, g4⟩ := ih _ _ _ _ _ (pre ++ [x.val m]) h4
    refine ⟨c + 1, a, m', l, by omega, by rw [show n' + 1 - (c + 1) = n' - c by omega]; exact g2, ?_, ?_⟩
    · intro j hj
      obtain ⟨j, rfl⟩ : ∃ i, j = i + 1 := ⟨j - 1, by omega⟩
      exact g3 j (by omega)
    · intro j hj
      cases j with
      | zero => exact ⟨a0, m, pre, h2, by simp [lim, h1]⟩
      | succ j => exact g4 j (by omega)
  | off k ih => intro m n O Q pre h; exact ih _ _ _ _ _ pre h
  | mark k ih => intro m n O Q pre h; exact ih _ _ _ _ pre h
  | stuck => intro m n O Q pre h; exact h.elim

/-- A body that is sound on the straight road, in a new frame: it is done within 'most' steps, if it has no more accesses than that. -/
theorem runs_of_wpr {α : Type} {p : Prog α} {m : Mem} {n most : Nat} {O : α → Prop} {Q : α → Mem → Nat → Prop} (h : wpr p m n O Q) (hn : n ≤ most) (h0 : 0 < most) :
    ∃ a m' j s, runs p most 0 (FS.new m) none = some (some a, s) ∧ s.over = true ∧ s.mem = m' ∧ Q a m' j := by
  obtain ⟨c, a, m', l, h1, h2, h3, h4⟩ := wpr_lim p m n O Q [] h
  have key : ∀ (k j : Nat) (s : FS) (r : Option α) (la : List Int) (mj : Mem), s.over = false → ans p m j = some (la, mj) → s.log.map (·.1) = la → s.mem = mj → j < max c 1 → max c 1 ≤ j + k →
      ∃ s', runs p k j s r = some (some a, s') ∧ s'.over = true ∧ s'.mem = m' := by
    intro k
    induction k with
    | zero => intro j s r la mj _ _ _ _ g5 g6; omega
    | succ k ih =>
      intro j s r la mj g1 g2 g3 g4 g5 g6
      simp only [runs, g1, Bool.false_eq_true, if_false]
      rcases Nat.lt_or_ge (j + 1) c with hc | hc
      · obtain ⟨a', m'', l', _, g8⟩ := h4 (j + 1) hc
        obtain ⟨s', e1, e2⟩ := exec_fresh p m j la mj [] (s.begin_ j) a' m'' l' false g2 rfl rfl rfl (by simpa [FS.begin_] using g3) g4 g8
        rw [e1]
        obtain ⟨la', g9, g10⟩ := lim_ans p m (j + 1) [] a' m'' l' g8
        refine ih (j + 1) s'.finish_ _ la' m'' ?_ g9 ?_ ?_ (by omega) (by omega)
        · simp [FS.finish_, e2.off_]
        · simpa [FS.finish_, g10] using e2.vals_
        · simpa [FS.finish_] using e2.mem_
      · obtain ⟨s', e1, e2⟩ := exec_fresh p m j la mj [] (s.begin_ j) a m' l true g2 rfl rfl rfl (by simpa [FS.begin_] using g3) g4 (h3 (j + 1) hc)
        rw [e1]
        have ho : s'.finish_.over = true := by simp [FS.finish_, e2.off_]
        have hm : s'.finish_.mem = m' := by simpa [FS.finish_] using e2.mem_
        refine ⟨s'.finish_, ?_, ho, hm⟩
        cases k with
        | zero => rfl
        | succ k => simp only [Option.bind_some, runs, ho, if_true]
  obtain ⟨s', e1, e2, e3⟩ := key most 0 (FS.new m) none [] m rfl (ans_zero _ _) rfl rfl (by omega) (by omega)
  exact ⟨a, m', _, s', e1, e2, e3, h2⟩
end Go.Proofs.YtefbdcmodfbpbaaGreat
