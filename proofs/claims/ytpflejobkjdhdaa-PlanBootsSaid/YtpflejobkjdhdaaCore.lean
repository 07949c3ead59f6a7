/-
  The accesses of a frame as a program over words: what one run of a body in a frame does, and what running it step by step comes to. Plain Lean: no Go here.
-/
import Derived.RowKit
set_option linter.unusedVariables false
set_option linter.unusedSimpArgs false
namespace Go.Proofs.Ytpflejobkjdhdaa
open Go.RowKit (wrap64)

/-- A memory of words. -/
abbrev Mem := List Int

def rdM (m : Mem) (a : Int) : Int := if 0 ≤ a ∧ a < m.length then m.getD a.toNat 0 else 0
def wrM (m : Mem) (a v : Int) : Mem := if 0 ≤ a ∧ a < m.length then m.set a.toNat v else m

/-- One access. -/
inductive Acc where
  | ld (a : Int)
  | st (a v : Int)
  | ad (a d : Int)

def Acc.val : Acc → Mem → Int
  | .ld a, m => rdM m a
  | .st _ _, _ => 0
  | .ad a _, m => rdM m a
def Acc.mem : Acc → Mem → Mem
  | .ld _, m => m
  | .st a v, m => wrM m a v
  | .ad a d, m => wrM m a (wrap64 (rdM m a + d))

/-- What a body does with its frame. -/
inductive Prog (α : Type) where
  | ret (a : α)
  | acc (x : Acc) (k : Int → Prog α)
  | off (k : Bool → Prog α)
  | mark (k : Prog α)
  | stuck

namespace Prog
def bind {α β : Type} : Prog α → (α → Prog β) → Prog β
  | .ret a, f => f a
  | .acc x k, f => .acc x fun v => (k v).bind f
  | .off k, f => .off fun b => (k b).bind f
  | .mark k, f => .mark (k.bind f)
  | .stuck, _ => .stuck
instance : Monad Prog where
  pure := Prog.ret
  bind := Prog.bind
end Prog

def ld (a : Int) : Prog Int := .acc (.ld a) .ret
def st (a v : Int) : Prog Unit := .acc (.st a v) fun _ => .ret ()
def ad (a d : Int) : Prog Int := .acc (.ad a d) .ret
def isOff : Prog Bool := .off .ret
def markNow : Prog Unit := .mark (.ret ())

/-- A frame's state, and the memory's. -/
structure FS where
  log : List (Int × Int)
  at_ : Nat
  fresh : Bool
  off : Bool
  now : Int
  mark : Int
  marked : Bool
  over : Bool
  mem : Mem

/-- One access in a frame. -/
def FS.acc (s : FS) (x : Acc) : Int × FS :=
  if s.off then (0, s)
  else if s.at_ < s.log.length then ((s.log.getD s.at_ (0, 0)).1, { s with at_ := s.at_ + 1 })
  else if s.fresh then (x.val s.mem, { s with fresh := false, log := s.log ++ [(x.val s.mem, s.now)], at_ := s.at_ + 1, mem := x.mem s.mem })
  else (0, { s with off := true })

def FS.doMark (s : FS) : FS :=
  if s.off = false ∧ 0 < s.at_ then { s with mark := (s.log.getD (s.at_ - 1) (0, 0)).2, marked := true } else s

def exec {α : Type} : Prog α → FS → Option (α × FS)
  | .ret a, s => some (a, s)
  | .acc x k, s => exec (k (s.acc x).1) (s.acc x).2
  | .off k, s => exec (k s.off) s
  | .mark k, s => exec k s.doMark
  | .stuck, _ => none

theorem exec_bind {α β : Type} (p : Prog α) (f : α → Prog β) : ∀ (s : FS), exec (p.bind f) s = (exec p s).bind fun x => exec (f x.1) x.2 := by
  induction p with
  | ret a => intro s; rfl
  | acc x k ih => intro s; simp only [Prog.bind, exec]; exact ih _ _
  | off k ih => intro s; simp only [Prog.bind, exec]; exact ih _ _
  | mark k ih => intro s; simp only [Prog.bind, exec]; exact ih _
  | stuck => intro s; rfl

theorem exec_bind_some {α β : Type} {p : Prog α} {f : α → Prog β} {s : FS} {y : β × FS} (h : exec (p >>= f) s = some y) :
    ∃ a s1, exec p s = some (a, s1) ∧ exec (f a) s1 = some y := by
  have h' : exec (p.bind f) s = some y := h
  rw [exec_bind] at h'
  cases hp : exec p s with
  | none => rw [hp] at h'; cases h'
  | some x => rw [hp] at h'; exact ⟨x.1, x.2, rfl, h'⟩

/-- Going off: what a body comes to when no access answers any more. -/
def offrun {α : Type} : Prog α → Option α
  | .ret a => some a
  | .acc _ k => offrun (k 0)
  | .off k => offrun (k true)
  | .mark k => offrun k
  | .stuck => none

theorem offrun_bind {α β : Type} (p : Prog α) (f : α → Prog β) : offrun (p.bind f) = (offrun p).bind fun x => offrun (f x) := by
  induction p with
  | ret a => rfl
  | acc x k ih => exact ih _
  | off k ih => exact ih _
  | mark k ih => exact ih
  | stuck => rfl

theorem exec_off {α : Type} (p : Prog α) : ∀ (s : FS), s.off = true → exec p s = (offrun p).map fun a => (a, s) := by
  induction p with
  | ret a => intro s _; rfl
  | acc x k ih => intro s h; simp only [exec, FS.acc, h, if_true, offrun]; exact ih 0 s h
  | off k ih => intro s h; simp only [exec, h, offrun]; exact ih true s h
  | mark k ih =>
    intro s h
    have : s.doMark = s := by simp [FS.doMark, h]
    simp only [exec, offrun, this]; exact ih s h
  | stuck => intro s _; rfl

/-- The straight run: it comes to 'a' and the memory 'm'' behind 'l' accesses (their answers); wherever the frame may go off the rest is sound. -/
inductive Run {α : Type} : Prog α → Mem → List Int → α → Mem → Prop
  | ret (a : α) (m : Mem) : Run (.ret a) m [] a m
  | acc (x : Acc) (k : Int → Prog α) (m : Mem) (l : List Int) (a : α) (m' : Mem) : (offrun (k 0)).isSome → Run (k (x.val m)) (x.mem m) l a m' → Run (.acc x k) m (x.val m :: l) a m'
  | off (k : Bool → Prog α) (m : Mem) (l : List Int) (a : α) (m' : Mem) : Run (k false) m l a m' → Run (.off k) m l a m'
  | mark (k : Prog α) (m : Mem) (l : List Int) (a : α) (m' : Mem) : Run k m l a m' → Run (.mark k) m l a m'

/-- The straight run, reckoned: with a postcondition for its end, and one for wherever the frame goes off; 'n' accesses at most. -/
def wpr {α : Type} : Prog α → Mem → Nat → (α → Prop) → (α → Mem → Nat → Prop) → Prop
  | .ret a, m, n, _, Q => Q a m n
  | .acc x k, m, n, O, Q => (∃ a, offrun (k 0) = some a ∧ O a) ∧ ∃ n', n = n' + 1 ∧ wpr (k (x.val m)) (x.mem m) n' O Q
  | .off k, m, n, O, Q => wpr (k false) m n O Q
  | .mark k, m, n, O, Q => wpr k m n O Q
  | .stuck, _, _, _, _ => False

theorem wpr_mono {α : Type} (p : Prog α) : ∀ {m : Mem} {n : Nat} {O O' : α → Prop} {Q Q' : α → Mem → Nat → Prop}, (∀ a, O a → O' a) → (∀ a m n, Q a m n → Q' a m n) → wpr p m n O Q → wpr p m n O' Q' := by
  induction p with
  | ret a => intro m n O O' Q Q' _ hq h; exact hq _ _ _ h
  | acc x k ih =>
    intro m n O O' Q Q' ho hq h
    obtain ⟨⟨a, h1, h2⟩, n', h3, h4⟩ := h
    exact ⟨⟨a, h1, ho _ h2⟩, n', h3, ih _ ho hq h4⟩
  | off k ih => intro m n O O' Q Q' ho hq h; exact ih _ ho hq h
  | mark k ih => intro m n O O' Q Q' ho hq h; exact ih ho hq h
  | stuck => intro m n O O' Q Q' _ _ h; exact h

theorem wpr_bind {α β : Type} (p : Prog α) (f : α → Prog β) : ∀ {m : Mem} {n : Nat} {O : β → Prop} {Q : β → Mem → Nat → Prop},
    wpr p m n (fun a => ∃ b, offrun (f a) = some b ∧ O b) (fun a m n => wpr (f a) m n O Q) → wpr (p.bind f) m n O Q := by
  induction p with
  | ret a => intro m n O Q h; exact h
  | acc x k ih =>
    intro m n O Q h
    obtain ⟨⟨a, h1, b, h2, h3⟩, n', h4, h5⟩ := h
    refine ⟨⟨b, ?_, h3⟩, n', h4, ih _ h5⟩
    rw [offrun_bind, h1]; exact h2
  | off k ih => intro m n O Q h; exact ih _ h
  | mark k ih => intro m n O Q h; exact ih h
  | stuck => intro m n O Q h; exact h
end Go.Proofs.Ytpflejobkjdhdaa
