/-
  Configurations as data, how they lie in memory, and their text.
-/
import Derived.Test.YtpmafppcccbmaaaDoorWPart
set_option linter.unusedVariables false
set_option linter.unusedSimpArgs false
namespace Go.Proofs.YtpmafppcccbmaaaDoor
open Go.RowKit

structure WinD where
  part : Int
  ticks : Int
structure ChanD where
  frm : Int
  out : Int
  tgt : Int
  inn : Int
structure ConfD where
  parts : List PartD
  wins : List WinD
  chans : List ChanD
def encWins (ws : List WinD) : List Value := ws.flatMap fun x => [.int .i64 x.part, .int .i64 x.ticks]
def encChans (cs : List ChanD) : List Value := cs.flatMap fun x => [.int .i64 x.frm, .int .i64 x.out, .int .i64 x.tgt, .int .i64 x.inn]
def WinsAt (w : World) (F : Nat → Prop) (v : Value) (ws : List WinD) : Prop := Reads w F v ws.length 2 (encWins ws)
def ChansAt (w : World) (F : Nat → Prop) (v : Value) (cs : List ChanD) : Prop := Reads w F v cs.length 4 (encChans cs)
def PartsAt (w : World) (F : Nat → Prop) (v : Value) (ps : List PartD) : Prop :=
  ∃ us : List (Value × Value), us.length = ps.length ∧ Reads w F v ps.length 2 (us.flatMap fun u => [u.1, u.2]) ∧ ∀ (i : Nat) (p : PartD) (u : Value × Value), ps[i]? = some p → us[i]? = some u → ThreadsAt w F u.1 p.thr ∧ ObjsAt w F u.2 p.obj
def ConfAt (w : World) (F : Nat → Prop) (v : Value) (c : ConfD) : Prop := ∃ v1 v2 v3, v = .agg #[v1, v2, v3] ∧ PartsAt w F v1 c.parts ∧ WinsAt w F v2 c.wins ∧ ChansAt w F v3 c.chans

theorem flat_stride {α : Type} (f : α → List Value) (n : Nat) (xs : List α) (h : ∀ x ∈ xs, (f x).length = n) (i : Nat) (x : α) (hx : xs[i]? = some x) (k : Nat) (hk : k < n) : (xs.flatMap f)[i * n + k]? = (f x)[k]? := by
  induction xs generalizing i with
  | nil => simp at hx
  | cons a xs ih =>
    rw [List.flatMap_cons]
    have ha := h a (by simp)
    cases i with
    | zero =>
      simp at hx; subst hx
      rw [Nat.zero_mul, Nat.zero_add, List.getElem?_append_left (by omega)]
    | succ i =>
      have e : (i + 1) * n = i * n + n := by rw [Nat.succ_mul]
      rw [List.getElem?_append_right (by omega), show (i + 1) * n + k - (f a).length = i * n + k by omega]
      exact ih (fun y hy => h y (by simp [hy])) i (by simpa using hx)

theorem WinsAt.cells {w : World} {F : Nat → Prop} {v : Value} {ws : List WinD} (h : WinsAt w F v ws) (hn : 0 < ws.length) :
    ∃ b o c, v = .slice (some ⟨b, o, none⟩) ws.length c ∧ F b ∧ ∀ i x, ws[i]? = some x → w.cell? ⟨b, o + i * 2, none⟩ = some (.int .i64 x.part) ∧ w.cell? ⟨b, o + i * 2 + 1, none⟩ = some (.int .i64 x.ticks) := by
  obtain ⟨_, A, c, e, h3⟩ := h
  obtain ⟨b, o, rfl, hF, hc⟩ := h3 hn
  refine ⟨b, o, c, e, hF, fun i x hx => ?_⟩
  have g := flat_stride (fun x : WinD => [Value.int .i64 x.part, .int .i64 x.ticks]) 2 ws (fun _ _ => rfl) i x hx
  refine ⟨hc (i * 2) _ ?_, hc (i * 2 + 1) _ ?_⟩
  · have := g 0 (by omega); simpa [encWins] using this
  · have := g 1 (by omega); simpa [encWins] using this
theorem ChansAt.cells {w : World} {F : Nat → Prop} {v : Value} {cs : List ChanD} (h : ChansAt w F v cs) (hn : 0 < cs.length) :
    ∃ b o c, v = .slice (some ⟨b, o, none⟩) cs.length c ∧ F b ∧ ∀ i x, cs[i]? = some x → w.cell? ⟨b, o + i * 4, none⟩ = some (.int .i64 x.frm) ∧ w.cell? ⟨b, o + i * 4 + 1, none⟩ = some (.int .i64 x.out) ∧ w.cell? ⟨b, o + i * 4 + 2, none⟩ = some (.int .i64 x.tgt) ∧ w.cell? ⟨b, o + i * 4 + 3, none⟩ = some (.int .i64 x.inn) := by
  obtain ⟨_, A, c, e, h3⟩ := h
  obtain ⟨b, o, rfl, hF, hc⟩ := h3 hn
  refine ⟨b, o, c, e, hF, fun i x hx => ?_⟩
  have g := flat_stride (fun x : ChanD => [Value.int .i64 x.frm, .int .i64 x.out, .int .i64 x.tgt, .int .i64 x.inn]) 4 cs (fun _ _ => rfl) i x hx
  refine ⟨hc (i * 4) _ ?_, hc (i * 4 + 1) _ ?_, hc (i * 4 + 2) _ ?_, hc (i * 4 + 3) _ ?_⟩
  · have := g 0 (by omega); simpa [encChans] using this
  · have := g 1 (by omega); simpa [encChans] using this
  · have := g 2 (by omega); simpa [encChans] using this
  · have := g 3 (by omega); simpa [encChans] using this
theorem PartsAt.cells {w : World} {F : Nat → Prop} {v : Value} {ps : List PartD} (h : PartsAt w F v ps) (hn : 0 < ps.length) :
    ∃ b o c, v = .slice (some ⟨b, o, none⟩) ps.length c ∧ F b ∧ ∀ i p, ps[i]? = some p → ∃ v1 v2, w.cell? ⟨b, o + i * 2, none⟩ = some v1 ∧ w.cell? ⟨b, o + i * 2 + 1, none⟩ = some v2 ∧ PartAt w F (.agg #[v1, v2]) p := by
  obtain ⟨us, hl, ⟨_, A, c, e, h3⟩, hi⟩ := h
  obtain ⟨b, o, rfl, hF, hc⟩ := h3 hn
  refine ⟨b, o, c, e, hF, fun i p hp => ?_⟩
  have hil : i < us.length := by rw [hl]; exact (List.getElem?_eq_some_iff.1 hp).1
  have hu := List.getElem?_eq_getElem hil
  obtain ⟨h1, h2⟩ := hi i p us[i] hp hu
  have g := flat_stride (fun u : Value × Value => [u.1, u.2]) 2 us (fun _ _ => rfl) i us[i] hu
  refine ⟨us[i].1, us[i].2, hc (i * 2) _ ?_, hc (i * 2 + 1) _ ?_, ⟨_, _, rfl, h1, h2⟩⟩
  · have := g 0 (by omega); simpa using this
  · have := g 1 (by omega); simpa using this

def winL (x : WinD) : List UInt8 := wlineL [119, 105, 110, 100, 111, 119] [x.part, x.ticks]
def chanL (x : ChanD) : List UInt8 := wlineL [99, 104, 97, 110, 110, 101, 108] [x.frm, x.out, x.tgt, x.inn]
/-- The text of a configuration, or none. -/
def printL (c : ConfD) : Option (List UInt8) :=
  if c.parts.all partOk then some (c.parts.flatMap partL ++ (c.wins.flatMap winL ++ c.chans.flatMap chanL)) else none
end Go.Proofs.YtpmafppcccbmaaaDoor
