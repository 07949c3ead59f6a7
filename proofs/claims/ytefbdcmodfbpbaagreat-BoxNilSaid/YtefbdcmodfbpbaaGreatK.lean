/-
  The accesses as contracts over programs: what the walks of the kernel's functions lean on.
-/
import Derived.Test.YtefbdcmodfbpbaaGreatAcc
set_option linter.unusedVariables false
set_option linter.unusedSimpArgs false
namespace Go.Proofs.YtefbdcmodfbpbaaGreat
open Go.RowKit

theorem Fr.ldI64 {w : World} {g : FG} {sl : Value} {s : FS} (h : Fr w g sl s) (x : Acc) : I64 (s.acc x).1 := by
  unfold FS.acc
  split
  · exact i64_small (by omega) (by omega)
  · split
    · rename_i hl
      rw [List.getD_eq_getElem?_getD, List.getElem?_eq_getElem hl]
      exact h.li64 _ (List.getElem_mem hl)
    · split
      · cases x with
        | ld a => exact rdM_i64 h.mem.i64 a
        | st a v => exact i64_small (x := 0) (by omega) (by omega)
        | ad a d => exact rdM_i64 h.mem.i64 a
      · exact i64_small (by omega) (by omega)

theorem exec_pure {α : Type} {a r : α} {s s' : FS} (h : exec (pure a) s = some (r, s')) : a = r ∧ s = s' := by
  have h' : some (a, s) = some (r, s') := h
  cases h'
  exact ⟨rfl, rfl⟩
theorem exec_tt {α : Type} {b : Bool} {A B : Prog α} {s : FS} {y : Option (α × FS)} (hb : b = true) (h : exec (if b = true then A else B) s = y) : exec A s = y := by
  rw [if_pos hb] at h; exact h
theorem exec_ff {α : Type} {b : Bool} {A B : Prog α} {s : FS} {y : Option (α × FS)} (hb : b = false) (h : exec (if b = true then A else B) s = y) : exec B s = y := by
  rw [if_neg (by rw [hb]; decide)] at h; exact h

theorem Posts.after {g : FG} {sl sl1 : Value} {s' : FS} {w w1 w' : World} {v : Value} {e : Ending} (hE : Ev g sl sl1 w w1) (h : Posts g sl1 s' w1 v e w') : Posts g sl s' w v e w' := by
  obtain ⟨he, sl2, hF, hE2⟩ := h
  exact ⟨he, sl2, hF, hE.trans hE2⟩

theorem kload (a : Int) (w : World) (g : FG) (sl : Value) (s : FS) (h : Fr w g sl s) (v : Int) (s' : FS) (hx : exec (ld a) s = some (v, s')) :
    Calls Tryz.prog 216 #[.pointer (some ⟨g.fb, 0, none⟩), .int .i64 a] w fun e w' => I64 v ∧ Posts g sl s' w (.int .i64 v) e w' := by
  simp only [ld, exec, Option.some.injEq, Prod.mk.injEq] at hx
  obtain ⟨rfl, rfl⟩ := hx
  exact (fload w g sl s h a).mono fun e w' hp => ⟨h.ldI64 _, hp⟩
theorem kstore (a v : Int) (hv : I64 v) (w : World) (g : FG) (sl : Value) (s : FS) (h : Fr w g sl s) (s' : FS) (hx : exec (st a v) s = some ((), s')) :
    Calls Tryz.prog 209 #[.pointer (some ⟨g.fb, 0, none⟩), .int .i64 a, .int .i64 v] w fun e w' => True ∧ Posts g sl s' w (.tuple #[]) e w' := by
  simp only [st, exec, Option.some.injEq, Prod.mk.injEq, true_and] at hx
  subst hx
  exact (fstore w g sl s h a v hv).mono fun e w' hp => ⟨trivial, hp⟩
theorem kadd (a d : Int) (w : World) (g : FG) (sl : Value) (s : FS) (h : Fr w g sl s) (v : Int) (s' : FS) (hx : exec (ad a d) s = some (v, s')) :
    Calls Tryz.prog 347 #[.pointer (some ⟨g.fb, 0, none⟩), .int .i64 a, .int .i64 d] w fun e w' => I64 v ∧ Posts g sl s' w (.int .i64 v) e w' := by
  simp only [ad, exec, Option.some.injEq, Prod.mk.injEq] at hx
  obtain ⟨rfl, rfl⟩ := hx
  exact (fadd w g sl s h a d).mono fun e w' hp => ⟨h.ldI64 _, hp⟩
theorem koff (w : World) (g : FG) (sl : Value) (s : FS) (h : Fr w g sl s) (b : Bool) (s' : FS) (hx : exec isOff s = some (b, s')) :
    Calls Tryz.prog 146 #[.pointer (some ⟨g.fb, 0, none⟩)] w fun e w' => True ∧ Posts g sl s' w (.bool b) e w' := by
  simp only [isOff, exec, Option.some.injEq, Prod.mk.injEq] at hx
  obtain ⟨rfl, rfl⟩ := hx
  refine (foff w g sl s h).mono fun e w' hp => ⟨trivial, hp.1, sl, ?_, ?_⟩
  · rw [← hp.2]; exact h
  · rw [← hp.2]; exact Ev.refl _ _ _
end Go.Proofs.YtefbdcmodfbpbaaGreat
