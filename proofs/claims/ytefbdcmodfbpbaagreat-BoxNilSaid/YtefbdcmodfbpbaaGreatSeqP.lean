/-
  A value of one word taken (seq.Take), a lock entered and left (ticket), as programs. Plain Lean: no Go here.
-/
import Derived.Test.YtefbdcmodfbpbaaGreatSafe
set_option linter.unusedVariables false
set_option linter.unusedSimpArgs false
namespace Go.Proofs.YtefbdcmodfbpbaaGreat
open Go.RowKit

def kEven (a : Int) : Prog Int := ld a >>= fun c => isOff >>= fun o => if o = true then pure c else if (c.tmod 2 == 0) = true then pure c else Prog.stuck
/-- seq.Take of one word; none: off. -/
def kTake1 (a : Int) (mk : Bool) : Prog (Option Int) :=
  kEven a >>= fun c => ld (a + 1) >>= fun v => (if mk = true then markNow else pure ()) >>= fun _ => ld a >>= fun c2 => isOff >>= fun o => if o = true then pure none else if (c2 == c) = true then pure (some v) else Prog.stuck
def kServed (a t : Int) : Prog Bool := ld (a + 1) >>= fun v => isOff >>= fun o => pure (!o && (v == t))
def kEnter (a : Int) : Prog Int :=
  ad a 1 >>= fun t => isOff >>= fun o => if o = true then pure t else kServed a t >>= fun sv => if sv = true then pure t else isOff >>= fun o2 => if o2 = true then pure t else Prog.stuck
def kLeave (a t : Int) : Prog Unit := st (a + 1) (wrap64 (t + 1))

theorem Does.ad (a d : Int) (m : Mem) (h : InR m a) : Does (ad a d) m (rdM m a) (upd (rdM m) a (wrap64 (rdM m a + d))) 1 := ⟨wrM m a (wrap64 (rdM m a + d)), 1, rfl, rd_wr m a _ h, wr_len m a _, Nat.le_refl _⟩
theorem Does.mark (m : Mem) : Does markNow m () (rdM m) 0 := ⟨m, 0, rfl, rfl, rfl, Nat.le_refl _⟩
theorem does_even (a : Int) (m : Mem) (h : (rdM m a).tmod 2 = 0) : Does (kEven a) m (rdM m a) (rdM m) 1 := by
  unfold kEven
  refine (Does.ld a m).bind (fun m1 e1 l1 => ?_) (by omega : 1 + 0 ≤ 1)
  refine (Does.off m1).bind (fun m2 e2 l2 => ?_) (by omega : 0 + 0 ≤ 0)
  refine Does.ff rfl (Does.tt (by simpa using h) ?_)
  have := Does.pure (rdM m a) m2 0
  rw [e2, e1] at this
  exact this
theorem does_take1 (a : Int) (mk : Bool) (m : Mem) (h : (rdM m a).tmod 2 = 0) : Does (kTake1 a mk) m (some (rdM m (a + 1))) (rdM m) 3 := by
  unfold kTake1
  refine (does_even a m h).bind (fun m1 e1 l1 => ?_) (by omega : 1 + 2 ≤ 3)
  refine (Does.ld (a + 1) m1).to e1 |>.bind (fun m2 e2 l2 => ?_) (by omega : 1 + 1 ≤ 2)
  have hmk : Does (if mk = true then markNow else pure ()) m2 () (rdM m) 0 := by
    rw [← e2]
    cases mk
    · exact Does.ff rfl (Does.pure _ _ _)
    · exact Does.tt rfl (Does.mark _)
  refine hmk.bind (fun m3 e3 l3 => ?_) (by omega : 0 + 1 ≤ 1)
  refine (Does.ld a m3).to e3 |>.bind (fun m4 e4 l4 => ?_) (by omega : 1 + 0 ≤ 1)
  refine (Does.off m4).to e4 |>.bind (fun m5 e5 l5 => ?_) (by omega : 0 + 0 ≤ 0)
  refine Does.ff rfl (Does.tt (by rw [e3]; simp) ?_)
  have := Does.pure (some (rdM m1 (a + 1))) m5 0
  rw [e5] at this
  rw [e1] at this ⊢
  exact this
theorem even_offrun (a : Int) : offrun (kEven a) = some 0 := rfl
theorem safe_take1 (a : Int) (mk : Bool) : Safe (fun r : Option Int => r = none) (kTake1 a mk) := by
  have t2 : ∀ c v : Int, offrun (ld a >>= fun c2 => isOff >>= fun o => if o = true then pure none else if (c2 == c) = true then pure (some v) else Prog.stuck : Prog (Option Int)) = some none := fun _ _ => rfl
  have t1 : ∀ c v : Int, offrun ((if mk = true then markNow else pure ()) >>= fun _ => ld a >>= fun c2 => isOff >>= fun o => if o = true then pure none else if (c2 == c) = true then pure (some v) else Prog.stuck : Prog (Option Int)) = some none := fun c v => by cases mk <;> rfl
  have s2 : ∀ c v : Int, Safe (fun r : Option Int => r = none) (ld a >>= fun c2 => isOff >>= fun o => if o = true then pure none else if (c2 == c) = true then pure (some v) else Prog.stuck : Prog (Option Int)) := fun c v =>
    ⟨⟨none, rfl, rfl⟩, fun c2 o => by cases o; exact Safe.ite trivial trivial; trivial⟩
  unfold kTake1
  refine Safe.bind (O := fun _ => True) (p := kEven a) ⟨⟨0, rfl, trivial⟩, fun c o => by cases o; exact Safe.ite trivial trivial; trivial⟩ (fun c _ => ⟨none, ?_, rfl⟩) (fun c => ?_)
  · exact t1 c 0
  · refine Safe.bind (O := fun _ => True) (p := ld (a + 1)) ⟨⟨0, rfl, trivial⟩, fun v => trivial⟩ (fun v _ => ⟨none, t1 c v, rfl⟩) (fun v => ?_)
    cases mk
    · exact s2 c v
    · exact s2 c v
theorem does_enter (a : Int) (m : Mem) (i0 : InR m a) (i1 : InR m (a + 1)) (h : rdM m a = rdM m (a + 1)) : Does (kEnter a) m (rdM m a) (upd (rdM m) a (wrap64 (rdM m a + 1))) 2 := by
  unfold kEnter
  refine (Does.ad a 1 m i0).bind (fun m1 e1 l1 => ?_) (by omega : 1 + 1 ≤ 2)
  refine (Does.off m1).to e1 |>.bind (fun m2 e2 l2 => ?_) (by omega : 0 + 1 ≤ 1)
  refine Does.ff rfl ?_
  have hs : Does (kServed a (rdM m a)) m2 true (rdM m2) 1 := by
    unfold kServed
    refine (Does.ld (a + 1) m2).bind (fun m3 e3 l3 => ?_) (by omega : 1 + 0 ≤ 1)
    refine (Does.off m3).to e3 |>.bind (fun m4 e4 l4 => ?_) (by omega : 0 + 0 ≤ 0)
    have hv : (!false && (rdM m2 (a + 1) == rdM m a)) = true := by
      rw [e2, upd_other _ _ _ _ (by omega), h]; simp
    rw [hv]
    have := Does.pure true m4 0
    rw [e4] at this
    exact this
  refine (hs.to e2).bind (fun m3 e3 l3 => ?_) (by omega : 1 + 0 ≤ 1)
  refine Does.tt rfl ?_
  have := Does.pure (rdM m a) m3 0
  rw [e3] at this
  exact this
theorem safe_enter (a : Int) : Safe (fun _ : Int => True) (kEnter a) := by
  unfold kEnter
  have t1 : ∀ t : Int, offrun (kServed a t >>= fun sv => if sv = true then pure t else isOff >>= fun o2 => if o2 = true then pure t else Prog.stuck : Prog Int) = some t := fun t => rfl
  refine Safe.bind (O := fun _ => True) (p := Go.Proofs.YtefbdcmodfbpbaaGreat.ad a 1) ⟨⟨0, rfl, trivial⟩, fun v => trivial⟩ (fun t _ => ⟨t, rfl, trivial⟩) (fun t o => ?_)
  cases o
  · refine Safe.bind (O := fun b => b = false) (p := kServed a t) ⟨⟨false, rfl, rfl⟩, fun v o => trivial⟩ (fun b hb => ⟨t, by subst hb; rfl, trivial⟩) (fun b => Safe.ite trivial (fun o => by cases o <;> trivial))
  · trivial
end Go.Proofs.YtefbdcmodfbpbaaGreat
