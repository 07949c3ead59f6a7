/-
  plan.Boot.
  A boot's memory: its length. What a partition that is right is.
-/
import Derived.Test.YtefbdcmodfbpbaaGreatBoot4
import Derived.Test.YtefbdcmodfbpbaaGreatMoreG
import Derived.Test.YtefbdcmodfbpbaaGreatSegs
set_option linter.unusedVariables false
set_option linter.unusedSimpArgs false
namespace Go.Proofs.YtefbdcmodfbpbaaGreat
open Go.RowKit

theorem tot_init (h : Int) : Tot (kInit h) := (Tot.st _ _).bind fun _ => (Tot.st _ _).bind fun _ => Tot.pure _
theorem tot_link (n m : Int) : Tot (kLink n m) := (Tot.st _ _).bind fun _ => (Tot.st _ _).bind fun _ => Tot.pure _
theorem tot_next (h n : Int) : Tot (kNext h n) := (Tot.ld _).bind fun _ => Tot.off.bind fun _ => Tot.ite (Tot.pure _) (Tot.ite (Tot.pure _) (Tot.pure _))
theorem tot_first (h : Int) : Tot (kFirst h) := (tot_next _ _).bind fun r => by cases r; exact Tot.pure _
theorem tot_ahead (n m : Int) : Tot (kAhead n m) := (Tot.ld _).bind fun _ => Tot.off.bind fun _ => Tot.ite (Tot.pure _) ((tot_link _ _).bind fun _ => (tot_link _ _).bind fun _ => Tot.pure _)
theorem tot_append (n m : Int) : Tot (kAppend n m) := (tot_ahead _ _).bind fun _ => Tot.pure _
theorem tot_mark (a p : Int) (b : Bool) : Tot (kMark a p b) := Tot.ite ((Tot.ld _).bind fun _ => (Tot.st _ _).bind fun _ => Tot.pure _) ((Tot.ld _).bind fun _ => (Tot.st _ _).bind fun _ => Tot.pure _)
theorem tot_qAdd (a n p : Int) : Tot (kQAdd a n p) := Tot.ite ((tot_append _ _).bind fun _ => (tot_mark _ _ _).bind fun _ => Tot.pure _) (Tot.pure _)
theorem tot_below (a p : Int) : Tot (kBelow a p) := (Tot.ld _).bind fun _ => Tot.off.bind fun _ => Tot.ite (Tot.pure _) (Tot.ite (Tot.pure _) ((tot_first _).bind fun r => by cases r; exact Tot.ite (Tot.pure _) (Tot.pure _)))
theorem tot_qFirst (a : Int) : Tot (kQFirst a) := (tot_below _ _).bind fun r => by obtain ⟨_, _, _⟩ := r; exact Tot.pure _
theorem tot_qAfter (a n p : Int) : Tot (kQAfter a n p) := Tot.ite ((tot_next _ _).bind fun r => by cases r; exact Tot.off.bind fun _ => Tot.ite (Tot.pure _) (Tot.ite (Tot.pure _) ((tot_below _ _).bind fun r => by obtain ⟨_, _, _⟩ := r; exact Tot.pure _))) (Tot.pure _)
theorem tot_qInitFrom (a : Int) : ∀ n k, Tot (kQInitFrom a n k)
  | 0, _ => Tot.pure _
  | n + 1, k => (tot_init _).bind fun _ => tot_qInitFrom a n (k + 1)
theorem tot_qInit (a : Int) : Tot (kQInit a) := (Tot.st _ _).bind fun _ => tot_qInitFrom _ _ _
theorem tot_bInitFrom (a n : Int) : ∀ m k, Tot (kBInitFrom a n m k)
  | 0, _ => Tot.pure _
  | m + 1, k => (Tot.st _ _).bind fun _ => tot_bInitFrom a n m (k + 1)
theorem tot_bInit (a n : Int) : Tot (kBInit a n) := Tot.ite ((Tot.st _ _).bind fun _ => tot_bInitFrom _ _ _ _) (Tot.pure _)
theorem tot_bootThr : ∀ ts k, Tot (kBootThrFrom ts k)
  | [], _ => Tot.pure _
  | t :: ts, k => (Tot.st _ _).bind fun _ => (Tot.st _ _).bind fun _ => (tot_init _).bind fun _ => (tot_qAdd _ _ _).bind fun _ => tot_bootThr ts (k + 1)
theorem tot_bootObj (n : Nat) : ∀ ts k, Tot (kBootObjFrom n ts k)
  | [], _ => Tot.pure _
  | t :: ts, k => (tot_init _).bind fun _ => (tot_init _).bind fun _ => Tot.ite ((tot_bInit _ _).bind fun _ => tot_bootObj n ts (k + 1)) (tot_bootObj n ts (k + 1))
theorem tot_cores (nt : Nat) : ∀ m c n p ok, Tot (kCores nt m c n p ok)
  | 0, _, _, _, _ => Tot.pure _
  | m + 1, c, n, p, ok => Tot.ite ((Tot.st _ _).bind fun _ => (tot_qAfter _ _ _).bind fun r => by obtain ⟨_, _, _⟩ := r; exact tot_cores nt m _ _ _ _) (Tot.pure _)
theorem tot_boot (P : PartD) : Tot (kBoot P) :=
  (tot_qInit _).bind fun _ => (tot_init _).bind fun _ => (tot_bootThr _ _).bind fun _ => (tot_bootObj _ _ _).bind fun _ => (tot_qFirst _).bind fun r => by obtain ⟨_, _, _⟩ := r; exact tot_cores _ _ _ _ _ _

/-- The memory behind a boot. -/
def bootRun (P : PartD) : Option (Option Unit × FS) := runs (kBoot P) 4000 0 (FS.new (List.replicate (planWords P) 0)) none
def bootM (P : PartD) : Mem := (bootRun P).elim [] fun x => x.2.mem
theorem bootM_eq (P : PartD) : ∃ r s, bootRun P = some (r, s) ∧ s.mem = bootM P := by
  obtain ⟨r, s, h⟩ := (tot_boot P).runs 4000 0 (FS.new (List.replicate (planWords P) 0)) none
  have h' : bootRun P = some (r, s) := h
  exact ⟨r, s, h', by unfold bootM; rw [h']; rfl⟩
theorem enters_boot : Enters 135 := by
  intro args w
  go_simp

set_option maxRecDepth 100000 in
set_option maxHeartbeats 1600000 in
theorem planBoot_any (P : PartD) (pv : Value) (F : Nat → Prop) (hn : P.thr.length ≤ 6) (hn2 : P.obj.length ≤ 8) (hp : PriosOk P.thr) (ho : ObjsOk P.obj) (w : World) (h : PlanVal w F pv P) :
    Calls Tryz.prog 71 #[pv] w fun e w' => ∃ mb wb, e = .returned (.pointer (some ⟨mb, 0, none⟩)) ∧ MemAt w' mb wb (bootM P) ∧ Below w.heap.size w w' ∧ w.heap.size ≤ mb ∧ w.heap.size ≤ wb := by
  have hP0 := h.inn
  obtain ⟨sT, sO, v1, v2, rfl, h1, h2, h3⟩ := h
  obtain ⟨A1, c1, e1⟩ := h1.slice
  obtain ⟨A2, c2, e2⟩ := h2.slice
  obtain ⟨u1, u2, e0, h5, h6⟩ := h3
  cases e0
  obtain ⟨A3, c3, rfl⟩ := h5.slice
  obtain ⟨A4, c4, rfl⟩ := ObjsAt.slice h6
  rw [thAts_length] at e1
  rw [obAts_length] at e2
  subst e1 e2
  have HP0 := Lib.hid hP0
  clear h1 h2 h5 h6 hP0
  unfold planArr at *
  go_enter Tryz.func71, Tryz.ntmps71
  go_wp2_with fail
  have hpw : planWords P ≤ 4000 := by unfold planWords; omega
  go_at_call 134
  refine (wnew_any (planWords P) hpw _).mono ?_
  rintro e w1 ⟨rfl, hm, hb1, hs1⟩
  rw [World.size_alloc] at hm hs1
  have hb1' : Below w.heap.size w w1 := ((Below.refl _ _).alloc (Nat.le_refl _) _).trans (hb1.mono (by simp))
  have q1 := row_of ((hb1.block w.heap.size (by simp)).trans (heap_alloc_new w (.cells #[.int .i64 0, .int .i64 2, .int .i64 4, .int .i64 3, .int .i64 5, .int .i64 6, .int .i64 8, .int .i64 41, .int .i64 43, .slice A1 P.thr.length c1, .slice A2 P.obj.length c2, .int .i64 (planWords P), .slice A3 P.thr.length c3, .slice A4 P.obj.length c4] 61)))
  have z1 : w.heap.size < w1.heap.size := by omega
  have HM := Lib.hid hm
  have HB1 := Lib.hid hb1'
  have HS1 := Lib.hid hs1
  clear hm hb1 hb1' hs1
  obtain ⟨r, sE, hrun, hmem⟩ := bootM_eq P
  have HRUN := Lib.hid hrun
  have HMEM := Lib.hid hmem
  clear hrun hmem
  have HR := Lib.hid (frun (α := Unit) w1 (w.heap.size + 1 + 1) (w.heap.size + 1) (List.replicate (planWords P) 0) HM.out 4000 (by omega) 135 (.agg #[.int .i64 0, .int .i64 2, .int .i64 4, .int .i64 3, .int .i64 5, .int .i64 6, .int .i64 8, .int .i64 41, .int .i64 43, .slice A1 P.thr.length c1, .slice A2 P.obj.length c2, .int .i64 (planWords P), .slice A3 P.thr.length c3, .slice A4 P.obj.length c4]) enters_boot (kBoot P) r sE (fun _ => False)
    (fun g sl wx => PlanVal wx (fun k => F k ∧ k < w.heap.size) (.agg #[.int .i64 0, .int .i64 2, .int .i64 4, .int .i64 3, .int .i64 5, .int .i64 6, .int .i64 8, .int .i64 41, .int .i64 43, .slice A1 P.thr.length c1, .slice A2 P.obj.length c2, .int .i64 (planWords P), .slice A3 P.thr.length c3, .slice A4 P.obj.length c4]) P ∧ Apart (fun k => F k ∧ k < w.heap.size) g sl ∧ w.heap.size ≤ wx.heap.size) (fun _ _ _ _ => True)
    (by
      have hs := HS1.out
      refine ⟨HP0.out.kept (fun k hk hF => ?_), fun k hk => ⟨?_, ?_, by simp [Value.ownBlock]⟩, by rw [World.size_alloc]; omega⟩
      · rw [Below.heap_alloc _ _ _ (by omega)]
        exact HB1.out.block k hk
      · show k ≠ w1.heap.size
        have := hk.2
        omega
      · show k ≠ w.heap.size + 1
        have := hk.2
        omega)
    (fun sl sl' s wa wb _ hI hE => ⟨hI.1.ev hI.2.1 hE, hI.2.1.ev hE (fun k hk => by have := hk.2; have := hI.2.2; omega), Nat.le_trans hI.2.2 hE.size⟩)
    (fun _ _ _ _ _ _ _ _ _ => trivial)
    (fun wx sl s x s1 hFx hI _ hex => by
      refine (boot_any P _ (fun k => F k ∧ k < w.heap.size) hn hn2 hp ho wx _ sl s hFx hI.1 hI.2.1 (fun k hk => by have := hk.2; have := hI.2.2; omega) s1 hex).mono ?_
      rintro e w2 ⟨_, he, sl2, hF2, hE2⟩
      exact ⟨he, sl2, hF2, ⟨hI.1.ev hI.2.1 hE2, hI.2.1.ev hE2 (fun k hk => by have := hk.2; have := hI.2.2; omega), Nat.le_trans hI.2.2 hE2.size⟩, trivial, hE2.toS _⟩)
    HRUN.out)
  go_wp2_with fail
  go_at_call 83
  refine HR.out.mono ?_
  rintro e w2 ⟨rfl, sl, hF2, -, hL⟩
  have hs := HS1.out
  have hfin : MemAt w2 (w.heap.size + 1 + 1) (w.heap.size + 1) (bootM P) ∧ Below w.heap.size w w2 := by
    refine ⟨by rw [← HMEM.out]; exact hF2.mem, ?_⟩
    refine HB1.out.trans ⟨hL.os, hL.tape, hL.output, hL.size, fun k hk => hL.block k (by omega) (by omega) (fun h => h)⟩
  have HFin := Lib.hid hfin
  clear hF2 hL hfin hs
  go_wp2
  go_ret
  exact ⟨_, _, rfl, HFin.out.1, HFin.out.2, by omega, by omega⟩
end Go.Proofs.YtefbdcmodfbpbaaGreat
namespace Go.Proofs.YtefbdcmodfbpbaaGreat
open Go.RowKit

theorem Acc.mem_length (x : Acc) (m : Mem) : (x.mem m).length = m.length := by
  cases x <;> simp [Acc.mem, wrM_length]
theorem acc_length (s : FS) (x : Acc) : (s.acc x).2.mem.length = s.mem.length := by
  unfold FS.acc
  split
  · rfl
  · split
    · rfl
    · split
      · exact x.mem_length _
      · rfl
theorem exec_length {α : Type} (p : Prog α) : ∀ (s : FS) (r : α) (s1 : FS), exec p s = some (r, s1) → s1.mem.length = s.mem.length := by
  induction p with
  | ret a => intro s r s1 h; simp only [exec, Option.some.injEq, Prod.mk.injEq] at h; rw [h.2]
  | acc x k ih => intro s r s1 h; exact (ih _ _ _ _ h).trans (acc_length s x)
  | off k ih => intro s r s1 h; exact ih _ _ _ _ h
  | mark k ih =>
    intro s r s1 h
    have e : s.doMark.mem = s.mem := by unfold FS.doMark; split <;> rfl
    exact (ih _ _ _ h).trans (by rw [e])
  | stuck => intro s r s1 h; cases h
theorem runs_length {α : Type} (p : Prog α) : ∀ (k j : Nat) (s : FS) (r ro : Option α) (sE : FS), runs p k j s r = some (ro, sE) → sE.mem.length = s.mem.length
  | 0, j, s, r, ro, sE, h => by simp only [runs, Option.some.injEq, Prod.mk.injEq] at h; rw [h.2]
  | k + 1, j, s, r, ro, sE, h => by
    unfold runs at h
    split at h
    · simp only [Option.some.injEq, Prod.mk.injEq] at h; rw [h.2]
    · cases hx : exec p (s.begin_ j) with
      | none => rw [hx] at h; cases h
      | some y =>
        rw [hx] at h
        have h1 := runs_length p k (j + 1) _ _ _ _ h
        have h2 := exec_length p _ _ _ hx
        exact h1.trans h2
theorem bootM_length (P : PartD) : (bootM P).length = planWords P := by
  obtain ⟨r, s, h1, h2⟩ := bootM_eq P
  rw [← h2, runs_length _ _ _ _ _ _ _ h1]
  simp [FS.new]

theorem rdM_wrM (m : Mem) (a b v : Int) (h0 : 0 ≤ a) (h1 : a < m.length) : rdM (wrM m a v) b = if b = a then v else rdM m b := by
  have e : wrM m a v = m.set a.toNat v := by unfold wrM; rw [if_pos ⟨h0, h1⟩]
  rw [e]
  unfold rdM
  rw [List.length_set]
  by_cases hb : 0 ≤ b ∧ b < m.length
  · rw [if_pos hb, if_pos hb]
    by_cases e : b = a
    · subst e
      rw [if_pos rfl, List.getD_eq_getElem?_getD, List.getElem?_set_self (by omega)]; rfl
    · rw [if_neg e, List.getD_eq_getElem?_getD, List.getElem?_set_ne (by omega), List.getD_eq_getElem?_getD]
  · rw [if_neg hb, if_neg hb, if_neg (by omega)]

/-- A partition that is right: its sizes, priorities, objects. -/
theorem partRight {P : PartD} (h : partWrong P = 0) : P.thr.length ≤ 6 ∧ 1 ≤ P.thr.length ∧ P.obj.length ≤ 8 ∧ PriosOk P.thr ∧ ObjsOk P.obj := by
  unfold partWrong at h
  split at h
  · omega
  · split at h
    · omega
    · split at h
      · omega
      · rename_i h1 h2 h3
        split at h
        · omega
        · rename_i h4
          refine ⟨by omega, by omega, by omega, fun t ht => ?_, fun o ho => ?_⟩
          · have := h3
            simp only [List.any_eq_true, not_exists, not_and, Bool.not_eq_true, Bool.not_eq_false'] at this
            have := this t ht
            simp only [rightThreadB, withinB, Bool.and_eq_true, decide_eq_true_eq] at this
            omega
          · have := h4
            simp only [List.any_eq_true, not_exists, not_and, Bool.not_eq_true, Bool.not_eq_false'] at this
            have := this o ho
            unfold rightObjectB at this
            unfold I64
            split at this
            · simp only [withinB, Bool.and_eq_true, decide_eq_true_eq] at this; omega
            · split at this
              · simp only [Bool.and_eq_true, decide_eq_true_eq] at this; omega
              · split at this
                · simp only [decide_eq_true_eq] at this; omega
                · split at this
                  · simp only [withinB, Bool.and_eq_true, decide_eq_true_eq] at this; omega
                  · split at this
                    · simp only [withinB, Bool.and_eq_true, decide_eq_true_eq] at this; omega
                    · cases this
end Go.Proofs.YtefbdcmodfbpbaaGreat
