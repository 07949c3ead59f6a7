/-
  call: what is wrong with a call, of any call (Check).
-/
import Derived.Test.YtefbdcmodfbpbaaGreatCallK
import Derived.Test.YtefbdcmodfbpbaaGreatPlanE
set_option linter.unusedVariables false
set_option linter.unusedSimpArgs false
namespace Go.Proofs.YtefbdcmodfbpbaaGreat
open Go.RowKit

def fitsB (k o : Int) : Bool :=
  if k = 6 ∨ k = 7 then (o == 0) else if k = 8 ∨ k = 9 then (o == 1) else if k = 10 ∨ k = 11 ∨ k = 12 then (o == 2) else if k = 13 ∨ k = 14 ∨ k = 15 then (o == 3)
  else if k = 16 ∨ k = 17 then (o == 4) else if k = 18 ∨ k = 19 then (o == 5) else if k = 20 then (o == 6) else if k = 21 then (o == 7) else if k = 22 then decide (2 ≤ o) && decide (o ≤ 5) else false

set_option maxRecDepth 100000 in
set_option maxHeartbeats 1600000 in
theorem fits_any (k o : Int) (b : Bool) (hb : fitsB k o = b) (w : World) : Calls Tryz.prog 100 #[.int .i64 k, .int .i64 o] w fun e w' => e = .returned (.bool b) ∧ w = w' := by
  have HB := Lib.hid hb
  clear hb
  go_enter Tryz.func100, Tryz.ntmps100
  go_wp2
  all_goals
    go_ret
    refine ⟨?_, rfl⟩
    rw [← HB.out]
    unfold fitsB
    first | (simp_all; done) | (simp_all; omega)
set_option maxHeartbeats 400000 in
theorem callWithin_any (n lo hi : Int) (b : Bool) (hb : withinB n lo hi = b) (w : World) : Calls Tryz.prog 139 #[.int .i64 n, .int .i64 lo, .int .i64 hi] w fun e w' => e = .returned (.bool b) ∧ w = w' := by
  have HB := Lib.hid hb
  clear hb
  go_enter Tryz.func139, Tryz.ntmps139
  go_wp2
  all_goals
    go_ret
    refine ⟨?_, rfl⟩
    rw [← HB.out]
    unfold withinB
    first | done | (simp; done) | (simp; omega) | (simp_all; done)

def meansB (k : Int) : Bool := decide (6 ≤ k) && decide (k ≤ 22)
def objIx (c : CallD) : Int := c.handle % 256
def hasObjB (P : PartD) (c : CallD) : Bool := meansB c.kind && decide (0 ≤ c.handle) && decide (objIx c < P.obj.length) && fitsB c.kind (objD P (objIx c)).kind
theorem tmod256 {h : Int} (h0 : 0 ≤ h) : 0 ≤ h % 256 ∧ h % 256 < 256 := by omega

set_option maxRecDepth 100000 in
set_option maxHeartbeats 3200000 in
theorem objectG_any (P : PartD) (c : CallD) (F : Nat → Prop) (v2 : Value) (w : World) (ho : P.obj.length ≤ 100000) (h : ObjsAt w F v2 P.obj) (A1 : Option Addr) (n c1 : Nat) (A3 : Option Addr) (n3 c3 : Nat) (b : Bool) (hb : hasObjB P c = b) :
    Calls Tryz.prog 58 #[.agg #[.slice A1 n c1, v2], .agg (callCells c (.slice A3 n3 c3)).toArray] w fun e w' => e = .returned (.tuple #[.int .i64 (if b = true then objIx c else 0), .bool b]) ∧ Below w.heap.size w w' := by
  have HM := Lib.hid (callMeans_any c.kind (meansB c.kind) rfl)
  simp only [callCells]
  cases hm : meansB c.kind with
  | false =>
    have e : b = false := by rw [← hb]; simp [hasObjB, hm]
    subst e
    obtain ⟨A2, c2, rfl⟩ := ObjsAt.slice h
    rw [hm] at HM
    clear h hb hm
    go_enter Tryz.func58, Tryz.ntmps58
    go_wp2_with fail
    go_quiet ((go_at_call 74; exact Calls.quiet_of_same (same_turn (HM.out _))))
    go_wp2
    go_ret2
    exact ⟨by simp, below_drewN (((Below.refl _ _).alloc (Nat.le_refl _) _).alloc (by simp) _) _⟩
  | true =>
    rw [hm] at HM
    by_cases h0 : c.handle < 0
    · have e0 : decide (0 ≤ c.handle) = false := by simpa using h0
      have e : b = false := by rw [← hb]; simp only [hasObjB, e0, Bool.and_false, Bool.false_and]
      subst e
      obtain ⟨A2, c2, rfl⟩ := ObjsAt.slice h
      clear h hb hm e0
      go_enter Tryz.func58, Tryz.ntmps58
      go_wp2_with fail
      go_quiet ((go_at_call 74; exact Calls.quiet_of_same (same_turn (HM.out _))))
      go_wp2
      go_ret2
      exact ⟨by simp, below_drewN (((Below.refl _ _).alloc (Nat.le_refl _) _).alloc (by simp) _) _⟩
    · have e0 : decide (0 ≤ c.handle) = true := by simpa using h0
      obtain ⟨hr0, hr1⟩ := tmod256 (h := c.handle) (by omega)
      have cb : decide (c.handle < 0) = false := by simpa using h0
      by_cases h1 : objIx c < P.obj.length
      · have e1 : decide (objIx c < P.obj.length) = true := by simpa using h1
        obtain ⟨b2, o2, cp2, rfl, hF2, hc⟩ := ObjsAt.cells h (by unfold objIx at h1; omega)
        obtain ⟨k0, _, _⟩ := hc (objIx c).toNat _ (objD_get hr0 h1)
        have lb := World.block_lt_of_cell? w _ k0
        have HT := Lib.hid (fits_any c.kind (objD P (objIx c)).kind b (by rw [← hb]; simp only [hasObjB, hm, e0, e1, Bool.true_and]))
        have hn1 : decide ((P.obj.length : Int) ≤ objIx c) = false := by simp; omega
        clear h hb hm hc e0 e1 hF2
        unfold objIx at h1 hn1 k0
        have hif : ∀ x : Int, (Value.tuple #[.int .i64 (if b = true then x else 0), .bool b]) = if b = true then .tuple #[.int .i64 x, .bool true] else .tuple #[.int .i64 0, .bool false] := fun x => by cases b <;> simp
        unfold objIx at HT ⊢
        generalize (objD P (c.handle % 256)).kind = ok at *
        cases b with
        | true =>
          go_enter Tryz.func58, Tryz.ntmps58
          go_wp2_with fail
          go_quiet (first | (go_at_call 74; exact Calls.quiet_of_same (same_turn (HM.out _))) | (go_at_call 100; exact Calls.quiet_of_same (same_turn (HT.out _))))
          go_wp2
          go_ret2
          exact ⟨by simp, below_drewN (((Below.refl _ _).alloc (Nat.le_refl _) _).alloc (by simp) _) _⟩
        | false =>
          go_enter Tryz.func58, Tryz.ntmps58
          go_wp2_with fail
          go_quiet (first | (go_at_call 74; exact Calls.quiet_of_same (same_turn (HM.out _))) | (go_at_call 100; exact Calls.quiet_of_same (same_turn (HT.out _))))
          go_wp2
          go_ret2
          exact ⟨by simp, below_drewN (((Below.refl _ _).alloc (Nat.le_refl _) _).alloc (by simp) _) _⟩
      · have e1 : decide (objIx c < P.obj.length) = false := by simpa using h1
        have e : b = false := by rw [← hb]; simp only [hasObjB, e1, Bool.and_false, Bool.false_and]
        subst e
        obtain ⟨A2, c2, rfl⟩ := ObjsAt.slice h
        have hge : decide ((P.obj.length : Int) ≤ c.handle % 256) = true := by unfold objIx at h1; simp; omega
        clear h hb hm e0 e1 h1
        go_enter Tryz.func58, Tryz.ntmps58
        go_wp2_with fail
        go_quiet ((go_at_call 74; exact Calls.quiet_of_same (same_turn (HM.out _))))
        go_wp2
        go_ret2
        exact ⟨by simp, below_drewN (((Below.refl _ _).alloc (Nat.le_refl _) _).alloc (by simp) _) _⟩

def threadedB (k : Int) : Bool := decide (3 ≤ k) && decide (k ≤ 5)
def timedB (k : Int) : Bool := decide (k = 10) || decide (k = 11) || decide (k = 15) || decide (k = 16) || decide (k = 18) || decide (k = 19)
/-- What a call needs beside its kind. -/
def needsB (c : CallD) (n : Nat) : Bool :=
  if c.kind = 2 then withinB c.timeout 0 1000 else if c.kind = 3 then withinB c.a 0 15 else if c.kind = 13 ∨ c.kind = 14 then decide (0 < c.a) else if c.kind = 15 then decide (0 < c.a) && withinB c.b 0 3
  else if c.kind = 18 then withinB n 1 4 else if c.kind = 19 then withinB c.a 1 4 else true
def rightCB (P : PartD) (c : CallD) : Bool :=
  !(threadedB c.kind && !withinB c.handle 0 (P.thr.length - 1)) && !(timedB c.kind && !withinB c.timeout (-1) 1000) && needsB c c.words.length

set_option maxRecDepth 100000 in
set_option maxHeartbeats 6400000 in
theorem rightG_any (P : PartD) (c : CallD) (w : World) (hn : P.thr.length ≤ 100000) (hwl : c.words.length ≤ 100000) (A1 A2 : Option Addr) (c1 m c2 : Nat) (A3 : Option Addr) (c3 : Nat) (b : Bool) (hb : rightCB P c = b) :
    Calls Tryz.prog 75 #[.agg #[.slice A1 P.thr.length c1, .slice A2 m c2], .agg (callCells c (.slice A3 c.words.length c3)).toArray] w fun e w' => e = .returned (.bool b) ∧ Below w.heap.size w w' := by
  have HB := Lib.hid hb
  have HT := Lib.hid (callThreaded_any c.kind (threadedB c.kind) rfl)
  have HM := Lib.hid (callTimed_any c.kind (timedB c.kind) rfl)
  have HW1 := Lib.hid (callWithin_any c.handle 0 (P.thr.length - 1) (withinB c.handle 0 (P.thr.length - 1)) rfl)
  have HW2 := Lib.hid (callWithin_any c.timeout (-1) 1000 (withinB c.timeout (-1) 1000) rfl)
  have hbel : Below w.heap.size w ((w.alloc (.cells #[.slice A1 P.thr.length c1, .slice A2 m c2] 25)).alloc (.cells #[.int .i64 c.kind, .int .i64 c.handle, .int .i64 c.a, .int .i64 c.b, .slice A3 c.words.length c3, .int .i64 c.timeout] 28)) := ((Below.refl _ _).alloc (Nat.le_refl _) _).alloc (by simp) _
  have HBEL := Lib.hid hbel
  unfold rightCB at HB
  clear hb hbel
  simp only [callCells]
  cases q1 : threadedB c.kind with
  | true =>
    cases q2 : withinB c.handle 0 (P.thr.length - 1) with
    | true =>
      rw [q1] at HT HB
      rw [q2] at HW1 HB
      have q3 : timedB c.kind = false := by
        cases h : timedB c.kind with
        | false => rfl
        | true => simp [threadedB, timedB] at q1 h; omega
      rw [q3] at HM HB
      have Q1 := Lib.hid q1
      clear q1 q2 q3 HW2
      go_enter Tryz.func75, Tryz.ntmps75
      go_wp2_with (first | (go_at_call 138; refine (HT.out _).mono ?_; rintro e wq ⟨rfl, rfl⟩) | (go_at_call 140; refine (HM.out _).mono ?_; rintro e wq ⟨rfl, rfl⟩) | (go_at_call 139; refine (HW1.out _).mono ?_; rintro e wq ⟨rfl, rfl⟩; clear HW1) | (go_at_call 139; refine (callWithin_any _ _ _ _ rfl _).mono ?_; rintro e wq ⟨rfl, rfl⟩))
      all_goals
        go_ret
        refine ⟨?_, HBEL.out⟩
        rw [← HB.out]
        have Q := Q1.out
        simp [threadedB] at Q
        unfold needsB
        first | (simp_all; done) | (exfalso; simp_all; omega) | (simp_all; omega)
    | false =>
      rw [q1] at HT HB
      rw [q2] at HW1 HB
      have Q1 := Lib.hid q1
      clear q1 q2 HW2
      go_enter Tryz.func75, Tryz.ntmps75
      go_wp2_with (first | (go_at_call 138; refine (HT.out _).mono ?_; rintro e wq ⟨rfl, rfl⟩) | (go_at_call 140; refine (HM.out _).mono ?_; rintro e wq ⟨rfl, rfl⟩) | (go_at_call 139; refine (HW1.out _).mono ?_; rintro e wq ⟨rfl, rfl⟩; clear HW1) | (go_at_call 139; refine (callWithin_any _ _ _ _ rfl _).mono ?_; rintro e wq ⟨rfl, rfl⟩))
      all_goals
        go_ret
        refine ⟨?_, HBEL.out⟩
        rw [← HB.out]
        have Q := Q1.out
        simp [threadedB] at Q
        unfold needsB
        first | (simp_all; done) | (exfalso; simp_all; omega) | (simp_all; omega)
  | false =>
    rw [q1] at HT HB
    cases q3 : timedB c.kind with
    | true =>
      have Q1 := Lib.hid q3
      cases q2 : withinB c.timeout (-1) 1000 with
      | true =>
        rw [q3] at HM HB
        rw [q2] at HW2 HB
        clear q1 q2 q3 HW1
        go_enter Tryz.func75, Tryz.ntmps75
        go_wp2_with (first | (go_at_call 138; refine (HT.out _).mono ?_; rintro e wq ⟨rfl, rfl⟩) | (go_at_call 140; refine (HM.out _).mono ?_; rintro e wq ⟨rfl, rfl⟩) | (go_at_call 139; refine (HW2.out _).mono ?_; rintro e wq ⟨rfl, rfl⟩; clear HW2) | (go_at_call 139; refine (callWithin_any _ _ _ _ rfl _).mono ?_; rintro e wq ⟨rfl, rfl⟩))
        all_goals
          go_ret
          refine ⟨?_, HBEL.out⟩
          rw [← HB.out]
          have Q := Q1.out
          simp [timedB] at Q
          unfold needsB
          first | (simp_all; done) | (exfalso; simp_all; omega) | (simp_all; omega)
      | false =>
        rw [q3] at HM HB
        rw [q2] at HW2 HB
        clear q1 q2 q3 HW1
        go_enter Tryz.func75, Tryz.ntmps75
        go_wp2_with (first | (go_at_call 138; refine (HT.out _).mono ?_; rintro e wq ⟨rfl, rfl⟩) | (go_at_call 140; refine (HM.out _).mono ?_; rintro e wq ⟨rfl, rfl⟩) | (go_at_call 139; refine (HW2.out _).mono ?_; rintro e wq ⟨rfl, rfl⟩; clear HW2) | (go_at_call 139; refine (callWithin_any _ _ _ _ rfl _).mono ?_; rintro e wq ⟨rfl, rfl⟩))
        all_goals
          go_ret
          refine ⟨?_, HBEL.out⟩
          rw [← HB.out]
          have Q := Q1.out
          simp [timedB] at Q
          unfold needsB
          first | (simp_all; done) | (exfalso; simp_all; omega) | (simp_all; omega)
    | false =>
      have Q1 := Lib.hid q3
      rw [q3] at HM HB
      clear q1 q3 HW1 HW2
      go_enter Tryz.func75, Tryz.ntmps75
      go_wp2_with (first | (go_at_call 138; refine (HT.out _).mono ?_; rintro e wq ⟨rfl, rfl⟩) | (go_at_call 140; refine (HM.out _).mono ?_; rintro e wq ⟨rfl, rfl⟩) | (go_at_call 139; refine (callWithin_any _ _ _ _ rfl _).mono ?_; rintro e wq ⟨rfl, rfl⟩))
      all_goals
        go_ret
        refine ⟨?_, HBEL.out⟩
        rw [← HB.out]
        have Q := Q1.out
        simp [timedB] at Q
        unfold needsB
        first | (simp_all; done) | (exfalso; simp_all; omega) | (simp_all; omega)

def thrD (P : PartD) (t : Nat) : ThreadD := (P.thr[t]?).getD ⟨0, 0, false, []⟩
def mayCB (P : PartD) (t : Nat) (c : CallD) : Bool :=
  if hasObjB P c = true then bits .and .u32 ((thrD P t).caps / 2 ^ (objIx c).toNat) 1 == 1 else !threadedB c.kind || c.handle == t || (thrD P t).control

set_option maxRecDepth 100000 in
set_option maxHeartbeats 6400000 in
theorem mayG_any (P : PartD) (c : CallD) (F : Nat → Prop) (v1 v2 : Value) (w : World) (t : Nat) (ht : t < P.thr.length) (hn : P.thr.length ≤ 100000) (ho : P.obj.length ≤ 31) (hcap : CapsOk P.thr) (h : ThreadsAt w F v1 P.thr) (h2 : ObjsAt w F v2 P.obj) (A3 : Option Addr) (n3 c3 : Nat) :
    Calls Tryz.prog 76 #[.agg #[v1, v2], .int .i64 t, .agg (callCells c (.slice A3 n3 c3)).toArray] w fun e w' => e = .returned (.bool (mayCB P t c)) ∧ Below w.heap.size w w' := by
  have ed : thrD P t = P.thr[t] := by unfold thrD; rw [List.getElem?_eq_getElem ht]; rfl
  have HV : Hid (mayCB P t c = if hasObjB P c = true then bits .and .u32 (P.thr[t].caps / 2 ^ (objIx c).toNat) 1 == 1 else !threadedB c.kind || c.handle == t || P.thr[t].control) := Lib.hid (by rw [← ed]; rfl)
  clear ed
  generalize mayCB P t c = R at *
  have HO := Lib.hid (fun (W : World) (hb : Below w.heap.size w W) (A1 : Option Addr) (n c1 : Nat) b hb' => objectG_any P c F v2 W (by omega) (ObjsAt.kept (w' := W) (fun k hk _ => hb.block k hk) h2) A1 n c1 A3 n3 c3 b hb')
  obtain ⟨b1, o1, cp, rfl, hF, hc⟩ := ThreadsAt.cells h (by omega)
  obtain ⟨pv, hpv, k0, k1, k2, k3⟩ := hc t _ (List.getElem?_eq_getElem ht)
  obtain ⟨A5, c5, rfl⟩ := hpv.slice
  have lb := World.block_lt_of_cell? w _ k0
  obtain ⟨A2, c2, rfl⟩ := ObjsAt.slice h2
  have HT := Lib.hid (callThreaded_any c.kind (threadedB c.kind) rfl)
  have ht1 : (t : Int) < (P.thr.length : Int) := by omega
  clear hc h hF hpv h2
  simp only [callCells] at HO ⊢
  have hB0 := ((((Below.refl w.heap.size w).alloc (Nat.le_refl _) (.cells #[.slice (some ⟨b1, o1, none⟩) P.thr.length cp, .slice A2 P.obj.length c2] 25)).alloc (by simp) (.cells #[.int .i64 c.kind, .int .i64 c.handle, .int .i64 c.a, .int .i64 c.b, .slice A3 n3 c3, .int .i64 c.timeout] 28)).alloc (by simp <;> omega) (.cells #[.int .i64 P.thr[t].prio, .int .u32 P.thr[t].caps, .bool P.thr[t].control, .slice A5 P.thr[t].prog.length c5] 105))
  have HB0 := Lib.hid hB0
  have hq1 := (Below.heap_alloc _ (.cells #[.int .i64 P.thr[t].prio, .int .u32 P.thr[t].caps, .bool P.thr[t].control, .slice A5 P.thr[t].prog.length c5] 105) _ (by simp)).trans (two_second w (.cells #[.slice (some ⟨b1, o1, none⟩) P.thr.length cp, .slice A2 P.obj.length c2] 25) (.cells #[.int .i64 c.kind, .int .i64 c.handle, .int .i64 c.a, .int .i64 c.b, .slice A3 n3 c3, .int .i64 c.timeout] 28))
  have HQ1 := Lib.hid hq1
  have hq2 : (((w.alloc (.cells #[.slice (some ⟨b1, o1, none⟩) P.thr.length cp, .slice A2 P.obj.length c2] 25)).alloc (.cells #[.int .i64 c.kind, .int .i64 c.handle, .int .i64 c.a, .int .i64 c.b, .slice A3 n3 c3, .int .i64 c.timeout] 28)).alloc (.cells #[.int .i64 P.thr[t].prio, .int .u32 P.thr[t].caps, .bool P.thr[t].control, .slice A5 P.thr[t].prog.length c5] 105)).heap[w.heap.size + 1 + 1]? = some (.cells #[.int .i64 P.thr[t].prio, .int .u32 P.thr[t].caps, .bool P.thr[t].control, .slice A5 P.thr[t].prog.length c5] 105 (0, 0)) := by
    have h := heap_alloc_new ((w.alloc (.cells #[.slice (some ⟨b1, o1, none⟩) P.thr.length cp, .slice A2 P.obj.length c2] 25)).alloc (.cells #[.int .i64 c.kind, .int .i64 c.handle, .int .i64 c.a, .int .i64 c.b, .slice A3 n3 c3, .int .i64 c.timeout] 28)) (.cells #[.int .i64 P.thr[t].prio, .int .u32 P.thr[t].caps, .bool P.thr[t].control, .slice A5 P.thr[t].prog.length c5] 105)
    rw [show ((w.alloc (.cells #[.slice (some ⟨b1, o1, none⟩) P.thr.length cp, .slice A2 P.obj.length c2] 25)).alloc (.cells #[.int .i64 c.kind, .int .i64 c.handle, .int .i64 c.a, .int .i64 c.b, .slice A3 n3 c3, .int .i64 c.timeout] 28)).heap.size = w.heap.size + 1 + 1 from by simp] at h
    exact h
  have HQ2 := Lib.hid hq2
  clear hB0 hq1 hq2
  have hcx := hcap _ (List.getElem_mem ht)
  obtain ⟨hx0, hx1⟩ := hcx
  cases hb : hasObjB P c with
  | true =>
    have HO' := Lib.hid (fun W hB => HO.out W hB (some ⟨b1, o1, none⟩) P.thr.length cp true hb)
    rw [hb, if_pos rfl] at HV
    have hob : 0 ≤ objIx c ∧ objIx c < 31 := by simp [hasObjB] at hb; unfold objIx at hb ⊢; omega
    obtain ⟨i0, i1⟩ := hob
    clear HO hb
    generalize objIx c = x at *
    generalize P.thr[t].caps = caps at *
    go_enter Tryz.func76, Tryz.ntmps76
    go_wp2_with fail
    go_at_call 58
    refine (HO'.out _ HB0.out).mono ?_
    rintro e w1 ⟨rfl, hb1⟩
    have q1 := fun k => (World.cell?_of_block (a := ⟨w.heap.size + 1, k, none⟩) (hb1.block (w.heap.size + 1) (by simp <;> omega))).trans (row_of HQ1.out k)
    have p1 := fun k => (World.cell?_of_block (a := ⟨w.heap.size + 1 + 1, k, none⟩) (hb1.block (w.heap.size + 1 + 1) (by simp))).trans (row_of HQ2.out k)
    have z1 : w.heap.size + 1 + 1 < w1.heap.size := by have := hb1.size; simp at this; omega
    have HB1 := Lib.hid (below_end HB0.out (Nat.le_refl _) hb1)
    clear hb1 HO'
    go_wp2_with fail
    go_ret
    exact ⟨by rw [HV.out]; rfl, HB1.out⟩
  | false =>
    have HO' := Lib.hid (fun W hB => HO.out W hB (some ⟨b1, o1, none⟩) P.thr.length cp false hb)
    rw [hb, if_neg (by decide)] at HV
    simp only [Bool.false_eq_true, if_false] at HO'
    clear HO hb
    generalize P.thr[t].caps = caps at *
    cases hth : threadedB c.kind with
    | false =>
      rw [hth] at HT HV
      clear hth
      go_enter Tryz.func76, Tryz.ntmps76
      go_wp2_with fail
      go_at_call 58
      refine (HO'.out _ HB0.out).mono ?_
      rintro e w1 ⟨rfl, hb1⟩
      have q1 := fun k => (World.cell?_of_block (a := ⟨w.heap.size + 1, k, none⟩) (hb1.block (w.heap.size + 1) (by simp <;> omega))).trans (row_of HQ1.out k)
      have p1 := fun k => (World.cell?_of_block (a := ⟨w.heap.size + 1 + 1, k, none⟩) (hb1.block (w.heap.size + 1 + 1) (by simp))).trans (row_of HQ2.out k)
      have z1 : w.heap.size + 1 + 1 < w1.heap.size := by have := hb1.size; simp at this; omega
      have HB1 := Lib.hid (below_end HB0.out (Nat.le_refl _) hb1)
      clear hb1 HO'
      go_wp2_with (go_at_call 138; refine (HT.out _).mono ?_; rintro e wq ⟨rfl, rfl⟩)
      go_ret
      exact ⟨by rw [HV.out]; simp, HB1.out⟩
    | true =>
      rw [hth] at HT HV
      clear hth
      cases hht : (c.handle == (t : Int)) with
      | true =>
        rw [hht] at HV
        go_enter Tryz.func76, Tryz.ntmps76
        go_wp2_with fail
        go_at_call 58
        refine (HO'.out _ HB0.out).mono ?_
        rintro e w1 ⟨rfl, hb1⟩
        have q1 := fun k => (World.cell?_of_block (a := ⟨w.heap.size + 1, k, none⟩) (hb1.block (w.heap.size + 1) (by simp <;> omega))).trans (row_of HQ1.out k)
        have p1 := fun k => (World.cell?_of_block (a := ⟨w.heap.size + 1 + 1, k, none⟩) (hb1.block (w.heap.size + 1 + 1) (by simp))).trans (row_of HQ2.out k)
        have z1 : w.heap.size + 1 + 1 < w1.heap.size := by have := hb1.size; simp at this; omega
        have HB1 := Lib.hid (below_end HB0.out (Nat.le_refl _) hb1)
        clear hb1 HO'
        go_wp2_with (go_at_call 138; refine (HT.out _).mono ?_; rintro e wq ⟨rfl, rfl⟩)
        go_ret
        exact ⟨by rw [HV.out]; simp, HB1.out⟩
      | false =>
        rw [hht] at HV
        go_enter Tryz.func76, Tryz.ntmps76
        go_wp2_with fail
        go_at_call 58
        refine (HO'.out _ HB0.out).mono ?_
        rintro e w1 ⟨rfl, hb1⟩
        have q1 := fun k => (World.cell?_of_block (a := ⟨w.heap.size + 1, k, none⟩) (hb1.block (w.heap.size + 1) (by simp <;> omega))).trans (row_of HQ1.out k)
        have p1 := fun k => (World.cell?_of_block (a := ⟨w.heap.size + 1 + 1, k, none⟩) (hb1.block (w.heap.size + 1 + 1) (by simp))).trans (row_of HQ2.out k)
        have z1 : w.heap.size + 1 + 1 < w1.heap.size := by have := hb1.size; simp at this; omega
        have HB1 := Lib.hid (below_end HB0.out (Nat.le_refl _) hb1)
        clear hb1 HO'
        go_wp2_with (go_at_call 138; refine (HT.out _).mono ?_; rintro e wq ⟨rfl, rfl⟩)
        go_ret
        exact ⟨by rw [HV.out]; simp, HB1.out⟩

/-- What is wrong with a call of thread 't'. -/
def checkV (P : PartD) (t : Nat) (c : CallD) : Int :=
  if (decide (0 ≤ c.kind) && decide (c.kind < 24)) = false then 3 else if (meansB c.kind && !hasObjB P c) = true then 5 else if rightCB P c = false then 1 else if mayCB P t c = false then 4 else 0

set_option maxRecDepth 100000 in
set_option maxHeartbeats 6400000 in
theorem checkG_any (P : PartD) (c : CallD) (F F2 : Nat → Prop) (v1 v2 wv : Value) (w : World) (t : Nat) (ht : t < P.thr.length) (hn : P.thr.length ≤ 100000) (ho : P.obj.length ≤ 31) (hcap : CapsOk P.thr) (hwl : c.words.length ≤ 100000) (h : ThreadsAt w F v1 P.thr) (h2 : ObjsAt w F v2 P.obj) (hw : IntsAt w F2 wv c.words) :
    Calls Tryz.prog 26 #[.agg #[v1, v2], .int .i64 t, .agg (callCells c wv).toArray] w fun e w' => e = .returned (.int .i64 (checkV P t c)) ∧ Below w.heap.size w w' := by
  obtain ⟨A3, c3, rfl⟩ := IntsAt.slice hw
  obtain ⟨A1, c1, rfl⟩ := h.slice
  have HO := Lib.hid (fun (W : World) (hb : Below w.heap.size w W) b hb' => objectG_any P c F v2 W (by omega) (ObjsAt.kept (w' := W) (fun k hk _ => hb.block k hk) h2) A1 P.thr.length c1 A3 c.words.length c3 b hb')
  have HY := Lib.hid (fun (W : World) (hb : Below w.heap.size w W) => mayG_any P c F _ v2 W t ht hn ho hcap (h.kept (w' := W) (fun k hk _ => hb.block k hk)) (ObjsAt.kept (w' := W) (fun k hk _ => hb.block k hk) h2) A3 c.words.length c3)
  obtain ⟨A2, c2, rfl⟩ := ObjsAt.slice h2
  have HR := Lib.hid (fun (W : World) => rightG_any P c W hn hwl A1 A2 c1 P.obj.length c2 A3 c3 _ rfl)
  have HI := Lib.hid (callIs_any c.kind _ rfl)
  have HM := Lib.hid (callMeans_any c.kind (meansB c.kind) rfl)
  have ht0 : (0 : Int) ≤ (t : Int) := by omega
  have ht1 : ¬ (P.thr.length : Int) ≤ (t : Int) := by omega
  have ht2 : (t : Int) < (P.thr.length : Int) := by omega
  have HV : Hid (checkV P t c = if (decide (0 ≤ c.kind) && decide (c.kind < 24)) = false then 3 else if (meansB c.kind && !hasObjB P c) = true then 5 else if rightCB P c = false then 1 else if mayCB P t c = false then 4 else 0) := Lib.hid rfl
  generalize checkV P t c = R at *
  clear h h2 hw
  simp only [callCells] at HO HR HY ⊢
  have hB0 := ((Below.refl w.heap.size w).alloc (Nat.le_refl _) (.cells #[.slice A1 P.thr.length c1, .slice A2 P.obj.length c2] 25)).alloc (by simp) (.cells #[.int .i64 c.kind, .int .i64 c.handle, .int .i64 c.a, .int .i64 c.b, .slice A3 c.words.length c3, .int .i64 c.timeout] 28)
  have HB0 := Lib.hid hB0
  have HQ := Lib.hid (two_second w (.cells #[.slice A1 P.thr.length c1, .slice A2 P.obj.length c2] 25) (.cells #[.int .i64 c.kind, .int .i64 c.handle, .int .i64 c.a, .int .i64 c.b, .slice A3 c.words.length c3, .int .i64 c.timeout] 28))
  have HP := Lib.hid (two_first w (.cells #[.slice A1 P.thr.length c1, .slice A2 P.obj.length c2] 25) (.cells #[.int .i64 c.kind, .int .i64 c.handle, .int .i64 c.a, .int .i64 c.b, .slice A3 c.words.length c3, .int .i64 c.timeout] 28))
  clear hB0
  have hO' := fun W hB => HO.out W hB _ rfl
  have HO' := Lib.hid hO'
  clear hO' HO
  generalize (if hasObjB P c = true then objIx c else 0) = xo at *
  generalize hasObjB P c = ob at *
  generalize meansB c.kind = me at *
  generalize rightCB P c = rg at *
  generalize mayCB P t c = my at *
  generalize (decide (0 ≤ c.kind) && decide (c.kind < 24)) = is at *
  go_enter Tryz.func26, Tryz.ntmps26
  go_wp2_with fail
  go_at_call 58
  refine (HO'.out _ HB0.out).mono ?_
  rintro e w1 ⟨rfl, hb1⟩
  have hs1 := hb1.size
  have q1 := fun k => (World.cell?_of_block (a := ⟨w.heap.size + 1, k, none⟩) (hb1.block (w.heap.size + 1) (by simp <;> omega))).trans (row_of HQ.out k)
  have p1 := fun k => (World.cell?_of_block (a := ⟨w.heap.size, k, none⟩) (hb1.block w.heap.size (by simp <;> omega))).trans (row_of HP.out k)
  have z1 : w.heap.size + 1 < w1.heap.size := by simp at hs1; omega
  have z0 : w.heap.size < w1.heap.size := by omega
  have HB1 := Lib.hid (below_end HB0.out (Nat.le_refl _) hb1)
  clear hb1 hs1
  have fin : ∀ x W, Below w.heap.size w W → R = x → (Ending.returned (.int .i64 x) = Ending.returned (.int .i64 R) ∧ Below w.heap.size w W) := fun x W hb e => ⟨by rw [e], hb⟩
  have Fin := Lib.hid fin
  clear fin
  cases is with
  | false =>
    go_wp2_with (first | (go_at_call 73; refine (HI.out _).mono ?_; rintro e wq ⟨rfl, rfl⟩))
    go_ret
    exact Fin.out _ _ HB1.out (by rw [HV.out]; rfl)
  | true =>
    cases hmo : (me && !ob) with
    | true =>
      obtain ⟨rfl, rfl⟩ : me = true ∧ ob = false := by cases me <;> cases ob <;> simp_all
      go_wp2_with (first | (go_at_call 73; refine (HI.out _).mono ?_; rintro e wq ⟨rfl, rfl⟩) | (go_at_call 74; refine (HM.out _).mono ?_; rintro e wq ⟨rfl, rfl⟩))
      go_ret
      exact Fin.out _ _ HB1.out (by rw [HV.out]; rfl)
    | false =>
      rw [hmo] at HV
      have cs : me = false ∨ me = true ∧ ob = true := by cases me <;> cases ob <;> simp_all
      clear hmo
      rcases cs with rfl | ⟨rfl, rfl⟩
      · go_wp2_with (first | (go_at_call 73; refine (HI.out _).mono ?_; rintro e wq ⟨rfl, rfl⟩) | (go_at_call 74; refine (HM.out _).mono ?_; rintro e wq ⟨rfl, rfl⟩))
        go_at_call 75
        refine (HR.out _).mono ?_
        rintro e w2 ⟨rfl, hb2⟩
        have q2 := fun k => (World.cell?_of_block (a := ⟨w.heap.size + 1, k, none⟩) (hb2.block (w.heap.size + 1) z1)).trans (q1 k)
        have p2 := fun k => (World.cell?_of_block (a := ⟨w.heap.size, k, none⟩) (hb2.block w.heap.size z0)).trans (p1 k)
        have y1 := Nat.lt_of_lt_of_le z1 hb2.size
        have y0 := Nat.lt_of_lt_of_le z0 hb2.size
        have HB2 := Lib.hid (below_end HB1.out (Nat.le_refl _) hb2)
        clear hb2
        cases rg with
        | false =>
          go_wp2
          go_ret
          exact Fin.out _ _ HB2.out (by rw [HV.out]; rfl)
        | true =>
          go_wp2_with fail
          go_at_call 76
          refine (HY.out _ HB2.out).mono ?_
          rintro e w3 ⟨rfl, hb3⟩
          have HB3 := Lib.hid (below_end HB2.out (Nat.le_refl _) hb3)
          clear hb3
          cases my with
          | false =>
            go_wp2
            go_ret
            exact Fin.out _ _ HB3.out (by rw [HV.out]; rfl)
          | true =>
            go_wp2
            go_ret
            exact Fin.out _ _ HB3.out (by rw [HV.out]; rfl)
      · go_wp2_with (first | (go_at_call 73; refine (HI.out _).mono ?_; rintro e wq ⟨rfl, rfl⟩) | (go_at_call 74; refine (HM.out _).mono ?_; rintro e wq ⟨rfl, rfl⟩))
        go_at_call 75
        refine (HR.out _).mono ?_
        rintro e w2 ⟨rfl, hb2⟩
        have q2 := fun k => (World.cell?_of_block (a := ⟨w.heap.size + 1, k, none⟩) (hb2.block (w.heap.size + 1) z1)).trans (q1 k)
        have p2 := fun k => (World.cell?_of_block (a := ⟨w.heap.size, k, none⟩) (hb2.block w.heap.size z0)).trans (p1 k)
        have y1 := Nat.lt_of_lt_of_le z1 hb2.size
        have y0 := Nat.lt_of_lt_of_le z0 hb2.size
        have HB2 := Lib.hid (below_end HB1.out (Nat.le_refl _) hb2)
        clear hb2
        cases rg with
        | false =>
          go_wp2
          go_ret
          exact Fin.out _ _ HB2.out (by rw [HV.out]; rfl)
        | true =>
          go_wp2_with fail
          go_at_call 76
          refine (HY.out _ HB2.out).mono ?_
          rintro e w3 ⟨rfl, hb3⟩
          have HB3 := Lib.hid (below_end HB2.out (Nat.le_refl _) hb3)
          clear hb3
          cases my with
          | false =>
            go_wp2
            go_ret
            exact Fin.out _ _ HB3.out (by rw [HV.out]; rfl)
          | true =>
            go_wp2
            go_ret
            exact Fin.out _ _ HB3.out (by rw [HV.out]; rfl)
end Go.Proofs.YtefbdcmodfbpbaaGreat
