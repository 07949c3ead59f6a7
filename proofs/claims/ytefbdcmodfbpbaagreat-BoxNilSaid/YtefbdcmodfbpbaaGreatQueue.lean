/-
  Queues, as programs over words, and the walks of their functions. (Printed by gen_queue.py.)
-/
import Derived.Test.YtefbdcmodfbpbaaGreatList
import Derived.Test.YtefbdcmodfbpbaaGreatBits
set_option linter.unusedVariables false
set_option linter.unusedSimpArgs false
namespace Go.Proofs.YtefbdcmodfbpbaaGreat
open Go.RowKit

def levelB (p : Int) : Bool := decide (0 ≤ p) && decide (p < 16)
theorem levelB_ok {p : Int} (h : levelB p = true) : 0 ≤ p ∧ p < 16 := by simpa [levelB] using h
theorem level_any (p : Int) (b : Bool) (hb : levelB p = b) (w : World) :
    Calls Tryz.prog 282 #[.int .i64 p] w fun e w' => e = .returned (.bool b) ∧ w = w' := by
  unfold levelB at hb
  by_cases h : 0 ≤ p
  · by_cases h2 : p < 16
    · have e : b = true := by rw [← hb]; simp [h, h2]
      subst e
      clear hb
      go_enter Tryz.func282, Tryz.ntmps282
      go_wp2
      go_ret
      exact ⟨by simp, rfl⟩
    · have e : b = false := by rw [← hb]; simp [h2]
      subst e
      clear hb
      go_enter Tryz.func282, Tryz.ntmps282
      go_wp2
      go_ret
      exact ⟨by simp, rfl⟩
  · have e : b = false := by rw [← hb]; simp [h]
    subst e
    clear hb
    go_enter Tryz.func282, Tryz.ntmps282
    go_wp2
    go_ret
    exact ⟨by simp, rfl⟩
def qHead (a p : Int) : Int := wrap64 (wrap64 (a + 1) + wrap64 (p * 2))
theorem qhead_any (a p : Int) (w : World) :
    Calls Tryz.prog 275 #[.int .i64 a, .int .i64 p] w fun e w' => e = .returned (.int .i64 (qHead a p)) ∧ w = w' := by
  go_enter Tryz.func275, Tryz.ntmps275
  go_wp2
  go_ret
  exact ⟨rfl, rfl⟩

def kMark (a : Int) (p : Int) (on : Bool) : Prog Unit := do
  if on then do
    let v ← ld a
    st a (bits .or .i64 v (wrap64 (2 ^ p.toNat)))
    pure ()
  else do
    let v ← ld a
    st a (bits .andNot .i64 v (wrap64 (2 ^ p.toNat)))
    pure ()
set_option maxRecDepth 100000 in
set_option maxHeartbeats 800000 in
theorem mark_any (a : Int) (p : Int) (on : Bool) (h_a : I64 a) (h_p : I64 p) (p0 : 0 ≤ p) (p1 : p < 16) (w : World) (g : FG) (sl : Value) (s : FS) (hF : Fr w g sl s) (s' : FS) (hx : exec (kMark a p on) s = some ((), s')) :
    Calls Tryz.prog 343 #[.pointer (some ⟨g.fb, 0, none⟩), .int .i64 a, .int .i64 p, .bool on] w fun e w' => (True) ∧ Posts g sl s' w (.tuple #[]) e w' := by
  have w_a : wrap64 a = a := wrap64_i64 h_a
  have w_p : wrap64 p = p := wrap64_i64 h_p
  have HF0 := Lib.hid hF
  have HE0 := Lib.hid (Ev.refl g sl w)
  have HI_a := Lib.hid h_a
  have HI_p := Lib.hid h_p
  clear hF h_a h_p
  unfold kMark at hx
  cases hc1 : on with
  | true =>
    have hx := exec_tt hc1 hx
    obtain ⟨v, s1, x1, hx⟩ := exec_bind_some hx
    have X1 := Lib.hid x1
    clear x1
    obtain ⟨_, s2, x2, hx⟩ := exec_bind_some hx
    have X2 := Lib.hid x2
    clear x2
    obtain ⟨-, rfl⟩ := exec_pure hx
    clear hx
    go_enter Tryz.func343, Tryz.ntmps343
    go_wp2_with fail
    go_at_call 216
    refine (kload a _ g _ _ HF0.out _ _ X1.out).mono ?_
    rintro e w1 ⟨hi_v, rfl, sl1, hF1, hE1⟩
    have HF1 := Lib.hid hF1
    have HE1 := Lib.hid (HE0.out.trans hE1)
    have w_v : wrap64 v = v := wrap64_i64 hi_v
    have HI_v := Lib.hid hi_v
    clear hF1 hE1 hi_v
    go_wp2_with fail
    go_at_call 209
    refine (kstore a (bits .or .i64 v (wrap64 (2 ^ p.toNat))) (bits_i64 _ _ _) _ g _ _ HF1.out _ X2.out).mono ?_
    rintro e w2 ⟨_, rfl, sl2, hF2, hE2⟩
    have HF2 := Lib.hid hF2
    have HE2 := Lib.hid (HE1.out.trans hE2)
    clear hF2 hE2
    go_wp2
    first | go_end0 | ((try simp only [Exit.inBlock, Exit.then]); refine bodyPost_ret (results_none rfl _ _ _) rfl ?_)
    exact ⟨trivial, by simp, sl2, HF2.out, HE2.out⟩
  | false =>
    have hx := exec_ff hc1 hx
    obtain ⟨v, s1, x1, hx⟩ := exec_bind_some hx
    have X1 := Lib.hid x1
    clear x1
    obtain ⟨_, s2, x2, hx⟩ := exec_bind_some hx
    have X2 := Lib.hid x2
    clear x2
    obtain ⟨-, rfl⟩ := exec_pure hx
    clear hx
    go_enter Tryz.func343, Tryz.ntmps343
    go_wp2_with fail
    go_at_call 216
    refine (kload a _ g _ _ HF0.out _ _ X1.out).mono ?_
    rintro e w1 ⟨hi_v, rfl, sl1, hF1, hE1⟩
    have HF1 := Lib.hid hF1
    have HE1 := Lib.hid (HE0.out.trans hE1)
    have w_v : wrap64 v = v := wrap64_i64 hi_v
    have HI_v := Lib.hid hi_v
    clear hF1 hE1 hi_v
    go_wp2_with fail
    go_at_call 209
    refine (kstore a (bits .andNot .i64 v (wrap64 (2 ^ p.toNat))) (bits_i64 _ _ _) _ g _ _ HF1.out _ X2.out).mono ?_
    rintro e w2 ⟨_, rfl, sl2, hF2, hE2⟩
    have HF2 := Lib.hid hF2
    have HE2 := Lib.hid (HE1.out.trans hE2)
    clear hF2 hE2
    go_wp2
    first | go_end0 | ((try simp only [Exit.inBlock, Exit.then]); refine bodyPost_ret (results_none rfl _ _ _) rfl ?_)
    exact ⟨trivial, by simp, sl2, HF2.out, HE2.out⟩
def kQAdd (a : Int) (n : Int) (p : Int) : Prog Unit := do
  if levelB p then do
    kAppend (qHead a p) n
    kMark a p true
    pure ()
  else do
    pure ()
set_option maxRecDepth 100000 in
set_option maxHeartbeats 800000 in
theorem qAdd_any (a : Int) (n : Int) (p : Int) (h_a : I64 a) (h_n : I64 n) (h_p : I64 p)  (w : World) (g : FG) (sl : Value) (s : FS) (hF : Fr w g sl s) (s' : FS) (hx : exec (kQAdd a n p) s = some ((), s')) :
    Calls Tryz.prog 276 #[.pointer (some ⟨g.fb, 0, none⟩), .int .i64 a, .int .i64 n, .int .i64 p] w fun e w' => (True) ∧ Posts g sl s' w (.tuple #[]) e w' := by
  have w_a : wrap64 a = a := wrap64_i64 h_a
  have w_n : wrap64 n = n := wrap64_i64 h_n
  have w_p : wrap64 p = p := wrap64_i64 h_p
  have HF0 := Lib.hid hF
  have HE0 := Lib.hid (Ev.refl g sl w)
  have HI_a := Lib.hid h_a
  have HI_n := Lib.hid h_n
  have HI_p := Lib.hid h_p
  clear hF h_a h_n h_p
  unfold kQAdd at hx
  cases hl : levelB p with
  | true =>
    have hx := exec_tt hl hx
    obtain ⟨p0, p1⟩ := levelB_ok hl
    obtain ⟨_, s1, x1, hx⟩ := exec_bind_some hx
    have X1 := Lib.hid x1
    clear x1
    obtain ⟨_, s2, x2, hx⟩ := exec_bind_some hx
    have X2 := Lib.hid x2
    clear x2
    obtain ⟨-, rfl⟩ := exec_pure hx
    clear hx
    go_enter Tryz.func276, Tryz.ntmps276
    go_wp2_with fail
    go_at_call 282
    refine (level_any p true hl _).mono ?_
    rintro e wq ⟨rfl, rfl⟩
    go_wp2_with fail
    go_at_call 275
    refine (qhead_any a p _).mono ?_
    rintro e wq ⟨rfl, rfl⟩
    go_wp2_with fail
    go_at_call 342
    refine (append_any (qHead a p) n (i64_wrap64 _) HI_n.out _ g _ _ HF0.out _ X1.out).mono ?_
    rintro e w1 ⟨_, rfl, sl1, hF1, hE1⟩
    have HF1 := Lib.hid hF1
    have HE1 := Lib.hid (HE0.out.trans hE1)
    clear hF1 hE1
    go_wp2_with fail
    go_at_call 343
    refine (mark_any a p true HI_a.out HI_p.out p0 p1 _ g _ _ HF1.out _ X2.out).mono ?_
    rintro e w2 ⟨_, rfl, sl2, hF2, hE2⟩
    have HF2 := Lib.hid hF2
    have HE2 := Lib.hid (HE1.out.trans hE2)
    clear hF2 hE2
    go_wp2
    first | go_end0 | ((try simp only [Exit.inBlock, Exit.then]); refine bodyPost_ret (results_none rfl _ _ _) rfl ?_)
    exact ⟨trivial, by simp, sl2, HF2.out, HE2.out⟩
  | false =>
    have hx := exec_ff hl hx
    obtain ⟨-, rfl⟩ := exec_pure hx
    clear hx
    go_enter Tryz.func276, Tryz.ntmps276
    go_wp2_with fail
    go_at_call 282
    refine (level_any p false hl _).mono ?_
    rintro e wq ⟨rfl, rfl⟩
    go_wp2
    first | go_end0 | ((try simp only [Exit.inBlock, Exit.then]); refine bodyPost_ret (results_none rfl _ _ _) rfl ?_)
    exact ⟨trivial, by simp, sl, HF0.out, HE0.out⟩
def kBelow (a : Int) (p : Int) : Prog (Int × Int × Bool) := do
  let v ← ld a
  let o ← isOff
  if o then do
    pure (0, 0, false)
  else do
    if qMask v p == 0 then do
      pure (0, 0, false)
    else do
      let (n, ok) ← kFirst (qHead a (wrap64 (bitLen (qMask v p) - 1)))
      if ok then do
        pure (n, wrap64 (bitLen (qMask v p) - 1), true)
      else do
        pure (0, 0, false)
set_option maxRecDepth 100000 in
set_option maxHeartbeats 800000 in
theorem below_any (a : Int) (p : Int) (h_a : I64 a) (h_p : I64 p) (p0 : 0 ≤ p) (p1 : p ≤ 16) (w : World) (g : FG) (sl : Value) (s : FS) (hF : Fr w g sl s) (r : (Int × Int × Bool)) (s' : FS) (hx : exec (kBelow a p) s = some (r, s')) :
    Calls Tryz.prog 278 #[.pointer (some ⟨g.fb, 0, none⟩), .int .i64 a, .int .i64 p] w fun e w' => (I64 r.1 ∧ I64 r.2.1) ∧ Posts g sl s' w (.tuple #[.int .i64 (r.1), .int .i64 (r.2.1), .bool (r.2.2)]) e w' := by
  have w_a : wrap64 a = a := wrap64_i64 h_a
  have w_p : wrap64 p = p := wrap64_i64 h_p
  have HF0 := Lib.hid hF
  have HE0 := Lib.hid (Ev.refl g sl w)
  have HI_a := Lib.hid h_a
  have HI_p := Lib.hid h_p
  clear hF h_a h_p
  unfold kBelow at hx
  obtain ⟨v, s1, x1, hx⟩ := exec_bind_some hx
  have X1 := Lib.hid x1
  clear x1
  obtain ⟨o, s2, x2, hx⟩ := exec_bind_some hx
  have X2 := Lib.hid x2
  clear x2
  cases hc1 : o with
  | true =>
    have hx := exec_tt hc1 hx
    obtain ⟨rfl, rfl⟩ := exec_pure hx
    clear hx
    go_enter Tryz.func278, Tryz.ntmps278
    go_wp2_with fail
    go_at_call 216
    refine (kload a _ g _ _ HF0.out _ _ X1.out).mono ?_
    rintro e w1 ⟨hi_v, rfl, sl1, hF1, hE1⟩
    have HF1 := Lib.hid hF1
    have HE1 := Lib.hid (HE0.out.trans hE1)
    have w_v : wrap64 v = v := wrap64_i64 hi_v
    have HI_v := Lib.hid hi_v
    clear hF1 hE1 hi_v
    go_wp2_with fail
    go_at_call 146
    refine (koff  _ g _ _ HF1.out _ _ X2.out).mono ?_
    rintro e w2 ⟨_, rfl, sl2, hF2, hE2⟩
    have HF2 := Lib.hid hF2
    have HE2 := Lib.hid (HE1.out.trans hE2)
    clear hF2 hE2
    go_wp2
    go_ret3
    exact ⟨⟨(i64_small (by omega) (by omega)), (i64_small (by omega) (by omega))⟩, by simp, sl2, HF2.out, HE2.out⟩
  | false =>
    have hx := exec_ff hc1 hx
    cases hz : qMask v p == 0 with
    | true =>
      have hx := exec_tt hz hx
      unfold qMask at hz
      obtain ⟨rfl, rfl⟩ := exec_pure hx
      clear hx
      go_enter Tryz.func278, Tryz.ntmps278
      go_wp2_with fail
      go_at_call 216
      refine (kload a _ g _ _ HF0.out _ _ X1.out).mono ?_
      rintro e w1 ⟨hi_v, rfl, sl1, hF1, hE1⟩
      have HF1 := Lib.hid hF1
      have HE1 := Lib.hid (HE0.out.trans hE1)
      have w_v : wrap64 v = v := wrap64_i64 hi_v
      have HI_v := Lib.hid hi_v
      clear hF1 hE1 hi_v
      go_wp2_with fail
      go_at_call 146
      refine (koff  _ g _ _ HF1.out _ _ X2.out).mono ?_
      rintro e w2 ⟨_, rfl, sl2, hF2, hE2⟩
      have HF2 := Lib.hid hF2
      have HE2 := Lib.hid (HE1.out.trans hE2)
      clear hF2 hE2
      go_wp2
      go_ret3
      exact ⟨⟨(i64_small (by omega) (by omega)), (i64_small (by omega) (by omega))⟩, by simp, sl2, HF2.out, HE2.out⟩
    | false =>
      have hx := exec_ff hz hx
      obtain ⟨m0, m1, m2⟩ := qMask_lt v p p0 p1
      unfold qMask at hz
      have M0 := Lib.hid m0
      have M2 := Lib.hid m2
      clear m0 m1 m2
      obtain ⟨⟨n, ok⟩, s3, x3, hx⟩ := exec_bind_some hx
      try dsimp only at hx
      have X3 := Lib.hid x3
      clear x3
      cases hc3 : ok with
      | true =>
        have hx := exec_tt hc3 hx
        obtain ⟨rfl, rfl⟩ := exec_pure hx
        clear hx
        go_enter Tryz.func278, Tryz.ntmps278
        go_wp2_with fail
        go_at_call 216
        refine (kload a _ g _ _ HF0.out _ _ X1.out).mono ?_
        rintro e w1 ⟨hi_v, rfl, sl1, hF1, hE1⟩
        have HF1 := Lib.hid hF1
        have HE1 := Lib.hid (HE0.out.trans hE1)
        have w_v : wrap64 v = v := wrap64_i64 hi_v
        have HI_v := Lib.hid hi_v
        clear hF1 hE1 hi_v
        go_wp2_with fail
        go_at_call 146
        refine (koff  _ g _ _ HF1.out _ _ X2.out).mono ?_
        rintro e w2 ⟨_, rfl, sl2, hF2, hE2⟩
        have HF2 := Lib.hid hF2
        have HE2 := Lib.hid (HE1.out.trans hE2)
        clear hF2 hE2
        go_wp2_with fail
        go_at_call 272
        refine (len64_any (qMask v p) M0.out M2.out _).mono ?_
        rintro e wq ⟨rfl, rfl⟩
        go_wp2_with fail
        go_at_call 275
        refine (qhead_any a (wrap64 (bitLen (qMask v p) - 1)) _).mono ?_
        rintro e wq ⟨rfl, rfl⟩
        go_wp2_with fail
        go_at_call 346
        refine (first_any (qHead a (wrap64 (bitLen (qMask v p) - 1))) (i64_wrap64 _) _ g _ _ HF2.out _ _ X3.out).mono ?_
        rintro e w3 ⟨hi_n, rfl, sl3, hF3, hE3⟩
        have HF3 := Lib.hid hF3
        have HE3 := Lib.hid (HE2.out.trans hE3)
        have w_n : wrap64 n = n := wrap64_i64 hi_n
        have HI_n := Lib.hid hi_n
        clear hF3 hE3 hi_n
        go_wp2
        go_ret3
        exact ⟨⟨HI_n.out, (i64_wrap64 _)⟩, by simp, sl3, HF3.out, HE3.out⟩
      | false =>
        have hx := exec_ff hc3 hx
        obtain ⟨rfl, rfl⟩ := exec_pure hx
        clear hx
        go_enter Tryz.func278, Tryz.ntmps278
        go_wp2_with fail
        go_at_call 216
        refine (kload a _ g _ _ HF0.out _ _ X1.out).mono ?_
        rintro e w1 ⟨hi_v, rfl, sl1, hF1, hE1⟩
        have HF1 := Lib.hid hF1
        have HE1 := Lib.hid (HE0.out.trans hE1)
        have w_v : wrap64 v = v := wrap64_i64 hi_v
        have HI_v := Lib.hid hi_v
        clear hF1 hE1 hi_v
        go_wp2_with fail
        go_at_call 146
        refine (koff  _ g _ _ HF1.out _ _ X2.out).mono ?_
        rintro e w2 ⟨_, rfl, sl2, hF2, hE2⟩
        have HF2 := Lib.hid hF2
        have HE2 := Lib.hid (HE1.out.trans hE2)
        clear hF2 hE2
        go_wp2_with fail
        go_at_call 272
        refine (len64_any (qMask v p) M0.out M2.out _).mono ?_
        rintro e wq ⟨rfl, rfl⟩
        go_wp2_with fail
        go_at_call 275
        refine (qhead_any a (wrap64 (bitLen (qMask v p) - 1)) _).mono ?_
        rintro e wq ⟨rfl, rfl⟩
        go_wp2_with fail
        go_at_call 346
        refine (first_any (qHead a (wrap64 (bitLen (qMask v p) - 1))) (i64_wrap64 _) _ g _ _ HF2.out _ _ X3.out).mono ?_
        rintro e w3 ⟨hi_n, rfl, sl3, hF3, hE3⟩
        have HF3 := Lib.hid hF3
        have HE3 := Lib.hid (HE2.out.trans hE3)
        have w_n : wrap64 n = n := wrap64_i64 hi_n
        have HI_n := Lib.hid hi_n
        clear hF3 hE3 hi_n
        go_wp2
        go_ret3
        exact ⟨⟨(i64_small (by omega) (by omega)), (i64_small (by omega) (by omega))⟩, by simp, sl3, HF3.out, HE3.out⟩
def kQFirst (a : Int) : Prog (Int × Int × Bool) := do
  let (m, p, ok) ← kBelow a 16
  pure (m, p, ok)
set_option maxRecDepth 100000 in
set_option maxHeartbeats 800000 in
theorem qFirst_any (a : Int) (h_a : I64 a)  (w : World) (g : FG) (sl : Value) (s : FS) (hF : Fr w g sl s) (r : (Int × Int × Bool)) (s' : FS) (hx : exec (kQFirst a) s = some (r, s')) :
    Calls Tryz.prog 208 #[.pointer (some ⟨g.fb, 0, none⟩), .int .i64 a] w fun e w' => (I64 r.1 ∧ I64 r.2.1) ∧ Posts g sl s' w (.tuple #[.int .i64 (r.1), .int .i64 (r.2.1), .bool (r.2.2)]) e w' := by
  have w_a : wrap64 a = a := wrap64_i64 h_a
  have HF0 := Lib.hid hF
  have HE0 := Lib.hid (Ev.refl g sl w)
  have HI_a := Lib.hid h_a
  clear hF h_a
  unfold kQFirst at hx
  obtain ⟨⟨m, p, ok⟩, s1, x1, hx⟩ := exec_bind_some hx
  try dsimp only at hx
  have X1 := Lib.hid x1
  clear x1
  obtain ⟨rfl, rfl⟩ := exec_pure hx
  clear hx
  go_enter Tryz.func208, Tryz.ntmps208
  go_wp2_with fail
  go_at_call 278
  refine (below_any a 16 HI_a.out (i64_small (by omega) (by omega)) (by omega) (by omega) _ g _ _ HF0.out _ _ X1.out).mono ?_
  rintro e w1 ⟨⟨hi_m, hi_p⟩, rfl, sl1, hF1, hE1⟩
  have HF1 := Lib.hid hF1
  have HE1 := Lib.hid (HE0.out.trans hE1)
  have w_m : wrap64 m = m := wrap64_i64 hi_m
  have HI_m := Lib.hid hi_m
  have w_p : wrap64 p = p := wrap64_i64 hi_p
  have HI_p := Lib.hid hi_p
  clear hF1 hE1 hi_m hi_p
  go_wp2
  go_ret3
  exact ⟨⟨HI_m.out, HI_p.out⟩, by simp, sl1, HF1.out, HE1.out⟩
def kQAfter (a : Int) (n : Int) (p : Int) : Prog (Int × Int × Bool) := do
  if levelB p then do
    let (m, ok) ← kNext (qHead a p) n
    let o ← isOff
    if o then do
      pure (0, 0, false)
    else do
      if ok then do
        pure (m, p, true)
      else do
        let (m2, p2, ok2) ← kBelow a p
        pure (m2, p2, ok2)
  else do
    pure (0, 0, false)
set_option maxRecDepth 100000 in
set_option maxHeartbeats 800000 in
theorem qAfter_any (a : Int) (n : Int) (p : Int) (h_a : I64 a) (h_n : I64 n) (h_p : I64 p)  (w : World) (g : FG) (sl : Value) (s : FS) (hF : Fr w g sl s) (r : (Int × Int × Bool)) (s' : FS) (hx : exec (kQAfter a n p) s = some (r, s')) :
    Calls Tryz.prog 211 #[.pointer (some ⟨g.fb, 0, none⟩), .int .i64 a, .int .i64 n, .int .i64 p] w fun e w' => (I64 r.1 ∧ I64 r.2.1) ∧ Posts g sl s' w (.tuple #[.int .i64 (r.1), .int .i64 (r.2.1), .bool (r.2.2)]) e w' := by
  have w_a : wrap64 a = a := wrap64_i64 h_a
  have w_n : wrap64 n = n := wrap64_i64 h_n
  have w_p : wrap64 p = p := wrap64_i64 h_p
  have HF0 := Lib.hid hF
  have HE0 := Lib.hid (Ev.refl g sl w)
  have HI_a := Lib.hid h_a
  have HI_n := Lib.hid h_n
  have HI_p := Lib.hid h_p
  clear hF h_a h_n h_p
  unfold kQAfter at hx
  cases hl : levelB p with
  | true =>
    have hx := exec_tt hl hx
    obtain ⟨p0, p1⟩ := levelB_ok hl
    obtain ⟨⟨m, ok⟩, s1, x1, hx⟩ := exec_bind_some hx
    try dsimp only at hx
    have X1 := Lib.hid x1
    clear x1
    obtain ⟨o, s2, x2, hx⟩ := exec_bind_some hx
    have X2 := Lib.hid x2
    clear x2
    cases hc2 : o with
    | true =>
      have hx := exec_tt hc2 hx
      obtain ⟨rfl, rfl⟩ := exec_pure hx
      clear hx
      go_enter Tryz.func211, Tryz.ntmps211
      go_wp2_with fail
      go_at_call 282
      refine (level_any p true hl _).mono ?_
      rintro e wq ⟨rfl, rfl⟩
      go_wp2_with fail
      go_at_call 275
      refine (qhead_any a p _).mono ?_
      rintro e wq ⟨rfl, rfl⟩
      go_wp2_with fail
      go_at_call 283
      refine (next_any (qHead a p) n (i64_wrap64 _) HI_n.out _ g _ _ HF0.out _ _ X1.out).mono ?_
      rintro e w1 ⟨hi_m, rfl, sl1, hF1, hE1⟩
      have HF1 := Lib.hid hF1
      have HE1 := Lib.hid (HE0.out.trans hE1)
      have w_m : wrap64 m = m := wrap64_i64 hi_m
      have HI_m := Lib.hid hi_m
      clear hF1 hE1 hi_m
      go_wp2_with fail
      go_at_call 146
      refine (koff  _ g _ _ HF1.out _ _ X2.out).mono ?_
      rintro e w2 ⟨_, rfl, sl2, hF2, hE2⟩
      have HF2 := Lib.hid hF2
      have HE2 := Lib.hid (HE1.out.trans hE2)
      clear hF2 hE2
      go_wp2
      go_ret3
      exact ⟨⟨(i64_small (by omega) (by omega)), (i64_small (by omega) (by omega))⟩, by simp, sl2, HF2.out, HE2.out⟩
    | false =>
      have hx := exec_ff hc2 hx
      cases hc3 : ok with
      | true =>
        have hx := exec_tt hc3 hx
        obtain ⟨rfl, rfl⟩ := exec_pure hx
        clear hx
        go_enter Tryz.func211, Tryz.ntmps211
        go_wp2_with fail
        go_at_call 282
        refine (level_any p true hl _).mono ?_
        rintro e wq ⟨rfl, rfl⟩
        go_wp2_with fail
        go_at_call 275
        refine (qhead_any a p _).mono ?_
        rintro e wq ⟨rfl, rfl⟩
        go_wp2_with fail
        go_at_call 283
        refine (next_any (qHead a p) n (i64_wrap64 _) HI_n.out _ g _ _ HF0.out _ _ X1.out).mono ?_
        rintro e w1 ⟨hi_m, rfl, sl1, hF1, hE1⟩
        have HF1 := Lib.hid hF1
        have HE1 := Lib.hid (HE0.out.trans hE1)
        have w_m : wrap64 m = m := wrap64_i64 hi_m
        have HI_m := Lib.hid hi_m
        clear hF1 hE1 hi_m
        go_wp2_with fail
        go_at_call 146
        refine (koff  _ g _ _ HF1.out _ _ X2.out).mono ?_
        rintro e w2 ⟨_, rfl, sl2, hF2, hE2⟩
        have HF2 := Lib.hid hF2
        have HE2 := Lib.hid (HE1.out.trans hE2)
        clear hF2 hE2
        go_wp2
        go_ret3
        exact ⟨⟨HI_m.out, HI_p.out⟩, by simp, sl2, HF2.out, HE2.out⟩
      | false =>
        have hx := exec_ff hc3 hx
        obtain ⟨⟨m2, p2, ok2⟩, s3, x3, hx⟩ := exec_bind_some hx
        try dsimp only at hx
        have X3 := Lib.hid x3
        clear x3
        obtain ⟨rfl, rfl⟩ := exec_pure hx
        clear hx
        go_enter Tryz.func211, Tryz.ntmps211
        go_wp2_with fail
        go_at_call 282
        refine (level_any p true hl _).mono ?_
        rintro e wq ⟨rfl, rfl⟩
        go_wp2_with fail
        go_at_call 275
        refine (qhead_any a p _).mono ?_
        rintro e wq ⟨rfl, rfl⟩
        go_wp2_with fail
        go_at_call 283
        refine (next_any (qHead a p) n (i64_wrap64 _) HI_n.out _ g _ _ HF0.out _ _ X1.out).mono ?_
        rintro e w1 ⟨hi_m, rfl, sl1, hF1, hE1⟩
        have HF1 := Lib.hid hF1
        have HE1 := Lib.hid (HE0.out.trans hE1)
        have w_m : wrap64 m = m := wrap64_i64 hi_m
        have HI_m := Lib.hid hi_m
        clear hF1 hE1 hi_m
        go_wp2_with fail
        go_at_call 146
        refine (koff  _ g _ _ HF1.out _ _ X2.out).mono ?_
        rintro e w2 ⟨_, rfl, sl2, hF2, hE2⟩
        have HF2 := Lib.hid hF2
        have HE2 := Lib.hid (HE1.out.trans hE2)
        clear hF2 hE2
        go_wp2_with fail
        go_at_call 278
        refine (below_any a p HI_a.out HI_p.out p0 (by omega) _ g _ _ HF2.out _ _ X3.out).mono ?_
        rintro e w3 ⟨⟨hi_m2, hi_p2⟩, rfl, sl3, hF3, hE3⟩
        have HF3 := Lib.hid hF3
        have HE3 := Lib.hid (HE2.out.trans hE3)
        have w_m2 : wrap64 m2 = m2 := wrap64_i64 hi_m2
        have HI_m2 := Lib.hid hi_m2
        have w_p2 : wrap64 p2 = p2 := wrap64_i64 hi_p2
        have HI_p2 := Lib.hid hi_p2
        clear hF3 hE3 hi_m2 hi_p2
        go_wp2
        go_ret3
        exact ⟨⟨HI_m2.out, HI_p2.out⟩, by simp, sl3, HF3.out, HE3.out⟩
  | false =>
    have hx := exec_ff hl hx
    obtain ⟨rfl, rfl⟩ := exec_pure hx
    clear hx
    go_enter Tryz.func211, Tryz.ntmps211
    go_wp2_with fail
    go_at_call 282
    refine (level_any p false hl _).mono ?_
    rintro e wq ⟨rfl, rfl⟩
    go_wp2
    go_ret3
    exact ⟨⟨(i64_small (by omega) (by omega)), (i64_small (by omega) (by omega))⟩, by simp, sl, HF0.out, HE0.out⟩
end Go.Proofs.YtefbdcmodfbpbaaGreat
