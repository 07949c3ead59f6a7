/-
  Lists of nodes, as programs over words, and the walks of their functions. (Printed by gen_list.py.)
-/
import Derived.Test.YtefbdcmodfbpbaaGreatK
set_option linter.unusedVariables false
set_option linter.unusedSimpArgs false
namespace Go.Proofs.YtefbdcmodfbpbaaGreat
open Go.RowKit

def kInit (h : Int) : Prog Unit := do
  st h h
  st (wrap64 (h + 1)) h
  pure ()
set_option maxRecDepth 100000 in
set_option maxHeartbeats 800000 in
theorem init_any (h : Int) (h_h : I64 h) (w : World) (g : FG) (sl : Value) (s : FS) (hF : Fr w g sl s) (s' : FS) (hx : exec (kInit h) s = some ((), s')) :
    Calls Tryz.prog 274 #[.pointer (some ⟨g.fb, 0, none⟩), .int .i64 h] w fun e w' => (True) ∧ Posts g sl s' w (.tuple #[]) e w' := by
  have w_h : wrap64 h = h := wrap64_i64 h_h
  have HF0 := Lib.hid hF
  have HE0 := Lib.hid (Ev.refl g sl w)
  have HI_h := Lib.hid h_h
  clear hF h_h
  unfold kInit at hx
  obtain ⟨_, s1, x1, hx⟩ := exec_bind_some hx
  have X1 := Lib.hid x1
  clear x1
  obtain ⟨_, s2, x2, hx⟩ := exec_bind_some hx
  have X2 := Lib.hid x2
  clear x2
  obtain ⟨-, rfl⟩ := exec_pure hx
  clear hx
  go_enter Tryz.func274, Tryz.ntmps274
  go_wp2_with fail
  go_at_call 209
  refine (kstore h h HI_h.out _ g _ _ HF0.out _ X1.out).mono ?_
  rintro e w1 ⟨_, rfl, sl1, hF1, hE1⟩
  have HF1 := Lib.hid hF1
  have HE1 := Lib.hid (HE0.out.trans hE1)
  clear hF1 hE1
  go_wp2_with fail
  go_at_call 209
  refine (kstore (wrap64 (h + 1)) h HI_h.out _ g _ _ HF1.out _ X2.out).mono ?_
  rintro e w2 ⟨_, rfl, sl2, hF2, hE2⟩
  have HF2 := Lib.hid hF2
  have HE2 := Lib.hid (HE1.out.trans hE2)
  clear hF2 hE2
  go_wp2
  first | go_end0 | ((try simp only [Exit.inBlock, Exit.then]); refine bodyPost_ret (results_none rfl _ _ _) rfl ?_)
  exact ⟨trivial, by simp, sl2, HF2.out, HE2.out⟩
def kLink (n : Int) (m : Int) : Prog Unit := do
  st n m
  st (wrap64 (m + 1)) n
  pure ()
set_option maxRecDepth 100000 in
set_option maxHeartbeats 800000 in
theorem link_any (n : Int) (m : Int) (h_n : I64 n) (h_m : I64 m) (w : World) (g : FG) (sl : Value) (s : FS) (hF : Fr w g sl s) (s' : FS) (hx : exec (kLink n m) s = some ((), s')) :
    Calls Tryz.prog 384 #[.pointer (some ⟨g.fb, 0, none⟩), .int .i64 n, .int .i64 m] w fun e w' => (True) ∧ Posts g sl s' w (.tuple #[]) e w' := by
  have w_n : wrap64 n = n := wrap64_i64 h_n
  have w_m : wrap64 m = m := wrap64_i64 h_m
  have HF0 := Lib.hid hF
  have HE0 := Lib.hid (Ev.refl g sl w)
  have HI_n := Lib.hid h_n
  have HI_m := Lib.hid h_m
  clear hF h_n h_m
  unfold kLink at hx
  obtain ⟨_, s1, x1, hx⟩ := exec_bind_some hx
  have X1 := Lib.hid x1
  clear x1
  obtain ⟨_, s2, x2, hx⟩ := exec_bind_some hx
  have X2 := Lib.hid x2
  clear x2
  obtain ⟨-, rfl⟩ := exec_pure hx
  clear hx
  go_enter Tryz.func384, Tryz.ntmps384
  go_wp2_with fail
  go_at_call 209
  refine (kstore n m HI_m.out _ g _ _ HF0.out _ X1.out).mono ?_
  rintro e w1 ⟨_, rfl, sl1, hF1, hE1⟩
  have HF1 := Lib.hid hF1
  have HE1 := Lib.hid (HE0.out.trans hE1)
  clear hF1 hE1
  go_wp2_with fail
  go_at_call 209
  refine (kstore (wrap64 (m + 1)) n HI_n.out _ g _ _ HF1.out _ X2.out).mono ?_
  rintro e w2 ⟨_, rfl, sl2, hF2, hE2⟩
  have HF2 := Lib.hid hF2
  have HE2 := Lib.hid (HE1.out.trans hE2)
  clear hF2 hE2
  go_wp2
  first | go_end0 | ((try simp only [Exit.inBlock, Exit.then]); refine bodyPost_ret (results_none rfl _ _ _) rfl ?_)
  exact ⟨trivial, by simp, sl2, HF2.out, HE2.out⟩
def kNext (h : Int) (n : Int) : Prog (Int × Bool) := do
  let m ← ld n
  let o ← isOff
  if o then do
    pure (0, false)
  else do
    if m == h then do
      pure (0, false)
    else do
      pure (m, true)
set_option maxRecDepth 100000 in
set_option maxHeartbeats 800000 in
theorem next_any (h : Int) (n : Int) (h_h : I64 h) (h_n : I64 n) (w : World) (g : FG) (sl : Value) (s : FS) (hF : Fr w g sl s) (r : (Int × Bool)) (s' : FS) (hx : exec (kNext h n) s = some (r, s')) :
    Calls Tryz.prog 283 #[.pointer (some ⟨g.fb, 0, none⟩), .int .i64 h, .int .i64 n] w fun e w' => (I64 r.1) ∧ Posts g sl s' w (.tuple #[.int .i64 (r.1), .bool (r.2)]) e w' := by
  have w_h : wrap64 h = h := wrap64_i64 h_h
  have w_n : wrap64 n = n := wrap64_i64 h_n
  have HF0 := Lib.hid hF
  have HE0 := Lib.hid (Ev.refl g sl w)
  have HI_h := Lib.hid h_h
  have HI_n := Lib.hid h_n
  clear hF h_h h_n
  unfold kNext at hx
  obtain ⟨m, s1, x1, hx⟩ := exec_bind_some hx
  have X1 := Lib.hid x1
  clear x1
  obtain ⟨o, s2, x2, hx⟩ := exec_bind_some hx
  have X2 := Lib.hid x2
  clear x2
  cases hc1 : o with
  | true =>
    have hx := exec_tt hc1 hx
    obtain ⟨rfl, rfl⟩ := exec_pure hx
    clear hx
    go_enter Tryz.func283, Tryz.ntmps283
    go_wp2_with fail
    go_at_call 216
    refine (kload n _ g _ _ HF0.out _ _ X1.out).mono ?_
    rintro e w1 ⟨hi_m, rfl, sl1, hF1, hE1⟩
    have HF1 := Lib.hid hF1
    have HE1 := Lib.hid (HE0.out.trans hE1)
    have w_m : wrap64 m = m := wrap64_i64 hi_m
    have HI_m := Lib.hid hi_m
    clear hF1 hE1 hi_m
    go_wp2_with fail
    go_at_call 146
    refine (koff  _ g _ _ HF1.out _ _ X2.out).mono ?_
    rintro e w2 ⟨_, rfl, sl2, hF2, hE2⟩
    have HF2 := Lib.hid hF2
    have HE2 := Lib.hid (HE1.out.trans hE2)
    clear hF2 hE2
    go_wp2
    go_ret2
    exact ⟨(i64_small (by omega) (by omega)), by simp, sl2, HF2.out, HE2.out⟩
  | false =>
    have hx := exec_ff hc1 hx
    cases hc2 : m == h with
    | true =>
      have hx := exec_tt hc2 hx
      obtain ⟨rfl, rfl⟩ := exec_pure hx
      clear hx
      go_enter Tryz.func283, Tryz.ntmps283
      go_wp2_with fail
      go_at_call 216
      refine (kload n _ g _ _ HF0.out _ _ X1.out).mono ?_
      rintro e w1 ⟨hi_m, rfl, sl1, hF1, hE1⟩
      have HF1 := Lib.hid hF1
      have HE1 := Lib.hid (HE0.out.trans hE1)
      have w_m : wrap64 m = m := wrap64_i64 hi_m
      have HI_m := Lib.hid hi_m
      clear hF1 hE1 hi_m
      go_wp2_with fail
      go_at_call 146
      refine (koff  _ g _ _ HF1.out _ _ X2.out).mono ?_
      rintro e w2 ⟨_, rfl, sl2, hF2, hE2⟩
      have HF2 := Lib.hid hF2
      have HE2 := Lib.hid (HE1.out.trans hE2)
      clear hF2 hE2
      go_wp2
      go_ret2
      exact ⟨(i64_small (by omega) (by omega)), by simp, sl2, HF2.out, HE2.out⟩
    | false =>
      have hx := exec_ff hc2 hx
      obtain ⟨rfl, rfl⟩ := exec_pure hx
      clear hx
      go_enter Tryz.func283, Tryz.ntmps283
      go_wp2_with fail
      go_at_call 216
      refine (kload n _ g _ _ HF0.out _ _ X1.out).mono ?_
      rintro e w1 ⟨hi_m, rfl, sl1, hF1, hE1⟩
      have HF1 := Lib.hid hF1
      have HE1 := Lib.hid (HE0.out.trans hE1)
      have w_m : wrap64 m = m := wrap64_i64 hi_m
      have HI_m := Lib.hid hi_m
      clear hF1 hE1 hi_m
      go_wp2_with fail
      go_at_call 146
      refine (koff  _ g _ _ HF1.out _ _ X2.out).mono ?_
      rintro e w2 ⟨_, rfl, sl2, hF2, hE2⟩
      have HF2 := Lib.hid hF2
      have HE2 := Lib.hid (HE1.out.trans hE2)
      clear hF2 hE2
      go_wp2
      go_ret2
      exact ⟨HI_m.out, by simp, sl2, HF2.out, HE2.out⟩
def kFirst (h : Int) : Prog (Int × Bool) := do
  let (m, ok) ← kNext h h
  pure (m, ok)
set_option maxRecDepth 100000 in
set_option maxHeartbeats 800000 in
theorem first_any (h : Int) (h_h : I64 h) (w : World) (g : FG) (sl : Value) (s : FS) (hF : Fr w g sl s) (r : (Int × Bool)) (s' : FS) (hx : exec (kFirst h) s = some (r, s')) :
    Calls Tryz.prog 346 #[.pointer (some ⟨g.fb, 0, none⟩), .int .i64 h] w fun e w' => (I64 r.1) ∧ Posts g sl s' w (.tuple #[.int .i64 (r.1), .bool (r.2)]) e w' := by
  have w_h : wrap64 h = h := wrap64_i64 h_h
  have HF0 := Lib.hid hF
  have HE0 := Lib.hid (Ev.refl g sl w)
  have HI_h := Lib.hid h_h
  clear hF h_h
  unfold kFirst at hx
  obtain ⟨⟨m, ok⟩, s1, x1, hx⟩ := exec_bind_some hx
  try dsimp only at hx
  have X1 := Lib.hid x1
  clear x1
  obtain ⟨rfl, rfl⟩ := exec_pure hx
  clear hx
  go_enter Tryz.func346, Tryz.ntmps346
  go_wp2_with fail
  go_at_call 283
  refine (next_any h h HI_h.out HI_h.out _ g _ _ HF0.out _ _ X1.out).mono ?_
  rintro e w1 ⟨hi_m, rfl, sl1, hF1, hE1⟩
  have HF1 := Lib.hid hF1
  have HE1 := Lib.hid (HE0.out.trans hE1)
  have w_m : wrap64 m = m := wrap64_i64 hi_m
  have HI_m := Lib.hid hi_m
  clear hF1 hE1 hi_m
  go_wp2
  go_ret2
  exact ⟨HI_m.out, by simp, sl1, HF1.out, HE1.out⟩
def kAhead (n : Int) (m : Int) : Prog Unit := do
  let b ← ld (wrap64 (n + 1))
  let o ← isOff
  if o then do
    pure ()
  else do
    kLink b m
    kLink m n
    pure ()
set_option maxRecDepth 100000 in
set_option maxHeartbeats 800000 in
theorem ahead_any (n : Int) (m : Int) (h_n : I64 n) (h_m : I64 m) (w : World) (g : FG) (sl : Value) (s : FS) (hF : Fr w g sl s) (s' : FS) (hx : exec (kAhead n m) s = some ((), s')) :
    Calls Tryz.prog 385 #[.pointer (some ⟨g.fb, 0, none⟩), .int .i64 n, .int .i64 m] w fun e w' => (True) ∧ Posts g sl s' w (.tuple #[]) e w' := by
  have w_n : wrap64 n = n := wrap64_i64 h_n
  have w_m : wrap64 m = m := wrap64_i64 h_m
  have HF0 := Lib.hid hF
  have HE0 := Lib.hid (Ev.refl g sl w)
  have HI_n := Lib.hid h_n
  have HI_m := Lib.hid h_m
  clear hF h_n h_m
  unfold kAhead at hx
  obtain ⟨b, s1, x1, hx⟩ := exec_bind_some hx
  have X1 := Lib.hid x1
  clear x1
  obtain ⟨o, s2, x2, hx⟩ := exec_bind_some hx
  have X2 := Lib.hid x2
  clear x2
  cases hc1 : o with
  | true =>
    have hx := exec_tt hc1 hx
    obtain ⟨-, rfl⟩ := exec_pure hx
    clear hx
    go_enter Tryz.func385, Tryz.ntmps385
    go_wp2_with fail
    go_at_call 216
    refine (kload (wrap64 (n + 1)) _ g _ _ HF0.out _ _ X1.out).mono ?_
    rintro e w1 ⟨hi_b, rfl, sl1, hF1, hE1⟩
    have HF1 := Lib.hid hF1
    have HE1 := Lib.hid (HE0.out.trans hE1)
    have w_b : wrap64 b = b := wrap64_i64 hi_b
    have HI_b := Lib.hid hi_b
    clear hF1 hE1 hi_b
    go_wp2_with fail
    go_at_call 146
    refine (koff  _ g _ _ HF1.out _ _ X2.out).mono ?_
    rintro e w2 ⟨_, rfl, sl2, hF2, hE2⟩
    have HF2 := Lib.hid hF2
    have HE2 := Lib.hid (HE1.out.trans hE2)
    clear hF2 hE2
    go_wp2
    first | go_end0 | ((try simp only [Exit.inBlock, Exit.then]); refine bodyPost_ret (results_none rfl _ _ _) rfl ?_)
    exact ⟨trivial, by simp, sl2, HF2.out, HE2.out⟩
  | false =>
    have hx := exec_ff hc1 hx
    obtain ⟨_, s3, x3, hx⟩ := exec_bind_some hx
    have X3 := Lib.hid x3
    clear x3
    obtain ⟨_, s4, x4, hx⟩ := exec_bind_some hx
    have X4 := Lib.hid x4
    clear x4
    obtain ⟨-, rfl⟩ := exec_pure hx
    clear hx
    go_enter Tryz.func385, Tryz.ntmps385
    go_wp2_with fail
    go_at_call 216
    refine (kload (wrap64 (n + 1)) _ g _ _ HF0.out _ _ X1.out).mono ?_
    rintro e w1 ⟨hi_b, rfl, sl1, hF1, hE1⟩
    have HF1 := Lib.hid hF1
    have HE1 := Lib.hid (HE0.out.trans hE1)
    have w_b : wrap64 b = b := wrap64_i64 hi_b
    have HI_b := Lib.hid hi_b
    clear hF1 hE1 hi_b
    go_wp2_with fail
    go_at_call 146
    refine (koff  _ g _ _ HF1.out _ _ X2.out).mono ?_
    rintro e w2 ⟨_, rfl, sl2, hF2, hE2⟩
    have HF2 := Lib.hid hF2
    have HE2 := Lib.hid (HE1.out.trans hE2)
    clear hF2 hE2
    go_wp2_with fail
    go_at_call 384
    refine (link_any b m HI_b.out HI_m.out _ g _ _ HF2.out _ X3.out).mono ?_
    rintro e w3 ⟨_, rfl, sl3, hF3, hE3⟩
    have HF3 := Lib.hid hF3
    have HE3 := Lib.hid (HE2.out.trans hE3)
    clear hF3 hE3
    go_wp2_with fail
    go_at_call 384
    refine (link_any m n HI_m.out HI_n.out _ g _ _ HF3.out _ X4.out).mono ?_
    rintro e w4 ⟨_, rfl, sl4, hF4, hE4⟩
    have HF4 := Lib.hid hF4
    have HE4 := Lib.hid (HE3.out.trans hE4)
    clear hF4 hE4
    go_wp2
    first | go_end0 | ((try simp only [Exit.inBlock, Exit.then]); refine bodyPost_ret (results_none rfl _ _ _) rfl ?_)
    exact ⟨trivial, by simp, sl4, HF4.out, HE4.out⟩
def kAppend (h : Int) (n : Int) : Prog Unit := do
  kAhead h n
  pure ()
set_option maxRecDepth 100000 in
set_option maxHeartbeats 800000 in
theorem append_any (h : Int) (n : Int) (h_h : I64 h) (h_n : I64 n) (w : World) (g : FG) (sl : Value) (s : FS) (hF : Fr w g sl s) (s' : FS) (hx : exec (kAppend h n) s = some ((), s')) :
    Calls Tryz.prog 342 #[.pointer (some ⟨g.fb, 0, none⟩), .int .i64 h, .int .i64 n] w fun e w' => (True) ∧ Posts g sl s' w (.tuple #[]) e w' := by
  have w_h : wrap64 h = h := wrap64_i64 h_h
  have w_n : wrap64 n = n := wrap64_i64 h_n
  have HF0 := Lib.hid hF
  have HE0 := Lib.hid (Ev.refl g sl w)
  have HI_h := Lib.hid h_h
  have HI_n := Lib.hid h_n
  clear hF h_h h_n
  unfold kAppend at hx
  obtain ⟨_, s1, x1, hx⟩ := exec_bind_some hx
  have X1 := Lib.hid x1
  clear x1
  obtain ⟨-, rfl⟩ := exec_pure hx
  clear hx
  go_enter Tryz.func342, Tryz.ntmps342
  go_wp2_with fail
  go_at_call 385
  refine (ahead_any h n HI_h.out HI_n.out _ g _ _ HF0.out _ X1.out).mono ?_
  rintro e w1 ⟨_, rfl, sl1, hF1, hE1⟩
  have HF1 := Lib.hid hF1
  have HE1 := Lib.hid (HE0.out.trans hE1)
  clear hF1 hE1
  go_wp2
  first | go_end0 | ((try simp only [Exit.inBlock, Exit.then]); refine bodyPost_ret (results_none rfl _ _ _) rfl ?_)
  exact ⟨trivial, by simp, sl1, HF1.out, HE1.out⟩
end Go.Proofs.YtefbdcmodfbpbaaGreat
