/-
  Rings, as programs over words, and the walks of their functions. (Printed by gen_ring.py.)
-/
import Derived.Test.YtpidlgmigmbbbaaK
set_option linter.unusedVariables false
set_option linter.unusedSimpArgs false
namespace Go.Proofs.Ytpidlgmigmbbbaa
open Go.RowKit

theorem rwords_any (c : Int) (c0 : 1 ≤ c) (c1 : c ≤ 16) (w : World) :
    Calls Try.prog 118 #[.int .i64 c] w fun e w' => e = .returned (.int .i64 (c + 2)) ∧ w = w' := by
  go_enter Try.func118, Try.ntmps118
  go_wp2
  go_ret
  exact ⟨rfl, rfl⟩
def rPlace (a c n : Int) : Int := wrap64 (wrap64 (a + 2) + (n % 18446744073709551616) % c)
theorem rplace_eq (a c n : Int) (c0 : 1 ≤ c) (c1 : c ≤ 16) : wrap64 (wrap64 (a + 2) + wrap64 ((IntKind.u64.wrap n).tmod c)) = rPlace a c n := by
  have e1 : IntKind.u64.wrap n = n % 18446744073709551616 := by simp [IntKind.wrap, IntKind.bits, IntKind.signed]
  have e2 : 0 ≤ n % 18446744073709551616 := Int.emod_nonneg _ (by omega)
  have e3 : (n % 18446744073709551616).tmod c = (n % 18446744073709551616) % c := by rw [Int.tmod_eq_emod_of_nonneg e2]
  have e4 : 0 ≤ (n % 18446744073709551616) % c ∧ (n % 18446744073709551616) % c < c := ⟨Int.emod_nonneg _ (by omega), Int.emod_lt_of_pos _ (by omega)⟩
  have e5 : wrap64 ((n % 18446744073709551616) % c) = (n % 18446744073709551616) % c := wrap64_i64 (i64_small (by omega) (by omega))
  unfold rPlace
  rw [e1, e3, e5]
theorem rplace_any (a c n : Int) (c0 : 1 ≤ c) (c1 : c ≤ 16) (w : World) :
    Calls Try.prog 120 #[.int .i64 a, .int .i64 c, .int .i64 n] w fun e w' => e = .returned (.int .i64 (rPlace a c n)) ∧ w = w' := by
  go_enter Try.func120, Try.ntmps120
  go_wp2
  go_ret
  refine ⟨?_, rfl⟩
  show Ending.returned (.int .i64 (wrap64 (wrap64 (a + 2) + wrap64 ((IntKind.u64.wrap n).tmod c)))) = _
  rw [rplace_eq a c n c0 c1]

def kCounts (a : Int) : Prog (Int × Int) := do
  let t ← ld a
  let p ← ld (wrap64 (a + 1))
  pure (t, p)
set_option maxRecDepth 100000 in
set_option maxHeartbeats 800000 in
theorem counts_any (a : Int) (h_a : I64 a)  (w : World) (g : FG) (sl : Value) (s : FS) (hF : Fr w g sl s) (r : (Int × Int)) (s' : FS) (hx : exec (kCounts a) s = some (r, s')) :
    Calls Try.prog 119 #[.pointer (some ⟨g.fb, 0, none⟩), .int .i64 a] w fun e w' => (I64 r.1 ∧ I64 r.2) ∧ Posts g sl s' w (.tuple #[.int .i64 (r.1), .int .i64 (r.2)]) e w' := by
  have w_a : wrap64 a = a := wrap64_i64 h_a
  have HF0 := Lib.hid hF
  have HE0 := Lib.hid (Ev.refl g sl w)
  have HI_a := Lib.hid h_a
  clear hF h_a
  unfold kCounts at hx
  obtain ⟨t, s1, x1, hx⟩ := exec_bind_some hx
  have X1 := Lib.hid x1
  clear x1
  obtain ⟨p, s2, x2, hx⟩ := exec_bind_some hx
  have X2 := Lib.hid x2
  clear x2
  obtain ⟨rfl, rfl⟩ := exec_pure hx
  clear hx
  go_enter Try.func119, Try.ntmps119
  go_wp2_with fail
  go_at_call 105
  refine (kload a _ g _ _ HF0.out _ _ X1.out).mono ?_
  rintro e w1 ⟨hi_t, rfl, sl1, hF1, hE1⟩
  have HF1 := Lib.hid hF1
  have HE1 := Lib.hid (HE0.out.trans hE1)
  have w_t : wrap64 t = t := wrap64_i64 hi_t
  have HI_t := Lib.hid hi_t
  clear hF1 hE1 hi_t
  go_wp2_with fail
  go_at_call 105
  refine (kload (wrap64 (a + 1)) _ g _ _ HF1.out _ _ X2.out).mono ?_
  rintro e w2 ⟨hi_p, rfl, sl2, hF2, hE2⟩
  have HF2 := Lib.hid hF2
  have HE2 := Lib.hid (HE1.out.trans hE2)
  have w_p : wrap64 p = p := wrap64_i64 hi_p
  have HI_p := Lib.hid hi_p
  clear hF2 hE2 hi_p
  go_wp2
  go_ret2
  exact ⟨⟨HI_t.out, HI_p.out⟩, by simp, sl2, HF2.out, HE2.out⟩
def kRPut (a : Int) (c : Int) (v : Int) : Prog Bool := do
  let (t, p) ← kCounts a
  let o ← isOff
  if o then do
    pure false
  else do
    if decide (c ≤ wrap64 (p - t)) then do
      pure false
    else do
      st (rPlace a c p) v
      st (wrap64 (a + 1)) (wrap64 (p + 1))
      let o2 ← isOff
      pure !o2
set_option maxRecDepth 100000 in
set_option maxHeartbeats 800000 in
theorem rPut_any (a : Int) (c : Int) (v : Int) (h_a : I64 a) (h_c : I64 c) (h_v : I64 v) (c0 : 1 ≤ c) (c1 : c ≤ 16) (w : World) (g : FG) (sl : Value) (s : FS) (hF : Fr w g sl s) (r : Bool) (s' : FS) (hx : exec (kRPut a c v) s = some (r, s')) :
    Calls Try.prog 70 #[.pointer (some ⟨g.fb, 0, none⟩), .int .i64 a, .int .i64 c, .int .i64 v] w fun e w' => (True) ∧ Posts g sl s' w (.bool r) e w' := by
  have w_a : wrap64 a = a := wrap64_i64 h_a
  have w_c : wrap64 c = c := wrap64_i64 h_c
  have w_v : wrap64 v = v := wrap64_i64 h_v
  have HF0 := Lib.hid hF
  have HE0 := Lib.hid (Ev.refl g sl w)
  have HI_a := Lib.hid h_a
  have HI_c := Lib.hid h_c
  have HI_v := Lib.hid h_v
  clear hF h_a h_c h_v
  unfold kRPut at hx
  obtain ⟨⟨t, p⟩, s1, x1, hx⟩ := exec_bind_some hx
  try dsimp only at hx
  have X1 := Lib.hid x1
  clear x1
  obtain ⟨o, s2, x2, hx⟩ := exec_bind_some hx
  have X2 := Lib.hid x2
  clear x2
  cases hc1 : o with
  | true =>
    have hx := exec_tt hc1 hx
    obtain ⟨rfl, rfl⟩ := exec_pure hx
    clear hx
    go_enter Try.func70, Try.ntmps70
    go_wp2_with fail
    go_at_call 118
    refine (rwords_any c c0 c1 _).mono ?_
    rintro e wq ⟨rfl, rfl⟩
    go_wp2_with fail
    go_at_call 119
    refine (counts_any a HI_a.out _ g _ _ HF0.out _ _ X1.out).mono ?_
    rintro e w1 ⟨⟨hi_t, hi_p⟩, rfl, sl1, hF1, hE1⟩
    have HF1 := Lib.hid hF1
    have HE1 := Lib.hid (HE0.out.trans hE1)
    have w_t : wrap64 t = t := wrap64_i64 hi_t
    have HI_t := Lib.hid hi_t
    have w_p : wrap64 p = p := wrap64_i64 hi_p
    have HI_p := Lib.hid hi_p
    clear hF1 hE1 hi_t hi_p
    go_wp2_with fail
    go_at_call 73
    refine (koff  _ g _ _ HF1.out _ _ X2.out).mono ?_
    rintro e w2 ⟨_, rfl, sl2, hF2, hE2⟩
    have HF2 := Lib.hid hF2
    have HE2 := Lib.hid (HE1.out.trans hE2)
    clear hF2 hE2
    go_wp2
    go_ret
    exact ⟨trivial, by simp, sl2, HF2.out, HE2.out⟩
  | false =>
    have hx := exec_ff hc1 hx
    cases hc : decide (c ≤ wrap64 (p - t)) with
    | true =>
      have hx := exec_tt hc hx
      obtain ⟨rfl, rfl⟩ := exec_pure hx
      clear hx
      go_enter Try.func70, Try.ntmps70
      go_wp2_with fail
      go_at_call 118
      refine (rwords_any c c0 c1 _).mono ?_
      rintro e wq ⟨rfl, rfl⟩
      go_wp2_with fail
      go_at_call 119
      refine (counts_any a HI_a.out _ g _ _ HF0.out _ _ X1.out).mono ?_
      rintro e w1 ⟨⟨hi_t, hi_p⟩, rfl, sl1, hF1, hE1⟩
      have HF1 := Lib.hid hF1
      have HE1 := Lib.hid (HE0.out.trans hE1)
      have w_t : wrap64 t = t := wrap64_i64 hi_t
      have HI_t := Lib.hid hi_t
      have w_p : wrap64 p = p := wrap64_i64 hi_p
      have HI_p := Lib.hid hi_p
      clear hF1 hE1 hi_t hi_p
      go_wp2_with fail
      go_at_call 73
      refine (koff  _ g _ _ HF1.out _ _ X2.out).mono ?_
      rintro e w2 ⟨_, rfl, sl2, hF2, hE2⟩
      have HF2 := Lib.hid hF2
      have HE2 := Lib.hid (HE1.out.trans hE2)
      clear hF2 hE2
      go_wp2
      go_ret
      exact ⟨trivial, by simp, sl2, HF2.out, HE2.out⟩
    | false =>
      have hx := exec_ff hc hx
      obtain ⟨_, s3, x3, hx⟩ := exec_bind_some hx
      have X3 := Lib.hid x3
      clear x3
      obtain ⟨_, s4, x4, hx⟩ := exec_bind_some hx
      have X4 := Lib.hid x4
      clear x4
      obtain ⟨o2, s5, x5, hx⟩ := exec_bind_some hx
      have X5 := Lib.hid x5
      clear x5
      obtain ⟨rfl, rfl⟩ := exec_pure hx
      clear hx
      go_enter Try.func70, Try.ntmps70
      go_wp2_with fail
      go_at_call 118
      refine (rwords_any c c0 c1 _).mono ?_
      rintro e wq ⟨rfl, rfl⟩
      go_wp2_with fail
      go_at_call 119
      refine (counts_any a HI_a.out _ g _ _ HF0.out _ _ X1.out).mono ?_
      rintro e w1 ⟨⟨hi_t, hi_p⟩, rfl, sl1, hF1, hE1⟩
      have HF1 := Lib.hid hF1
      have HE1 := Lib.hid (HE0.out.trans hE1)
      have w_t : wrap64 t = t := wrap64_i64 hi_t
      have HI_t := Lib.hid hi_t
      have w_p : wrap64 p = p := wrap64_i64 hi_p
      have HI_p := Lib.hid hi_p
      clear hF1 hE1 hi_t hi_p
      go_wp2_with fail
      go_at_call 73
      refine (koff  _ g _ _ HF1.out _ _ X2.out).mono ?_
      rintro e w2 ⟨_, rfl, sl2, hF2, hE2⟩
      have HF2 := Lib.hid hF2
      have HE2 := Lib.hid (HE1.out.trans hE2)
      clear hF2 hE2
      go_wp2_with fail
      go_at_call 120
      refine (rplace_any a c p c0 c1 _).mono ?_
      rintro e wq ⟨rfl, rfl⟩
      go_wp2_with fail
      go_at_call 91
      refine (kstore (rPlace a c p) v HI_v.out _ g _ _ HF2.out _ X3.out).mono ?_
      rintro e w3 ⟨_, rfl, sl3, hF3, hE3⟩
      have HF3 := Lib.hid hF3
      have HE3 := Lib.hid (HE2.out.trans hE3)
      clear hF3 hE3
      go_wp2_with fail
      go_at_call 91
      refine (kstore (wrap64 (a + 1)) (wrap64 (p + 1)) (i64_wrap64 _) _ g _ _ HF3.out _ X4.out).mono ?_
      rintro e w4 ⟨_, rfl, sl4, hF4, hE4⟩
      have HF4 := Lib.hid hF4
      have HE4 := Lib.hid (HE3.out.trans hE4)
      clear hF4 hE4
      go_wp2_with fail
      go_at_call 73
      refine (koff  _ g _ _ HF4.out _ _ X5.out).mono ?_
      rintro e w5 ⟨_, rfl, sl5, hF5, hE5⟩
      have HF5 := Lib.hid hF5
      have HE5 := Lib.hid (HE4.out.trans hE5)
      clear hF5 hE5
      go_wp2
      go_ret
      exact ⟨trivial, by simp, sl5, HF5.out, HE5.out⟩
def kRGet (a : Int) (c : Int) : Prog (Int × Bool) := do
  let (t, p) ← kCounts a
  let o ← isOff
  if o then do
    pure (0, false)
  else do
    if p == t then do
      pure (0, false)
    else do
      let v ← ld (rPlace a c t)
      st a (wrap64 (t + 1))
      let o2 ← isOff
      if o2 then do
        pure (0, false)
      else do
        pure (v, true)
set_option maxRecDepth 100000 in
set_option maxHeartbeats 800000 in
theorem rGet_any (a : Int) (c : Int) (h_a : I64 a) (h_c : I64 c) (c0 : 1 ≤ c) (c1 : c ≤ 16) (w : World) (g : FG) (sl : Value) (s : FS) (hF : Fr w g sl s) (r : (Int × Bool)) (s' : FS) (hx : exec (kRGet a c) s = some (r, s')) :
    Calls Try.prog 74 #[.pointer (some ⟨g.fb, 0, none⟩), .int .i64 a, .int .i64 c] w fun e w' => (I64 r.1) ∧ Posts g sl s' w (.tuple #[.int .i64 (r.1), .bool (r.2)]) e w' := by
  have w_a : wrap64 a = a := wrap64_i64 h_a
  have w_c : wrap64 c = c := wrap64_i64 h_c
  have HF0 := Lib.hid hF
  have HE0 := Lib.hid (Ev.refl g sl w)
  have HI_a := Lib.hid h_a
  have HI_c := Lib.hid h_c
  clear hF h_a h_c
  unfold kRGet at hx
  obtain ⟨⟨t, p⟩, s1, x1, hx⟩ := exec_bind_some hx
  try dsimp only at hx
  have X1 := Lib.hid x1
  clear x1
  obtain ⟨o, s2, x2, hx⟩ := exec_bind_some hx
  have X2 := Lib.hid x2
  clear x2
  cases hc1 : o with
  | true =>
    have hx := exec_tt hc1 hx
    obtain ⟨rfl, rfl⟩ := exec_pure hx
    clear hx
    go_enter Try.func74, Try.ntmps74
    go_wp2_with fail
    go_at_call 118
    refine (rwords_any c c0 c1 _).mono ?_
    rintro e wq ⟨rfl, rfl⟩
    go_wp2_with fail
    go_at_call 119
    refine (counts_any a HI_a.out _ g _ _ HF0.out _ _ X1.out).mono ?_
    rintro e w1 ⟨⟨hi_t, hi_p⟩, rfl, sl1, hF1, hE1⟩
    have HF1 := Lib.hid hF1
    have HE1 := Lib.hid (HE0.out.trans hE1)
    have w_t : wrap64 t = t := wrap64_i64 hi_t
    have HI_t := Lib.hid hi_t
    have w_p : wrap64 p = p := wrap64_i64 hi_p
    have HI_p := Lib.hid hi_p
    clear hF1 hE1 hi_t hi_p
    go_wp2_with fail
    go_at_call 73
    refine (koff  _ g _ _ HF1.out _ _ X2.out).mono ?_
    rintro e w2 ⟨_, rfl, sl2, hF2, hE2⟩
    have HF2 := Lib.hid hF2
    have HE2 := Lib.hid (HE1.out.trans hE2)
    clear hF2 hE2
    go_wp2
    go_ret2
    exact ⟨(i64_small (by omega) (by omega)), by simp, sl2, HF2.out, HE2.out⟩
  | false =>
    have hx := exec_ff hc1 hx
    cases hc : p == t with
    | true =>
      have hx := exec_tt hc hx
      obtain ⟨rfl, rfl⟩ := exec_pure hx
      clear hx
      go_enter Try.func74, Try.ntmps74
      go_wp2_with fail
      go_at_call 118
      refine (rwords_any c c0 c1 _).mono ?_
      rintro e wq ⟨rfl, rfl⟩
      go_wp2_with fail
      go_at_call 119
      refine (counts_any a HI_a.out _ g _ _ HF0.out _ _ X1.out).mono ?_
      rintro e w1 ⟨⟨hi_t, hi_p⟩, rfl, sl1, hF1, hE1⟩
      have HF1 := Lib.hid hF1
      have HE1 := Lib.hid (HE0.out.trans hE1)
      have w_t : wrap64 t = t := wrap64_i64 hi_t
      have HI_t := Lib.hid hi_t
      have w_p : wrap64 p = p := wrap64_i64 hi_p
      have HI_p := Lib.hid hi_p
      clear hF1 hE1 hi_t hi_p
      go_wp2_with fail
      go_at_call 73
      refine (koff  _ g _ _ HF1.out _ _ X2.out).mono ?_
      rintro e w2 ⟨_, rfl, sl2, hF2, hE2⟩
      have HF2 := Lib.hid hF2
      have HE2 := Lib.hid (HE1.out.trans hE2)
      clear hF2 hE2
      go_wp2
      go_ret2
      exact ⟨(i64_small (by omega) (by omega)), by simp, sl2, HF2.out, HE2.out⟩
    | false =>
      have hx := exec_ff hc hx
      obtain ⟨v, s3, x3, hx⟩ := exec_bind_some hx
      have X3 := Lib.hid x3
      clear x3
      obtain ⟨_, s4, x4, hx⟩ := exec_bind_some hx
      have X4 := Lib.hid x4
      clear x4
      obtain ⟨o2, s5, x5, hx⟩ := exec_bind_some hx
      have X5 := Lib.hid x5
      clear x5
      cases hc3 : o2 with
      | true =>
        have hx := exec_tt hc3 hx
        obtain ⟨rfl, rfl⟩ := exec_pure hx
        clear hx
        go_enter Try.func74, Try.ntmps74
        go_wp2_with fail
        go_at_call 118
        refine (rwords_any c c0 c1 _).mono ?_
        rintro e wq ⟨rfl, rfl⟩
        go_wp2_with fail
        go_at_call 119
        refine (counts_any a HI_a.out _ g _ _ HF0.out _ _ X1.out).mono ?_
        rintro e w1 ⟨⟨hi_t, hi_p⟩, rfl, sl1, hF1, hE1⟩
        have HF1 := Lib.hid hF1
        have HE1 := Lib.hid (HE0.out.trans hE1)
        have w_t : wrap64 t = t := wrap64_i64 hi_t
        have HI_t := Lib.hid hi_t
        have w_p : wrap64 p = p := wrap64_i64 hi_p
        have HI_p := Lib.hid hi_p
        clear hF1 hE1 hi_t hi_p
        go_wp2_with fail
        go_at_call 73
        refine (koff  _ g _ _ HF1.out _ _ X2.out).mono ?_
        rintro e w2 ⟨_, rfl, sl2, hF2, hE2⟩
        have HF2 := Lib.hid hF2
        have HE2 := Lib.hid (HE1.out.trans hE2)
        clear hF2 hE2
        go_wp2_with fail
        go_at_call 120
        refine (rplace_any a c t c0 c1 _).mono ?_
        rintro e wq ⟨rfl, rfl⟩
        go_wp2_with fail
        go_at_call 105
        refine (kload (rPlace a c t) _ g _ _ HF2.out _ _ X3.out).mono ?_
        rintro e w3 ⟨hi_v, rfl, sl3, hF3, hE3⟩
        have HF3 := Lib.hid hF3
        have HE3 := Lib.hid (HE2.out.trans hE3)
        have w_v : wrap64 v = v := wrap64_i64 hi_v
        have HI_v := Lib.hid hi_v
        clear hF3 hE3 hi_v
        go_wp2_with fail
        go_at_call 91
        refine (kstore a (wrap64 (t + 1)) (i64_wrap64 _) _ g _ _ HF3.out _ X4.out).mono ?_
        rintro e w4 ⟨_, rfl, sl4, hF4, hE4⟩
        have HF4 := Lib.hid hF4
        have HE4 := Lib.hid (HE3.out.trans hE4)
        clear hF4 hE4
        go_wp2_with fail
        go_at_call 73
        refine (koff  _ g _ _ HF4.out _ _ X5.out).mono ?_
        rintro e w5 ⟨_, rfl, sl5, hF5, hE5⟩
        have HF5 := Lib.hid hF5
        have HE5 := Lib.hid (HE4.out.trans hE5)
        clear hF5 hE5
        go_wp2
        go_ret2
        exact ⟨(i64_small (by omega) (by omega)), by simp, sl5, HF5.out, HE5.out⟩
      | false =>
        have hx := exec_ff hc3 hx
        obtain ⟨rfl, rfl⟩ := exec_pure hx
        clear hx
        go_enter Try.func74, Try.ntmps74
        go_wp2_with fail
        go_at_call 118
        refine (rwords_any c c0 c1 _).mono ?_
        rintro e wq ⟨rfl, rfl⟩
        go_wp2_with fail
        go_at_call 119
        refine (counts_any a HI_a.out _ g _ _ HF0.out _ _ X1.out).mono ?_
        rintro e w1 ⟨⟨hi_t, hi_p⟩, rfl, sl1, hF1, hE1⟩
        have HF1 := Lib.hid hF1
        have HE1 := Lib.hid (HE0.out.trans hE1)
        have w_t : wrap64 t = t := wrap64_i64 hi_t
        have HI_t := Lib.hid hi_t
        have w_p : wrap64 p = p := wrap64_i64 hi_p
        have HI_p := Lib.hid hi_p
        clear hF1 hE1 hi_t hi_p
        go_wp2_with fail
        go_at_call 73
        refine (koff  _ g _ _ HF1.out _ _ X2.out).mono ?_
        rintro e w2 ⟨_, rfl, sl2, hF2, hE2⟩
        have HF2 := Lib.hid hF2
        have HE2 := Lib.hid (HE1.out.trans hE2)
        clear hF2 hE2
        go_wp2_with fail
        go_at_call 120
        refine (rplace_any a c t c0 c1 _).mono ?_
        rintro e wq ⟨rfl, rfl⟩
        go_wp2_with fail
        go_at_call 105
        refine (kload (rPlace a c t) _ g _ _ HF2.out _ _ X3.out).mono ?_
        rintro e w3 ⟨hi_v, rfl, sl3, hF3, hE3⟩
        have HF3 := Lib.hid hF3
        have HE3 := Lib.hid (HE2.out.trans hE3)
        have w_v : wrap64 v = v := wrap64_i64 hi_v
        have HI_v := Lib.hid hi_v
        clear hF3 hE3 hi_v
        go_wp2_with fail
        go_at_call 91
        refine (kstore a (wrap64 (t + 1)) (i64_wrap64 _) _ g _ _ HF3.out _ X4.out).mono ?_
        rintro e w4 ⟨_, rfl, sl4, hF4, hE4⟩
        have HF4 := Lib.hid hF4
        have HE4 := Lib.hid (HE3.out.trans hE4)
        clear hF4 hE4
        go_wp2_with fail
        go_at_call 73
        refine (koff  _ g _ _ HF4.out _ _ X5.out).mono ?_
        rintro e w5 ⟨_, rfl, sl5, hF5, hE5⟩
        have HF5 := Lib.hid hF5
        have HE5 := Lib.hid (HE4.out.trans hE5)
        clear hF5 hE5
        go_wp2
        go_ret2
        exact ⟨HI_v.out, by simp, sl5, HF5.out, HE5.out⟩
end Go.Proofs.Ytpidlgmigmbbbaa
