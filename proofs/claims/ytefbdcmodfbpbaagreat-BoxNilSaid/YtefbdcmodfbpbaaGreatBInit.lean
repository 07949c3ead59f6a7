/-
  block.Init; delta.Init.
-/
import Derived.Test.YtefbdcmodfbpbaaGreatQInit
set_option linter.unusedVariables false
set_option linter.unusedSimpArgs false
namespace Go.Proofs.YtefbdcmodfbpbaaGreat
open Go.RowKit

theorem dInit_any (h : Int) (h_h : I64 h) (w : World) (g : FG) (sl : Value) (s : FS) (hF : Fr w g sl s) (s' : FS) (hx : exec (kInit h) s = some ((), s')) :
    Calls Tryz.prog 205 #[.pointer (some ⟨g.fb, 0, none⟩), .int .i64 h] w fun e w' => (True) ∧ Posts g sl s' w (.tuple #[]) e w' := by
  have HC := Lib.hid (init_any h h_h w g sl s hF s' hx)
  clear hx hF
  go_enter Tryz.func205, Tryz.ntmps205
  go_wp2_with fail
  go_at_call 274
  refine HC.out.mono ?_
  rintro e w1 ⟨_, rfl, sl1, hF1, hE1⟩
  go_wp2
  first | go_end0 | ((try simp only [Exit.inBlock, Exit.then]); refine bodyPost_ret (results_none rfl _ _ _) rfl ?_)
  exact ⟨trivial, by simp, sl1, hF1, hE1⟩

def blkB (n : Int) : Bool := decide (1 ≤ n) && decide (n ≤ 16)
def blkNext (n k : Int) : Int := if k < n - 1 then k + 2 else 0
def kBInitFrom (a n : Int) : Nat → Nat → Prog Unit
  | 0, _ => pure ()
  | m + 1, k => do
    st (wrap64 (wrap64 (a + 1) + k)) (blkNext n k)
    kBInitFrom a n m (k + 1)
def kBInit (a n : Int) : Prog Unit := if blkB n then do
    st a 1
    kBInitFrom a n n.toNat 0
  else pure ()

theorem blkWords_yes (n : Int) (h0 : 1 ≤ n) (h1 : n ≤ 16) (w : World) :
    Calls Tryz.prog 344 #[.int .i64 n] w fun e w' => e = .returned (.int .i64 (n + 1)) ∧ w = w' := by
  go_enter Tryz.func344, Tryz.ntmps344
  go_wp2
  go_ret
  exact ⟨rfl, rfl⟩
theorem blkWords_no (n : Int) (h : ¬ (1 ≤ n ∧ n ≤ 16)) (w : World) :
    Calls Tryz.prog 344 #[.int .i64 n] w fun e w' => e = .returned (.int .i64 0) ∧ w = w' := by
  by_cases h0 : 1 ≤ n
  · have h1 : 16 < n := by omega
    clear h
    go_enter Tryz.func344, Tryz.ntmps344
    go_wp2
    go_ret
    exact ⟨rfl, rfl⟩
  · have h1 : n < 1 := by omega
    clear h h0
    go_enter Tryz.func344, Tryz.ntmps344
    go_wp2
    go_ret
    exact ⟨rfl, rfl⟩
theorem blkWord_any (a k : Int) (w : World) :
    Calls Tryz.prog 345 #[.int .i64 a, .int .i64 k] w fun e w' => e = .returned (.int .i64 (wrap64 (wrap64 (a + 1) + k))) ∧ w = w' := by
  go_enter Tryz.func345, Tryz.ntmps345
  go_wp2
  go_ret
  exact ⟨rfl, rfl⟩

set_option maxRecDepth 100000 in
set_option maxHeartbeats 800000 in
theorem bInit_any (a n : Int) (h_a : I64 a) (h_n : I64 n) (w : World) (g : FG) (sl : Value) (s : FS) (hF : Fr w g sl s) (s' : FS) (hx : exec (kBInit a n) s = some ((), s')) :
    Calls Tryz.prog 277 #[.pointer (some ⟨g.fb, 0, none⟩), .int .i64 a, .int .i64 n] w fun e w' => (True) ∧ Posts g sl s' w (.tuple #[]) e w' := by
  have w_a : wrap64 a = a := wrap64_i64 h_a
  have HF0 := Lib.hid hF
  have HE0 := Lib.hid (Ev.refl g sl w)
  clear hF h_a
  unfold kBInit at hx
  cases hb : blkB n with
  | false =>
    have hx := exec_ff hb hx
    have hn : ¬ (1 ≤ n ∧ n ≤ 16) := by
      intro h
      simp [blkB, h.1, h.2] at hb
    obtain ⟨-, rfl⟩ := exec_pure hx
    have HN := Lib.hid hn
    clear hx hn hb
    go_enter Tryz.func277, Tryz.ntmps277
    go_wp2_with (go_at_call 344; refine (blkWords_no n HN.out _).mono ?_; rintro e wq ⟨rfl, rfl⟩)
    first | go_end0 | ((try simp only [Exit.inBlock, Exit.then]); refine bodyPost_ret (results_none rfl _ _ _) rfl ?_)
    exact ⟨trivial, by simp, sl, HF0.out, HE0.out⟩
  | true =>
    have hx := exec_tt hb hx
    obtain ⟨n0, n1⟩ : 1 ≤ n ∧ n ≤ 16 := by simpa [blkB] using hb
    obtain ⟨_, s1, x1, hx⟩ := exec_bind_some hx
    have X1 := Lib.hid x1
    have HX := Lib.hid hx
    have hq : (n + 1 == 0) = false := by simp; omega
    clear x1 hx hb
    go_enter Tryz.func277, Tryz.ntmps277
    go_wp2_with (go_at_call 344; refine (blkWords_yes n n0 n1 _).mono ?_; rintro e wq ⟨rfl, rfl⟩)
    go_at_call 209
    refine (kstore a 1 (i64_small (by omega) (by omega)) _ g _ _ HF0.out _ X1.out).mono ?_
    rintro e w1 ⟨_, rfl, sl1, hF1, hE1⟩
    have HF1 := Lib.hid hF1
    have HE1 := Lib.hid (HE0.out.trans hE1)
    clear hF1 hE1
    go_wp2
    go_loopw [16] (fun i wr => ∃ k : Nat, k ≤ n.toNat ∧ i = .int .i64 k ∧ ∃ slr sr, Hid (Fr wr g slr sr) ∧ Hid (Ev g sl slr w wr) ∧ Hid (exec (kBInitFrom a n (n.toNat - k) k) sr = some ((), s'))) (fun i _ => n.toNat - (intOf i).toNat)
    case atStart => exact ⟨0, by omega, rfl, sl1, s1, HF1, HE1, HX⟩
    case round =>
      obtain ⟨k, hk, rfl, slr, sr, hFr, hEr, hXr⟩ := hrel
      by_cases hlt : k < n.toNat
      · have hlc : (k : Int) < n := by omega
        have hx := hXr.out
        rw [show n.toNat - k = (n.toNat - (k + 1)) + 1 by omega] at hx
        unfold kBInitFrom at hx
        obtain ⟨_, s2, x2, hx⟩ := exec_bind_some hx
        have X2 := Lib.hid x2
        have HX2 := Lib.hid hx
        clear hx hXr x2
        by_cases hl : (k : Int) < n - 1
        · have e : blkNext n k = (k : Int) + 2 := by unfold blkNext; rw [if_pos hl]
          rw [e] at X2
          clear e
          go_wp2_with fail
          go_at_call 345
          refine (blkWord_any a k _).mono ?_
          rintro e wq ⟨rfl, rfl⟩
          go_wp2_with fail
          go_at_call 209
          refine (kstore _ ((k : Int) + 2) (i64_small (by omega) (by omega)) _ g _ _ hFr.out _ X2.out).mono ?_
          rintro e w2 ⟨_, rfl, sl2, hF2, hE2⟩
          have HF2 := Lib.hid hF2
          have HE2 := Lib.hid (hEr.out.trans hE2)
          clear hF2 hE2
          go_wp2
          go_roundw
          case rel => exact ⟨k + 1, by omega, by go_num, sl2, s2, HF2, HE2, HX2⟩
          case measure => simp [intOf]; omega
        · have e : blkNext n k = 0 := by unfold blkNext; rw [if_neg hl]
          rw [e] at X2
          clear e
          go_wp2_with fail
          go_at_call 345
          refine (blkWord_any a k _).mono ?_
          rintro e wq ⟨rfl, rfl⟩
          go_wp2_with fail
          go_at_call 209
          refine (kstore _ 0 (i64_small (by omega) (by omega)) _ g _ _ hFr.out _ X2.out).mono ?_
          rintro e w2 ⟨_, rfl, sl2, hF2, hE2⟩
          have HF2 := Lib.hid hF2
          have HE2 := Lib.hid (hEr.out.trans hE2)
          clear hF2 hE2
          go_wp2
          go_roundw
          case rel => exact ⟨k + 1, by omega, by go_num, sl2, s2, HF2, HE2, HX2⟩
          case measure => simp [intOf]; omega
      · have hke : n.toNat - k = 0 := by omega
        have hx := hXr.out
        rw [hke] at hx
        obtain ⟨-, rfl⟩ := exec_pure hx
        have hkn : n = (k : Int) := by omega
        subst hkn
        clear hx hke
        go_wp2
        first | go_end0 | ((try simp only [Exit.inBlock, Exit.then]); refine bodyPost_ret (results_none rfl _ _ _) rfl ?_)
        exact ⟨trivial, by simp, slr, hFr.out, hEr.out⟩
end Go.Proofs.YtefbdcmodfbpbaaGreat
