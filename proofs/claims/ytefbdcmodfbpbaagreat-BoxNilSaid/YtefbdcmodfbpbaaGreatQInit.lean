/-
  queue.Init, delta.Init, block.Init.
-/
import Derived.Test.YtefbdcmodfbpbaaGreatQueue
set_option linter.unusedVariables false
set_option linter.unusedSimpArgs false
namespace Go.Proofs.YtefbdcmodfbpbaaGreat
open Go.RowKit

def kQInitFrom (a : Int) : Nat → Nat → Prog Unit
  | 0, _ => pure ()
  | n + 1, k => do
    kInit (qHead a k)
    kQInitFrom a n (k + 1)
def kQInit (a : Int) : Prog Unit := do
  st a 0
  kQInitFrom a 16 0

set_option maxRecDepth 100000 in
set_option maxHeartbeats 800000 in
theorem qInit_any (a : Int) (h_a : I64 a) (w : World) (g : FG) (sl : Value) (s : FS) (hF : Fr w g sl s) (s' : FS) (hx : exec (kQInit a) s = some ((), s')) :
    Calls Tryz.prog 204 #[.pointer (some ⟨g.fb, 0, none⟩), .int .i64 a] w fun e w' => (True) ∧ Posts g sl s' w (.tuple #[]) e w' := by
  have w_a : wrap64 a = a := wrap64_i64 h_a
  have HF0 := Lib.hid hF
  have HE0 := Lib.hid (Ev.refl g sl w)
  clear hF h_a
  unfold kQInit at hx
  obtain ⟨_, s1, x1, hx⟩ := exec_bind_some hx
  have X1 := Lib.hid x1
  have HX := Lib.hid hx
  clear x1 hx
  go_enter Tryz.func204, Tryz.ntmps204
  go_wp2_with fail
  go_at_call 209
  refine (kstore a 0 (i64_small (by omega) (by omega)) _ g _ _ HF0.out _ X1.out).mono ?_
  rintro e w1 ⟨_, rfl, sl1, hF1, hE1⟩
  have HF1 := Lib.hid hF1
  have HE1 := Lib.hid (HE0.out.trans hE1)
  clear hF1 hE1
  go_wp2
  go_loopw [8] (fun i wr => ∃ k : Nat, k ≤ 16 ∧ i = .int .i64 k ∧ ∃ slr sr, Hid (Fr wr g slr sr) ∧ Hid (Ev g sl slr w wr) ∧ Hid (exec (kQInitFrom a (16 - k) k) sr = some ((), s'))) (fun i _ => 16 - (intOf i).toNat)
  case atStart => exact ⟨0, by omega, rfl, sl1, s1, HF1, HE1, HX⟩
  case round =>
    obtain ⟨k, hk, rfl, slr, sr, hFr, hEr, hXr⟩ := hrel
    by_cases hlt : k < 16
    · have hlc : (k : Int) < 16 := by omega
      have hx := hXr.out
      rw [show 16 - k = (15 - k) + 1 by omega] at hx
      unfold kQInitFrom at hx
      obtain ⟨_, s2, x2, hx⟩ := exec_bind_some hx
      have X2 := Lib.hid x2
      have HX2 : Hid (exec (kQInitFrom a (16 - (k + 1)) (k + 1)) s2 = some ((), s')) := by rw [show 16 - (k + 1) = 15 - k by omega]; exact Lib.hid hx
      clear x2 hx hXr
      go_wp2_with fail
      go_at_call 275
      refine (qhead_any a k _).mono ?_
      rintro e wq ⟨rfl, rfl⟩
      go_wp2_with fail
      go_at_call 274
      refine (init_any (qHead a k) (i64_wrap64 _) _ g _ _ hFr.out _ X2.out).mono ?_
      rintro e w2 ⟨_, rfl, sl2, hF2, hE2⟩
      have HF2 := Lib.hid hF2
      have HE2 := Lib.hid (hEr.out.trans hE2)
      clear hF2 hE2
      go_wp2
      go_roundw
      case rel => exact ⟨k + 1, by omega, by go_num, sl2, s2, HF2, HE2, HX2⟩
      case measure => simp [intOf]; omega
    · have hke : k = 16 := by omega
      subst hke
      obtain ⟨-, rfl⟩ := exec_pure hXr.out
      go_wp2
      first | go_end0 | ((try simp only [Exit.inBlock, Exit.then]); refine bodyPost_ret (results_none rfl _ _ _) rfl ?_)
      exact ⟨trivial, by simp, slr, hFr.out, hEr.out⟩
end Go.Proofs.YtefbdcmodfbpbaaGreat
