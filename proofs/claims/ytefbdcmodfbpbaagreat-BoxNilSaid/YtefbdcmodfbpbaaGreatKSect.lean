/-
  An op's section (kernel.Op.section) whose doing does no access and needs no dispatch: it enters the lock, and leaves it.
-/
import Derived.Test.YtefbdcmodfbpbaaGreatKClock
set_option linter.unusedVariables false
set_option linter.unusedSimpArgs false
namespace Go.Proofs.YtefbdcmodfbpbaaGreat
open Go.RowKit

/-- The section of an op that does nothing within the lock. -/
def kSect : Prog Unit := kEnter 0 >>= fun k => kLeave 0 k >>= fun _ => markNow

set_option maxRecDepth 100000 in
set_option maxHeartbeats 3200000 in
theorem enterOp_any (ob : Nat) (sT sO v1 v2 : Value) (W core t kind handle a b : Int) (wv : Value) (timeout o : Int) (does body : Value) (code count : Int) (ws : Value) (blk spn : Bool) (tk : Int) (mv : Bool) (rn : Int) (an stir : Bool) (w : World) (g : FG) (sl : Value) (s : FS) (hF : Fr w g sl s)
    (h0 : w.heap[ob]? = some (.cells (opArr sT sO v1 v2 W core t kind handle a b wv timeout o does body code count ws blk spn tk mv rn an stir) 133 (0, 0)))
    (hap : ob ≠ g.fb ∧ ob ≠ g.wb ∧ sl.ownBlock ≠ some ob) (hm : ob ≠ g.mb) (r : Int) (s' : FS) (hx : exec (kEnter 0) s = some (r, s')) :
    Calls Tryz.prog 141 #[.pointer (some ⟨ob, 0, none⟩), .pointer (some ⟨g.fb, 0, none⟩)] w fun e w' => e = .returned (.int .i64 r) ∧ I64 r ∧ ∃ sl', Fr w' g sl' s' ∧ EvS (fun j => j = ob) g sl sl' w w' ∧ (ob ≠ g.fb ∧ ob ≠ g.wb ∧ sl'.ownBlock ≠ some ob) ∧
      w'.heap[ob]? = some (.cells (opArr sT sO v1 v2 W core t kind handle a b wv timeout o does body 0 0 nilS false false 0 false 0 false false) 133 (0, 0)) := by
  have r0 := row_of h0
  have f0 := free_of_block h0
  have l0 := lt_of_block h0
  unfold opArr at r0
  have HF := Lib.hid hF
  have H0 := Lib.hid h0
  have HX := Lib.hid hx
  have HAP := Lib.hid hap
  clear h0 hx hF hap
  go_enter Tryz.func141, Tryz.ntmps141
  go_wp2_with fail
  obtain ⟨wz, hwz⟩ : ∃ x, x = ((((((((w.setCell ⟨ob, 25, none⟩ (.int .i64 0)).setCell ⟨ob, 26, none⟩ (.int .i64 0)).setCell ⟨ob, 27, none⟩ (.slice none 0 0)).setCell ⟨ob, 28, none⟩ (.bool false)).setCell ⟨ob, 29, none⟩ (.bool false)).setCell ⟨ob, 30, none⟩ (.int .i64 0)).setCell ⟨ob, 31, none⟩ (.bool false)).setCell ⟨ob, 32, none⟩ (.int .i64 0)).setCell ⟨ob, 33, none⟩ (.bool false) := ⟨_, rfl⟩
  obtain ⟨hsz, hbz⟩ := out_zero H0.out hwz
  rw [← hwz]
  obtain ⟨w1, hw1⟩ : ∃ x, x = wz.setCell ⟨ob, 34, none⟩ (.bool false) := ⟨_, rfl⟩
  have hs1 : SameBut ob w w1 := by rw [hw1]; exact hsz.set _ _
  have hb1 : w1.heap[ob]? = some (.cells (opArr sT sO v1 v2 W core t kind handle a b wv timeout o does body 0 0 nilS false false 0 false 0 false false) 133 (0, 0)) := by rw [hw1]; exact block_setCell hbz 34 (.bool false)
  rw [← hw1]
  have HF1 := Lib.hid (HF.out.sameBut HAP.out hm hs1)
  have HE1 := Lib.hid (hs1.evS g sl)
  have HB1 := Lib.hid hb1
  clear hw1 hwz hsz hbz hb1 r0 f0 H0 hs1
  go_at_call 212
  refine (enter_any 0 (by omega) (by omega) _ g _ _ HF1.out _ _ HX.out).mono ?_
  rintro e w2 ⟨hi, rfl, sl2, hF2, hE2⟩
  have l1 := lt_of_block HB1.out
  have HA2 := Lib.hid (apart_ev HAP.out hE2 l1)
  have HB2 := Lib.hid ((hE2.keep l1 HAP.out).trans HB1.out)
  have HF2 := Lib.hid hF2
  have HE2 := Lib.hid (HE1.out.trans (hE2.toS _))
  have HI := Lib.hid hi
  clear hF2 hE2 hi
  go_wp2
  go_ret
  exact ⟨rfl, HI.out, sl2, HF2.out, HE2.out, HA2.out, HB2.out⟩

set_option maxRecDepth 100000 in
set_option maxHeartbeats 3200000 in
theorem leaveOp_any (ob : Nat) (sT sO v1 v2 : Value) (W core t kind handle a b : Int) (wv : Value) (timeout o : Int) (does body : Value) (code count : Int) (ws : Value) (blk spn : Bool) (tk : Int) (mv : Bool) (rn : Int) (an : Bool) (k : Int) (w : World) (g : FG) (sl : Value) (s : FS) (hF : Fr w g sl s)
    (h0 : w.heap[ob]? = some (.cells (opArr sT sO v1 v2 W core t kind handle a b wv timeout o does body code count ws blk spn tk mv rn an false) 133 (0, 0)))
    (hap : ob ≠ g.fb ∧ ob ≠ g.wb ∧ sl.ownBlock ≠ some ob) (s' : FS) (hx : exec (kLeave 0 k) s = some ((), s')) :
    Calls Tryz.prog 142 #[.pointer (some ⟨ob, 0, none⟩), .pointer (some ⟨g.fb, 0, none⟩), .int .i64 k] w fun e w' => e = .returned (.tuple #[]) ∧ ∃ sl', Fr w' g sl' s' ∧ Ev g sl sl' w w' ∧ (ob ≠ g.fb ∧ ob ≠ g.wb ∧ sl'.ownBlock ≠ some ob) ∧
      w'.heap[ob]? = some (.cells (opArr sT sO v1 v2 W core t kind handle a b wv timeout o does body code count ws blk spn tk mv rn an false) 133 (0, 0)) := by
  have r0 := row_of h0
  have l0 := lt_of_block h0
  unfold opArr at r0
  have HF := Lib.hid hF
  have H0 := Lib.hid h0
  have HX := Lib.hid hx
  have HAP := Lib.hid hap
  clear h0 hx hF hap
  go_enter Tryz.func142, Tryz.ntmps142
  go_wp2_with fail
  go_at_call 214
  refine (leave_any 0 k (by omega) (by omega) _ g _ _ HF.out _ HX.out).mono ?_
  rintro e w2 ⟨-, rfl, sl2, hF2, hE2⟩
  have HA2 := Lib.hid (apart_ev HAP.out hE2 l0)
  have HB2 := Lib.hid ((hE2.keep l0 HAP.out).trans H0.out)
  have HF2 := Lib.hid hF2
  have HE2 := Lib.hid hE2
  clear hF2 hE2
  go_wp2
  first | go_end0 | ((try simp only [Exit.inBlock, Exit.then]); refine bodyPost_ret (results_none rfl _ _ _) rfl ?_)
  exact ⟨rfl, sl2, HF2.out, HE2.out, HA2.out, HB2.out⟩

/-- What an op does within the lock, that does no access: it tells a code. -/
def DoesCode (nbD ob : Nat) (g : FG) (X : Array Value) (Y : Array Value) (K : World → Prop) : Prop :=
  ∀ (w : World) (sl : Value) (s : FS), Fr w g sl s → K w → w.heap[ob]? = some (.cells X 133 (0, 0)) → (ob ≠ g.fb ∧ ob ≠ g.wb ∧ sl.ownBlock ≠ some ob) →
    Calls Tryz.prog nbD #[.pointer (some ⟨ob, 0, none⟩), .pointer (some ⟨g.fb, 0, none⟩)] w fun e w' => e = .returned (.tuple #[]) ∧ ∃ sl', Fr w' g sl' s ∧ EvS (fun j => j = ob) g sl sl' w w' ∧ (ob ≠ g.fb ∧ ob ≠ g.wb ∧ sl'.ownBlock ≠ some ob) ∧ w'.heap[ob]? = some (.cells Y 133 (0, 0))

set_option maxRecDepth 100000 in
set_option maxHeartbeats 3200000 in
theorem section_any (nbD : Nat) (hen : Enters nbD) (ecode : Int) (ob : Nat) (sT sO v1 v2 : Value) (W core t kind handle a b : Int) (wv : Value) (timeout o : Int)  (body : Value) (code count : Int) (ws : Value) (blk spn : Bool) (tk : Int) (mv : Bool) (rn : Int) (an stir : Bool) (w : World) (g : FG) (sl : Value) (s : FS) (hF : Fr w g sl s) (K : World → Prop)
    (hK : ∀ w' sl', EvS (fun j => j = ob) g sl sl' w w' → K w')
    (hD : DoesCode nbD ob g (opArr sT sO v1 v2 W core t kind handle a b wv timeout o (bound nbD (.pointer (some ⟨ob, 0, none⟩))) body 0 0 nilS false false 0 false 0 false false) (opArr sT sO v1 v2 W core t kind handle a b wv timeout o (bound nbD (.pointer (some ⟨ob, 0, none⟩))) body ecode 0 nilS false false 0 false 0 false false) K)
    (h0 : w.heap[ob]? = some (.cells (opArr sT sO v1 v2 W core t kind handle a b wv timeout o (bound nbD (.pointer (some ⟨ob, 0, none⟩))) body code count ws blk spn tk mv rn an stir) 133 (0, 0)))
    (hap : ob ≠ g.fb ∧ ob ≠ g.wb ∧ sl.ownBlock ≠ some ob) (hm : ob ≠ g.mb) (s' : FS) (hx : exec kSect s = some ((), s')) :
    Calls Tryz.prog 78 #[.pointer (some ⟨ob, 0, none⟩), .pointer (some ⟨g.fb, 0, none⟩)] w fun e w' => e = .returned (.tuple #[]) ∧ ∃ sl', Fr w' g sl' s' ∧ EvS (fun j => j = ob) g sl sl' w w' ∧ (ob ≠ g.fb ∧ ob ≠ g.wb ∧ sl'.ownBlock ≠ some ob) ∧
      w'.heap[ob]? = some (.cells (opArr sT sO v1 v2 W core t kind handle a b wv timeout o (bound nbD (.pointer (some ⟨ob, 0, none⟩))) body ecode 0 nilS false false 0 false 0 false false) 133 (0, 0)) := by
  unfold kSect at hx
  obtain ⟨k, s1, x1, hx⟩ := exec_bind_some hx
  obtain ⟨_, s2, x2, hx⟩ := exec_bind_some hx
  have X1 := Lib.hid x1
  have X2 := Lib.hid x2
  have X3 := Lib.hid hx
  have HF := Lib.hid hF
  have H0 := Lib.hid h0
  have HAP := Lib.hid hap
  have HD := Lib.hid hD
  have HK := Lib.hid hK
  unfold Enters at hen
  clear h0 hx hF hap x1 x2 hD hK
  go_enter Tryz.func78, Tryz.ntmps78
  go_wp2_with fail
  go_at_call 141
  refine (enterOp_any ob _ _ _ _ _ _ _ _ _ _ _ _ _ _ _ _ _ _ _ _ _ _ _ _ _ _ _ g sl s HF.out H0.out HAP.out hm k s1 X1.out).mono ?_
  rintro e w1 ⟨rfl, hi1, sl1, hF1, hE1, hA1, hB1⟩
  have HF1 := Lib.hid hF1
  have HE1 := Lib.hid hE1
  have HA1 := Lib.hid hA1
  have HB1 := Lib.hid hB1
  have r1 := row_of hB1
  have l1 := lt_of_block hB1
  unfold opArr at r1
  clear hF1 hE1 hA1 hB1 hi1
  go_wp2_with fail
  refine (HD.out w1 sl1 s1 HF1.out (HK.out _ _ HE1.out) HB1.out HA1.out).mono ?_
  rintro e w2 ⟨rfl, sl2, hF2, hE2, hA2, hB2⟩
  have HF2 := Lib.hid hF2
  have HE2 := Lib.hid (HE1.out.trans hE2)
  have HA2 := Lib.hid hA2
  have HB2 := Lib.hid hB2
  clear hF2 hE2 hA2 hB2 r1 l1
  go_wp2_with fail
  go_at_call 142
  refine (leaveOp_any ob _ _ _ _ _ _ _ _ _ _ _ _ _ _ _ _ _ _ _ _ _ _ _ _ _ k _ g sl2 s1 HF2.out HB2.out HA2.out s2 X2.out).mono ?_
  rintro e w3 ⟨rfl, sl3, hF3, hE3, hA3, hB3⟩
  have HF3 := Lib.hid hF3
  have HE3 := Lib.hid (HE2.out.trans (hE3.toS _))
  have HA3 := Lib.hid hA3
  have HB3 := Lib.hid hB3
  clear hF3 hE3 hA3 hB3
  go_wp2_with fail
  go_at_call 143
  refine (kmark _ g _ _ HF3.out _ X3.out).mono ?_
  rintro e w4 ⟨-, rfl, sl4, hF4, hE4⟩
  have l3 := lt_of_block HB3.out
  have HA4 := Lib.hid (apart_ev HA3.out hE4 l3)
  have HB4 := Lib.hid ((hE4.keep l3 HA3.out).trans HB3.out)
  have HF4 := Lib.hid hF4
  have HE4 := Lib.hid (HE3.out.trans (hE4.toS _))
  clear hF4 hE4
  go_wp2
  first | go_end0 | ((try simp only [Exit.inBlock, Exit.then]); refine bodyPost_ret (results_none rfl _ _ _) rfl ?_)
  exact ⟨rfl, sl4, HF4.out, HE4.out, HA4.out, HB4.out⟩
end Go.Proofs.YtefbdcmodfbpbaaGreat
