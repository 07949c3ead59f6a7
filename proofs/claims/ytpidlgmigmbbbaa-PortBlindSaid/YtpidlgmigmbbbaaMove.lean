/-
  port.Move, over whatever stands of the two memories.
-/
import Derived.Test.YtpidlgmigmbbbaaMvRun
import Derived.StillTailTactics
set_option linter.unusedVariables false
set_option linter.unusedSimpArgs false
namespace Go.Proofs.Ytpidlgmigmbbbaa
open Go.RowKit

/-- A mover's run, from a state 'J' of what is in the Out and in the In. -/
def MvGets (B mb : Nat) (mv : Int → Bool → Array Value) (J : World → List Int → List Int → Prop) : Prop :=
  ∀ (W : World) (xb : Nat) (l k : List Int), J W l k → B ≤ xb → W.heap[xb]? = some (.cells (mv 0 false) 107 (0, 0)) →
    Calls Try.prog 22 #[.pointer (some ⟨mb, 0, none⟩), bound 35 (.pointer (some ⟨xb, 0, none⟩)), .int .i64 100] W fun e w2 =>
      e = .returned (.bool true) ∧ J w2 l.tail k ∧ w2.heap[xb]? = some (.cells (mv (l.headD 0) (!l.isEmpty)) 107 (0, 0)) ∧ W.heap.size ≤ w2.heap.size ∧ ∀ j, B ≤ j → j < W.heap.size → j ≠ xb → w2.heap[j]? = W.heap[j]?
def MvPuts (B mb : Nat) (d : Nat) (mv : Int → Bool → Array Value) (J : World → List Int → List Int → Prop) : Prop :=
  ∀ (W : World) (xb : Nat) (l k : List Int) (v : Int), I64 v → J W l k → B ≤ xb → W.heap[xb]? = some (.cells (mv v false) 107 (0, 0)) →
    Calls Try.prog 22 #[.pointer (some ⟨mb, 0, none⟩), bound 36 (.pointer (some ⟨xb, 0, none⟩)), .int .i64 100] W fun e w2 =>
      e = .returned (.bool true) ∧ J w2 l (if k.length < d then k ++ [v] else k) ∧ w2.heap[xb]? = some (.cells (mv v (decide (k.length < d))) 107 (0, 0)) ∧ W.heap.size ≤ w2.heap.size ∧ ∀ j, B ≤ j → j < W.heap.size → j ≠ xb → w2.heap[j]? = W.heap[j]?

def putN (n k d : Nat) : Nat := min n (d - k)
theorem move_step (l k : List Int) (d j : Nat) (hj : j < l.length) (hk : k.length ≤ d) :
    (if (k ++ (l.take j).take (d - k.length)).length < d then (k ++ (l.take j).take (d - k.length)) ++ [l[j]] else k ++ (l.take j).take (d - k.length)) = k ++ (l.take (j + 1)).take (d - k.length) ∧
    putN (j + 1) k.length d = putN j k.length d + (if (k ++ (l.take j).take (d - k.length)).length < d then 1 else 0) := by
  have e1 : ((l.take j).take (d - k.length)).length = min (d - k.length) j := by simp; omega
  unfold putN
  by_cases h : (k ++ (l.take j).take (d - k.length)).length < d
  · rw [if_pos h, if_pos h]
    rw [List.length_append, e1] at h
    have e2 : (l.take j).take (d - k.length) = l.take j := List.take_of_length_le (by simp; omega)
    have e3 : (l.take (j + 1)).take (d - k.length) = l.take (j + 1) := List.take_of_length_le (by simp; omega)
    rw [e2, e3, List.take_succ_eq_append_getElem hj, List.append_assoc]
    exact ⟨rfl, by omega⟩
  · rw [if_neg h, if_neg h]
    rw [List.length_append, e1] at h
    have e4 : d - k.length ≤ j := by omega
    rw [List.take_take, List.take_take, Nat.min_eq_left e4, Nat.min_eq_left (by omega)]
    exact ⟨rfl, by omega⟩

set_option maxRecDepth 100000 in
set_option maxHeartbeats 8000000 in
theorem move_any (P Q : PartD) (pT pO p1 p2 qT qO q1 q2 : Value) (F G : Nat → Prop) (o i : Int) (hko : isKB P o 6 = true) (hki : isKB Q i 7 = true) (mb nb d : Nat) (l k : List Int) (hl : l.length ≤ 16) (hk : k.length ≤ d) (hl64 : ∀ x ∈ l, I64 x) (w : World)
    (hP : PlanVal w F (.agg (planArr pT pO p1 p2 (planWords P))) P) (hQ : PlanVal w G (.agg (planArr qT qO q1 q2 (planWords Q))) Q)
    (J : World → List Int → List Int → Prop) (hJ : ∀ W W' l k, J W l k → Below W.heap.size W W' → J W' l k) (h0 : J w l k)
    (hget : MvGets w.heap.size mb (mvArr pT pO p1 p2 (planWords P) o) J) (hput : MvPuts w.heap.size nb d (mvArr qT qO q1 q2 (planWords Q) i) J) :
    Calls Try.prog 13 #[.pointer (some ⟨mb, 0, none⟩), .agg (planArr pT pO p1 p2 (planWords P)), .int .i64 o, .pointer (some ⟨nb, 0, none⟩), .agg (planArr qT qO q1 q2 (planWords Q)), .int .i64 i] w fun e w' =>
      e = .returned (.tuple #[.int .i64 (putN l.length k.length d), .int .i64 (l.length - putN l.length k.length d)]) ∧ J w' [] (k ++ l.take (d - k.length)) := by
  have HI1 := Lib.hid (fun (W : World) (hb : Below w.heap.size w W) => isKind_any P _ F o 6 true hko W (hP.kept (fun k hk _ => hb.block k hk)))
  have HI2 := Lib.hid (fun (W : World) (hb : Below w.heap.size w W) => isKind_any Q _ G i 7 true hki W (hQ.kept (fun k hk _ => hb.block k hk)))
  have HG := Lib.hid hget
  have HPt := Lib.hid hput
  have HJ := Lib.hid hJ
  have HJ0 := Lib.hid h0
  have HL := Lib.hid hl64
  clear hP hQ hget hput hJ h0 hl64 hko hki
  unfold planArr at *
  unfold mvArr at HG HPt
  go_enter Try.func13, Try.ntmps13
  go_wp2_with fail
  go_at_call 34
  refine (HI1.out _ (((Below.refl _ _).alloc (Nat.le_refl _) _).alloc (by simp) _)).mono ?_
  rintro e w1 ⟨rfl, hb1⟩
  have hA1 : w1.heap[w.heap.size]? = some (.cells #[.int .i64 0, .int .i64 2, .int .i64 4, .int .i64 3, .int .i64 5, .int .i64 6, .int .i64 8, .int .i64 41, .int .i64 43, pT, pO, .int .i64 (planWords P), p1, p2] 40 (0, 0)) := (hb1.block _ (by simp <;> omega)).trans ((Below.heap_alloc _ _ _ (by simp)).trans (heap_alloc_new w _))
  have hB1 : w1.heap[w.heap.size + 1]? = some (.cells #[.int .i64 0, .int .i64 2, .int .i64 4, .int .i64 3, .int .i64 5, .int .i64 6, .int .i64 8, .int .i64 41, .int .i64 43, qT, qO, .int .i64 (planWords Q), q1, q2] 40 (0, 0)) := (hb1.block _ (by simp)).trans (two_second _ _ _)
  have hw1 : Below w.heap.size w w1 := (((Below.refl _ _).alloc (Nat.le_refl _) _).alloc (by simp) _).trans (hb1.mono (by simp <;> omega))
  have z1 : w.heap.size + 1 < w1.heap.size := by have := hb1.size; simp at this; omega
  have z1' : w.heap.size < w1.heap.size := by omega
  have r1 := row_of hA1
  have r2 := row_of hB1
  have HA1 := Lib.hid hA1
  have HB1 := Lib.hid hB1
  have HW1 := Lib.hid hw1
  clear hA1 hB1 hw1 hb1
  go_wp2_with fail
  go_at_call 34
  refine (HI2.out _ HW1.out).mono ?_
  rintro e w2 ⟨rfl, hb2⟩
  have HA2 := Lib.hid ((hb2.block _ z1').trans HA1.out)
  have HB2 := Lib.hid ((hb2.block _ z1).trans HB1.out)
  have HW2 := Lib.hid (HW1.out.trans (hb2.mono (Nat.le_of_lt z1')))
  have z2 : w.heap.size + 1 < w2.heap.size := by have := hb2.size; omega
  have HJ2 := Lib.hid (HJ.out _ _ _ _ HJ0.out HW2.out)
  clear hb2 r1 r2 HA1 HB1 HW1 HJ0 HI1 HI2 z1 z1'
  go_wp2
  go_loopw [14, 15, 36] (fun a b c wr => ∃ j : Nat, j ≤ l.length ∧ c = .int .i64 j ∧ a = .int .i64 (putN j k.length d : Nat) ∧ b = .int .i64 ((j : Int) - (putN j k.length d : Nat)) ∧ Hid (J wr (l.drop j) (k ++ (l.take j).take (d - k.length))) ∧ Hid (wr.heap[w.heap.size]? = some (.cells #[.int .i64 0, .int .i64 2, .int .i64 4, .int .i64 3, .int .i64 5, .int .i64 6, .int .i64 8, .int .i64 41, .int .i64 43, pT, pO, .int .i64 (planWords P), p1, p2] 40 (0, 0))) ∧ Hid (wr.heap[w.heap.size + 1]? = some (.cells #[.int .i64 0, .int .i64 2, .int .i64 4, .int .i64 3, .int .i64 5, .int .i64 6, .int .i64 8, .int .i64 41, .int .i64 43, qT, qO, .int .i64 (planWords Q), q1, q2] 40 (0, 0))) ∧ w.heap.size + 1 < wr.heap.size) (fun _ _ c _ => 16 - (intOf c).toNat)
  case atStart => exact ⟨0, Nat.zero_le _, rfl, by simp [putN], by simp [putN], Lib.hid (by simpa using HJ2.out), HA2, HB2, z2⟩
  case round =>
    clear HJ2 HA2 HB2 HW2 z2
    obtain ⟨j, hj, rfl, rfl, rfl, hJr, hA, hB, hz⟩ := hrel
    have z1 : w.heap.size < wr.heap.size := by omega
    have r1 := row_of hA.out
    have hp : putN j k.length d ≤ j := by unfold putN; omega
    by_cases hlt : j < 16
    · have hlc : (j : Int) < 16 := by omega
      have HR := Lib.hid (HG.out (wr.alloc (.cells #[.int .i64 0, .int .i64 2, .int .i64 4, .int .i64 3, .int .i64 5, .int .i64 6, .int .i64 8, .int .i64 41, .int .i64 43, pT, pO, .int .i64 (planWords P), p1, p2, .int .i64 o, .int .i64 0, .bool false] 107)) wr.heap.size _ _ (HJ.out _ _ _ _ hJr.out ((Below.refl _ _).alloc (Nat.le_refl _) _)) (by omega) (heap_alloc_new _ _))
      clear hJr
      by_cases hjl : j < l.length
      · rw [List.drop_eq_getElem_cons hjl] at HR
        have hms := move_step l k d j hjl hk
        have hv : I64 l[j] := HL.out _ (List.getElem_mem hjl)
        simp only [List.tail_cons, List.headD_cons, List.isEmpty_cons, Bool.not_false] at HR
        have HV := Lib.hid hv
        have HMS := Lib.hid hms
        clear hv hms
        generalize l[j] = v at *
        go_wp2_with fail
        go_at_call 22
        refine HR.out.mono ?_
        rintro e w3 ⟨rfl, hJ3, hb3, hs3, hk3⟩
        rw [World.size_alloc] at hs3 hk3
        have x3 := row_of hb3
        have z3 : wr.heap.size < w3.heap.size := by omega
        have HA3 := Lib.hid ((hk3 w.heap.size (Nat.le_refl _) (by omega) (by omega)).trans ((Below.heap_alloc _ _ _ z1).trans hA.out))
        have HB3 := Lib.hid ((hk3 (w.heap.size + 1) (by omega) (by omega) (by omega)).trans ((Below.heap_alloc _ _ _ hz).trans hB.out))
        have y3 := row_of HB3.out
        have z4 : w.heap.size + 1 < w3.heap.size := by omega
        have HJ3 := Lib.hid hJ3
        have HPR := Lib.hid (HPt.out (w3.alloc (.cells #[.int .i64 0, .int .i64 2, .int .i64 4, .int .i64 3, .int .i64 5, .int .i64 6, .int .i64 8, .int .i64 41, .int .i64 43, qT, qO, .int .i64 (planWords Q), q1, q2, .int .i64 i, .int .i64 v, .bool false] 107)).drew w3.heap.size _ _ v HV.out (HJ.out w3 _ _ _ hJ3 ((Below.refl w3.heap.size w3).alloc (Nat.le_refl _) _).drew) (by omega) (heap_alloc_new _ _))
        clear hJ3 hb3 hk3 r1 HR
        go_wp2_with fail
        go_still_tail 7, (by kernel_rfl)
        go_wp2_with fail
        go_at_call 22
        have hpi : ((putN j k.length d : Nat) : Int) ≤ (j : Int) := by omega
        by_cases hroom : (k ++ (l.take j).take (d - k.length)).length < d
        · have hd9 : decide ((k ++ (l.take j).take (d - k.length)).length < d) = true := decide_eq_true hroom
          rw [hd9] at HPR
          refine HPR.out.mono ?_
          rintro e w4 ⟨rfl, hJ4, hb4, hs4, hk4⟩
          obtain ⟨ms1, ms2⟩ := HMS.out
          rw [ms1] at hJ4
          rw [if_pos hroom] at ms2
          have hs4' : w3.heap.size + 1 ≤ w4.heap.size := by simpa using hs4
          have x4 := row_of hb4
          have HA4 := Lib.hid ((hk4 w.heap.size (Nat.le_refl _) (by simp; omega) (by omega)).trans ((Below.heap_alloc _ _ _ (by omega)).trans HA3.out))
          have HB4 := Lib.hid ((hk4 (w.heap.size + 1) (by omega) (by simp; omega) (by omega)).trans ((Below.heap_alloc _ _ _ z4).trans HB3.out))
          have HJ4 := Lib.hid hJ4
          have z5 : w3.heap.size < w4.heap.size := by omega
          clear hJ4 hb4 hs4 hk4 ms1 x3 y3 HPR HMS hd9
          go_wp2
          go_roundw
          case rel => exact ⟨j + 1, by omega, by go_num, congrArg (Value.int .i64) (by omega), congrArg (Value.int .i64) (by omega), HJ4, HA4, HB4, by omega⟩
          case measure => simp [intOf]; omega
        · have hd9 : decide ((k ++ (l.take j).take (d - k.length)).length < d) = false := decide_eq_false hroom
          rw [hd9] at HPR
          refine HPR.out.mono ?_
          rintro e w4 ⟨rfl, hJ4, hb4, hs4, hk4⟩
          obtain ⟨ms1, ms2⟩ := HMS.out
          rw [ms1] at hJ4
          rw [if_neg hroom] at ms2
          have hs4' : w3.heap.size + 1 ≤ w4.heap.size := by simpa using hs4
          have x4 := row_of hb4
          have HA4 := Lib.hid ((hk4 w.heap.size (Nat.le_refl _) (by simp; omega) (by omega)).trans ((Below.heap_alloc _ _ _ (by omega)).trans HA3.out))
          have HB4 := Lib.hid ((hk4 (w.heap.size + 1) (by omega) (by simp; omega) (by omega)).trans ((Below.heap_alloc _ _ _ z4).trans HB3.out))
          have HJ4 := Lib.hid hJ4
          have z5 : w3.heap.size < w4.heap.size := by omega
          clear hJ4 hb4 hs4 hk4 ms1 x3 y3 HPR HMS hd9
          go_wp2
          go_roundw
          case rel => exact ⟨j + 1, by omega, by go_num, congrArg (Value.int .i64) (by omega), congrArg (Value.int .i64) (by omega), HJ4, HA4, HB4, by omega⟩
          case measure => simp [intOf]; omega
      · have hje : j = l.length := by omega
        subst hje
        rw [List.drop_length] at HR
        simp only [List.tail_nil, List.headD_nil, List.isEmpty_nil, Bool.not_true] at HR
        have hfin : (l.take l.length).take (d - k.length) = l.take (d - k.length) := by rw [List.take_length]
        rw [hfin] at HR
        clear hfin
        go_wp2_with fail
        go_at_call 22
        refine HR.out.mono ?_
        rintro e w3 ⟨rfl, hJ3, hb3, hs3, hk3⟩
        rw [World.size_alloc] at hs3
        have x3 := row_of hb3
        have z3 : wr.heap.size < w3.heap.size := by omega
        have HJ3 := Lib.hid hJ3
        clear hJ3 hb3 hk3 r1 HR
        go_wp2
        go_ret2
        exact ⟨by simp, HJ3.out⟩
    · have hje : j = 16 := by omega
      have hl16 : l.length = 16 := by omega
      have HJ3 : Hid (J wr [] (k ++ l.take (d - k.length))) := Lib.hid (by
        have := hJr.out
        rw [hje, ← hl16, List.drop_length, List.take_length] at this
        exact this)
      rw [← hl16] at hje
      subst hje
      have hge : ¬ ((l.length : Nat) : Int) < 16 := by omega
      clear hJr
      go_wp2
      go_ret2
      exact ⟨by simp, HJ3.out⟩
end Go.Proofs.Ytpidlgmigmbbbaa
