/-
  septumlaw30.right: is a number written as it should be?
-/
import Derived.Test.YtpmafppcccbmaaaDoorNumbers
import Derived.Deep.CutBlock
set_option linter.unusedVariables false
set_option linter.unusedSimpArgs false
namespace Go.Proofs.YtpmafppcccbmaaaDoor
open Go.RowKit

theorem valD_take (d : List UInt8) (k : Nat) (hk : k < d.length) : valD 0 (d.take (k + 1)) = valD 0 (d.take k) * 10 + (d[k].toNat - 48) := by
  rw [List.take_succ_eq_append_getElem hk, valD_snoc]
theorem valD_bound : ∀ (l : List UInt8) (acc : Nat), (∀ c ∈ l, isDigit c = true) → valD acc l < (acc + 1) * 10 ^ l.length
  | [], acc, _ => by simp [valD]
  | c :: l, acc, h => by
    have hc := h c (by simp)
    simp only [isDigit, Bool.and_eq_true, decide_eq_true_eq] at hc
    have ih := valD_bound l (acc * 10 + (c.toNat - 48)) (fun x hx => h x (by simp [hx]))
    have e : valD acc (c :: l) = valD (acc * 10 + (c.toNat - 48)) l := rfl
    rw [e, List.length_cons, Nat.pow_succ, Nat.mul_comm (10 ^ l.length) 10, ← Nat.mul_assoc]
    refine Nat.lt_of_lt_of_le ih (Nat.mul_le_mul_right _ ?_)
    omega
theorem valD_small (l : List UInt8) (h : ∀ c ∈ l, isDigit c = true) (hl : l.length ≤ 18) : valD 0 l ≤ 999999999999999999 := by
  have h1 := valD_bound l 0 h
  have h2 : 10 ^ l.length ≤ 10 ^ 18 := Nat.pow_le_pow_right (by decide) hl
  have h3 : (10 : Nat) ^ 18 = 1000000000000000000 := by decide
  omega

theorem sb_get (l : List UInt8) (k : Nat) (h : k < (sb l).size) : (sb l)[k] = l[k]'(by rw [sb_size] at h; exact h) := rfl
theorem extract_tail (d : List UInt8) : (sb (45 :: d)).extract 1 (d.length + 1) = sb d := by
  have e : sb (45 :: d) = sb [45] ++ sb d := (sb_append [45] d).symm
  have h1 : (sb [45]).size = 1 := rfl
  have h2 : d.length + 1 = (sb [45]).size + (sb d).size := by rw [sb_size, sb_size]; simp; omega
  rw [e, h2, ← h1]
  exact ByteArray.extract_append_eq_right rfl rfl

theorem notDigit {c : UInt8} (h : c.toNat < 48 ∨ 57 < c.toNat) : isDigit c = false := by
  refine Bool.eq_false_iff.2 fun h' => ?_
  simp only [isDigit, Bool.and_eq_true, decide_eq_true_eq] at h'
  omega
theorem end_eq {l d : List UInt8} (h : (valD 0 d : Int) = 9223372036854775808) : Ending.returned (Value.bool (!(sb d).toList == (sb l).toList)) = Ending.returned (Value.bool (decide (valD 0 d < 9223372036854775808) || (decide (valD 0 d = 9223372036854775808) && decide (d ≠ l)))) := by
  have h1 : ¬ valD 0 d < 9223372036854775808 := by omega
  have h2 : valD 0 d = 9223372036854775808 := by omega
  simp only [h1, h2, decide_true, decide_false, Bool.false_or, Bool.true_and]
  rw [sb_beq]
  by_cases e : d = l <;> simp [e]
theorem end_same {d : List UInt8} (h : (valD 0 d : Int) = 9223372036854775808) : Ending.returned (Value.bool false) = Ending.returned (Value.bool (decide (valD 0 d < 9223372036854775808) || (decide (valD 0 d = 9223372036854775808) && decide (d ≠ d)))) := by
  have h1 : ¬ valD 0 d < 9223372036854775808 := by omega
  simp [h1]
theorem end_more {l d : List UInt8} {a : Int} (h : (valD 0 d : Int) = a) (h1 : 9223372036854775808 ≤ a) (h2 : ¬ a = 9223372036854775808) : Ending.returned (Value.bool (decide (a < 9223372036854775808))) = Ending.returned (Value.bool (decide (valD 0 d < 9223372036854775808) || (decide (valD 0 d = 9223372036854775808) && decide (d ≠ l)))) := by
  have g1 : ¬ a < 9223372036854775808 := by omega
  have g2 : ¬ valD 0 d < 9223372036854775808 := by omega
  have g3 : ¬ valD 0 d = 9223372036854775808 := by omega
  simp only [g1, g2, g3, decide_false, Bool.false_or, Bool.false_and]
theorem end_less {l d : List UInt8} {a : Int} (h : (valD 0 d : Int) = a) (h1 : a < 9223372036854775808) : Ending.returned (Value.bool true) = Ending.returned (Value.bool (decide (valD 0 d < 9223372036854775808) || (decide (valD 0 d = 9223372036854775808) && decide (d ≠ l)))) := by
  have g2 : valD 0 d < 9223372036854775808 := by omega
  simp only [g2, decide_true, Bool.true_or]

set_option maxRecDepth 100000 in
set_option maxHeartbeats 3200000 in
theorem right_any (l : List UInt8) (hl : l.length ≤ 1000000) (w : World) :
    Calls Tryd.prog 34 #[.string (sb l)] w fun e w' => e = .returned (.bool (rightL l)) ∧ w = w' := by
  by_cases h0 : l = []
  · subst h0
    have : rightL [] = false := by decide
    go_enter Tryd.func34, Tryd.ntmps34
    go_wp2
    go_ret
    exact ⟨rfl, rfl⟩
  obtain ⟨d, hd⟩ : ∃ d, d = if l.head? = some 45 then l.tail else l := ⟨_, rfl⟩
  have hR : rightL l = rightD l d := by unfold rightL; rw [hd]; split <;> rfl
  have HR := Lib.hid hR
  have hdl : d.length ≤ 1000000 := by
    rw [hd]; split
    · rw [List.length_tail]; omega
    · exact hl
  have hsz := sb_size l
  have hsd := sb_size d
  have hcase : (∃ q0 : 0 < (sb l).size, (((sb l)[0]'q0).toNat : Nat) = 45 ∧ (sb l).extract 1 l.length = sb d ∧ 0 < l.length) ∨
      (∃ q0 : 0 < (sb l).size, ((((sb l)[0]'q0).toNat : Int) == 45) = false ∧ d = l ∧ 0 < l.length) := by
    match l, hd, h0 with
    | [], hd, h0 => exact absurd rfl h0
    | x :: r, hd, h0 =>
      have q0 : 0 < (sb (x :: r)).size := by rw [sb_size]; simp
      by_cases h45 : x = 45
      · subst h45
        simp only [List.head?_cons, if_true, List.tail_cons] at hd
        subst hd
        refine .inl ⟨q0, by rw [sb_get]; rfl, ?_, by simp⟩
        rw [List.length_cons]; exact extract_tail d
      · have : ¬ (x :: r).head? = some 45 := by simpa using h45
        rw [if_neg this] at hd
        refine .inr ⟨q0, ?_, hd, by simp⟩
        rw [sb_get]
        have : x.toNat ≠ 45 := fun h => h45 (UInt8.toNat_inj.1 (by rw [h]; rfl))
        simp only [List.getElem_cons_zero, beq_eq_false_iff_ne, ne_eq]
        omega
  clear hR hd
  have hne : d = l ∨ ((sb d).toList == (sb l).toList) = false ∧ d ≠ l := by
    by_cases h : d = l
    · exact .inl h
    · exact .inr ⟨sb_bne h, h⟩
  by_cases g1 : d.length < 1
  · have hF : rightD l d = false := by unfold rightD; rw [if_pos (.inl g1)]
    have HF := Lib.hid hF
    clear hF hne
    obtain rfl : d = [] := List.length_eq_zero_iff.1 (by omega)
    rcases hcase with ⟨q0, hz, hx, hp⟩ | ⟨q0, hz, hx, hp⟩
    · go_enter Tryd.func34, Tryd.ntmps34
      go_wp2
      go_ret
      exact ⟨by rw [HR.out, HF.out]; rfl, rfl⟩
    · subst hx; omega
  by_cases g2 : 19 < d.length
  · have hF : rightD l d = false := by unfold rightD; rw [if_pos (.inr (.inl g2))]
    have HF := Lib.hid hF
    have gi : (19 : Int) < (d.length : Int) := by omega
    clear hF hne
    rcases hcase with ⟨q0, hz, hx, hp⟩ | ⟨q0, hz, hx, hp⟩
    rotate_left
    subst hx
    rotate_left
    all_goals
      go_enter Tryd.func34, Tryd.ntmps34
      go_wp2
      go_ret
      exact ⟨by rw [HR.out, HF.out]; rfl, rfl⟩
  obtain ⟨y, r, hyr⟩ : ∃ y r, d = y :: r := by
    cases d with
    | nil => simp at g1
    | cons y r => exact ⟨y, r, rfl⟩
  have r0 : 0 < (sb d).size := by rw [sb_size]; omega
  have hy0 : ((sb d)[0]'r0).toNat = y.toNat := by rw [sb_get]; simp [hyr]
  by_cases g3 : y.toNat = 48 ∧ 1 < l.length
  · obtain ⟨g3, g4⟩ := g3
    have hF : rightD l d = false := by
      have h48 : d.head? = some 48 := by rw [hyr]; exact congrArg some (UInt8.toNat_inj.1 g3)
      unfold rightD; rw [if_pos (.inr (.inr ⟨h48, g4⟩))]
    have HF := Lib.hid hF
    rw [g3] at hy0
    have gi : ¬ (d.length : Int) < 1 := by omega
    have gj : ¬ (19 : Int) < (d.length : Int) := by omega
    have gk : (1 : Int) < (l.length : Int) := by omega
    clear hF hne hyr g3
    rcases hcase with ⟨q0, hz, hx, hp⟩ | ⟨q0, hz, hx, hp⟩
    rotate_left
    subst hx
    rotate_left
    all_goals
      go_enter Tryd.func34, Tryd.ntmps34
      go_wp2
      go_ret
      exact ⟨by rw [HR.out, HF.out]; rfl, rfl⟩
  have hG : ¬ (d.length < 1 ∨ 19 < d.length ∨ (d.head? = some 48 ∧ 1 < l.length)) := by
    rintro (h | h | ⟨h, h'⟩)
    · exact g1 h
    · exact g2 h
    · rw [hyr] at h; simp at h; subst h; exact g3 ⟨rfl, h'⟩
  have HG := Lib.hid hG
  have HNE := Lib.hid hne
  have gi : ¬ (d.length : Int) < 1 := by omega
  have gi' : decide ((d.length : Int) < 1) = false := by simpa using gi
  have gj : ¬ (19 : Int) < (d.length : Int) := by omega
  have g45 : (y.toNat = 48 ∧ ¬ (1 : Int) < (l.length : Int)) ∨ ((y.toNat : Int) == 48) = false := by
    by_cases g5 : y.toNat = 48
    · exact .inl ⟨g5, fun h => g3 ⟨g5, by omega⟩⟩
    · right; simp; omega
  have HQ1 : Hid (∀ (k : Nat) (hk : k < d.length), isDigit d[k] = false → rightD l d = false) := Lib.hid (fun k hk h => by
    unfold rightD; rw [if_neg hG, if_neg]
    intro ha
    rw [List.all_eq_true.1 ha _ (List.getElem_mem hk)] at h; cases h)
  have HQ2 : Hid ((∀ c ∈ d, isDigit c = true) → rightD l d = (decide (valD 0 d < 9223372036854775808) || (decide (valD 0 d = 9223372036854775808) && decide (d ≠ l)))) := Lib.hid (fun h => by
    unfold rightD; rw [if_neg hG, if_pos (List.all_eq_true.2 h)])
  clear hG HG hyr hne g3
  rcases hcase with ⟨q0, hz, hx, hp⟩ | ⟨q0, hz, hx, hp⟩
  rotate_left
  subst hx
  rotate_left
  all_goals
    rcases g45 with ⟨g5, g6⟩ | g5
  all_goals
    try rw [g5] at hy0
    go_enter Tryd.func34, Tryd.ntmps34
    go_wp2_with fail
    go_loopw [4, 5, 37] (fun n _ i wr => ∃ (k : Nat) (a : Int), k ≤ d.length ∧ i = .int .i64 k ∧ n = .int .u64 a ∧ Hid (a = (valD 0 (d.take k) : Nat) ∧ ∀ c ∈ d.take k, isDigit c = true) ∧ wr = w) (fun _ _ i _ => d.length - (intOf i).toNat)
    case atStart => exact ⟨0, 0, Nat.zero_le _, rfl, rfl, Lib.hid ⟨rfl, by simp⟩, rfl⟩
    case round =>
      obtain ⟨k, a, hk, rfl, rfl, HA, rfl⟩ := hrel
      by_cases hkd : k < d.length
      · have hki : (k : Int) < (d.length : Int) := by omega
        have hsm := valD_small (d.take k) HA.out.2 (by rw [List.length_take]; omega)
        have ha0 : 0 ≤ a := by rw [HA.out.1]; omega
        have ha1 : a ≤ 999999999999999999 := by rw [HA.out.1]; omega
        have q1 : k < (sb d).size := by rw [sb_size]; exact hkd
        have eg : ((sb d)[k]'q1).toNat = d[k].toNat := congrArg UInt8.toNat (sb_get d k q1)
        have EG := Lib.hid eg
        clear hsm eg
        go_wp2
        · go_ret
          refine ⟨?_, rfl⟩
          rw [HR.out, HQ1.out k hkd (notDigit (by have := EG.out; omega))]; rfl
        · rename_i hdg
          have e1 := EG.out
          go_roundw
          case rel => exact ⟨k + 1, _, hkd, rfl, rfl, Lib.hid ⟨by rw [HA.out.1, valD_take d k hkd]; omega, fun c hc => by
            rw [List.take_succ_eq_append_getElem hkd] at hc
            rcases List.mem_append.1 hc with hc | hc
            · exact HA.out.2 c hc
            · obtain rfl := List.mem_singleton.1 hc
              simp only [isDigit, Bool.and_eq_true, decide_eq_true_eq]; omega⟩, trivial⟩
          case measure => simp only [intOf]; omega
        · go_ret
          refine ⟨?_, rfl⟩
          rw [HR.out, HQ1.out k hkd (notDigit (by have := EG.out; omega))]; rfl
      · obtain rfl : k = d.length := by omega
        have ht : d.take d.length = d := List.take_length
        rw [ht] at HA
        clear ht
        go_wp2
        · go_ret
          refine ⟨?_, rfl⟩
          rw [HR.out, HQ2.out HA.out.2]
          first | exact end_eq (HA.out.1.symm.trans (by assumption)) | exact end_same (HA.out.1.symm.trans (by assumption))
        · go_ret
          refine ⟨?_, rfl⟩
          rw [HR.out, HQ2.out HA.out.2]
          exact end_more HA.out.1.symm (by assumption) (by assumption)
        · go_ret
          refine ⟨?_, rfl⟩
          rw [HR.out, HQ2.out HA.out.2]
          exact end_less HA.out.1.symm (by assumption)
end Go.Proofs.YtpmafppcccbmaaaDoor
