/-
  septumlaw11.FewPart: is a partition of a size that is looked at?
-/
import Derived.Test.YtefbdcmodfbpbaaGreatData
set_option linter.unusedVariables false
set_option linter.unusedSimpArgs false
namespace Go.Proofs.YtefbdcmodfbpbaaGreat
open Go.RowKit

def fewCall (c : CallD) : Bool := decide (c.words.length ≤ 20)
def fewThread (t : ThreadD) : Bool := decide (t.prog.length ≤ 60) && t.prog.all fewCall
def fewB (P : PartD) : Bool := decide (P.thr.length ≤ 20) && decide (P.obj.length ≤ 20) && P.thr.all fewThread

theorem all_drop {α : Type} (q : α → Bool) (xs : List α) (k : Nat) (h : k < xs.length) : (xs.drop k).all q = (q xs[k] && (xs.drop (k + 1)).all q) := by
  rw [List.drop_eq_getElem_cons h, List.all_cons]

/-- The words' slice of call 'j'. -/
theorem CallsAt.words {w : World} {F : Nat → Prop} {v : Value} {cs : List CallD} (h : CallsAt w F v cs) (hn : 0 < cs.length) :
    ∃ b o c, v = .slice (some ⟨b, o, none⟩) cs.length c ∧ ∀ i c, cs[i]? = some c → ∃ A n, w.cell? ⟨b, o + i * 6 + 4, none⟩ = some (.slice A c.words.length n) := by
  obtain ⟨ws, h1, ⟨_, A, c, e, h3⟩, h4⟩ := h
  obtain ⟨b, o, rfl, hF, hc⟩ := h3 hn
  refine ⟨b, o, c, e, fun i t ht => ?_⟩
  have hi : i < ws.length := by rw [h1]; exact (List.getElem?_eq_some_iff.1 ht).1
  have hu : ws[i]? = some ws[i] := List.getElem?_eq_getElem hi
  have g := encCalls_get cs ws i t _ ht hu 4 (by omega)
  obtain ⟨_, A, n, e', _⟩ := h4 i t _ ht hu
  exact ⟨A, n, by rw [← e', show o + i * 6 + 4 = o + (i * 6 + 4) by omega]; exact hc (i * 6 + 4) _ (by simpa [callCells] using g)⟩

set_option maxRecDepth 100000 in
set_option maxHeartbeats 1600000 in
theorem fewPart_any (P : PartD) (v : Value) (F : Nat → Prop) (w : World) (h : PartAt w F v P) :
    Calls Tryz.prog 10 #[v] w fun e w' => e = .returned (.bool (fewB P)) ∧ Below w.heap.size w w' := by
  obtain ⟨v1, v2, rfl, h1, h2⟩ := h
  obtain ⟨A1, c1, rfl⟩ := h1.slice
  obtain ⟨A2, c2, rfl⟩ := ObjsAt.slice h2
  clear h2
  have hbw : Below w.heap.size w (w.alloc (.cells #[.slice A1 P.thr.length c1, .slice A2 P.obj.length c2] 25)) := (Below.refl _ _).alloc (Nat.le_refl _) _
  have Hbw := Lib.hid hbw
  have H1 := Lib.hid h1
  clear h1 hbw
  generalize hR : fewB P = R at *
  have HR := Lib.hid hR
  clear hR
  by_cases g1 : P.thr.length ≤ 20
  · by_cases g2 : P.obj.length ≤ 20
    · have hR : (P.thr.drop 0).all fewThread = R := by rw [← HR.out]; simp [fewB, g1, g2]
      have HR := Lib.hid hR
      clear hR
      go_enter Tryz.func10, Tryz.ntmps10
      go_wp2
      go_loop [3, 4, 5, 19] (fun _ _ _ i => ∃ k : Nat, k ≤ P.thr.length ∧ i = .int .i64 k ∧ (P.thr.drop k).all fewThread = R) (fun _ _ _ i => P.thr.length - (intOf i).toNat)
      case atStart => exact ⟨0, Nat.zero_le _, rfl, HR.out⟩
      case round =>
        obtain ⟨k, hk, rfl, hr⟩ := hrel
        by_cases hlt : k < P.thr.length
        · obtain ⟨b, o, c', e, hF, hcells⟩ := H1.out.cells (by omega)
          cases e
          obtain ⟨pv, hpv, _, _, _, d3⟩ := hcells k P.thr[k] (List.getElem?_eq_getElem hlt)
          obtain ⟨Ap, cp, rfl⟩ := hpv.slice
          rw [all_drop fewThread _ _ hlt] at hr
          have lb := World.block_lt_of_cell? w _ d3
          have hlc : (k : Int) < (P.thr.length : Int) := by omega
          have Hpv := Lib.hid hpv
          clear hpv hcells HR
          generalize P.thr[k] = t at *
          by_cases g3 : t.prog.length ≤ 60
          · have hr' : ((t.prog.drop 0).all fewCall && (P.thr.drop (k + 1)).all fewThread) = R := by rw [← hr]; simp [fewThread, g3]
            have Hr := Lib.hid hr'
            clear hr hr'
            go_wp2
            go_loop [5, 33] (fun _ i => ∃ j : Nat, j ≤ t.prog.length ∧ i = .int .i64 j ∧ ((t.prog.drop j).all fewCall && (P.thr.drop (k + 1)).all fewThread) = R) (fun _ i => t.prog.length - (intOf i).toNat)
            case atStart => exact ⟨0, Nat.zero_le _, rfl, Hr.out⟩
            case round =>
              obtain ⟨j, hj, rfl, hr⟩ := hrel
              by_cases hlt2 : j < t.prog.length
              · obtain ⟨b2, o2, c2', e, hcw⟩ := Hpv.out.words (by omega)
                cases e
                obtain ⟨Aw, nw, d4⟩ := hcw j t.prog[j] (List.getElem?_eq_getElem hlt2)
                have lb2 := World.block_lt_of_cell? w _ d4
                rw [all_drop fewCall _ _ hlt2] at hr
                have hlc2 : (j : Int) < (t.prog.length : Int) := by omega
                clear hcw
                generalize t.prog[j] = c at *
                by_cases g4 : c.words.length ≤ 20
                · have hr' : ((t.prog.drop (j + 1)).all fewCall && (P.thr.drop (k + 1)).all fewThread) = R := by rw [← hr]; simp [fewCall, g4]
                  have Hr' := Lib.hid hr'
                  have hd : decide ((20 : Int) < (c.words.length : Int)) = false := by simp; omega
                  clear hr hr'
                  go_wp2
                  go_round
                  case rel => exact ⟨j + 1, by omega, by go_num, Hr'.out⟩
                  case measure => simp [intOf]; omega
                · have hr' : R = false := by rw [← hr]; simp [fewCall, g4]
                  have Hr' := Lib.hid hr'
                  have hd : decide ((20 : Int) < (c.words.length : Int)) = true := by simp; omega
                  clear hr hr'
                  go_wp2
                  go_ret
                  exact ⟨by rw [Hr'.out]; rfl, Hbw.out⟩
              · have hr' : (P.thr.drop (k + 1)).all fewThread = R := by
                  have e : t.prog.drop j = [] := List.drop_eq_nil_of_le (by omega)
                  rw [← hr, e]; simp
                have Hr' := Lib.hid hr'
                clear hr hr'
                go_wp2
                go_round
                case rel => exact ⟨k + 1, by omega, by go_num, Hr'.out⟩
                case measure => simp [intOf]; omega
          · have hr' : R = false := by rw [← hr]; simp [fewThread, g3]
            have Hr' := Lib.hid hr'
            clear hr hr'
            go_wp2
            go_ret
            exact ⟨by rw [Hr'.out]; rfl, Hbw.out⟩
        · have hr' : R = true := by rw [← hr, List.drop_eq_nil_of_le (by omega)]; rfl
          have Hr' := Lib.hid hr'
          clear hr hr'
          go_wp2
          go_ret
          exact ⟨by rw [Hr'.out]; rfl, Hbw.out⟩
    · have hR : R = false := by rw [← HR.out]; simp [fewB, g2]
      have HR := Lib.hid hR
      clear hR
      go_enter Tryz.func10, Tryz.ntmps10
      go_wp2
      go_ret
      exact ⟨by rw [HR.out]; rfl, Hbw.out⟩
  · have hR : R = false := by rw [← HR.out]; simp [fewB, g1]
    have HR := Lib.hid hR
    clear hR
    go_enter Tryz.func10, Tryz.ntmps10
    go_wp2
    go_ret
    exact ⟨by rw [HR.out]; rfl, Hbw.out⟩
theorem fewB_ok {P : PartD} (h : fewB P = true) : P.thr.length ≤ 20 ∧ P.obj.length ≤ 20 ∧ ∀ t ∈ P.thr, t.prog.length ≤ 60 ∧ ∀ c ∈ t.prog, c.words.length ≤ 20 := by
  simp only [fewB, Bool.and_eq_true, decide_eq_true_eq, List.all_eq_true, fewThread, fewCall] at h
  exact ⟨h.1.1, h.1.2, h.2⟩
end Go.Proofs.YtefbdcmodfbpbaaGreat
