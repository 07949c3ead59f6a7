/-
  What the statements of layer 30 ask first (awake); the walk of ReportLines.
-/
import Derived.Test.YtpmafppcccbmaaaDoorLaw30
set_option linter.unusedVariables false
set_option linter.unusedSimpArgs false
namespace Go.Proofs.YtpmafppcccbmaaaDoor
open Go.RowKit

def call0 : CallD := ⟨1, 0, -2, 0, [], 0⟩
theorem call0_text : callL call0 = [121, 105, 101, 108, 100, 32, 48, 32, 45, 50, 32, 48, 32, 48] := by
  have h0 : Lib.itoa 0 = [48] := by unfold Lib.itoa; rw [if_neg (by decide)]; exact Lib.decDigits_one (by decide)
  have h2 : Lib.itoa (-2) = [45, 50] := by unfold Lib.itoa; rw [if_pos (by decide)]; exact congrArg _ (Lib.decDigits_one (by decide))
  simp only [callL, spacedL, call0, List.flatMap_cons, List.flatMap_nil, h0, h2]
  rfl
theorem call0_ok : CallOk call0 := ⟨by simp [I64, call0], by simp [I64, call0], by simp [I64, call0], by simp [I64, call0], by simp [I64, call0], by simp [call0]⟩

set_option maxRecDepth 100000 in
set_option maxHeartbeats 3200000 in
theorem awake30_any (w : World) (hT : Tabs w) : Calls Tryd.prog 9 #[] w fun e w' => e = .returned (.bool true) ∧ Below w.heap.size w w' := by
  have hc := callGo_any call0 call0_ok (fun _ => True) (.slice none 0 0) (by simp [call0]) w hT ⟨by simp [encInts, call0], none, 0, rfl, fun h => by simp [call0] at h⟩
  rw [call0_text] at hc
  simp only [callV, call0] at hc
  have HC := Lib.hid hc
  have e0 : (sb [121, 105, 101, 108, 100, 32, 48, 32, 45, 50, 32, 48, 32, 48]) = ByteArray.mk #[121, 105, 101, 108, 100, 32, 48, 32, 45, 50, 32, 48, 32, 48] := rfl
  clear hc hT
  go_enter Tryd.func9, Tryd.ntmps9
  go_wp2_with (go_at_call 12; refine HC.out.mono ?_; rintro e w1 ⟨rfl, hb⟩)
  go_ret
  exact ⟨rfl, hb⟩

set_option maxRecDepth 100000 in
set_option maxHeartbeats 3200000 in
theorem lines_any (e : EventD) (he : EventOk e) (F : Nat → Prop) (cv wv : Value) (w : World) (hT : Tabs w) (h : EvAt w F e cv wv) :
    Calls Tryd.prog 3 #[eventV e cv wv] w fun r w' => r = .returned (.bool true) ∧ Below w.heap.size w w' := by
  obtain ⟨Ac, nc, rfl⟩ := h.call.slice
  obtain ⟨Aw, nw, rfl⟩ := h.words.slice
  have HA := Lib.hid (fun (W : World) (hb : Below w.heap.size w W) => awake30_any W (hT.on hb))
  have HL1 := Lib.hid (fun (l1 : e.call.words.length ≤ 1000000) (l2 : e.words.length ≤ 1000000) (W : World) (hb : Below w.heap.size w W) => reportLine_any e he F _ _ l1 l2 W (hT.on hb) (h.on hb))
  have HL2 := Lib.hid (fun (l1 : e.call.words.length ≤ 1000000) (l2 : e.words.length ≤ 1000000) (W : World) (hb : Below w.heap.size w W) => lineLaw_any e he F _ _ l1 l2 W (h.on hb))
  have HC1 := Lib.hid (fun (l1 : e.call.words.length ≤ 1000000) (W : World) (hb : Below w.heap.size w W) => callGo_any e.call he.call F _ l1 W (hT.on hb) (h.on hb).call)
  have HC2 := Lib.hid (fun (l1 : e.call.words.length ≤ 1000000) (W : World) (hb : Below w.heap.size w W) => callsLaw_any e.call he.call F _ l1 W (h.on hb).call)
  clear h hT he
  unfold eventV callV at *
  by_cases g1 : e.words.length ≤ 50
  · by_cases g2 : e.call.words.length ≤ 50
    · have l1 : e.call.words.length ≤ 1000000 := by omega
      have l2 : e.words.length ≤ 1000000 := by omega
      have d1 : decide ((50 : Int) < (e.words.length : Int)) = false := by simp; omega
      have d2 : decide ((50 : Int) < (e.call.words.length : Int)) = false := by simp; omega
      go_enter Tryd.func3, Tryd.ntmps3
      go_wp2_with (go_at_call 9; refine (HA.out _ ((Below.refl _ _).alloc (Nat.le_refl _) _)).mono ?_; rintro r w1 ⟨rfl, hb1⟩; refine Hid.out ?_)
      have hbw := keep_below ((Below.refl _ _).alloc (Nat.le_refl w.heap.size) _) (Nat.le_refl _) hb1
      have c0 := keep_cell hb1 (b := w.heap.size) (j := 0) (by simp; rfl)
      have c1 := keep_cell hb1 (b := w.heap.size) (j := 1) (by simp; rfl)
      have c2 := keep_cell hb1 (b := w.heap.size) (j := 2) (by simp; rfl)
      have c3 := keep_cell hb1 (b := w.heap.size) (j := 3) (by simp; rfl)
      have c4 := keep_cell hb1 (b := w.heap.size) (j := 4) (by simp; rfl)
      have c5 := keep_cell hb1 (b := w.heap.size) (j := 5) (by simp; rfl)
      have c6 := keep_cell hb1 (b := w.heap.size) (j := 6) (by simp; rfl)
      have c7 := keep_cell hb1 (b := w.heap.size) (j := 7) (by simp; rfl)
      have c8 := keep_cell hb1 (b := w.heap.size) (j := 8) (by simp; rfl)
      have c9 := keep_cell hb1 (b := w.heap.size) (j := 9) (by simp; rfl)
      have c10 := keep_cell hb1 (b := w.heap.size) (j := 10) (by simp; rfl)
      have c11 := keep_cell hb1 (b := w.heap.size) (j := 11) (by simp; rfl)
      have c12 := keep_cell hb1 (b := w.heap.size) (j := 12) (by simp; rfl)
      clear hb1
      refine Lib.hid ?_
      go_upto_region 3 with (fail)
      go_region_held3 (fun w' => Below w.heap.size w w' ∧ w'.cell? ⟨w.heap.size, 0, none⟩ = some (.int .i64 e.kind) ∧ w'.cell? ⟨w.heap.size, 1, none⟩ = some (.int .i64 e.step) ∧ w'.cell? ⟨w.heap.size, 2, none⟩ = some (.int .i64 e.core) ∧ w'.cell? ⟨w.heap.size, 3, none⟩ = some (.int .i64 e.thread) ∧ w'.cell? ⟨w.heap.size, 4, none⟩ = some (.int .i64 e.call.kind) ∧ w'.cell? ⟨w.heap.size, 5, none⟩ = some (.int .i64 e.call.handle) ∧ w'.cell? ⟨w.heap.size, 6, none⟩ = some (.int .i64 e.call.a) ∧ w'.cell? ⟨w.heap.size, 7, none⟩ = some (.int .i64 e.call.b) ∧ w'.cell? ⟨w.heap.size, 8, none⟩ = some (.slice Ac e.call.words.length nc) ∧ w'.cell? ⟨w.heap.size, 9, none⟩ = some (.int .i64 e.call.timeout) ∧ w'.cell? ⟨w.heap.size, 10, none⟩ = some (.int .i64 e.code) ∧ w'.cell? ⟨w.heap.size, 11, none⟩ = some (.int .i64 e.count) ∧ w'.cell? ⟨w.heap.size, 12, none⟩ = some (.slice Aw e.words.length nw))
        (((try dsimp only); (try go_split_ands); (with_reducible repeat' apply And.intro); all_goals (first | assumption | exact Below.drew (by assumption) | exact keep_cell (by assumption) (by assumption) | exact keep_below (by assumption) (Nat.le_refl _) (by assumption) | go_keep)))
        (first
          | (go_at_call 10; (with_reducible refine (HL1.out l1 l2 _ ?_).mono ?_); (first | assumption | exact (‹Below _ _ _ ∧ _›).1 | exact Below.drew (by assumption)); rintro r w' ⟨rfl, hb⟩)
          | (go_at_call 11; (with_reducible refine (HL2.out l1 l2 _ ?_).mono ?_); (first | assumption | exact (‹Below _ _ _ ∧ _›).1); rintro r w' ⟨rfl, hb⟩)
          | (go_at_call 12; (with_reducible refine (HC1.out l1 _ ?_).mono ?_); (first | assumption | exact (‹Below _ _ _ ∧ _›).1); rintro r w' ⟨rfl, hb⟩)
          | (go_at_call 13; (with_reducible refine (HC2.out l1 _ ?_).mono ?_); (first | assumption | exact (‹Below _ _ _ ∧ _›).1); rintro r w' ⟨rfl, hb⟩))
      all_goals
        rename_i hH
        obtain ⟨q0, hq⟩ := hH
        go_wp2
        go_ret
        exact ⟨rfl, q0⟩
    · have l0 : True := trivial
      have d1 : decide ((50 : Int) < (e.words.length : Int)) = false := by simp; omega
      have d2 : decide ((50 : Int) < (e.call.words.length : Int)) = true := by simp; omega
      go_enter Tryd.func3, Tryd.ntmps3
      go_wp2_with (go_at_call 9; refine (HA.out _ ((Below.refl _ _).alloc (Nat.le_refl _) _)).mono ?_; rintro r w1 ⟨rfl, hb1⟩; refine Hid.out ?_)
      have hbw := keep_below ((Below.refl _ _).alloc (Nat.le_refl w.heap.size) _) (Nat.le_refl _) hb1
      have c8 := keep_cell hb1 (b := w.heap.size) (j := 8) (by simp; rfl)
      have c12 := keep_cell hb1 (b := w.heap.size) (j := 12) (by simp; rfl)
      clear hb1
      refine Lib.hid ?_
      go_wp2_with (go_at_call 9; refine (HA.out _ hbw).mono ?_; rintro r w2 ⟨rfl, hb2⟩)
      go_ret
      exact ⟨rfl, keep_below hbw (Nat.le_refl _) hb2⟩
  · have l0 : True := trivial
    have d1 : decide ((50 : Int) < (e.words.length : Int)) = true := by simp; omega
    go_enter Tryd.func3, Tryd.ntmps3
    go_wp2_with (go_at_call 9; refine (HA.out _ ((Below.refl _ _).alloc (Nat.le_refl _) _)).mono ?_; rintro r w1 ⟨rfl, hb1⟩; refine Hid.out ?_)
    have hbw := keep_below ((Below.refl _ _).alloc (Nat.le_refl w.heap.size) _) (Nat.le_refl _) hb1
    have c8 := keep_cell hb1 (b := w.heap.size) (j := 8) (by simp; rfl)
    have c12 := keep_cell hb1 (b := w.heap.size) (j := 12) (by simp; rfl)
    clear hb1
    refine Lib.hid ?_
    go_wp2_with (go_at_call 9; refine (HA.out _ hbw).mono ?_; rintro r w2 ⟨rfl, hb2⟩)
    go_ret
    exact ⟨rfl, keep_below hbw (Nat.le_refl _) hb2⟩
end Go.Proofs.YtpmafppcccbmaaaDoor
