/-
  slices.Index of ints; thread.Of: the thread of a node.
-/
import Derived.Test.YtefbdcmodfbpbaaGreatNode
import Derived.Test.YtefbdcmodfbpbaaGreatConfig
set_option linter.unusedVariables false
set_option linter.unusedSimpArgs false
namespace Go.Proofs.YtefbdcmodfbpbaaGreat
open Go.RowKit

set_option maxHeartbeats 800000 in
theorem index_any (xs : List Int) (x : Int) (v : Value) (F : Nat → Prop) (hl : xs.length ≤ 100000) (w : World) (h : IntsAt w F v xs) :
    Calls Tryz.prog 335 #[v, .int .i64 x] w fun e w' => e = .returned (.int .i64 (firstAt (fun y => x == y) xs 0)) ∧ w = w' := by
  obtain ⟨A, c, e1⟩ := h.slice
  have H := Lib.hid h
  clear h
  subst e1
  generalize hR : firstAt (fun y => x == y) xs 0 = R at *
  have HR := Lib.hid hR
  clear hR
  go_enter Tryz.func335, Tryz.ntmps335
  go_wp2
  go_loop [5, 8] (fun _ i => ∃ k : Nat, k ≤ xs.length ∧ i = .int .i64 k ∧ firstAt (fun y => x == y) (xs.drop k) k = R) (fun _ i => xs.length - (intOf i).toNat)
  case atStart => exact ⟨0, Nat.zero_le _, rfl, HR.out⟩
  case round =>
    obtain ⟨k, hk, rfl, hr⟩ := hrel
    by_cases hlt : k < xs.length
    · obtain ⟨b, o, c', e, _, g⟩ := H.out.cell (by omega)
      cases e
      have k1 := g k xs[k] (List.getElem?_eq_getElem hlt)
      rw [firstAt_drop _ _ _ _ (List.getElem?_eq_getElem hlt)] at hr
      have i1 : (k : Int) < (xs.length : Int) := by omega
      have Hr := Lib.hid hr
      clear hr g
      generalize xs[k] = y at *
      cases hxy : x == y with
      | true =>
        have hr' : R = (k : Int) := by rw [← Hr.out, hxy]; rfl
        have Hr' := Lib.hid hr'
        clear hr'
        go_wp2
        go_ret
        exact ⟨by rw [Hr'.out]; rfl, rfl⟩
      | false =>
        have hr' : firstAt (fun y => x == y) (xs.drop (k + 1)) (k + 1) = R := by rw [← Hr.out, hxy]; rfl
        have Hr' := Lib.hid hr'
        clear hr'
        go_wp2
        go_round
        case rel => exact ⟨k + 1, by omega, by go_num, Hr'.out⟩
        case measure => simp [intOf]; omega
    · have hr' : R = -1 := by rw [← hr, List.drop_eq_nil_of_le (by omega)]; rfl
      have Hr' := Lib.hid hr'
      clear hr hr'
      go_wp2
      go_ret
      exact ⟨by rw [Hr'.out]; rfl, rfl⟩

/-- The thread of a node; less than 0: there is none. -/
def ofNode (n : Nat) (node : Int) : Int := firstAt (fun y => node == y) (thAts n) 0

theorem firstAt_ge {α : Type} (q : α → Bool) : ∀ (xs : List α) (k : Nat), -1 ≤ firstAt q xs k ∧ firstAt q xs k < k + xs.length
  | [], k => by simp only [firstAt, List.length_nil]; omega
  | x :: xs, k => by
    unfold firstAt
    have := firstAt_ge q xs (k + 1)
    simp only [List.length_cons]
    split <;> omega

set_option maxRecDepth 100000 in
set_option maxHeartbeats 1600000 in
theorem of_any (P : PartD) (pv : Value) (F : Nat → Prop) (hn : P.thr.length ≤ 6) (node : Int) (hno : I64 node) (w : World) (h : PlanVal w F pv P) :
    Calls Tryz.prog 393 #[pv, .int .i64 node] w fun e w' => e = .returned (.tuple #[.int .i64 (if 0 ≤ ofNode P.thr.length node then ofNode P.thr.length node else 0), .bool (decide (0 ≤ ofNode P.thr.length node))]) ∧ Below w.heap.size w w' := by
  obtain ⟨sT, sO, v1, v2, rfl, h1, h2, h3⟩ := h
  obtain ⟨A, c, e1⟩ := h1.slice
  rw [thAts_length] at e1
  have hI := fun (o : Obj) => index_any (thAts P.thr.length) node sT F (by rw [thAts_length]; omega) (w.alloc o) (h1.kept (fun k hk _ => Below.heap_alloc _ _ _ hk))
  have hge := firstAt_ge (fun y => node == y) (thAts P.thr.length) 0
  rw [thAts_length] at hge
  subst e1
  unfold ofNode
  generalize firstAt (fun y => node == y) (thAts P.thr.length) 0 = r at *
  have HI := Lib.hid hI
  have key : Below w.heap.size w (w.alloc (.cells (planArr (.slice A P.thr.length c) sO v1 v2 (planWords P)) 61)) := (Below.refl _ _).alloc (Nat.le_refl _) _
  have Key := Lib.hid key
  clear h1 h2 h3 hI key
  unfold I64 at hno
  obtain ⟨n0, n1⟩ := hno
  unfold planArr at Key ⊢
  obtain ⟨r0, r1⟩ := hge
  by_cases hr : 0 ≤ r
  · have hm : ¬ (0 : Int) > r := by omega
    have hd : decide (0 ≤ r) = true := by simpa using hr
    rw [if_pos hr, hd]
    go_enter Tryz.func393, Tryz.ntmps393
    go_wp2_with (go_at_call 335; refine (HI.out _).mono ?_; rintro e w' ⟨rfl, rfl⟩)
    go_ret2
    exact ⟨by simp [hr]; try omega, Key.out⟩
  · have hm : (0 : Int) > r := by omega
    have hd : decide (0 ≤ r) = false := by simpa using hr
    rw [if_neg hr, hd]
    go_enter Tryz.func393, Tryz.ntmps393
    go_wp2_with (go_at_call 335; refine (HI.out _).mono ?_; rintro e w' ⟨rfl, rfl⟩)
    go_ret2
    exact ⟨by simp [hr]; try omega, Key.out⟩
end Go.Proofs.YtefbdcmodfbpbaaGreat
