/-
  kernel.Call of a call that isn't right: the op that it makes; what that does within the lock.
-/
import Derived.Test.YtefbdcmodfbpbaaGreatCallG
import Derived.Test.YtefbdcmodfbpbaaGreatKCall
import Derived.Test.YtefbdcmodfbpbaaGreatKSect
set_option linter.unusedVariables false
set_option linter.unusedSimpArgs false
namespace Go.Proofs.YtefbdcmodfbpbaaGreat
open Go.RowKit

set_option maxRecDepth 100000 in
set_option maxHeartbeats 8000000 in
theorem kcallWrong_any (P : PartD) (pv : Value) (F : Nat → Prop) (hn : P.thr.length ≤ 6) (hno : P.obj.length ≤ 8) (hcap : CapsOk P.thr) (core : Int) (t : Nat) (ht : t < P.thr.length) (c : CallD) (hxs : c.words.length ≤ 1000) (hck : checkV P t c ≠ 0) (wv : Value) (F2 : Nat → Prop) (w : World) (hP : PlanVal w F pv P) (hw : IntsAt w F2 wv c.words) :
    Calls Tryz.prog 28 #[pv, .int .i64 core, .int .i64 t, .agg (callCells c wv).toArray] w fun e w' => ∃ ob sT sO v1 v2 A cc, pv = .agg (planArr sT sO v1 v2 (planWords P)) ∧ e = .returned (.pointer (some ⟨ob, 0, none⟩)) ∧ w.heap.size ≤ ob ∧ Below w.heap.size w w' ∧ IntsAt w' (fun k => w.heap.size ≤ k ∧ k < ob) (.slice A c.words.length cc) c.words ∧
      w'.heap[ob]? = some (.cells (opArr sT sO v1 v2 (planWords P) core t c.kind c.handle c.a c.b (.slice A c.words.length cc) c.timeout 0 (bound 79 (.pointer (some ⟨ob, 0, none⟩))) (bound 78 (.pointer (some ⟨ob, 0, none⟩))) 0 0 nilS false false 0 false 0 false false) 133 (0, 0)) := by
  have HP := Lib.hid hP
  obtain ⟨sT, sO, v1, v2, rfl, g1, g2, g3⟩ := hP
  obtain ⟨B1, d1, e1⟩ := g1.slice
  obtain ⟨B2, d2, e2⟩ := g2.slice
  obtain ⟨x1, x2, e0, g5, g6⟩ := g3
  cases e0
  obtain ⟨B3, d3, rfl⟩ := g5.slice
  obtain ⟨B4, d4, rfl⟩ := ObjsAt.slice g6
  rw [thAts_length] at e1
  rw [obAts_length] at e2
  subst e1 e2
  obtain ⟨A3, c3, rfl⟩ := IntsAt.slice hw
  have HC := Lib.hid (fun (W : World) (hb : Below w.heap.size w W) => cloneCall_any c (.slice A3 c.words.length c3) F2 hxs W (Reads.kept hw (fun k hk _ => hb.block k hk)))
  have HO := Lib.hid (fun (W : World) (hb : Below w.heap.size w W) => objectG_any P c F (.slice B4 P.obj.length d4) W (by omega) (ObjsAt.kept (w' := W) (fun k hk _ => hb.block k hk) g6) B3 P.thr.length d3 A3 c.words.length c3 _ rfl)
  have HK := Lib.hid (fun (W : World) (hb : Below w.heap.size w W) => checkG_any P c F F2 _ (.slice B4 P.obj.length d4) (.slice A3 c.words.length c3) W t ht (by omega) (by omega) hcap (by omega) (g5.kept (w' := W) (fun k hk _ => hb.block k hk)) (ObjsAt.kept (w' := W) (fun k hk _ => hb.block k hk) g6) (Reads.kept hw (fun k hk _ => hb.block k hk)))
  simp only [callCells] at HC HO HK ⊢
  unfold planArr
  clear g1 g2 g5 g6 hw hcap
  generalize checkV P t c = ec at *
  generalize (if hasObjB P c = true then objIx c else 0) = xo at *
  generalize hasObjB P c = hasO at *
  have hq : (w.alloc (.cells #[.int .i64 0, .int .i64 2, .int .i64 4, .int .i64 3, .int .i64 5, .int .i64 6, .int .i64 8, .int .i64 41, .int .i64 43, .slice B1 P.thr.length d1, .slice B2 P.obj.length d2, .int .i64 (planWords P), .slice B3 P.thr.length d3, .slice B4 P.obj.length d4] 61)).heap[w.heap.size]? = some (.cells #[.int .i64 0, .int .i64 2, .int .i64 4, .int .i64 3, .int .i64 5, .int .i64 6, .int .i64 8, .int .i64 41, .int .i64 43, .slice B1 P.thr.length d1, .slice B2 P.obj.length d2, .int .i64 (planWords P), .slice B3 P.thr.length d3, .slice B4 P.obj.length d4] 61 (0, 0)) := heap_alloc_new _ _
  obtain ⟨W0, hW0⟩ : ∃ x, x = (w.alloc (.cells #[.int .i64 0, .int .i64 2, .int .i64 4, .int .i64 3, .int .i64 5, .int .i64 6, .int .i64 8, .int .i64 41, .int .i64 43, .slice B1 P.thr.length d1, .slice B2 P.obj.length d2, .int .i64 (planWords P), .slice B3 P.thr.length d3, .slice B4 P.obj.length d4] 61)).alloc (.cells #[.int .i64 c.kind, .int .i64 c.handle, .int .i64 c.a, .int .i64 c.b, .slice A3 c.words.length c3, .int .i64 c.timeout] 28) := ⟨_, rfl⟩
  have hs0 : W0.heap.size = w.heap.size + 2 := by rw [hW0]; simp
  have hb0 : Below w.heap.size w W0 := by rw [hW0]; exact ((Below.refl _ _).alloc (Nat.le_refl _) _).alloc (by simp) _
  have h00 : W0.heap[w.heap.size]? = some (.cells #[.int .i64 0, .int .i64 2, .int .i64 4, .int .i64 3, .int .i64 5, .int .i64 6, .int .i64 8, .int .i64 41, .int .i64 43, .slice B1 P.thr.length d1, .slice B2 P.obj.length d2, .int .i64 (planWords P), .slice B3 P.thr.length d3, .slice B4 P.obj.length d4] 61 (0, 0)) := by rw [hW0]; exact two_first _ _ _
  have h01 : W0.heap[w.heap.size + 1]? = some (.cells #[.int .i64 c.kind, .int .i64 c.handle, .int .i64 c.a, .int .i64 c.b, .slice A3 c.words.length c3, .int .i64 c.timeout] 28 (0, 0)) := by rw [hW0]; exact two_second _ _ _
  have HW0 := Lib.hid hW0
  have HB0 := Lib.hid hb0
  have r00 := row_of h00
  have r01 := row_of h01
  have H00 := Lib.hid h00
  have H01 := Lib.hid h01
  have z0 : w.heap.size < W0.heap.size := by omega
  have z1 : w.heap.size + 1 < W0.heap.size := by omega
  clear hW0 hb0 h00 h01 hq
  go_enter Tryz.func28, Tryz.ntmps28
  go_wp2_with fail
  rw [← HW0.out]
  go_region_held3 (fun w' => (∀ k, w'.cell? ⟨w.heap.size, k, none⟩ = #[.int .i64 0, .int .i64 2, .int .i64 4, .int .i64 3, .int .i64 5, .int .i64 6, .int .i64 8, .int .i64 41, .int .i64 43, .slice B1 P.thr.length d1, .slice B2 P.obj.length d2, .int .i64 (planWords P), .slice B3 P.thr.length d3, .slice B4 P.obj.length d4][k]?) ∧ (∀ k, w'.cell? ⟨w.heap.size + 1, k, none⟩ = #[.int .i64 c.kind, .int .i64 c.handle, .int .i64 c.a, .int .i64 c.b, .slice A3 c.words.length c3, .int .i64 c.timeout][k]?))
    (((try dsimp only); (try go_split_ands); (with_reducible repeat' apply And.intro); all_goals (with_reducible first | assumption | exact keepDrC (by assumption) | exact keepAllC (by assumption) (by assumption))))
    (first
      | ((try go_split_ands); go_at_call 77; refine (HC.out _ HB0.out.drew).mono ?_; rintro e w2 ⟨wv', rfl, hi2, hb2⟩; obtain ⟨A4, c4, rfl⟩ := IntsAt.slice hi2; have HI2 := Lib.hid (Reads.inn hi2 (by omega)); have HB2 := Lib.hid (⟨hb2.os, hb2.tape, hb2.output, hb2.size, hb2.block⟩ : Below W0.heap.size W0 w2); have r20 := fun k => (World.cell?_of_block (a := ⟨w.heap.size, k, none⟩) (HB2.out.block w.heap.size z0)).trans (r00 k); have r21 := fun k => (World.cell?_of_block (a := ⟨w.heap.size + 1, k, none⟩) (HB2.out.block (w.heap.size + 1) z1)).trans (r01 k); have z20 := Nat.lt_of_lt_of_le z0 HB2.out.size; have z21 := Nat.lt_of_lt_of_le z1 HB2.out.size; clear hi2 hb2))
  all_goals
    obtain ⟨ob, hob⟩ : ∃ x, x = w2.heap.size := ⟨_, rfl⟩
    obtain ⟨w3, hw3⟩ : ∃ x, x = w2.alloc (.cells #[.int .i64 0, .int .i64 2, .int .i64 4, .int .i64 3, .int .i64 5, .int .i64 6, .int .i64 8, .int .i64 41, .int .i64 43, .slice B1 P.thr.length d1, .slice B2 P.obj.length d2, .int .i64 (planWords P), .slice B3 P.thr.length d3, .slice B4 P.obj.length d4, .int .i64 core, .int .i64 t, .int .i64 c.kind, .int .i64 c.handle, .int .i64 c.a, .int .i64 c.b, .slice A4 c.words.length c4, .int .i64 c.timeout, .int .i64 0, .nilFunc, .nilFunc, .int .i64 0, .int .i64 0, .slice none 0 0, .bool false, .bool false, .int .i64 0, .bool false, .int .i64 0, .bool false, .bool false] 133) := ⟨_, rfl⟩
    have hx3 : w3.heap[w.heap.size]? = _ ∧ w3.heap[w.heap.size + 1]? = _ ∧ w3.heap[ob]? = some (.cells #[.int .i64 0, .int .i64 2, .int .i64 4, .int .i64 3, .int .i64 5, .int .i64 6, .int .i64 8, .int .i64 41, .int .i64 43, .slice B1 P.thr.length d1, .slice B2 P.obj.length d2, .int .i64 (planWords P), .slice B3 P.thr.length d3, .slice B4 P.obj.length d4, .int .i64 core, .int .i64 t, .int .i64 c.kind, .int .i64 c.handle, .int .i64 c.a, .int .i64 c.b, .slice A4 c.words.length c4, .int .i64 c.timeout, .int .i64 0, .nilFunc, .nilFunc, .int .i64 0, .int .i64 0, .slice none 0 0, .bool false, .bool false, .int .i64 0, .bool false, .int .i64 0, .bool false, .bool false] 133 (0, 0)) :=
      ⟨by rw [hw3, Below.heap_alloc _ _ _ z20, HB2.out.block _ z0, H00.out], by rw [hw3, Below.heap_alloc _ _ _ z21, HB2.out.block _ z1, H01.out], by rw [hw3, hob]; exact heap_alloc_new _ _⟩
    have hne : w.heap.size ≠ ob ∧ w.heap.size + 1 ≠ ob := by have := HB2.out.size; omega
    have hge : w.heap.size + 2 ≤ ob := by have := HB2.out.size; omega
    have HB3 := Lib.hid (show Below w.heap.size w w3 by rw [hw3]; exact (below_end HB0.out (Nat.le_refl _) HB2.out).alloc (by have := HB2.out.size; omega) _)
    have HX3 := Lib.hid hx3
    have HIW3 := Lib.hid (show IntsAt w3 (fun k => w.heap.size ≤ k ∧ k < ob) (.slice A4 c.words.length c4) c.words from by rw [hw3]; exact Reads.wider (Reads.kept HI2.out (fun k hk _ => Below.heap_alloc _ _ _ hk)) (fun k hk => ⟨Nat.le_trans HB0.out.size hk.1, by rw [hob]; exact hk.2⟩))
    have HNE := Lib.hid hne
    have HGE := Lib.hid hge
    obtain ⟨r0, r1, r2, f2, y0, y1, y2⟩ := kc_rows hx3
    rw [← hob, ← hw3]
    clear hx3 hne hge hw3 hob r00 r01 r20 r21 z0 z1 z20 z21 HB2 HW0 H00 H01
    have HX4 := Lib.hid (kc_set 24 (bound 78 (.pointer (some ⟨ob, 0, none⟩))) HX3.out HNE.out.1 HNE.out.2)
    have HB4 := Lib.hid (HB3.out.setCell (show w.heap.size ≤ (⟨ob, 24, none⟩ : Addr).block from Nat.le_trans (Nat.le_add_right _ _) HGE.out) (bound 78 (.pointer (some ⟨ob, 0, none⟩))))
    have HIW4 := Lib.hid (Reads.kept (w' := w3.setCell ⟨ob, 24, none⟩ (bound 78 (.pointer (some ⟨ob, 0, none⟩)))) HIW3.out (fun k hk hF => block_setCell_other _ _ _ (by omega)))
    go_wp2_with fail
    go_at_call 58
    refine (HO.out _ HB4.out).mono ?_
    rintro e w5 ⟨rfl, hb5⟩
    have HX5 := Lib.hid (kc_next HX4.out hb5)
    have HIW5 := Lib.hid (Reads.kept (w' := w5) HIW4.out (fun k hk _ => hb5.block k hk))
    have HB5 := Lib.hid (below_end HB4.out (Nat.le_refl _) hb5)
    clear r0 r1 r2 f2 y0 y1 y2 hb5
    obtain ⟨r0, r1, r2, f2, y0, y1, y2⟩ := kc_rows HX5.out
    clear HX3 HX4 HB3 HB4
    go_wp2_with fail
    go_at_call 26
    refine (HK.out _ HB5.out).mono ?_
    rintro e w6 ⟨rfl, hb6⟩
    have HX6 := Lib.hid (kc_next HX5.out hb6)
    have HIW := Lib.hid (Reads.kept (w' := w6) HIW5.out (fun k hk _ => hb6.block k hk))
    have HB6 := Lib.hid (below_end HB5.out (Nat.le_refl _) hb6)
    clear r0 r1 r2 f2 y0 y1 y2 hb6
    obtain ⟨r0, r1, r2, f2, y0, y1, y2⟩ := kc_rows HX6.out
    clear HX5 HB5
    go_wp2_with fail
    go_ret
    have hsb : SameBut ob w6 (w6.setCell ⟨ob, 23, none⟩ (bound 79 (.pointer (some ⟨ob, 0, none⟩)))) := (SameBut.refl ob w6).set _ _
    refine ⟨ob, _, _, _, _, _, _, rfl, rfl, Nat.le_trans (Nat.le_add_right _ _) HGE.out, HB6.out.setCell (show w.heap.size ≤ (⟨ob, 23, none⟩ : Addr).block from Nat.le_trans (Nat.le_add_right _ _) HGE.out) _, ?_, (kc_set 23 (bound 79 (.pointer (some ⟨ob, 0, none⟩))) HX6.out HNE.out.1 HNE.out.2).2.2⟩
    exact Reads.kept HIW.out (fun k hk hF => (hsb.block k (by omega)))

set_option maxRecDepth 100000 in
set_option maxHeartbeats 1600000 in
theorem fail_any (ob : Nat) (v0 : Value) (e : Int) (w : World) (h : w.cell? ⟨ob, 25, none⟩ = some v0) (hf : w.frozen? ⟨ob, 25, none⟩ = false) (hl : ob < w.heap.size) :
    Calls Tryz.prog 144 #[.pointer (some ⟨ob, 0, none⟩), .int .i64 e] w fun en w' => en = .returned (.tuple #[]) ∧ w.setCell ⟨ob, 25, none⟩ (.int .i64 e) = w' := by
  go_enter Tryz.func144, Tryz.ntmps144
  go_wp2
  first | go_end0 | ((try simp only [Exit.inBlock, Exit.then]); refine bodyPost_ret (results_none rfl _ _ _) rfl ?_)
  exact ⟨rfl, rfl⟩

/-- What a wrong call's op reads. -/
def WrongIn (F : Nat → Prop) (P : PartD) (v1 v2 wv : Value) (ws : List Int) (w : World) : Prop := ThreadsAt w F v1 P.thr ∧ ObjsAt w F v2 P.obj ∧ IntsAt w F wv ws
theorem WrongIn.kept {F : Nat → Prop} {P : PartD} {v1 v2 wv : Value} {ws : List Int} {w w' : World} (h : WrongIn F P v1 v2 wv ws w) (hk : ∀ k, k < w.heap.size → F k → w'.heap[k]? = w.heap[k]?) : WrongIn F P v1 v2 wv ws w' :=
  ⟨ThreadsAt.kept hk h.1, ObjsAt.kept hk h.2.1, Reads.kept h.2.2 hk⟩

theorem keepKW {w : World} {xb n j : Nat} {cs : Array Value} {v : Value} (h : ∀ k, k < n → w.cell? ⟨xb, k, none⟩ = cs[k]?) (hj : n ≤ j) : ∀ k, k < n → (w.setCell ⟨xb, j, none⟩ v).cell? ⟨xb, k, none⟩ = cs[k]? :=
  fun k hk => by
    have hne : (⟨xb, j, none⟩ : Addr) ≠ ⟨xb, k, none⟩ := fun e => by cases e; omega
    rw [World.cell?_setCell_other (h := hne)]; exact h k hk
theorem keepDW {w : World} {xb n : Nat} {cs : Array Value} (h : ∀ k, k < n → w.cell? ⟨xb, k, none⟩ = cs[k]?) : ∀ k, k < n → w.drew.cell? ⟨xb, k, none⟩ = cs[k]? := h
theorem keepAllW {w w' : World} {b : Nat} {cs : Array Value} (h : ∀ k, w.cell? ⟨b, k, none⟩ = cs[k]?) (hb : w'.heap[b]? = w.heap[b]?) : ∀ k, w'.cell? ⟨b, k, none⟩ = cs[k]? := fun k => (World.cell?_of_block (a := ⟨b, k, none⟩) hb).trans (h k)

set_option maxRecDepth 100000 in
set_option maxHeartbeats 3200000 in
theorem wrong_does (P : PartD) (hn : P.thr.length ≤ 6) (hno : P.obj.length ≤ 8) (hcap : CapsOk P.thr) (t : Nat) (ht : t < P.thr.length) (c : CallD) (hxs : c.words.length ≤ 1000) (ob : Nat) (g : FG) (F : Nat → Prop) (sT sO v1 v2 wv : Value) (W core o : Int) (does body : Value) (hm : ob ≠ g.mb) :
    DoesCode 79 ob g (opArr sT sO v1 v2 W core t c.kind c.handle c.a c.b wv c.timeout o does body 0 0 nilS false false 0 false 0 false false) (opArr sT sO v1 v2 W core t c.kind c.handle c.a c.b wv c.timeout o does body (checkV P t c) 0 nilS false false 0 false 0 false false) (WrongIn F P v1 v2 wv c.words) := by
  intro w sl s hF hK h0 hap
  have HK := Lib.hid (fun (W : World) (hb : Below w.heap.size w W) => checkG_any P c F F v1 v2 wv W t ht (by omega) (by omega) hcap (by omega) (ThreadsAt.kept (fun k hk _ => hb.block k hk) hK.1) (ObjsAt.kept (fun k hk _ => hb.block k hk) hK.2.1) (Reads.kept hK.2.2 (fun k hk _ => hb.block k hk)))
  obtain ⟨A1, c1, rfl⟩ := hK.1.slice
  obtain ⟨A2, c2, rfl⟩ := ObjsAt.slice hK.2.1
  obtain ⟨A3, c3, rfl⟩ := IntsAt.slice hK.2.2
  have r0 := row_of h0
  have f0 := free_of_block h0
  have l0 := lt_of_block h0
  have HF := Lib.hid hF
  have H0 := Lib.hid h0
  have HAP := Lib.hid hap
  unfold opArr at r0
  simp only [callCells] at HK
  generalize checkV P t c = ec at *
  clear h0 hF hap hK hcap
  go_enter Tryz.func79, Tryz.ntmps79
  go_wp2_with fail
  unfold nilS at r0
  have rk : ∀ k, k < 25 → w.cell? ⟨ob, k, none⟩ = _ := fun k _ => r0 k
  go_region_held3 (fun w' => ∀ k, k < 25 → w'.cell? ⟨ob, k, none⟩ = #[.int .i64 0, .int .i64 2, .int .i64 4, .int .i64 3, .int .i64 5, .int .i64 6, .int .i64 8, .int .i64 41, .int .i64 43, sT, sO, .int .i64 W, .slice A1 P.thr.length c1, .slice A2 P.obj.length c2, .int .i64 core, .int .i64 t, .int .i64 c.kind, .int .i64 c.handle, .int .i64 c.a, .int .i64 c.b, .slice A3 c.words.length c3, .int .i64 c.timeout, .int .i64 o, does, body, .int .i64 0, .int .i64 0, .slice none 0 0, .bool false, .bool false, .int .i64 0, .bool false, .int .i64 0, .bool false, .bool false][k]?)
    ((with_reducible first | assumption | exact keepDW (by assumption) | exact keepKW (by assumption) (by decide)))
    (first
      | (go_at_call 26; refine (HK.out _ (Below.refl _ _).drew).mono ?_; rintro e w1 ⟨rfl, hb1⟩; have HB1 := Lib.hid (⟨hb1.os, hb1.tape, hb1.output, hb1.size, hb1.block⟩ : Below w.heap.size w w1); have r1 := keepAllW r0 (HB1.out.block ob l0); have rk1 : ∀ k, k < 25 → w1.cell? ⟨ob, k, none⟩ = _ := fun k _ => r1 k; have hb1' := HB1.out.block ob l0; have f1 := fun k => free_of_block (hb1'.trans H0.out) k; have l1 := Nat.lt_of_lt_of_le l0 HB1.out.size; clear hb1 hb1')
      | (go_at_call 144; refine (fail_any ob _ ec _ ((r1 25).trans rfl) (f1 25) l1).mono ?_; rintro e w2 ⟨rfl, rfl⟩))
  all_goals
    first | go_end0 | ((try simp only [Exit.inBlock, Exit.then]); refine bodyPost_ret (results_none rfl _ _ _) rfl ?_)
    have hF1 := HF.out.below HB1.out
    have hE1 := below_ev HB1.out g sl
    have hs : SameBut ob w1 (w1.setCell ⟨ob, 25, none⟩ (.int .i64 ec)) := (SameBut.refl ob w1).set _ _
    exact ⟨rfl, sl, hF1.sameBut HAP.out hm hs, (hE1.toS _).trans (hs.evS g sl), HAP.out, block_setCell ((HB1.out.block ob l0).trans H0.out) 25 (.int .i64 ec)⟩

theorem enters_section : Enters 78 := by
  intro args w
  go_simp
theorem enters_wrong : Enters 79 := by
  intro args w
  go_simp
theorem enters_nothing : Enters 155 := by
  intro args w
  go_simp

theorem does_sect (m : Mem) (x : Int) (h0 : rdM m 0 = x) (h1 : rdM m 1 = x) (hl : 2 ≤ m.length) (hx : I64 x) : Does kSect m () (upd (upd (rdM m) 0 (wrap64 (x + 1))) 1 (wrap64 (x + 1))) 3 := by
  have i0 : InR m 0 := ⟨by omega, by omega⟩
  have i1 : InR m (0 + 1) := ⟨by omega, by omega⟩
  unfold kSect
  refine (does_enter 0 m i0 i1 (by rw [h0, show (0 : Int) + 1 = 1 from rfl]; omega)).bind (fun m1 e1 l1 => ?_) (by omega : 2 + 1 ≤ 3)
  rw [h0] at e1 ⊢
  refine ((Does.st (0 + 1) (wrap64 (x + 1)) m1 ⟨by omega, by omega⟩).to (by rw [e1])).bind (fun m2 e2 l2 => ?_) (by omega : 1 + 0 ≤ 1)
  have := Does.mark m2
  rw [e2] at this
  exact this
theorem safe_sect : Safe (fun _ : Unit => True) kSect := by
  unfold kSect
  refine (safe_enter 0).bind (fun k _ => ⟨(), rfl, trivial⟩) (fun k => ?_)
  exact ⟨⟨(), rfl, trivial⟩, fun v => trivial⟩

set_option maxHeartbeats 1600000 in
/-- A wrong call's op run: its code is told, the lock's words are one more each. -/
theorem wrongRun (P : PartD) (hn : P.thr.length ≤ 6) (hno : P.obj.length ≤ 8) (hcap : CapsOk P.thr) (t : Nat) (ht : t < P.thr.length) (c : CallD) (hxs : c.words.length ≤ 1000) (ob : Nat) (F : Nat → Prop) (sT sO v1 v2 wv : Value) (W core o : Int) (body : Value) (mb wb : Nat) (m : Mem) (w : World) (hm : MemAt w mb wb m) (hmx : 2 ≤ m.length)
    (h0 : w.heap[ob]? = some (.cells (opArr sT sO v1 v2 W core t c.kind c.handle c.a c.b wv c.timeout o (bound 79 (.pointer (some ⟨ob, 0, none⟩))) body 0 0 nilS false false 0 false 0 false false) 133 (0, 0)))
    (hx : ob ≠ mb ∧ ob ≠ wb) (hF : ∀ k, F k → k < w.heap.size ∧ k ≠ wb ∧ k ≠ ob) (hI : WrongIn F P v1 v2 wv c.words w) (x : Int) (hx0 : rdM m 0 = x) (hx1 : rdM m 1 = x) (hi : I64 x) :
    Calls Tryz.prog 83 #[.pointer (some ⟨mb, 0, none⟩), bound 78 (.pointer (some ⟨ob, 0, none⟩)), .int .i64 60000] w fun e w' => e = .returned (.bool true) ∧ Left (fun k => k = ob) wb w w' ∧ (∃ m', MemAt w' mb wb m' ∧ rdM m' = upd (upd (rdM m) 0 (wrap64 (x + 1))) 1 (wrap64 (x + 1)) ∧ m'.length = m.length) ∧
      w'.heap[ob]? = some (.cells (opArr sT sO v1 v2 W core t c.kind c.handle c.a c.b wv c.timeout o (bound 79 (.pointer (some ⟨ob, 0, none⟩))) body (checkV P t c) 0 nilS false false 0 false 0 false false) 133 (0, 0)) := by
  obtain ⟨sE, hrun, hov, hg, hl⟩ := does_runsS (does_sect m x hx0 hx1 hmx hi) safe_sect (most := 60000) (by omega) (by omega)
  refine (frunC w mb wb m hm 60000 (by omega) _ (.pointer (some ⟨ob, 0, none⟩)) enters_section kSect _ sE ob F
    (fun w1 => (∃ code, w1.heap[ob]? = some (.cells (opArr sT sO v1 v2 W core t c.kind c.handle c.a c.b wv c.timeout o (bound 79 (.pointer (some ⟨ob, 0, none⟩))) body code 0 nilS false false 0 false 0 false false) 133 (0, 0))) ∧ WrongIn F P v1 v2 wv c.words w1)
    (fun sl r w1 => (ob ≠ w.heap.size ∧ ob ≠ wb ∧ sl.ownBlock ≠ some ob) ∧ w1.heap[ob]? = some (.cells (opArr sT sO v1 v2 W core t c.kind c.handle c.a c.b wv c.timeout o (bound 79 (.pointer (some ⟨ob, 0, none⟩))) body (checkV P t c) 0 nilS false false 0 false 0 false false) 133 (0, 0)))
    ?_ ⟨⟨_, h0⟩, hI⟩ ⟨lt_of_block h0, hx⟩ (fun k hk => ⟨(hF k hk).1, (hF k hk).2.1⟩) ?_ ?_ hrun).mono ?_
  · rintro wa wc ⟨⟨q1, h1⟩, h2⟩ hk
    exact ⟨⟨q1, (hk ob (lt_of_block h1) (.inr rfl)).trans h1⟩, h2.kept (fun k h3 h4 => hk k h3 (.inl h4))⟩
  · rintro wa sl s r s1 hFr ⟨⟨q1, h1⟩, h2⟩ hlt hA hm2 hAF hFl hex
    have hkeep : ∀ w' sl', EvS (fun j => j = ob) ⟨w.heap.size, mb, wb⟩ sl sl' wa w' → WrongIn F P v1 v2 wv c.words w' := fun w' sl' hE => h2.kept (fun k h3 h4 => hE.keep h3 (hAF k h4) (hF k h4).2.2)
    refine (section_any 79 enters_wrong (checkV P t c) ob sT sO v1 v2 W core t c.kind c.handle c.a c.b wv c.timeout o body q1 0 nilS false false 0 false 0 false false wa ⟨w.heap.size, mb, wb⟩ sl s hFr (WrongIn F P v1 v2 wv c.words) hkeep
      (wrong_does P hn hno hcap t ht c hxs ob ⟨w.heap.size, mb, wb⟩ F sT sO v1 v2 wv W core o _ body hm2) h1 hA hm2 s1 hex).mono ?_
    rintro e wc ⟨he, sl2, hF2, hE2, hA2, hb⟩
    exact ⟨he, sl2, hF2, hE2, ⟨⟨_, hb⟩, hkeep _ _ hE2⟩, hA2, hb⟩
  · rintro r sl sl' s wa wc ⟨hA, hb⟩ hFr hE
    exact ⟨apart_ev hA hE (lt_of_block hb), (hE.keep (lt_of_block hb) hA).trans hb⟩
  · rintro e wc ⟨he, hm2, ⟨sl, hF2, hR⟩, hL⟩
    obtain ⟨hA, hb⟩ := hR _ rfl
    exact ⟨by rw [he, hov], hL, ⟨_, hm2, hg, hl⟩, hb⟩
end Go.Proofs.YtefbdcmodfbpbaaGreat
