/-
  The walk of PlanKeeps.
-/
import Derived.Test.YtnedofoenkmjaaaKeep2
import Derived.Test.YtnedofoenkmjaaaAwake12
import Derived.Deep.DeepCutAuto
import Derived.Deep.RegionHeld3
import Derived.StillTailTactics
set_option linter.unusedVariables false
set_option linter.unusedSimpArgs false
namespace Go.Proofs.Ytnedofoenkmjaaa
open Go.RowKit

theorem keepc {w w' : World} {p : Addr} {u : Value} (hb : Below w.heap.size w w') (h : w.cell? p = some u) : w'.cell? p = some u := (hb.cell (World.block_lt_of_cell? w _ h)).trans h
theorem keepa {w : World} {o : Obj} {p : Addr} {u : Value} (h : w.cell? p = some u) : (w.alloc o).cell? p = some u := keepc ((Below.refl w.heap.size w).alloc (Nat.le_refl _) o) h
theorem keeps2 {w : World} {p q r : Addr} {x y u : Value} (h : w.cell? r = some u) (hp : p.block ≠ r.block) (hq : q.block ≠ r.block) : ((w.setCell p x).setCell q y).cell? r = some u := by
  rw [World.cell?_setCell_far _ _ _ _ hq, World.cell?_setCell_far _ _ _ _ hp]; exact h
theorem belowS {B : Nat} {w0 w : World} {p q : Addr} {x y : Value} (h : Below B w0 w) (hp : B ≤ p.block) (hq : B ≤ q.block) : Below B w0 ((w.setCell p x).setCell q y) := (h.setCell hp x).setCell hq y
theorem belowDA {B : Nat} {w W : World} {o : Obj} (h : Below B w W.drew) (hB : B ≤ w.heap.size) : Below B w (W.alloc o).drew := Below.drew ((show Below B w W from ⟨h.os, h.tape, h.output, h.size, h.block⟩).alloc (Nat.le_trans hB h.size) o)
theorem belowDS {B : Nat} {w0 w : World} {p q : Addr} {x y : Value} (h : Below B w0 w.drew) (hp : B ≤ p.block) (hq : B ≤ q.block) : Below B w0 ((w.setCell p x).setCell q y).drew := Below.drew (belowS (show Below B w0 w from ⟨h.os, h.tape, h.output, h.size, h.block⟩) hp hq)
theorem keepDA {w : World} {o : Obj} {p : Addr} {u : Value} (h : w.drew.cell? p = some u) : (w.alloc o).drew.cell? p = some u := keepa (w := w) h
theorem belowAA {B : Nat} {w W : World} {o o' : Obj} (h : Below B w (W.alloc o)) (hW : B ≤ W.heap.size) (hw : w.heap.size ≤ W.heap.size) : Below B w (W.alloc o') :=
  ⟨h.os, h.tape, h.output, by simp; omega, fun k hk => by rw [Below.heap_alloc W o' k (by omega), ← Below.heap_alloc W o k (by omega)]; exact h.block k hk⟩
theorem keepaa {W : World} {o o' : Obj} {r : Addr} {u : Value} (h : (W.alloc o).cell? r = some u) (hr : r.block < W.heap.size) : (W.alloc o').cell? r = some u := by
  rw [World.cell?_of_block (w := W.alloc o) (w' := W.alloc o') (by rw [Below.heap_alloc W o' _ hr, Below.heap_alloc W o _ hr])]; exact h
theorem belowA {B : Nat} {w W : World} {o : Obj} (h : Below B w W) (hB : B ≤ w.heap.size) : Below B w (W.alloc o) := h.alloc (Nat.le_trans hB h.size) o
theorem belowN {B : Nat} {w W W' : World} (h' : Below W.heap.size W W') (h : Below B w W) (hB : B ≤ w.heap.size) : Below B w W' := h.trans (h'.mono (Nat.le_trans hB h.size))
theorem belowD {B : Nat} {w W : World} (h : Below B w W) : Below B w W.drew := h.drew

set_option maxRecDepth 100000 in
set_option maxHeartbeats 4000000 in
theorem keeps_any (P : PartD) (pv : Value) (F : Nat → Prop) (hc : CapsOk P.thr) (w : World) (h : PartAt w F pv P) :
    Calls Try.prog 4 #[pv] w fun e w' => e = .returned (.bool true) ∧ Below w.heap.size w w' := by
  obtain ⟨i0, hi0, hz0, hz1, hz2⟩ := info_parts Try.info_threads
  obtain ⟨j0, hj0, hy0, hy1, hy2⟩ := info_parts Try.info_objs
  have HFew := Lib.hid (fun (W : World) (hb : Below w.heap.size w W) => fewPart_any P pv F W (h.kept (fun k hk _ => hb.block k hk)))
  have HIn := Lib.hid h
  obtain ⟨v1, v3, rfl, h1, h2⟩ := h
  obtain ⟨A1, c1, rfl⟩ := h1.slice
  obtain ⟨A2, c2, rfl⟩ := ObjsAt.slice h2
  obtain ⟨ps, hpl, hpr, hpp⟩ := h1
  have HTS := Lib.hid hpr
  have HOS := Lib.hid h2
  have HPP := Lib.hid hpp
  have HPL := Lib.hid hpl
  clear hpr h2 hpp hpl
  go_enter Try.func4, Try.ntmps4
  go_wp2_with fail
  go_at_call 11
  refine (awake12_any _).mono ?_
  rintro e w1 ⟨rfl, hb⟩
  simp only [World.size_alloc] at hb
  obtain ⟨p1, p2⟩ := box_cells hb
  have Hb1 := Lib.hid hb
  clear hb
  go_wp2_with fail
  go_at_call 12
  refine (HFew.out _ (below_box Hb1.out)).mono ?_
  rintro e w2 ⟨rfl, hb2⟩
  have hb2' := below_next Hb1.out hb2
  obtain ⟨p3, p4⟩ := box_cells hb2'
  have Hb2 := Lib.hid hb2'
  clear hb2 hb2' HFew p1 p2
  cases hf : fewB P with
  | false =>
    clear hf
    go_wp2_with fail
    go_at_call 11
    refine (awake12_any _).mono ?_
    rintro e w3 ⟨rfl, hb3⟩
    have Hb3 := Lib.hid (below_next Hb2.out hb3)
    clear hb3
    go_wp2
    go_ret
    exact ⟨rfl, below_box Hb3.out⟩
  | true =>
    obtain ⟨n6, m6, _⟩ := fewB_ok hf
    have q1 := p3 0
    have q2 := p3 1
    simp only [List.getElem?_toArray, List.getElem?_cons_succ, List.getElem?_cons_zero] at q1 q2
    have hlw : w.heap.size < w2.heap.size := by have := Hb2.out.size; rw [World.size_alloc] at this; omega
    clear p3 p4
    go_wp2_with fail
    have hr1 := Lib.hid (HTS.out.kept (w' := w2) (fun k hk _ => (below_box Hb2.out).block k hk))
    have hr2 := Lib.hid (Reads.kept (w' := w2) HOS.out (fun k hk _ => (below_box Hb2.out).block k hk))
    have one1 := Lib.hid (encThreads_one P.thr ps (fun u hu => by
      obtain ⟨i, hi⟩ := List.mem_iff_getElem?.1 hu
      have hlt := (List.getElem?_eq_some_iff.1 hi).1
      rw [HPL.out] at hlt
      obtain ⟨A, c, e⟩ := (HPP.out i _ u (List.getElem?_eq_getElem hlt) hi).slice
      exact slice_one ⟨A, _, c, e⟩))
    have one2 := Lib.hid (encObjs_one P.obj)
    go_cut [3] (fun x wx => ∃ ob A3 c3 A4 c4, x = .pointer (some ⟨ob, 0, none⟩) ∧ Hid (wx.heap[ob]? = some (.cells #[.slice A3 P.thr.length c3, .slice A4 P.obj.length c4] 25 (0, 0))) ∧ Hid (CopyAt wx w2.heap.size 46 4 (.slice A3 P.thr.length c3) P.thr.length (encThreads P.thr ps)) ∧ Hid (CopyAt wx w2.heap.size 58 3 (.slice A4 P.obj.length c4) P.obj.length (encObjs P.obj)) ∧ Hid (Below w2.heap.size w2 wx) ∧ w2.heap.size ≤ ob)
    case first =>
      have hrefl : Below w2.heap.size w2 w2 := Below.refl _ _
      go_region_held3 (fun w' => Below w2.heap.size w2 w' ∧ w'.cell? ⟨w.heap.size, 0, none⟩ = some (.slice A1 P.thr.length c1) ∧ w'.cell? ⟨w.heap.size, 1, none⟩ = some (.slice A2 P.obj.length c2))
        (((try dsimp only); (try go_split_ands); (with_reducible repeat' apply And.intro); all_goals (with_reducible first | assumption | exact Below.refl _ _ | exact belowD (by assumption) | exact belowA (by assumption) (Nat.le_refl _) | (refine belowAA (by assumption) ?_ ?_ <;> omega) | (refine keepaa (by assumption) ?_; dsimp only; omega) | exact belowDA (by assumption) (Nat.le_refl _) | (refine belowDS (by assumption) ?_ ?_ <;> (dsimp only; omega)) | exact belowN (by assumption) (by assumption) (Nat.le_refl _) | exact keepc (by assumption) (by assumption) | exact keepa (by assumption) | exact keepDA (by assumption) | (refine belowS (by assumption) ?_ ?_ <;> (dsimp only; omega)) | (refine keeps2 (by assumption) ?_ ?_ <;> (dsimp only; omega)) | go_keep)))
        (first
        | ((try go_split_ands); refine step_append_copy (by rfl) (.tmp 20) (.tmp 22) 22 (by rfl) 46 i0 _ 4 40 Try.underlying22 hi0 hz0 hz1 hz2 rfl (by omega) ⟨_, 0, none⟩ (by rfl) A1 P.thr.length c1 F (encThreads P.thr ps) (by rfl) (hr1.out.kept (fun k hk _ => Below.block (B := w2.heap.size) (w := w2) (by with_reducible assumption) k hk)) one1.out (by unfold maxLen; omega) (by omega) ?_
           intro A3 c3 w3 hc3 hb3
           have hl3 : w2.heap.size < w3.heap.size := by have := hb3.size; (try simp at this); omega
           try (refine part_in (x := .slice none 0 0) (y := .slice none 0 0) (t := 25) (b := w2.heap.size) hb3 ?_ ?_; (focus ((repeat (with_reducible first | assumption | refine at_drew ?_ | (refine at_new ?_; ((try simp) <;> omega); done) | (refine at_old ?_ ?_; focus ((try simp) <;> omega)))); done)); intro lp hp a0p a1p f0p f1p)
           try (refine part_in (x := .slice none 0 0) (y := .slice none 0 0) (t := 25) (b := w2.heap.size + 1) hb3 ?_ ?_; (focus ((repeat (with_reducible first | assumption | refine at_drew ?_ | (refine at_new ?_; ((try simp) <;> omega); done) | (refine at_old ?_ ?_; focus ((try simp) <;> omega)))); done)); intro lq hq a0q a1q f0q f1q)
           try (refine part_in (x := .slice none 0 0) (y := .slice none 0 0) (t := 25) (b := w2.heap.size + 1 + 1) hb3 ?_ ?_; (focus ((repeat (with_reducible first | assumption | refine at_drew ?_ | (refine at_new ?_; ((try simp) <;> omega); done) | (refine at_old ?_ ?_; focus ((try simp) <;> omega)))); done)); intro lr hr a0r a1r f0r f1r))
        | ((try go_split_ands); refine step_append_copy (by rfl) (.tmp 24) (.tmp 26) 23 (by rfl) 58 j0 _ 3 24 Try.underlying23 hj0 hy0 hy1 hy2 rfl (by omega) ⟨_, 0, none⟩ (by rfl) A2 P.obj.length c2 F (encObjs P.obj) (by rfl) (Reads.kept hr2.out (fun k hk _ => Below.block (B := w2.heap.size) (w := w2) (by with_reducible assumption) k hk)) one2.out (by unfold maxLen; omega) (by omega) ?_
           intro A4 c4 w4 hc4 hb4
           have hl4 : w3.heap.size ≤ w4.heap.size := by have := hb4.size; (try simp at this); omega
           try (refine part_in (x := .slice none 0 0) (y := .slice none 0 0) (t := 25) (b := w2.heap.size) hb4 ?_ ?_; (focus ((repeat (with_reducible first | assumption | refine at_drew ?_ | (refine at_new ?_; ((try simp) <;> omega); done) | (refine at_old ?_ ?_; focus ((try simp) <;> omega)))); done)); intro ls hs a0s a1s f0s f1s)
           try (refine part_in (x := .slice none 0 0) (y := .slice none 0 0) (t := 25) (b := w2.heap.size + 1) hb4 ?_ ?_; (focus ((repeat (with_reducible first | assumption | refine at_drew ?_ | (refine at_new ?_; ((try simp) <;> omega); done) | (refine at_old ?_ ?_; focus ((try simp) <;> omega)))); done)); intro lt ht a0t a1t f0t f1t)
           try (refine part_in (x := .slice none 0 0) (y := .slice none 0 0) (t := 25) (b := w2.heap.size + 1 + 1) hb4 ?_ ?_; (focus ((repeat (with_reducible first | assumption | refine at_drew ?_ | (refine at_new ?_; ((try simp) <;> omega); done) | (refine at_old ?_ ?_; focus ((try simp) <;> omega)))); done)); intro lu hu a0u a1u f0u f1u)
           try (refine part_in (x := .slice none 0 0) (y := .slice none 0 0) (t := 25) (b := w3.heap.size) hb4 ?_ ?_; (focus ((repeat (with_reducible first | assumption | refine at_drew ?_ | (refine at_new ?_; ((try simp) <;> omega); done) | (refine at_old ?_ ?_; focus ((try simp) <;> omega)))); done)); intro lv hv a0v a1v f0v f1v)
           try (refine part_in (x := .slice none 0 0) (y := .slice none 0 0) (t := 25) (b := w3.heap.size + 1) hb4 ?_ ?_; (focus ((repeat (with_reducible first | assumption | refine at_drew ?_ | (refine at_new ?_; ((try simp) <;> omega); done) | (refine at_old ?_ ?_; focus ((try simp) <;> omega)))); done)); intro lx hx a0x a1x f0x f1x)))
      all_goals
        rename_i hH
        obtain ⟨hS, _, _⟩ := hH
        have h34 : Below w3.heap.size w3 w4 := by
          refine belowN hb4 ?_ (Nat.le_refl _)
          repeat (first | exact Below.refl _ _ | refine belowD ?_ | refine belowA ?_ (Nat.le_refl _))
        have k3 := (hc3.lower (B' := w2.heap.size) (by (try simp) <;> omega)).later h34
        have k4 := hc4.lower (B' := w2.heap.size) (by (try simp) <;> omega)
        have h24 : w2.heap.size ≤ w4.heap.size := by omega
        have H3 := Lib.hid k3
        have H4 := Lib.hid k4
        have HS := Lib.hid hS
        clear hc3 hc4 k3 k4 h34 hb3 hb4 hS
        go_wp2_with fail
        go_meet
        refine ⟨_, A3, c3, A4, c4, rfl, ?_, ?_, ?_, HS, ?_⟩
        · first | exact Lib.hid (heap_alloc_new _ _) | exact Lib.hid (set2 (by with_reducible assumption))
        · first | exact Lib.hid (H3.out.later (belowA (Below.refl _ _) (Nat.le_refl _))) | exact Lib.hid (H3.out.set2 (by with_reducible assumption) (by decide))
        · first | exact Lib.hid (H4.out.later (belowA (Below.refl _ _) (Nat.le_refl _))) | exact Lib.hid (H4.out.set2 (by with_reducible assumption) (by decide))
        · omega
    case rest =>
      obtain ⟨ob, A3, c3, A4, c4, rfl, hob, k3, k4, hb3, hobl⟩ := hcut
      have HP3 := Lib.hid (hob.out)
      have hwb : Below w.heap.size w wc := (below_box Hb2.out).trans (hb3.out.mono (by omega))
      have hbox : Below (w.heap.size + 1) (w.alloc (.cells #[.slice A1 P.thr.length c1, .slice A2 P.obj.length c2] 25)) wc := Hb2.out.trans (hb3.out.mono (by omega))
      have HBX := Lib.hid hbox
      have horg := Lib.hid (HIn.out.kept (w' := wc) (fun k hk _ => hwb.block k hk))
      have hown := Lib.hid (own_part (F := F) HPL.out (fun i t u a b => (HPP.out i t u a b).kept (w' := wc) (fun k hk _ => hwb.block k hk)) HTS.out.1 (Reads.len HOS.out) k3.out k4.out)
      have hL0 := Lib.hid (LoopSt.start (n := P.thr.length) rfl HPL.out k3.out)
      have e0 := (cell_of_block hob.out) 0
      have e1 := (cell_of_block hob.out) 1
      simp only [List.getElem?_toArray, List.getElem?_cons_succ, List.getElem?_cons_zero] at e0 e1
      have hobs : ob < wc.heap.size := (Array.getElem?_eq_some_iff.1 hob.out).1
      have hlt2 : w2.heap.size ≤ wc.heap.size := hb3.out.size
      have HPO := Lib.hid (fewB_partOk hf hc)
      clear q1 q2 hbox hwb hr1 hr2 one1 one2 hi0 hz0 hz1 hz2 hj0 hy0 hy1 hy2 hob k3 k4 HTS HOS HPP HPL Hb1 hf
      by_cases hw : partWrong P = 0
      · obtain ⟨q6, q8x, q8, qp, qo⟩ := partRight hw
        have QP := Lib.hid qp
        have QO := Lib.hid qo
        have HW := Lib.hid hw
        clear qp qo hw
        go_wp2_with fail
        go_at_call 13
        refine (planOf_yes P _ _ HPO.out HW.out wc hown.out).mono ?_
        rintro e w3 ⟨pv, rfl, hP, hb4⟩
        obtain ⟨sT, sO, u1, u2, rfl, g1, g2, g3⟩ := id hP
        obtain ⟨B11, d11, x1⟩ := g1.slice
        obtain ⟨B12, d12, x2⟩ := g2.slice
        obtain ⟨y1, y2, x0, g5, g6⟩ := g3
        cases x0
        obtain ⟨B13, d13, rfl⟩ := g5.slice
        obtain ⟨B14, d14, rfl⟩ := ObjsAt.slice g6
        subst x1 x2
        have HP1 := Lib.hid hP
        have HB4 := Lib.hid hb4
        clear hP g1 g2 g5 g6 e0 e1
        simp only [planArr] at HP1 ⊢
        have hs3 : wc.heap.size ≤ w3.heap.size := hb4.size
        have hlw3 : w.heap.size < w3.heap.size := by omega
        have r0 := (box_cells (HBX.out.trans (hb4.mono (by omega)))).1 0
        have r1 := (box_cells (HBX.out.trans (hb4.mono (by omega)))).1 1
        simp only [List.getElem?_toArray, List.getElem?_cons_succ, List.getElem?_cons_zero] at r0 r1
        clear hb4
        go_wp2_with fail
        go_at_call 13
        refine (planOf_yes P _ F HPO.out HW.out (w3.alloc (.cells #[.int .i64 0, .int .i64 2, .int .i64 4, .int .i64 3, .int .i64 5, .int .i64 6, .int .i64 8, .int .i64 41, .int .i64 43, .slice B11 (thAts P.thr.length).length d11, .slice B12 (obAts P.thr.length P.obj.length).length d12, .int .i64 (planWords P), .slice B13 P.thr.length d13, .slice B14 P.obj.length d14] 31)) (horg.out.kept (fun k hk _ => (Below.heap_alloc _ _ k (by omega)).trans (HB4.out.block k hk)))).mono ?_
        rintro e w4 ⟨qv, rfl, hQ, hb5⟩
        obtain ⟨sT, sO, u1, u2, rfl, g1, g2, g3⟩ := id hQ
        obtain ⟨B21, d21, x1⟩ := g1.slice
        obtain ⟨B22, d22, x2⟩ := g2.slice
        obtain ⟨y1, y2, x0, g5, g6⟩ := g3
        cases x0
        obtain ⟨B23, d23, rfl⟩ := g5.slice
        obtain ⟨B24, d24, rfl⟩ := ObjsAt.slice g6
        subst x1 x2
        have HP2 := Lib.hid hQ
        have hs4 : w3.heap.size + 1 ≤ w4.heap.size := by have := hb5.size; rw [World.size_alloc] at this; exact this
        have hpb := (hb5.block w3.heap.size (by simp)).trans (heap_alloc_new w3 (.cells #[.int .i64 0, .int .i64 2, .int .i64 4, .int .i64 3, .int .i64 5, .int .i64 6, .int .i64 8, .int .i64 41, .int .i64 43, .slice B11 (thAts P.thr.length).length d11, .slice B12 (obAts P.thr.length P.obj.length).length d12, .int .i64 (planWords P), .slice B13 P.thr.length d13, .slice B14 P.obj.length d14] 31))
        have h34 : Below w3.heap.size w3 w4 := (belowA (Below.refl _ _) (Nat.le_refl _)).trans (hb5.mono (by simp))
        clear hQ g1 g2 g5 g6 r0 r1 hb5
        simp only [planArr] at HP2 ⊢
        obtain ⟨w6, hw6⟩ : ∃ x, x = w4.alloc (.cells #[.int .i64 0, .int .i64 2, .int .i64 4, .int .i64 3, .int .i64 5, .int .i64 6, .int .i64 8, .int .i64 41, .int .i64 43, .slice B21 (thAts P.thr.length).length d21, .slice B22 (obAts P.thr.length P.obj.length).length d22, .int .i64 (planWords P), .slice B23 P.thr.length d23, .slice B24 P.obj.length d24] 31) := ⟨_, rfl⟩
        have h46 : Below w4.heap.size w4 w6 := by rw [hw6]; exact belowA (Below.refl _ _) (Nat.le_refl _)
        have hqb : w6.heap[w4.heap.size]? = some (.cells #[.int .i64 0, .int .i64 2, .int .i64 4, .int .i64 3, .int .i64 5, .int .i64 6, .int .i64 8, .int .i64 41, .int .i64 43, .slice B21 (thAts P.thr.length).length d21, .slice B22 (obAts P.thr.length P.obj.length).length d22, .int .i64 (planWords P), .slice B23 P.thr.length d23, .slice B24 P.obj.length d24] 31 (0, 0)) := by rw [hw6]; exact heap_alloc_new _ _
        have hs6 : w6.heap.size = w4.heap.size + 1 := by rw [hw6]; simp
        have hpb6 := (h46.block _ (by omega)).trans hpb
        have hcb : Below wc.heap.size wc w6 := HB4.out.trans ((h34.trans (h46.mono (by omega))).mono hs3)
        have HOB := Lib.hid ((hcb.block ob hobs).trans HP3.out)
        have HP1' := Lib.hid (HP1.out.kept (w' := w6) (fun k hk _ => ((h34.trans (h46.mono (by omega))).block k hk)))
        have HP2' := Lib.hid (HP2.out.kept (w' := w6) (fun k hk _ => h46.block k hk))
        obtain ⟨own, hL0', hownlt⟩ := hL0.out
        have HON : Hid (own ≠ some ob) := Lib.hid (fun e => by obtain ⟨cur, hh⟩ := (hownlt ob e).2; rw [HP3.out] at hh; cases hh)
        have hL := hL0'.later hcb
        have HPB := Lib.hid hpb6
        have HQB := Lib.hid hqb
        have HBW := Lib.hid (hwb_all Hb2.out hb3.out hcb)
        have HOL := Lib.hid hownlt
        have HW6 := Lib.hid hw6
        have oo0 := cell_of_block (((HB4.out.trans (h34.mono hs3)).block ob hobs).trans HP3.out) 0
        have hob4 : ob < w4.heap.size := by omega
        simp only [List.getElem?_toArray, List.getElem?_cons_succ, List.getElem?_cons_zero] at oo0
        clear hpb hpb6 hqb hcb h46 h34 hL0' hownlt hL0 HP1 HP2 hw6
        go_wp2_with fail
        rw [← HW6.out]
        have st0 : LoopSt own A3 P.thr.length w6 w6 := hL
        have St0 := Lib.hid st0
        clear st0 hL
        go_loopw [42] (fun i wr => ∃ k : Nat, k ≤ P.thr.length ∧ i = .int .i64 k ∧ Hid (LoopSt own A3 P.thr.length w6 wr)) (fun i _ => P.thr.length - (intOf i).toNat)
        case atStart => exact ⟨0, Nat.zero_le _, rfl, St0⟩
        case round =>
          obtain ⟨k, hk, rfl, hst⟩ := hrel
          obtain ⟨hch, hgs⟩ := hst.out
          have o0 := (hch.at_row HOB.out HON.out).1 0
          have o1 := (hch.at_row HOB.out HON.out).1 1
          simp only [List.getElem?_toArray, List.getElem?_cons_succ, List.getElem?_cons_zero] at o0 o1
          have sz6 := hch.size
          by_cases hlt : k < P.thr.length
          · have hlc : (k : Int) < (P.thr.length : Int) := by omega
            obtain ⟨g, eA, eo, hcell, hfr⟩ := hgs (by omega)
            subst eA
            obtain ⟨z, hz⟩ := hcell k hlt
            have hf0 := hfr (k * 4)
            have hgl : g < wr.heap.size := World.block_lt_of_cell? wr _ hz
            have hob2 : g ≠ ob := fun e => HON.out (by rw [eo, e])
            have hz' : wr.cell? ⟨g, 0 + k * 4, none⟩ = some (.int .i64 z) := by rw [Nat.zero_add]; exact hz
            have Hst := Lib.hid (hst.out.step hlt eo (wrap64 (15 - z)))
            clear hch hgs hcell hfr
            go_wp2_with fail
            go_still_tail 12, (by kernel_rfl)
            go_wp2
            go_roundw
            case rel => exact ⟨k + 1, by omega, by go_num, Lib.hid Hst.out.drew⟩
            case measure => simp [intOf]; omega
          · have hge : ¬ ((k : Int) < (P.thr.length : Int)) := by omega
            have hch := hst.out.1
            have hp1 : own ≠ some w3.heap.size := fun e => by have := (HOL.out _ e).1.2; omega
            have hp2 : own ≠ some w4.heap.size := fun e => by have := (HOL.out _ e).1.2; omega
            have s1 := (hch.at_row HPB.out hp1).1
            have s2 := (hch.at_row HQB.out hp2).1
            have HQ1 := Lib.hid (HP1'.out.kept (w' := wr) (fun k hk hF => hch.block k hk (fun e => by have := (HOL.out _ e).1.2; omega)))
            have HQ2 := Lib.hid (HP2'.out.kept (w' := wr) (fun k hk hF => hch.block k hk (fun e => by have := (HOL.out _ e).1.2; rw [World.size_alloc] at hF; omega)))
            have hrefl : Below wr.heap.size wr wr := Below.refl _ _
            have HBR := Lib.hid (hbr_all HBW.out hch (fun g e => Nat.le_trans (Nat.le_of_lt hlw) (HOL.out g e).1.1))
            have HB1 := Lib.hid (fun (W : World) (hb : Below wr.heap.size wr W) => planBoot_any P _ _ q6 q8 QP.out QO.out W (HQ1.out.kept (fun k hk _ => hb.block k hk)))
            have HB2 := Lib.hid (fun (W : World) (hb : Below wr.heap.size wr W) => planBoot_any P _ _ q6 q8 QP.out QO.out W (HQ2.out.kept (fun k hk _ => hb.block k hk)))
            clear HQ1 HQ2
            have HMark : Hid True := Lib.hid trivial
            clear hst hch hp1 hp2 o0 o1 HP1' HP2' HPB HQB HOB HON HOL St0
            go_wp2_with fail
            go_region_held3 (fun w' => Below wr.heap.size wr w' ∧ (∀ k, w'.cell? ⟨w3.heap.size, k, none⟩ = #[.int .i64 0, .int .i64 2, .int .i64 4, .int .i64 3, .int .i64 5, .int .i64 6, .int .i64 8, .int .i64 41, .int .i64 43, .slice B11 (thAts P.thr.length).length d11, .slice B12 (obAts P.thr.length P.obj.length).length d12, .int .i64 (planWords P), .slice B13 P.thr.length d13, .slice B14 P.obj.length d14][k]?) ∧ (∀ k, w'.cell? ⟨w4.heap.size, k, none⟩ = #[.int .i64 0, .int .i64 2, .int .i64 4, .int .i64 3, .int .i64 5, .int .i64 6, .int .i64 8, .int .i64 41, .int .i64 43, .slice B21 (thAts P.thr.length).length d21, .slice B22 (obAts P.thr.length P.obj.length).length d22, .int .i64 (planWords P), .slice B23 P.thr.length d23, .slice B24 P.obj.length d24][k]?))
              (((try dsimp only); (try go_split_ands); (with_reducible repeat' apply And.intro); all_goals (with_reducible first | assumption | exact belowD (by assumption) | exact belowN (by assumption) (by assumption) (Nat.le_refl _) | exact keepR (by assumption) (by assumption) rfl | go_keep)))
              (first
                | ((try go_split_ands); go_at_call 14; with_reducible refine (HB1.out _ (by with_reducible assumption)).mono ?_; clear HB1; rintro e w' ⟨mb, wb, rfl, hm, hb, lm, lw⟩)
                | ((try go_split_ands); go_at_call 14; with_reducible refine (HB2.out _ (by with_reducible assumption)).mono ?_; clear HB2; rintro e w' ⟨mb, wb, rfl, hm, hb, lm, lw⟩)
                | (go_at_call 16; with_reducible refine (mwords_any _ _ (bootM P) _ (by with_reducible assumption)).mono ?_; rintro e w' ⟨v, rfl, hi, hb⟩; obtain ⟨b1, n1, rfl⟩ := hi.slice; have HI1 := Lib.hid hi; clear HMark hi)
                | (go_at_call 16; with_reducible refine (mwords_any _ _ (bootM P) _ (by with_reducible assumption)).mono ?_; rintro e w' ⟨v, rfl, hi, hb⟩; obtain ⟨b2, n2, rfl⟩ := hi.slice; have HI2 := Lib.hid hi; clear hi))
            rename_i wm hbm hH
            obtain ⟨hS, _, _⟩ := hH
            have HA := Lib.hid (Reads.kept HI1.out (fun k hk _ => (hb.block k (Nat.lt_of_lt_of_le hk hbm.size)).trans (hbm.block k hk)))
            have HB := Lib.hid HI2.out
            have HBF := Lib.hid (HBR.out.trans (hS.mono HBR.out.size))
            obtain ⟨n, hn⟩ : ∃ n, n = (bootM P).length := ⟨_, rfl⟩
            rw [← hn]
            have hn4 : n ≤ 4000 := by rw [hn]; exact hm.len
            have HN := Lib.hid hn
            clear hm hb hbm hS HI1 HI2 HBR hn
            go_wp2
            go_loopw [92] (fun i wr => ∃ k : Nat, k ≤ n ∧ i = .int .i64 k ∧ Hid (Below w'.heap.size w' wr)) (fun i _ => n - (intOf i).toNat)
            case atStart => exact ⟨0, Nat.zero_le _, rfl, Lib.hid (Below.refl _ _)⟩
            case round =>
              obtain ⟨k, hk, rfl, hw⟩ := hrel
              by_cases hlt : k < n
              · have hlb : k < (bootM P).length := by rw [← HN.out]; exact hlt
                obtain ⟨g1, o1, m1, ea, _, hc1⟩ := IntsAt.cells (xs := bootM P) HA.out (by omega)
                obtain ⟨g2, o2, m2, eb, _, hc2⟩ := IntsAt.cells (xs := bootM P) HB.out (by omega)
                have d1 := hc1 k _ (List.getElem?_eq_getElem hlb)
                have d2 := hc2 k _ (List.getElem?_eq_getElem hlb)
                have l1 := World.block_lt_of_cell? w' _ d1
                have l2 := World.block_lt_of_cell? w' _ d2
                rw [← hw.out.cell (p := ⟨g1, o1 + k, none⟩) l1] at d1
                rw [← hw.out.cell (p := ⟨g2, o2 + k, none⟩) l2] at d2
                cases ea
                cases eb
                have hlc : (k : Int) < (n : Int) := by omega
                have hd : decide ((n : Int) ≤ (k : Int)) = false := by simp; omega
                have hs := hw.out.size
                clear hc1 hc2 l1 l2
                generalize (bootM P)[k] = x at *
                go_wp2_with fail
                go_quiet (fail)
                go_wp2
                go_roundw
                case rel => exact ⟨k + 1, by omega, by go_num, Lib.hid (below_drewN hw.out _)⟩
                case measure => simp [intOf]; omega
              · have hge : ¬ ((k : Int) < (n : Int)) := by omega
                go_wp2
                go_ret
                exact ⟨rfl, HBF.out.trans (hw.out.mono HBF.out.size)⟩
      · have HW := Lib.hid hw
        clear hw
        have hz : zeroPlan = .agg #[.int .i64 0, .int .i64 0, .int .i64 0, .int .i64 0, .int .i64 0, .int .i64 0, .int .i64 0, .int .i64 0, .int .i64 0, .slice none 0 0, .slice none 0 0, .int .i64 0, .slice none 0 0, .slice none 0 0] := rfl
        go_wp2_with fail
        go_at_call 13
        refine (planOf_no P _ _ HPO.out HW.out wc hown.out).mono ?_
        rintro e w3 ⟨rfl, hb4⟩
        rw [hz]
        have HB4 := Lib.hid hb4
        clear e0 e1
        have hs3 : wc.heap.size ≤ w3.heap.size := hb4.size
        have hlw3 : w.heap.size < w3.heap.size := by omega
        have r0 := (box_cells (HBX.out.trans (hb4.mono (by omega)))).1 0
        have r1 := (box_cells (HBX.out.trans (hb4.mono (by omega)))).1 1
        simp only [List.getElem?_toArray, List.getElem?_cons_succ, List.getElem?_cons_zero] at r0 r1
        clear hb4
        go_wp2_with fail
        go_at_call 13
        refine (planOf_no P _ F HPO.out HW.out (w3.alloc (.cells #[.int .i64 0, .int .i64 0, .int .i64 0, .int .i64 0, .int .i64 0, .int .i64 0, .int .i64 0, .int .i64 0, .int .i64 0, .slice none 0 0, .slice none 0 0, .int .i64 0, .slice none 0 0, .slice none 0 0] 31)) (horg.out.kept (fun k hk _ => (Below.heap_alloc _ _ k (by omega)).trans (HB4.out.block k hk)))).mono ?_
        rintro e w4 ⟨rfl, hb5⟩
        rw [hz]
        have hs4 : w3.heap.size + 1 ≤ w4.heap.size := by have := hb5.size; rw [World.size_alloc] at this; exact this
        have hpb := (hb5.block w3.heap.size (by simp)).trans (heap_alloc_new w3 (.cells #[.int .i64 0, .int .i64 0, .int .i64 0, .int .i64 0, .int .i64 0, .int .i64 0, .int .i64 0, .int .i64 0, .int .i64 0, .slice none 0 0, .slice none 0 0, .int .i64 0, .slice none 0 0, .slice none 0 0] 31))
        have h34 : Below w3.heap.size w3 w4 := (belowA (Below.refl _ _) (Nat.le_refl _)).trans (hb5.mono (by simp))
        clear r0 r1 hb5 hz
        obtain ⟨w6, hw6⟩ : ∃ x, x = w4.alloc (.cells #[.int .i64 0, .int .i64 0, .int .i64 0, .int .i64 0, .int .i64 0, .int .i64 0, .int .i64 0, .int .i64 0, .int .i64 0, .slice none 0 0, .slice none 0 0, .int .i64 0, .slice none 0 0, .slice none 0 0] 31) := ⟨_, rfl⟩
        have h46 : Below w4.heap.size w4 w6 := by rw [hw6]; exact belowA (Below.refl _ _) (Nat.le_refl _)
        have hqb : w6.heap[w4.heap.size]? = some (.cells #[.int .i64 0, .int .i64 0, .int .i64 0, .int .i64 0, .int .i64 0, .int .i64 0, .int .i64 0, .int .i64 0, .int .i64 0, .slice none 0 0, .slice none 0 0, .int .i64 0, .slice none 0 0, .slice none 0 0] 31 (0, 0)) := by rw [hw6]; exact heap_alloc_new _ _
        have hs6 : w6.heap.size = w4.heap.size + 1 := by rw [hw6]; simp
        have hpb6 := (h46.block _ (by omega)).trans hpb
        have hcb : Below wc.heap.size wc w6 := HB4.out.trans ((h34.trans (h46.mono (by omega))).mono hs3)
        have HOB := Lib.hid ((hcb.block ob hobs).trans HP3.out)
        obtain ⟨own, hL0', hownlt⟩ := hL0.out
        have HON : Hid (own ≠ some ob) := Lib.hid (fun e => by obtain ⟨cur, hh⟩ := (hownlt ob e).2; rw [HP3.out] at hh; cases hh)
        have hL := hL0'.later hcb
        have HPB := Lib.hid hpb6
        have HQB := Lib.hid hqb
        have HBW := Lib.hid (hwb_all Hb2.out hb3.out hcb)
        have HOL := Lib.hid hownlt
        have HW6 := Lib.hid hw6
        have oo0 := cell_of_block (((HB4.out.trans (h34.mono hs3)).block ob hobs).trans HP3.out) 0
        have hob4 : ob < w4.heap.size := by omega
        simp only [List.getElem?_toArray, List.getElem?_cons_succ, List.getElem?_cons_zero] at oo0
        clear hpb hpb6 hqb hcb h46 h34 hL0' hownlt hL0 hw6
        go_wp2_with fail
        rw [← HW6.out]
        have st0 : LoopSt own A3 P.thr.length w6 w6 := hL
        have St0 := Lib.hid st0
        clear st0 hL
        go_loopw [42] (fun i wr => ∃ k : Nat, k ≤ P.thr.length ∧ i = .int .i64 k ∧ Hid (LoopSt own A3 P.thr.length w6 wr)) (fun i _ => P.thr.length - (intOf i).toNat)
        case atStart => exact ⟨0, Nat.zero_le _, rfl, St0⟩
        case round =>
          obtain ⟨k, hk, rfl, hst⟩ := hrel
          obtain ⟨hch, hgs⟩ := hst.out
          have o0 := (hch.at_row HOB.out HON.out).1 0
          have o1 := (hch.at_row HOB.out HON.out).1 1
          simp only [List.getElem?_toArray, List.getElem?_cons_succ, List.getElem?_cons_zero] at o0 o1
          have sz6 := hch.size
          by_cases hlt : k < P.thr.length
          · have hlc : (k : Int) < (P.thr.length : Int) := by omega
            obtain ⟨g, eA, eo, hcell, hfr⟩ := hgs (by omega)
            subst eA
            obtain ⟨z, hz⟩ := hcell k hlt
            have hf0 := hfr (k * 4)
            have hgl : g < wr.heap.size := World.block_lt_of_cell? wr _ hz
            have hob2 : g ≠ ob := fun e => HON.out (by rw [eo, e])
            have hz' : wr.cell? ⟨g, 0 + k * 4, none⟩ = some (.int .i64 z) := by rw [Nat.zero_add]; exact hz
            have Hst := Lib.hid (hst.out.step hlt eo (wrap64 (15 - z)))
            clear hch hgs hcell hfr
            go_wp2_with fail
            go_still_tail 12, (by kernel_rfl)
            go_wp2
            go_roundw
            case rel => exact ⟨k + 1, by omega, by go_num, Lib.hid Hst.out.drew⟩
            case measure => simp [intOf]; omega
          · have hge : ¬ ((k : Int) < (P.thr.length : Int)) := by omega
            have hch := hst.out.1
            have hp1 : own ≠ some w3.heap.size := fun e => by have := (HOL.out _ e).1.2; omega
            have hp2 : own ≠ some w4.heap.size := fun e => by have := (HOL.out _ e).1.2; omega
            have s1 := (hch.at_row HPB.out hp1).1
            have s2 := (hch.at_row HQB.out hp2).1
            have HBR := Lib.hid (hbr_all HBW.out hch (fun g e => Nat.le_trans (Nat.le_of_lt hlw) (HOL.out g e).1.1))
            clear hst hch hp1 hp2 o0 o1 HPB HQB HOB HON HOL St0
            go_wp2
            go_ret
            exact ⟨rfl, HBR.out⟩
end Go.Proofs.Ytnedofoenkmjaaa
