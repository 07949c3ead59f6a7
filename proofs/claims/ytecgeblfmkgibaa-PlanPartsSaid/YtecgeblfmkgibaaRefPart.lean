/-
  The reference's own judgement of a partition: it is the planner's.
-/
import Derived.Test.YtecgeblfmkgibaaConfig
set_option linter.unusedVariables false
set_option linter.unusedSimpArgs false
namespace Go.Proofs.Ytecgeblfmkgibaa
open Go.RowKit

set_option maxRecDepth 100000 in
set_option maxHeartbeats 1600000 in
theorem refObject_any (o : ObjD) (w : World) :
    Calls Try.prog 53 #[.agg #[.int .i64 o.kind, .int .i64 o.size, .bool o.prio]] w fun e w' => e = .returned (.bool (rightObjectB o)) ∧ Below w.heap.size w w' := by
  have fin : ∀ b : Bool, b = rightObjectB o → ∀ w', Below w.heap.size w w' → (Ending.returned (.bool b) = .returned (.bool (rightObjectB o))) ∧ Below w.heap.size w w' := fun b h w' hb => ⟨by rw [h], hb⟩
  have Fin := Lib.hid fin
  clear fin
  generalize hR : rightObjectB o = R at *
  have HR := Lib.hid hR
  clear hR
  go_enter Try.func53, Try.ntmps53
  go_wp2
  all_goals
    go_ret
    refine Fin.out _ ?_ _ ((Below.refl _ _).alloc (Nat.le_refl _) _)
    rw [← HR.out]
    clear HR Fin
    first
    | (simp_all [rightObjectB, withinB]; done)
    | (simp_all [rightObjectB, withinB]; omega)
    | (simp_all [rightObjectB]; rfl)

theorem below_cellsR {w W : World} {cs : Array Value} {t : TypeId} (h : Below (w.heap.size + 1) (w.alloc (.cells cs t)) W) : (∀ k, W.cell? ⟨w.heap.size, k, none⟩ = cs[k]?) ∧ (∀ k, W.frozen? ⟨w.heap.size, k, none⟩ = false) := by
  have h' : W.heap[w.heap.size]? = some (.cells cs t (0, 0)) := by rw [h.block _ (by omega)]; exact heap_alloc_new w _
  exact ⟨cell_of_block h', free_of_block h'⟩
theorem below_outR {w W : World} {o : Obj} (h : Below (w.heap.size + 1) (w.alloc o) W) : Below w.heap.size w W := ((Below.refl _ _).alloc (Nat.le_refl _) _).trans (h.mono (by omega))
set_option maxRecDepth 100000 in
set_option maxHeartbeats 3200000 in
theorem refPart_any (P : PartD) (v : Value) (F : Nat → Prop) (hc : CapsOk P.thr) (w : World) (h : PartAt w F v P) :
    Calls Try.prog 18 #[v] w fun e w' => e = .returned (.int .i64 (partWrong P)) ∧ Below w.heap.size w w' := by
  obtain ⟨v1, v2, rfl, h1, h2⟩ := h
  obtain ⟨A1, c1, rfl⟩ := h1.slice
  obtain ⟨A2, c2, rfl⟩ := ObjsAt.slice h2
  have hbw : Below w.heap.size w (w.alloc (.cells #[.slice A1 P.thr.length c1, .slice A2 P.obj.length c2] 25)) := (Below.refl _ _).alloc (Nat.le_refl _) _
  have Hbw := Lib.hid hbw
  have H1 := Lib.hid h1
  have H2 := Lib.hid h2
  have HC := Lib.hid hc
  clear h1 h2 hbw hc
  generalize hR : partWrong P = R at *
  have HR := Lib.hid hR
  clear hR
  by_cases g1 : P.thr.length < 1
  · have hR : R = 2 := by rw [← HR.out]; unfold partWrong; rw [if_pos (by omega)]
    subst hR
    go_enter Try.func18, Try.ntmps18
    go_wp2
    go_ret
    exact ⟨rfl, Hbw.out⟩
  by_cases g2 : P.thr.length > 6
  · have hR : R = 2 := by rw [← HR.out]; unfold partWrong; rw [if_pos (by omega)]
    subst hR
    go_enter Try.func18, Try.ntmps18
    go_wp2
    go_ret
    exact ⟨rfl, Hbw.out⟩
  by_cases g3 : P.obj.length > 8
  · have hR : R = 3 := by rw [← HR.out]; unfold partWrong; rw [if_neg (by omega), if_pos (by omega)]
    subst hR
    go_enter Try.func18, Try.ntmps18
    go_wp2
    go_ret
    exact ⟨rfl, Hbw.out⟩
  have hR : R = if P.thr.any (fun t => !rightThreadB t P.obj.length) then 4 else if P.obj.any (fun o => !rightObjectB o) then 5 else 0 := by rw [← HR.out]; unfold partWrong; rw [if_neg (by omega), if_neg (by omega)]
  have HR' := Lib.hid hR
  clear HR hR
  go_enter Try.func18, Try.ntmps18
  have Hg1 := Lib.hid g1
  have hn8 : P.obj.length ≤ 8 := by omega
  go_wp2
  clear g1 g2 g3
  go_loopw [3, 4, 23] (fun _ _ i wr => ∃ k : Nat, k ≤ P.thr.length ∧ i = .int .i64 k ∧ Below (w.heap.size + 1) (w.alloc (.cells #[.slice A1 P.thr.length c1, .slice A2 P.obj.length c2] 25)) wr ∧ (R = if (P.thr.drop k).any (fun t => !rightThreadB t P.obj.length) then 4 else if P.obj.any (fun o => !rightObjectB o) then 5 else 0)) (fun _ _ i _ => P.thr.length - (intOf i).toNat)
  case atStart => exact ⟨0, Nat.zero_le _, rfl, Below.refl _ _, HR'.out⟩
  case round =>
    obtain ⟨k, hk, rfl, hb, hr⟩ := hrel
    obtain ⟨x1, x2⟩ := below_cellsR hb
    have lw : w.heap.size < wr.heap.size := by have := hb.size; simp at this; omega
    by_cases hlt : k < P.thr.length
    · obtain ⟨b, o, c', e, hF, hcells⟩ := H1.out.cells (by omega)
      cases e
      obtain ⟨pv, hpv, d0, d1, d2, d3⟩ := hcells k P.thr[k] (List.getElem?_eq_getElem hlt)
      obtain ⟨Ap, cp, rfl⟩ := hpv.slice
      have lb := World.block_lt_of_cell? w _ d0
      have hcell : ∀ j u, w.cell? ⟨b, j, none⟩ = some u → wr.cell? ⟨b, j, none⟩ = some u := fun j u hu => by
        have lb' : b < w.heap.size := lb
        rw [hb.cell (p := ⟨b, j, none⟩) (by show b < _; omega), World.cell?_alloc_lt w _ ⟨b, j, none⟩ lb']
        exact hu
      have e0 := hcell _ _ d0
      have e1 := hcell _ _ d1
      have e2 := hcell _ _ d2
      have e3 := hcell _ _ d3
      have hcap := HC.out _ (List.getElem_mem hlt)
      have hlc : (k : Int) < (P.thr.length : Int) := by omega
      have hany : (P.thr.drop k).any (fun t => !rightThreadB t P.obj.length) = (!rightThreadB P.thr[k] P.obj.length || (P.thr.drop (k + 1)).any (fun t => !rightThreadB t P.obj.length)) := by
        rw [List.drop_eq_getElem_cons hlt, List.any_cons]
      rw [hany] at hr
      have Hr := Lib.hid hr
      have Hb := Lib.hid hb
      clear hr hb hcells d0 d1 d2 d3 hcell hpv hany hF
      generalize P.thr[k] = t at *
      go_wp2
      all_goals
        first
        | (have hq : rightThreadB t P.obj.length = false := by
             (simp [rightThreadB, withinB]; omega)
           have hR : R = 4 := by rw [Hr.out, hq]; rfl
           subst hR
           go_ret
           exact ⟨rfl, below_outR (Hb.out.alloc (by have := Hb.out.size; simpa using this) _)⟩)
        | (have hq : rightThreadB t P.obj.length = true := by
             (simp [rightThreadB, withinB]; omega)
           have hR := Hr.out
           rw [hq] at hR
           go_roundw
           case rel => exact ⟨k + 1, by omega, by go_num, Hb.out.alloc (by have := Hb.out.size; simpa using this) _, by simpa using hR⟩
           case measure => simp [intOf]; omega)
    · have hd : P.thr.drop k = [] := List.drop_eq_nil_of_le (by omega)
      rw [hd] at hr
      have hr' : R = if (P.obj.drop 0).any (fun o => !rightObjectB o) then 5 else 0 := by rw [hr]; rfl
      have Hr := Lib.hid hr'
      have Hb := Lib.hid hb
      obtain ⟨wo, rfl⟩ : ∃ wo : World, wo = wr := ⟨_, rfl⟩
      clear hr hr' hd hb
      go_wp2
      go_loopw [5, 60] (fun _ i wr => ∃ k : Nat, k ≤ P.obj.length ∧ i = .int .i64 k ∧ Below (w.heap.size + 1) (w.alloc (.cells #[.slice A1 P.thr.length c1, .slice A2 P.obj.length c2] 25)) wr ∧ (R = if (P.obj.drop k).any (fun o => !rightObjectB o) then 5 else 0)) (fun _ i _ => P.obj.length - (intOf i).toNat)
      case atStart => exact ⟨0, Nat.zero_le _, rfl, Hb.out, Hr.out⟩
      case round =>
        clear x1 x2 Hb Hr hlt lw
        obtain ⟨k, hk, rfl, hb, hr⟩ := hrel
        obtain ⟨x1, x2⟩ := below_cellsR hb
        have lw : w.heap.size < wr.heap.size := by have := hb.size; simp at this; omega
        by_cases hlt : k < P.obj.length
        · obtain ⟨b, o, c', e, hF, hcells⟩ := H2.out.cells (by omega)
          cases e
          obtain ⟨d0, d1, d2⟩ := hcells k P.obj[k] (List.getElem?_eq_getElem hlt)
          have lb := World.block_lt_of_cell? w _ d0
          have hcell : ∀ j u, w.cell? ⟨b, j, none⟩ = some u → wr.cell? ⟨b, j, none⟩ = some u := fun j u hu => by
            have lb' : b < w.heap.size := lb
            rw [hb.cell (p := ⟨b, j, none⟩) (by show b < _; omega), World.cell?_alloc_lt w _ ⟨b, j, none⟩ lb']
            exact hu
          have e0 := hcell _ _ d0
          have e1 := hcell _ _ d1
          have e2 := hcell _ _ d2
          have hlc : (k : Int) < (P.obj.length : Int) := by omega
          have hany : (P.obj.drop k).any (fun o => !rightObjectB o) = (!rightObjectB P.obj[k] || (P.obj.drop (k + 1)).any (fun o => !rightObjectB o)) := by
            rw [List.drop_eq_getElem_cons hlt, List.any_cons]
          rw [hany] at hr
          have Hr := Lib.hid hr
          have Hb := Lib.hid hb
          clear hr hb hcells d0 d1 d2 hcell hany hF
          generalize P.obj[k] = t at *
          have H := fun w => refObject_any t w
          cases hq : rightObjectB t with
          | false =>
            rw [hq] at H
            have HH := Lib.hid H
            have hR : R = 5 := by rw [Hr.out, hq]; rfl
            clear H hq
            subst hR
            go_wp2_with (go_at_call 53; refine (HH.out _).mono ?_; rintro e w1 ⟨rfl, hb1⟩)
            go_ret
            exact ⟨rfl, below_outR (Hb.out.trans (hb1.mono (by have := Hb.out.size; simpa using this)))⟩
          | true =>
            rw [hq] at H
            have HH := Lib.hid H
            have hR := Hr.out
            rw [hq] at hR
            have Hr' := Lib.hid hR
            clear H hq hR Hr
            go_wp2_with (go_at_call 53; refine (HH.out _).mono ?_; rintro e w1 ⟨rfl, hb1⟩)
            go_roundw
            case rel => exact ⟨k + 1, by omega, by go_num, Hb.out.trans (hb1.mono (by have := Hb.out.size; simpa using this)), by simpa using Hr'.out⟩
            case measure => simp [intOf]; omega
        · have hd : P.obj.drop k = [] := List.drop_eq_nil_of_le (by omega)
          rw [hd] at hr
          have hR : R = 0 := by rw [hr]; rfl
          have Hb := Lib.hid hb
          clear hr hd hb
          subst hR
          go_wp2
          go_ret
          exact ⟨rfl, below_outR Hb.out⟩
end Go.Proofs.Ytecgeblfmkgibaa
