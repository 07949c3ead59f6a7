/-
  The walk of ThreadOdd.
-/
import Derived.Test.YtecgeblfmkgibaaIdle
import Derived.Deep.DeepCutAuto
set_option linter.unusedVariables false
set_option linter.unusedSimpArgs false
namespace Go.Proofs.Ytecgeblfmkgibaa
open Go.RowKit

theorem below_box {w W : World} {o : Obj} (h : Below (w.heap.size + 1) (w.alloc o) W) : Below w.heap.size w W := ((Below.refl _ _).alloc (Nat.le_refl _) _).trans (h.mono (by omega))
theorem below_next {w W W' : World} {o : Obj} (h : Below (w.heap.size + 1) (w.alloc o) W) (h' : Below W.heap.size W W') : Below (w.heap.size + 1) (w.alloc o) W' := h.trans (h'.mono (by have := h.size; simpa using this))
theorem box_cells {w W : World} {cs : Array Value} {t : TypeId} (h : Below (w.heap.size + 1) (w.alloc (.cells cs t)) W) : (∀ k, W.cell? ⟨w.heap.size, k, none⟩ = cs[k]?) ∧ (∀ k, W.frozen? ⟨w.heap.size, k, none⟩ = false) :=
  below_cells h (b := w.heap.size) (by omega) (heap_alloc_new w _)

set_option maxRecDepth 100000 in
set_option maxHeartbeats 4000000 in
theorem odd_any (P : PartD) (pv : Value) (F : Nat → Prop) (hc : CapsOk P.thr) (t field v : Int) (hv : I64 v) (w : World) (h : PartAt w F pv P) :
    Calls Try.prog 4 #[pv, .int .i64 t, .int .i64 field, .int .i64 v] w fun e w' => e = .returned (.bool true) ∧ Below w.heap.size w w' := by
  have HFew := Lib.hid (fun (W : World) (hb : Below w.heap.size w W) => fewPart_any P pv F W (h.kept (fun k hk _ => hb.block k hk)))
  have HNo := Lib.hid (fun (hf : fewB P = true) (hw : partWrong P ≠ 0) (W : World) (hb : Below w.heap.size w W) => of13_no P pv F (fewB_partOk hf hc) hw W (h.kept (fun k hk _ => hb.block k hk)))
  have HYes := Lib.hid (fun (hf : fewB P = true) (hw : partWrong P = 0) (W : World) (hb : Below w.heap.size w W) => of13_yes P pv F (fewB_partOk hf hc) hw W (h.kept (fun k hk _ => hb.block k hk)))
  obtain ⟨v1, v2, rfl, h1, h2⟩ := h
  obtain ⟨A1, c1, rfl⟩ := h1.slice
  obtain ⟨A2, c2, rfl⟩ := ObjsAt.slice h2
  clear h1 h2
  have Hv := Lib.hid hv
  clear hv hc
  go_enter Try.func4, Try.ntmps4
  go_wp2_with fail
  go_at_call 20
  refine (awake13_any _).mono ?_
  rintro e w1 ⟨rfl, hb⟩
  simp only [World.size_alloc] at hb
  obtain ⟨p1, p2⟩ := box_cells hb
  have Hb1 := Lib.hid hb
  clear hb
  go_wp2_with fail
  go_at_call 16
  refine (HFew.out _ (below_box Hb1.out)).mono ?_
  rintro e w2 ⟨rfl, hb2⟩
  have hb2' := below_next Hb1.out hb2
  obtain ⟨p3, p4⟩ := box_cells hb2'
  have Hb2 := Lib.hid hb2'
  clear hb2 hb2' HFew p1 p2
  cases hf : fewB P with
  | false =>
    clear HNo HYes hf
    go_wp2_with fail
    go_at_call 20
    refine (awake13_any _).mono ?_
    rintro e w3 ⟨rfl, hb3⟩
    have Hb3 := Lib.hid (below_next Hb2.out hb3)
    clear hb3
    go_wp2
    go_ret
    exact ⟨rfl, below_box Hb3.out⟩
  | true =>
    by_cases hw : partWrong P = 0
    · have HY := Lib.hid (HYes.out hf hw)
      have q6 := partWrong_six hw
      clear HNo HYes hf hw
      go_wp2_with fail
      go_at_call 21
      refine (HY.out _ (below_box Hb2.out)).mono ?_
      rintro e w3 ⟨pv, rfl, hP, hb3⟩
      replace hP := hP.inn
      have hP0 := hP
      obtain ⟨sT, sO, u1, u2, rfl, g1, g2, g3⟩ := hP
      obtain ⟨B1, d1, e1⟩ := g1.slice
      obtain ⟨B2, d2, e2⟩ := g2.slice
      obtain ⟨x1, x2, e0, g5, g6⟩ := g3
      cases e0
      obtain ⟨B3, d3, rfl⟩ := g5.slice
      obtain ⟨B4, d4, rfl⟩ := ObjsAt.slice g6
      subst e1 e2
      have HP := Lib.hid hP0
      have hb3' := below_next Hb2.out hb3
      obtain ⟨p1, p2⟩ := box_cells hb3'
      have hsz : w.heap.size < w3.heap.size := by have := hb3'.size; simp at this; omega
      have Hb3 := Lib.hid hb3'
      clear hb3 hb3' hP0 g1 g2 g5 g6 HY p3 p4
      have Q6 := Lib.hid q6
      clear q6
      simp only [planArr] at HP ⊢
      go_upto_region 4 with (fail)
      go_cut [49] (fun s wx => s = .bool (fieldB P.thr.length t field) ∧ wx = (w3.alloc (.cells (planArr (.slice B1 (thAts P.thr.length).length d1) (.slice B2 (obAts P.thr.length P.obj.length).length d2) (.slice B3 P.thr.length d3) (.slice B4 P.obj.length d4) (planWords P)) 31)))
      case first =>
        by_cases a1 : 0 ≤ t
        · by_cases a2 : t < P.thr.length
          · by_cases a3 : 0 ≤ field
            · by_cases a4 : field < 19
              all_goals
                go_wp2
                go_meet
                case rel => exact ⟨by simp [fieldB, hasB]; omega, rfl⟩
            · go_wp2
              go_meet
              case rel => exact ⟨by simp [fieldB, hasB]; omega, rfl⟩
          · go_wp2
            go_meet
            case rel => exact ⟨by simp [fieldB, hasB]; omega, rfl⟩
        · go_wp2
          go_meet
          case rel => exact ⟨by simp [fieldB, hasB]; omega, rfl⟩
      case rest =>
        obtain ⟨rfl, rfl⟩ := hcut
        cases hfb : fieldB P.thr.length t field with
        | true =>
          clear hfb
          go_wp2
          go_ret
          exact ⟨rfl, (below_box Hb3.out).alloc (below_box Hb3.out).size _⟩
        | false =>
          have hfb' := Lib.hid hfb
          clear hfb
          go_wp2_with fail
          go_at_call 22
          refine (wnew_any 600 (by omega) _).mono ?_
          rintro e w4 ⟨rfl, hm4, hb4, hsz4⟩
          simp only [World.size_alloc] at hm4 hb4 hsz4 ⊢
          have l1 := lt_of_block hm4.st
          have l2 := lt_of_block hm4.ws
          have hf1 := (Fr.new w4 _ _ _ hm4).alloc (.cells #[.pointer (some ⟨w3.heap.size + 1 + 1, 0, none⟩), .slice none 0 0, .int .i64 0, .bool false, .bool true, .int .i64 0, .int .i64 0, .bool false, .bool false] 129)
          have hf2 := Fr.new (w4.alloc (.cells #[.pointer (some ⟨w3.heap.size + 1 + 1, 0, none⟩), .slice none 0 0, .int .i64 0, .bool false, .bool true, .int .i64 0, .int .i64 0, .bool false, .bool false] 129)) _ _ _ (hm4.kept (Below.heap_alloc _ _ _ l1) (Below.heap_alloc _ _ _ l2))
          have hbe : Below (w3.heap.size + 1) w4 ((w4.alloc (.cells #[.pointer (some ⟨w3.heap.size + 1 + 1, 0, none⟩), .slice none 0 0, .int .i64 0, .bool false, .bool true, .int .i64 0, .int .i64 0, .bool false, .bool false] 129)).alloc (.cells #[.pointer (some ⟨w3.heap.size + 1 + 1, 0, none⟩), .slice none 0 0, .int .i64 0, .bool false, .bool true, .int .i64 0, .int .i64 0, .bool false, .bool false] 129)) := ((Below.refl _ _).alloc (by omega) _).alloc (by simp; omega) _
          have hbe6 := hb4.trans hbe
          obtain ⟨p5, p6⟩ := below_cells hbe6 (b := w3.heap.size) (by omega) (heap_alloc_new w3 _)
          have hs6 : ((w4.alloc (.cells #[.pointer (some ⟨w3.heap.size + 1 + 1, 0, none⟩), .slice none 0 0, .int .i64 0, .bool false, .bool true, .int .i64 0, .int .i64 0, .bool false, .bool false] 129)).alloc (.cells #[.pointer (some ⟨w3.heap.size + 1 + 1, 0, none⟩), .slice none 0 0, .int .i64 0, .bool false, .bool true, .int .i64 0, .int .i64 0, .bool false, .bool false] 129)).heap.size = w4.heap.size + 1 + 1 := by simp
          have hall : Below w.heap.size w _ := ((below_box Hb3.out).alloc (below_box Hb3.out).size _).trans (hbe6.mono (by omega))
          have hP6 := HP.out.kept (fun k hk hF => (hbe6.block k (by omega)).trans (Below.heap_alloc _ _ _ hk))
          have hodd : OddAt _ w3.heap.size _ ⟨w4.heap.size, w3.heap.size + 1 + 1, w3.heap.size + 1⟩ ⟨w4.heap.size + 1, w3.heap.size + 1 + 1, w3.heap.size + 1⟩ P _ _ _ _ := ⟨hf1, by simpa using hf2, hP6, fun k hk => ⟨by dsimp only; omega, by dsimp only; omega, by dsimp only; omega, by simp; omega⟩, rfl, rfl, by dsimp only; omega, by simp; omega, by simp, by simp; omega, by simp; omega⟩
          have HOdd := Lib.hid hodd
          have HAll := Lib.hid hall
          have Hs4 := Lib.hid hsz4
          clear hsz4
          clear hf1 hf2 hbe hbe6 hall hP6 hodd hm4 hb4 HP
          go_wp2_with fail
          go_at_call 23
          refine (fnew _ _).mono ?_
          rintro e w5 ⟨rfl, rfl⟩
          go_wp2_with fail
          go_at_call 23
          refine (fnew _ _).mono ?_
          rintro e w5 ⟨rfl, rfl⟩
          simp only [World.size_alloc]
          generalize hW6 : ((w4.alloc (.cells #[.pointer (some ⟨w3.heap.size + 1 + 1, 0, none⟩), .slice none 0 0, .int .i64 0, .bool false, .bool true, .int .i64 0, .int .i64 0, .bool false, .bool false] 129)).alloc (.cells #[.pointer (some ⟨w3.heap.size + 1 + 1, 0, none⟩), .slice none 0 0, .int .i64 0, .bool false, .bool true, .int .i64 0, .int .i64 0, .bool false, .bool false] 129)) = w6 at p5 p6 HOdd HAll hs6 ⊢
          clear hW6
          unfold planArr at p5
          have Hs6 := Lib.hid hs6
          have lpl : w3.heap.size < w6.heap.size := by omega
          clear hs6 l1 l2 p1 p2
          go_upto_region 8 with (fail)
          go_cut [14, 15] (fun x y wx => ∃ xb yb, x = .pointer (some ⟨xb, 0, none⟩) ∧ y = .pointer (some ⟨yb, 0, none⟩) ∧ ActAt wx (fun k => w2.heap.size ≤ k ∧ k < w3.heap.size) xb P t field v true 0 ∧ ActAt wx (fun k => w2.heap.size ≤ k ∧ k < w3.heap.size) yb P t field 0 false 0 ∧ w6.heap.size ≤ xb ∧ w6.heap.size ≤ yb ∧ xb ≠ yb ∧ Below w6.heap.size w6 wx)
          case first =>
            go_region_with (fail)
            all_goals
              go_wp2_with fail
              go_meet
              case rel =>
                first
                | exact ⟨_, _, rfl, rfl, HOdd.out.act ((((Below.refl _ _).alloc (Nat.le_refl _) _).alloc (by simp) _).drew) _ _ _ _ _ _ (two_first _ _ _), HOdd.out.act ((((Below.refl _ _).alloc (Nat.le_refl _) _).alloc (by simp) _).drew) _ _ _ _ _ _ (two_second _ _ _), Nat.le_refl _, by omega, by omega, ((((Below.refl _ _).alloc (Nat.le_refl _) _).alloc (by simp) _).drew)⟩
                | exact ⟨_, _, rfl, rfl, HOdd.out.act ((((Below.refl _ _).alloc (Nat.le_refl _) _).alloc (by simp) _).drew) _ _ _ _ _ _ (two_second _ _ _), HOdd.out.act ((((Below.refl _ _).alloc (Nat.le_refl _) _).alloc (by simp) _).drew) _ _ _ _ _ _ (two_first _ _ _), by omega, Nat.le_refl _, by omega, ((((Below.refl _ _).alloc (Nat.le_refl _) _).alloc (by simp) _).drew)⟩
          case rest =>
            obtain ⟨xb, yb, rfl, rfl, hx, hy, lx, ly, hxy, hbx⟩ := hcut
            have hs4 := Hs4.out
            have hs6 := Hs6.out
            have hsw := (below_box Hb3.out).size
            have HS := Lib.hid (steps_both HOdd.out Q6.out t field v Hv.out hfb'.out xb yb hx hy lx ly hxy hbx w.heap.size (by dsimp only; omega) (by dsimp only; omega) (by dsimp only; omega))
            have HAll7 := Lib.hid (HAll.out.trans (hbx.mono (by omega)))
            clear hx hy hbx p5 p6 hs4 hs6 hsw lx ly hxy HOdd HAll
            have hmk : ∀ w : World, (Instr.makeSlice 52 (.int .i64 600) (.int .i64 600)).run Try.prog w = .ok (.slice (some ⟨w.heap.size, 0, none⟩) 600 600) (w.alloc (.cells (madeCells #[.int .i64 0] 600) 2)) := fun w => run_make_row' (P := Try.prog) 52 2 (.int .i64 0) 8 Try.underlying52 Try.info_int64 rfl .i64 .i64 600 (by omega) (by omega) w
            go_wp2_with fail
            go_region_with (first
              | (go_at_call 24; refine HS.out.mono ?_; rintro e w8 ⟨rfl, hc⟩; have HS2 := Lib.hid hc; clear hc HS)
              | (go_at_call 24; refine HS2.out.mono ?_; rintro e w9 ⟨rfl, h9⟩; have g9 := h9.got; have HZ1 := Lib.hid (steps_zero _ _ _ h9.f1); have HZ2 := Lib.hid (steps_zero _ _ _ h9.f2); have H9 := Lib.hid h9; have H10 := Lib.hid (below_end (HAll7.out.drew.trans h9.below) (Nat.le_refl _) (Below.refl _ _)); clear h9 HS2)
              | (go_at_call 26; refine HZ1.out.mono ?_; clear HZ1; rintro e w10 ⟨rfl, rfl⟩)
              | (go_at_call 26; refine HZ2.out.mono ?_; clear HZ2; rintro e w10 ⟨rfl, rfl⟩)
              | (go_at_call 28; refine (H9.out.mw _ (by first | exact Below.refl _ _ | exact (Below.refl _ _).alloc (Nat.le_refl _) _)).mono ?_; rintro e w11 ⟨A9, c9, rfl, hv9, hb11, hb9⟩; have Hv9 := Lib.hid hv9; have Hb11 := Lib.hid hb11; have Hend := Lib.hid (below_end H10.out (Nat.le_refl _) hb9); clear hv9 hb11 hb9 g9)
              | (go_at_call 27; refine (words600 _ _ _ _ (by first | exact Hv9.out | exact Reads.kept Hv9.out (fun k hk _ => Below.heap_alloc _ _ _ hk)) (by first | exact heap_alloc_new _ _ | exact (Hb11.out.block _ (by simp)).trans (heap_alloc_new _ _))).mono ?_; rintro e w12 ⟨rfl, n9, rfl⟩))
            all_goals
              go_wp2
              go_ret
              refine ⟨rfl, ?_⟩
              first
              | exact below_drewN Hend.out _
              | exact below_drewN (Hend.out.alloc Hend.out.size _) _
              | exact (below_drewN Hend.out _).drew
              | exact (below_drewN (Hend.out.alloc Hend.out.size _) _).drew
    · have HN := Lib.hid (HNo.out hf hw)
      clear HNo HYes hf hw
      unfold zeroPlan at HN
      go_wp2_with fail
      go_at_call 21
      refine (HN.out _ (below_box Hb2.out)).mono ?_
      rintro e w3 ⟨rfl, hb3⟩
      have Hb3 := Lib.hid (below_next Hb2.out hb3)
      clear hb3
      go_wp2
      go_ret
      refine ⟨rfl, ?_⟩
      exact Below.alloc (below_box Hb3.out) (below_box Hb3.out).size _
end Go.Proofs.Ytecgeblfmkgibaa
