/-
  The walk of ThreadFields.
-/
import Derived.Test.YtnedofoenkmjaaaActRun
import Derived.Test.YtnedofoenkmjaaaBoot6
import Derived.Test.YtnedofoenkmjaaaOdd2
import Derived.Deep.DeepCutAuto
set_option linter.unusedVariables false
set_option linter.unusedSimpArgs false
namespace Go.Proofs.Ytnedofoenkmjaaa
open Go.RowKit

theorem below_box {w W : World} {o : Obj} (h : Below (w.heap.size + 1) (w.alloc o) W) : Below w.heap.size w W := ((Below.refl _ _).alloc (Nat.le_refl _) _).trans (h.mono (by omega))
theorem below_next {w W W' : World} {o : Obj} (h : Below (w.heap.size + 1) (w.alloc o) W) (h' : Below W.heap.size W W') : Below (w.heap.size + 1) (w.alloc o) W' := h.trans (h'.mono (by have := h.size; simpa using this))
theorem box_cells {w W : World} {cs : Array Value} {t : TypeId} (h : Below (w.heap.size + 1) (w.alloc (.cells cs t)) W) : (∀ k, W.cell? ⟨w.heap.size, k, none⟩ = cs[k]?) ∧ (∀ k, W.frozen? ⟨w.heap.size, k, none⟩ = false) :=
  below_cells h (b := w.heap.size) (by omega) (heap_alloc_new w _)
theorem PlanVal.act {w3 wx : World} {F : Nat → Prop} {P : PartD} {sT sO v1 v2 : Value} (h : PlanVal w3 F (.agg (planArr sT sO v1 v2 (planWords P))) P) (hb : ∀ k, k < w3.heap.size → F k → wx.heap[k]? = w3.heap[k]?) (xb : Nat) (t field v : Int) (set : Bool) (got : Int)
    (hx : wx.heap[xb]? = some (.cells (actArr sT sO v1 v2 (planWords P) t field v set got) 51 (0, 0))) : ActAt wx F xb P t field v set got := by
  obtain ⟨sT', sO', v1', v2', e, h1, h2, h3⟩ := h.kept hb
  simp only [planArr, Value.agg.injEq, Array.mk.injEq, List.cons.injEq, true_and, and_true] at e
  obtain ⟨rfl, rfl, rfl, rfl⟩ := e
  exact ⟨_, _, _, _, hx, h1, h2, h3⟩
theorem two_first' (w : World) (o1 o2 : Obj) : (((w.alloc o1).alloc o2).drew).heap[w.heap.size]? = some o1 := two_first w o1 o2
theorem two_second' (w : World) (o1 o2 : Obj) : (((w.alloc o1).alloc o2).drew).heap[w.heap.size + 1]? = some o2 := two_second w o1 o2

/-- The four acts, and the memory. -/
structure Four (F : Nat → Prop) (P : PartD) (mb wb x y z u : Nat) (a i v b k v2 : Int) (m : Mem) (w : World) : Prop where
  mem : MemAt w mb wb m
  hx : ActAt w F x P a i v true 0
  hy : ActAt w F y P b k v2 true 0
  hz : ActAt w F z P a i 0 false 0
  hu : ActAt w F u P b k 0 false 0
/-- What is apart. -/
structure FourFar (F : Nat → Prop) (N B mb wb x y z u : Nat) : Prop where
  f : ∀ k, F k → k < N
  nb : N ≤ B
  lm : B ≤ mb
  lw : B ≤ wb
  lx : B ≤ x
  ly : B ≤ y
  lz : B ≤ z
  lu : B ≤ u
  xm : x ≠ mb ∧ x ≠ wb
  ym : y ≠ mb ∧ y ≠ wb
  zm : z ≠ mb ∧ z ≠ wb
  um : u ≠ mb ∧ u ≠ wb
  xy : x ≠ y
  xz : x ≠ z
  xu : x ≠ u
  yz : y ≠ z
  yu : y ≠ u
  zu : z ≠ u
theorem FourFar.far {F : Nat → Prop} {N B mb wb x y z u : Nat} (h : FourFar F N B mb wb x y z u) {w : World} (hw : N ≤ w.heap.size) (q : Nat) (hq : q = x ∨ q = y ∨ q = z ∨ q = u) : ActFar F q mb wb w := by
  obtain ⟨h1, h2, h3, h4, h5, h6, h7, h8, ⟨h9, h10⟩, ⟨h11, h12⟩, ⟨h13, h14⟩, ⟨h15, h16⟩, _⟩ := h
  refine ⟨?_, fun k hk => ⟨?_, ?_⟩, ?_⟩
  · rcases hq with rfl | rfl | rfl | rfl <;> assumption
  · have := h1 k hk; omega
  · have := h1 k hk; omega
  · rcases hq with rfl | rfl | rfl | rfl <;> (intro e; simp_all)
theorem Left.below {S : Nat → Prop} {wb B : Nat} {w w' : World} (h : Left S wb w w') (hB : B ≤ w.heap.size) (h1 : B ≤ wb) (h2 : ∀ k, S k → B ≤ k) : Below B w w' :=
  ⟨h.os, h.tape, h.output, h.size, fun k hk => h.block k (by omega) (by omega) (fun hs => by have := h2 k hs; omega)⟩
theorem Four.left {F : Nat → Prop} {P : PartD} {N B mb wb x y z u : Nat} {a i v b k v2 : Int} {m m' : Mem} {w w' : World} (hf : FourFar F N B mb wb x y z u) (h : Four F P mb wb x y z u a i v b k v2 m w) (hm : MemAt w' mb wb m') (hL : Left (fun _ => False) wb w w') : Four F P mb wb x y z u a i v b k v2 m' w' := by
  have hk : ∀ q, q < w.heap.size → F q → w'.heap[q]? = w.heap[q]? := fun q hq hF => hL.block q hq (by have := hf.f q hF; have := hf.nb; have := hf.lw; omega) (fun h => h)
  exact ⟨hm, h.hx.kept (hL.block _ h.hx.lt hf.xm.2 (fun h => h)) hk, h.hy.kept (hL.block _ h.hy.lt hf.ym.2 (fun h => h)) hk, h.hz.kept (hL.block _ h.hz.lt hf.zm.2 (fun h => h)) hk, h.hu.kept (hL.block _ h.hu.lt hf.um.2 (fun h => h)) hk⟩
theorem mod_ok (t : Int) (n : Nat) (h0 : 0 ≤ t) (hn : 1 ≤ n) : hasB n (t % n) = true := by
  have h1 := Int.emod_nonneg t (b := (n : Int)) (by omega)
  have h2 := Int.emod_lt_of_pos t (b := (n : Int)) (by omega)
  simp [hasB]; omega

set_option maxRecDepth 100000 in
set_option maxHeartbeats 4000000 in
theorem fields_any (P : PartD) (pv : Value) (F : Nat → Prop) (hc : CapsOk P.thr) (t fl o ol v v2 : Int) (ht : 0 ≤ t ∧ t < 256) (hfl : 0 ≤ fl ∧ fl < 256) (ho : 0 ≤ o ∧ o < 256) (hol : 0 ≤ ol ∧ ol < 256) (hv : I64 v) (hv2 : I64 v2) (w : World) (h : PartAt w F pv P) :
    Calls Try.prog 5 #[pv, .int .u8 t, .int .u8 fl, .int .u8 o, .int .u8 ol, .int .i64 v, .int .i64 v2] w fun e w' => e = .returned (.bool true) ∧ Below w.heap.size w w' := by
  have HFew := Lib.hid (fun (W : World) (hb : Below w.heap.size w W) => fewPart_any P pv F W (h.kept (fun k hk _ => hb.block k hk)))
  have HNo := Lib.hid (fun (hf : fewB P = true) (hw : partWrong P ≠ 0) (W : World) (hb : Below w.heap.size w W) => of13_no P pv F (fewB_partOk hf hc) hw W (h.kept (fun k hk _ => hb.block k hk)))
  have HYes := Lib.hid (fun (hf : fewB P = true) (hw : partWrong P = 0) (W : World) (hb : Below w.heap.size w W) => of13_yes P pv F (fewB_partOk hf hc) hw W (h.kept (fun k hk _ => hb.block k hk)))
  obtain ⟨v1, v3, rfl, h1, h2⟩ := h
  obtain ⟨A1, c1, rfl⟩ := h1.slice
  obtain ⟨A2, c2, rfl⟩ := ObjsAt.slice h2
  clear h1 h2
  have Hv := Lib.hid hv
  have Hv2 := Lib.hid hv2
  clear hv hv2 hc
  obtain ⟨t0, t1⟩ := ht
  obtain ⟨f0, f1⟩ := hfl
  obtain ⟨o0, o1⟩ := ho
  obtain ⟨l0, l1⟩ := hol
  go_enter Try.func5, Try.ntmps5
  go_wp2_with fail
  go_at_call 19
  refine (awake13_any _).mono ?_
  rintro e w1 ⟨rfl, hb⟩
  simp only [World.size_alloc] at hb
  obtain ⟨p1, p2⟩ := box_cells hb
  have Hb1 := Lib.hid hb
  clear hb
  go_wp2_with fail
  go_at_call 12
  refine (HFew.out _ (below_box Hb1.out)).mono ?_
  rintro e w2 ⟨rfl, hb2⟩
  have hb2' := below_next Hb1.out hb2
  obtain ⟨p3, p4⟩ := box_cells hb2'
  have Hb2 := Lib.hid hb2'
  clear hb2 hb2' HFew p1 p2
  cases hf : fewB P with
  | false =>
    clear HNo HYes hf
    go_wp2_with fail
    go_at_call 19
    refine (awake13_any _).mono ?_
    rintro e w3 ⟨rfl, hb3⟩
    have Hb3 := Lib.hid (below_next Hb2.out hb3)
    clear hb3
    go_wp2
    go_ret
    exact ⟨rfl, below_box Hb3.out⟩
  | true =>
    by_cases hw : partWrong P = 0
    · have HY := Lib.hid (HYes.out hf hw)
      obtain ⟨q6, q1, q8, qp, qo⟩ := partRight hw
      have QP := Lib.hid qp
      have QO := Lib.hid qo
      clear HNo HYes hf hw qp qo
      go_wp2_with fail
      go_at_call 20
      refine (HY.out _ (below_box Hb2.out)).mono ?_
      rintro e w3 ⟨pv, rfl, hP, hb3⟩
      replace hP := hP.inn
      have hP0 := hP
      obtain ⟨sT, sO, u1, u2, rfl, g1, g2, g3⟩ := hP
      obtain ⟨B1, d1, e1⟩ := g1.slice
      obtain ⟨B2, d2, e2⟩ := g2.slice
      obtain ⟨x1, x2, e0, g5, g6⟩ := g3
      cases e0
      obtain ⟨B3, d3, rfl⟩ := g5.slice
      obtain ⟨B4, d4, rfl⟩ := ObjsAt.slice g6
      subst e1 e2
      have HP := Lib.hid hP0
      have hb3' := below_next Hb2.out hb3
      obtain ⟨p1, p2⟩ := box_cells hb3'
      have hsz : w.heap.size < w3.heap.size := by have := hb3'.size; rw [World.size_alloc] at this; omega
      have Hb3 := Lib.hid hb3'
      clear hb3 hb3' hP0 g1 g2 g5 g6 HY p3 p4
      have hA := Lib.hid (mod_ok t P.thr.length t0 q1)
      have hO := Lib.hid (mod_ok o P.thr.length o0 q1)
      simp only [planArr] at HP ⊢
      go_upto_region 6 with (fail)
      go_cut [17, 18] (fun x y wx => x = .int .i64 (t % (P.thr.length : Int)) ∧ y = .int .i64 (o % (P.thr.length : Int)) ∧ Hid (Below (w3.heap.size + 1) (w3.alloc (.cells #[.int .i64 0, .int .i64 2, .int .i64 4, .int .i64 3, .int .i64 5, .int .i64 6, .int .i64 8, .int .i64 41, .int .i64 43, .slice B1 (thAts P.thr.length).length d1, .slice B2 (obAts P.thr.length P.obj.length).length d2, .int .i64 (planWords P), .slice B3 P.thr.length d3, .slice B4 P.obj.length d4] 31)) wx))
      case first =>
        have hnz : (P.thr.length : Int) ≠ 0 := by omega
        have hnz2 : ((P.thr.length : Int) == 0) = false := by rw [beq_eq_false_iff_ne]; omega
        have m1 : t.tmod P.thr.length = t % (P.thr.length : Int) := Int.tmod_eq_emod_of_nonneg t0
        have m2 : o.tmod P.thr.length = o % (P.thr.length : Int) := Int.tmod_eq_emod_of_nonneg o0
        go_quiet (fail)
        go_wp2
        go_meet
        exact ⟨rfl, rfl, Lib.hid (below_drewN (Below.refl _ _) _)⟩
      case rest =>
        obtain ⟨rfl, rfl, hbw⟩ := hcut
        obtain ⟨w4, rfl⟩ : ∃ x, x = wc := ⟨wc, rfl⟩
        generalize hA1 : t % (P.thr.length : Int) = a at *
        generalize hA2 : o % (P.thr.length : Int) = b at *
        have hq := row_of ((hbw.out.block w3.heap.size (by omega)).trans (heap_alloc_new w3 (.cells #[.int .i64 0, .int .i64 2, .int .i64 4, .int .i64 3, .int .i64 5, .int .i64 6, .int .i64 8, .int .i64 41, .int .i64 43, .slice B1 (thAts P.thr.length).length d1, .slice B2 (obAts P.thr.length P.obj.length).length d2, .int .i64 (planWords P), .slice B3 P.thr.length d3, .slice B4 P.obj.length d4] 31)))
        have hsx : w3.heap.size < w4.heap.size := by have := hbw.out.size; rw [World.size_alloc] at this; omega
        have HPx := Lib.hid (HP.out.kept (w' := w4) (fun k hk hF => (hbw.out.block k (by omega)).trans (Below.heap_alloc _ _ _ hk)))
        clear p1 p2 hA1 hA2
        go_wp2_with fail
        go_at_call 14
        refine (planBoot_any P _ _ q6 q8 QP.out QO.out w4 HPx.out).mono ?_
        rintro e w5 ⟨mb, wb, rfl, hm, hb4, lm, lw⟩
        have hq5 := row_of ((hb4.block w3.heap.size (by omega)).trans ((hbw.out.block w3.heap.size (by omega)).trans (heap_alloc_new w3 (.cells #[.int .i64 0, .int .i64 2, .int .i64 4, .int .i64 3, .int .i64 5, .int .i64 6, .int .i64 8, .int .i64 41, .int .i64 43, .slice B1 (thAts P.thr.length).length d1, .slice B2 (obAts P.thr.length P.obj.length).length d2, .int .i64 (planWords P), .slice B3 P.thr.length d3, .slice B4 P.obj.length d4] 31))))
        have hs5 : w3.heap.size < w5.heap.size := Nat.lt_of_lt_of_le hsx hb4.size
        have HP5 := Lib.hid (HPx.out.kept (w' := w5) (fun k hk hF => hb4.block k hk))
        have HM5 := Lib.hid hm
        have HB5 : Hid (Below w.heap.size w w5) := Lib.hid (((below_box Hb3.out).trans ((((Below.refl _ _).alloc (Nat.le_refl _) _).trans (hbw.out.mono (by omega))).mono (by omega))).trans (hb4.mono (by omega)))
        have hmb5 := lt_of_block hm.st
        have hwb5 := lt_of_block hm.ws
        clear hm hb4 hq hbw
        go_upto_region 9 with (fail)
        go_cut [22, 23] (fun x y wx => ∃ xb yb, x = .pointer (some ⟨xb, 0, none⟩) ∧ y = .pointer (some ⟨yb, 0, none⟩) ∧ ActAt wx (fun k => w2.heap.size ≤ k ∧ k < w3.heap.size) xb P a (fl % 19) v true 0 ∧ ActAt wx (fun k => w2.heap.size ≤ k ∧ k < w3.heap.size) yb P b (ol % 19) v2 true 0 ∧ w5.heap.size ≤ xb ∧ w5.heap.size ≤ yb ∧ xb ≠ yb ∧ Hid (Below w5.heap.size w5 wx))
        case first =>
          go_region_with (fail)
          all_goals
            go_wp2_with fail
            go_meet
            case rel =>
              first
              | exact ⟨_, _, rfl, rfl, HP5.out.act (fun k hk _ => ((((Below.refl w5.heap.size w5).alloc (Nat.le_refl _) _).alloc (by simp) _).drew).block k hk) _ _ _ _ _ _ (two_first' _ _ _), HP5.out.act (fun k hk _ => ((((Below.refl w5.heap.size w5).alloc (Nat.le_refl _) _).alloc (by simp) _).drew).block k hk) _ _ _ _ _ _ (two_second' _ _ _), Nat.le_refl _, by omega, by omega, Lib.hid ((((Below.refl _ _).alloc (Nat.le_refl _) _).alloc (by simp) _).drew)⟩
              | exact ⟨_, _, rfl, rfl, HP5.out.act (fun k hk _ => ((((Below.refl w5.heap.size w5).alloc (Nat.le_refl _) _).alloc (by simp) _).drew).block k hk) _ _ _ _ _ _ (two_second' _ _ _), HP5.out.act (fun k hk _ => ((((Below.refl w5.heap.size w5).alloc (Nat.le_refl _) _).alloc (by simp) _).drew).block k hk) _ _ _ _ _ _ (two_first' _ _ _), by omega, Nat.le_refl _, by omega, Lib.hid ((((Below.refl _ _).alloc (Nat.le_refl _) _).alloc (by simp) _).drew)⟩
        case rest =>
          obtain ⟨xb, yb, rfl, rfl, hx, hy, lx, ly, hxy, hb6⟩ := hcut
          obtain ⟨w6, rfl⟩ : ∃ x, x = wc := ⟨wc, rfl⟩
          have hs6 : w3.heap.size < w6.heap.size := Nat.lt_of_lt_of_le hs5 hb6.out.size
          have hq6 : ∀ k, w6.cell? ⟨w3.heap.size, k, none⟩ = w5.cell? ⟨w3.heap.size, k, none⟩ := fun k => World.cell?_of_block (hb6.out.block _ hs5)
          have hq6' := fun k => (hq6 k).trans (hq5 k)
          have HP6 := Lib.hid (HP5.out.kept (w' := w6) (fun k hk hF => hb6.out.block k hk))
          have HX6 := Lib.hid hx
          have HY6 := Lib.hid hy
          clear hx hy hq5 hq6
          go_upto_region 10 with (fail)
          go_cut [24, 25] (fun x y wx => ∃ zb ub, x = .pointer (some ⟨zb, 0, none⟩) ∧ y = .pointer (some ⟨ub, 0, none⟩) ∧ ActAt wx (fun k => w2.heap.size ≤ k ∧ k < w3.heap.size) zb P a (fl % 19) 0 false 0 ∧ ActAt wx (fun k => w2.heap.size ≤ k ∧ k < w3.heap.size) ub P b (ol % 19) 0 false 0 ∧ w6.heap.size ≤ zb ∧ w6.heap.size ≤ ub ∧ zb ≠ ub ∧ Hid (Below w6.heap.size w6 wx))
          case first =>
            go_region_with (fail)
            all_goals
              go_wp2_with fail
              go_meet
              case rel =>
                first
                | exact ⟨_, _, rfl, rfl, HP6.out.act (fun k hk _ => ((((Below.refl w6.heap.size w6).alloc (Nat.le_refl _) _).alloc (by simp) _).drew).block k hk) _ _ _ _ _ _ (two_first' _ _ _), HP6.out.act (fun k hk _ => ((((Below.refl w6.heap.size w6).alloc (Nat.le_refl _) _).alloc (by simp) _).drew).block k hk) _ _ _ _ _ _ (two_second' _ _ _), Nat.le_refl _, by omega, by omega, Lib.hid ((((Below.refl _ _).alloc (Nat.le_refl _) _).alloc (by simp) _).drew)⟩
                | exact ⟨_, _, rfl, rfl, HP6.out.act (fun k hk _ => ((((Below.refl w6.heap.size w6).alloc (Nat.le_refl _) _).alloc (by simp) _).drew).block k hk) _ _ _ _ _ _ (two_second' _ _ _), HP6.out.act (fun k hk _ => ((((Below.refl w6.heap.size w6).alloc (Nat.le_refl _) _).alloc (by simp) _).drew).block k hk) _ _ _ _ _ _ (two_first' _ _ _), by omega, Nat.le_refl _, by omega, Lib.hid ((((Below.refl _ _).alloc (Nat.le_refl _) _).alloc (by simp) _).drew)⟩
          case rest =>
            obtain ⟨zb, ub, rfl, rfl, hz, hu, lz, lu, hzu, hb7⟩ := hcut
            obtain ⟨w7, rfl⟩ : ∃ x, x = wc := ⟨wc, rfl⟩
            have hlx := HX6.out.lt
            have hly := HY6.out.lt
            have hsz6 := hb6.out.size
            have hsz7 := hb7.out.size
            have hF6 : ∀ k, (fun k => w2.heap.size ≤ k ∧ k < w3.heap.size) k → k < w5.heap.size := fun k hk => by have := hk.2; omega
            have hfar : FourFar (fun k => w2.heap.size ≤ k ∧ k < w3.heap.size) w3.heap.size w4.heap.size mb wb xb yb zb ub := ⟨fun k hk => hk.2, by omega, lm, lw, by omega, by omega, by omega, by omega, ⟨by omega, by omega⟩, ⟨by omega, by omega⟩, ⟨by omega, by omega⟩, ⟨by omega, by omega⟩, hxy, by omega, by omega, by omega, by omega, hzu⟩
            have hfour : Four (fun k => w2.heap.size ≤ k ∧ k < w3.heap.size) P mb wb xb yb zb ub a (fl % 19) v b (ol % 19) v2 (bootM P) w7 := ⟨HM5.out.kept ((hb7.out.block _ (by omega)).trans (hb6.out.block _ hmb5)) ((hb7.out.block _ (by omega)).trans (hb6.out.block _ hwb5)), HX6.out.kept (hb7.out.block _ hlx) (fun k hk _ => hb7.out.block k hk), HY6.out.kept (hb7.out.block _ hly) (fun k hk _ => hb7.out.block k hk), hz, hu⟩
            have HB7 : Hid (Below w.heap.size w w7) := Lib.hid ((HB5.out.trans (hb6.out.mono (by omega))).trans (hb7.out.mono (by omega)))
            have hfa : fieldB P.thr.length a (fl % 19) = true := by simp only [fieldB, hA.out, Bool.true_and, Bool.and_eq_true, decide_eq_true_eq]; omega
            have hfb : fieldB P.thr.length b (ol % 19) = true := by simp only [fieldB, hO.out, Bool.true_and, Bool.and_eq_true, decide_eq_true_eq]; omega
            have HFA := Lib.hid hfa
            have HFB := Lib.hid hfb
            have HFar := Lib.hid hfar
            have HFour := Lib.hid hfour
            have hN7 : w3.heap.size ≤ w7.heap.size := by omega
            clear hz hu hfour hfar HX6 HY6 HM5 hq6' hfa hfb hb6 hb7 hF6 hlx hly lx ly lz lu hxy hzu hmb5 hwb5
            go_wp2_with fail
            go_at_call 21
            refine (actSetRun P q6 _ xb mb wb a (fl % 19) v Hv.out HFA.out (bootM P) w7 HFour.out.mem HFour.out.hx (HFar.out.far hN7 xb (.inl rfl))).mono ?_
            rintro e w8 ⟨rfl, hm8, hL8⟩
            have HFour8 := Lib.hid (HFour.out.left HFar.out hm8 hL8)
            have hN8 : w3.heap.size ≤ w8.heap.size := Nat.le_trans hN7 hL8.size
            have HL8 := Lib.hid hL8
            clear hm8 hL8
            go_wp2_with fail
            go_at_call 21
            refine (actSetRun P q6 _ yb mb wb b (ol % 19) v2 Hv2.out HFB.out _ w8 HFour8.out.mem HFour8.out.hy (HFar.out.far hN8 yb (.inr (.inl rfl)))).mono ?_
            rintro e w9 ⟨rfl, hm9, hL9⟩
            have HFour9 := Lib.hid (HFour8.out.left HFar.out hm9 hL9)
            have hN9 : w3.heap.size ≤ w9.heap.size := Nat.le_trans hN8 hL9.size
            have HL9 := Lib.hid hL9
            clear hm9 hL9
            go_wp2_with fail
            go_at_call 21
            refine (actGetRun P q6 _ zb mb wb (fun k hk => by have := HFar.out.f k hk; have := HFar.out.nb; have := HFar.out.lz; omega) a (fl % 19) 0 0 HFA.out _ w9 HFour9.out.mem HFour9.out.hz (HFar.out.far hN9 zb (.inr (.inr (.inl rfl))))).mono ?_
            rintro e w10 ⟨rfl, hm10, hc10, hL10⟩
            have hu10 := HFour9.out.hu.kept (hL10.block _ HFour9.out.hu.lt HFar.out.um.2 (Ne.symm HFar.out.zu)) (fun k hk hF => hL10.block k hk (by have := HFar.out.f k hF; have := HFar.out.nb; have := HFar.out.lw; omega) (by have := HFar.out.f k hF; have := HFar.out.nb; have := HFar.out.lz; omega))
            have hN10 : w3.heap.size ≤ w10.heap.size := Nat.le_trans hN9 hL10.size
            have hz10 : zb < w10.heap.size := World.block_lt_of_cell? w10 _ hc10
            have HM10 := Lib.hid hm10
            have HC10 := Lib.hid hc10
            have HU10 := Lib.hid hu10
            have HL10 := Lib.hid hL10
            clear hm10 hc10 hu10 hL10
            go_wp2_with fail
            go_at_call 21
            refine (actGetRun P q6 _ ub mb wb (fun k hk => by have := HFar.out.f k hk; have := HFar.out.nb; have := HFar.out.lu; omega) b (ol % 19) 0 0 HFB.out _ w10 HM10.out HU10.out (HFar.out.far hN10 ub (.inr (.inr (.inr rfl))))).mono ?_
            rintro e w11 ⟨rfl, hm11, hc11, hL11⟩
            have hz11 := hL11.block _ hz10 HFar.out.zm.2 HFar.out.zu
            have hcz : w11.cell? ⟨zb, 18, none⟩ = _ := (World.cell?_of_block hz11).trans HC10.out
            have hbl := bootM_length P
            have ra : 0 ≤ thAt a + 5 + fl % 19 ∧ thAt a + 5 + fl % 19 < (bootM P).length := by
              have h1 := HFA.out
              simp only [fieldB, hasB, Bool.and_eq_true, decide_eq_true_eq] at h1
              rw [hbl]; unfold planWords thAt; omega
            have rb : 0 ≤ thAt b + 5 + ol % 19 ∧ thAt b + 5 + ol % 19 < (bootM P).length := by
              have h1 := HFB.out
              simp only [fieldB, hasB, Bool.and_eq_true, decide_eq_true_eq] at h1
              rw [hbl]; unfold planWords thAt; omega
            rw [rdM_wrM _ _ _ _ rb.1 (by rw [wrM_length]; exact rb.2), rdM_wrM _ _ _ _ ra.1 ra.2, if_pos rfl] at hcz
            rw [rdM_wrM _ _ _ _ rb.1 (by rw [wrM_length]; exact rb.2), if_pos rfl] at hc11
            have HEnd : Hid (Below w.heap.size w w11) := by
              have hw7 : w.heap.size ≤ w7.heap.size := by omega
              have n1 := HFar.out.lw
              have n2 := HFar.out.lz
              have n3 := HFar.out.lu
              have n4 := HFar.out.nb
              have b8 := HL8.out.below (B := w.heap.size) hw7 (by omega) (fun _ h => h.elim)
              have b9 := HL9.out.below (B := w.heap.size) (by have := HL8.out.size; omega) (by omega) (fun _ h => h.elim)
              have b10 := HL10.out.below (B := w.heap.size) (by omega) (by omega) (fun k h => by omega)
              have b11 := hL11.below (B := w.heap.size) (by omega) (by omega) (fun k h => by omega)
              exact Lib.hid ((((HB7.out.trans b8).trans b9).trans b10).trans b11)
            have hia : 0 ≤ fl % 19 ∧ fl % 19 < 19 := by omega
            have hib : 0 ≤ ol % 19 ∧ ol % 19 < 19 := by omega
            clear hm11 hL11 hz11 HL8 HL9 HL10 HM10 HC10 HU10 HFour8 HFour9 HFour HFar ra rb hbl HB7 hN7 hN8 hN9 hN10
            generalize hi1 : fl % 19 = i at *
            generalize hi2 : ol % 19 = k at *
            clear hi1 hi2
            unfold thAt at hcz
            by_cases hab : a = b
            · subst hab
              by_cases hik : i = k
              · subst hik
                rw [if_pos rfl] at hcz
                go_wp2
                go_ret
                exact ⟨by simp, HEnd.out⟩
              · rw [if_neg (by omega)] at hcz
                have hik' : (i == k) = false := by simpa using hik
                go_wp2
                go_ret
                exact ⟨by simp, HEnd.out⟩
            · rw [if_neg (by omega)] at hcz
              have hab' : (a == b) = false := by simpa using hab
              go_wp2
              go_ret
              exact ⟨by simp, HEnd.out⟩
    · have HN := Lib.hid (HNo.out hf hw)
      clear HNo HYes hf hw
      unfold zeroPlan at HN
      go_wp2_with fail
      go_at_call 20
      refine (HN.out _ (below_box Hb2.out)).mono ?_
      rintro e w3 ⟨rfl, hb3⟩
      have Hb3 := Lib.hid (below_next Hb2.out hb3)
      clear hb3
      go_wp2
      go_ret
      refine ⟨rfl, ?_⟩
      exact Below.alloc (below_box Hb3.out) (below_box Hb3.out).size _
end Go.Proofs.Ytnedofoenkmjaaa
