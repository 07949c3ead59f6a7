/-
  septumref31.Print: its walk. (Printed by gen_refprint.py.)
-/
import Derived.Test.YtpmafppcccbmaaaDoorPrintW
import Derived.Test.YtpmafppcccbmaaaDoorText31
set_option linter.unusedVariables false
set_option linter.unusedSimpArgs false
namespace Go.Proofs.YtpmafppcccbmaaaDoor
open Go.RowKit

theorem box_row {w W : World} {cs : Array Value} {t : TypeId} (h : Below (w.heap.size + 1) (w.alloc (.cells cs t)) W) (k : Nat) : W.cell? ⟨w.heap.size, k, none⟩ = cs[k]? := by
  rw [h.cell (p := ⟨w.heap.size, k, none⟩) (by simp)]
  exact cell_of_row _ _ _ _ _ _ (heap_alloc_new w _)
theorem box_below {w W : World} {o : Obj} (h : Below (w.heap.size + 1) (w.alloc o) W) : Below w.heap.size w W := ((Below.refl _ _).alloc (Nat.le_refl _) _).trans (h.mono (by omega))
theorem box_size {w W : World} {o : Obj} (h : Below (w.heap.size + 1) (w.alloc o) W) : w.heap.size + 1 ≤ W.heap.size := by have := h.size; rwa [World.size_alloc] at this
theorem box_next {w W W' : World} {o : Obj} (h : Below (w.heap.size + 1) (w.alloc o) W) (h' : Below W.heap.size W W') : Below (w.heap.size + 1) (w.alloc o) W' := h.trans (h'.mono (box_size h))

theorem bit31I_any (b : Bool) (w : World) :
    Calls Tryd.prog 43 #[.bool b] w fun e w' => e = .returned (.string (sb (Lib.itoa (bitI b)))) ∧ w = w' := bit31_any b w

set_option maxRecDepth 100000 in
set_option maxHeartbeats 12800000 in
theorem refPrint_any (c : ConfD) (hok : ConfOk c) (v : Value) (w : World) (hC : ConfAt w (fun k => k < w.heap.size) v c) :
    Calls Tryd.prog 23 #[v] w fun e w' => e = .returned (printV c) ∧ Below w.heap.size w w' := by
  obtain ⟨v1, v2, v3, rfl, h1, h2, h3⟩ := hC
  obtain ⟨A1, c1, rfl⟩ : ∃ A c', v1 = .slice A c.parts.length c' := by obtain ⟨_, _, ⟨_, A, c', e, _⟩, _⟩ := h1; exact ⟨A, c', e⟩
  obtain ⟨A2, c2, rfl⟩ : ∃ A c', v2 = .slice A c.wins.length c' := by obtain ⟨_, A, c', e, _⟩ := h2; exact ⟨A, c', e⟩
  obtain ⟨A3, c3, rfl⟩ : ∃ A c', v3 = .slice A c.chans.length c' := by obtain ⟨_, A, c', e, _⟩ := h3; exact ⟨A, c', e⟩
  have HP := Lib.hid h1
  have HW := Lib.hid h2
  have HC := Lib.hid h3
  have HO := Lib.hid hok
  have lp := hok.pl
  have lw := hok.wl
  have lc := hok.cl
  clear h1 h2 h3 hok
  go_enter Tryd.func23, Tryd.ntmps23
  go_wp2
  have e5 : sb ([] : List UInt8) = ByteArray.mk #[] := rfl
  go_loopw [4, 17, 30, 66, 95] (fun s i _ _ _ wr => ∃ (k : Nat) (z : List UInt8), k ≤ c.parts.length ∧ i = .int .i64 k ∧ s = .string (sb z) ∧ Hid (z = (c.parts.take k).flatMap partL) ∧ Hid (Below (w.heap.size + 1) (w.alloc (.cells #[.slice A1 c.parts.length c1, .slice A2 c.wins.length c2, .slice A3 c.chans.length c3] 41)) wr) ∧ Hid ((c.parts.take k).all partOk = true)) (fun _ i _ _ _ _ => c.parts.length - (intOf i).toNat)
  case atStart => exact ⟨0, [], Nat.zero_le _, rfl, rfl, Lib.hid rfl, Lib.hid (Below.refl _ _), Lib.hid rfl⟩
  case round =>
    obtain ⟨k, z, hk, rfl, rfl, EZ, hw, hall⟩ := hrel
    have hsz := box_size hw.out
    have hbw := box_below hw.out
    have r0 := box_row hw.out 0
    by_cases hlt : k < c.parts.length
    · have hlc : (k : Int) < (c.parts.length : Int) := by omega
      obtain ⟨g, o, c', e, hg, hcells⟩ := HP.out.cells (by omega)
      cases e
      obtain ⟨pv1, pv2, d0, d1, hpa⟩ := hcells k c.parts[k] (List.getElem?_eq_getElem hlt)
      have hgB : g < w.heap.size := hg
      rw [← hbw.cell (p := ⟨g, o + k * 2, none⟩) hgB] at d0
      rw [← hbw.cell (p := ⟨g, o + k * 2 + 1, none⟩) hgB] at d1
      obtain ⟨x1, x2, ex, hx1, hx2⟩ := hpa
      cases ex
      obtain ⟨X1, n1, rfl⟩ : ∃ A c', pv1 = .slice A c.parts[k].thr.length c' := by obtain ⟨_, _, ⟨_, A, c', e, _⟩, _⟩ := hx1; exact ⟨A, c', e⟩
      obtain ⟨X2, n2, rfl⟩ : ∃ A c', pv2 = .slice A c.parts[k].obj.length c' := by obtain ⟨_, A, c', e, _⟩ := hx2; exact ⟨A, c', e⟩
      have hpk := HO.out.parts c.parts[k] (List.getElem_mem hlt)
      have HS := Lib.hid (take_flat partL c.parts k hlt)
      have HSA := Lib.hid (take_all partOk c.parts k hlt)
      have HNA := Lib.hid (not_all partOk c.parts k hlt)
      have hfl := flat_len partL 25000000000 (c.parts.take k) (fun x hx => partL_len (HO.out.parts x (List.mem_of_mem_take hx)))
      rw [List.length_take, ← EZ.out] at hfl
      have hzl : z.length ≤ 25000000000000 := by omega
      have HTh := Lib.hid hx1
      have HOb := Lib.hid hx2
      have Hbw := Lib.hid hbw
      clear hx1 hx2 hcells hg hbw hfl
      generalize c.parts[k] = P at *
      obtain ⟨k1, k2, k3, k4⟩ := hpk
      have HOk := Lib.hid k1
      have HTk := Lib.hid k3
      clear k1 k3
      obtain ⟨zp, EP, bp, sp, ep⟩ := catK z [112, 97, 114, 116, 10] (ByteArray.mk #[112, 97, 114, 116, 10]) 5 rfl rfl (by omega)
      clear bp
      obtain ⟨wp, rfl⟩ : ∃ x, x = wr := ⟨wr, rfl⟩
      have hzpl : zp.length ≤ 25000000000005 := by rw [EP.out, List.length_append]; simp only [List.length_cons, List.length_nil]; omega
      go_wp2
      go_loopw [4, 30] (fun s i wr => ∃ (q : Nat) (zo : List UInt8), q ≤ P.obj.length ∧ i = .int .i64 q ∧ s = .string (sb zo) ∧ Hid (zo = zp ++ (P.obj.take q).flatMap objL) ∧ Hid (Below (wp.heap.size + 1) (wp.alloc (.cells #[.slice X1 P.thr.length n1, .slice X2 P.obj.length n2] 73)) wr)) (fun _ i _ => P.obj.length - (intOf i).toNat)
      case atStart => exact ⟨0, zp, Nat.zero_le _, rfl, rfl, Lib.hid (by simp), Lib.hid (Below.refl _ _)⟩
      case round =>
        obtain ⟨q, zo, hq, rfl, rfl, EO, hwq⟩ := hrel
        have hsq := box_size hwq.out
        have hbq := (Hbw.out.trans ((box_below hwq.out).mono (by omega)))
        have q1 := box_row hwq.out 1
        have q0 := box_row hwq.out 0
        by_cases hlq : q < P.obj.length
        · have hlcq : (q : Int) < (P.obj.length : Int) := by omega
          obtain ⟨g2, o2, c2', e, hg2, hcells⟩ := HOb.out.cells (by omega)
          cases e
          obtain ⟨d0', d1', d2'⟩ := hcells q P.obj[q] (List.getElem?_eq_getElem hlq)
          have hgB2 : g2 < w.heap.size := hg2
          rw [← hbq.cell (p := ⟨g2, o2 + q * 3, none⟩) hgB2] at d0'
          rw [← hbq.cell (p := ⟨g2, o2 + q * 3 + 1, none⟩) hgB2] at d1'
          rw [← hbq.cell (p := ⟨g2, o2 + q * 3 + 2, none⟩) hgB2] at d2'
          obtain ⟨i0, i1⟩ := HOk.out P.obj[q] (List.getElem_mem hlq)
          have HSo := Lib.hid (take_flat objL P.obj q hlq)
          have hfl := flat_len objL 100 (P.obj.take q) (fun x hx => objL_len (HOk.out x (List.mem_of_mem_take hx)))
          rw [List.length_take] at hfl
          have hzol : zo.length ≤ 25000000200000 := by rw [EO.out, List.length_append]; omega
          have t0 := itoa_len i0
          have t1 := itoa_len i1
          clear hcells hg2 hfl hbq
          generalize P.obj[q] = ob at *
          have t2 := itoa_len (bitI_i64 ob.prio)
          obtain ⟨y1, E1, b1, s1, e1⟩ := catK zo [111, 98, 106, 101, 99, 116, 32] (ByteArray.mk #[111, 98, 106, 101, 99, 116, 32]) 7 rfl rfl (by omega)
          obtain ⟨y2, E2, b2, s2, e2⟩ := cat y1 (Lib.itoa ob.kind) (by omega)
          obtain ⟨y3, E3, b3, s3, e3⟩ := catK y2 [32] (ByteArray.mk #[32]) 1 rfl rfl (by omega)
          obtain ⟨y4, E4, b4, s4, e4⟩ := cat y3 (Lib.itoa ob.size) (by omega)
          obtain ⟨y5, E5, b5, s5, e5⟩ := catK y4 [32] (ByteArray.mk #[32]) 1 rfl rfl (by omega)
          obtain ⟨y6, E6, b6, s6, e6⟩ := cat y5 (Lib.itoa (bitI ob.prio)) (by omega)
          obtain ⟨y7, E7, b7, s7, e7⟩ := catK y6 [10] (ByteArray.mk #[10]) 1 rfl rfl (by omega)
          have EY : Hid (y7 = zo ++ objL ob) := by
            rw [E7.out, E6.out, E5.out, E4.out, E3.out, E2.out, E1.out]
            exact Lib.hid (by simp [objL, wlineL, spacedL])
          clear E1 E2 E3 E4 E5 E6 E7 b1 b2 b3 b4 b5 b6 b7
          clear t0 t1 t2
          go_wp2_with fail
          have HBq : Below (wp.heap.size + 1) (wp.alloc (.cells #[.slice X1 P.thr.length n1, .slice (some ⟨g2, o2, none⟩) P.obj.length n2] 73)) wr := hwq.out
          have q1' : wr.cell? ⟨wp.heap.size, 1, none⟩ = some (.slice (some ⟨g2, o2, none⟩) P.obj.length n2) := q1
          go_region_held3 (fun w' => Below (wp.heap.size + 1) (wp.alloc (.cells #[.slice X1 P.thr.length n1, .slice (some ⟨g2, o2, none⟩) P.obj.length n2] 73)) w' ∧ w'.cell? ⟨wp.heap.size, 1, none⟩ = some (.slice (some ⟨g2, o2, none⟩) P.obj.length n2) ∧ w'.cell? ⟨g2, o2 + q * 3, none⟩ = some (.int .i64 ob.kind) ∧ w'.cell? ⟨g2, o2 + q * 3 + 1, none⟩ = some (.int .i64 ob.size) ∧ w'.cell? ⟨g2, o2 + q * 3 + 2, none⟩ = some (.bool ob.prio))
            (((try dsimp only); (try go_split_ands); (with_reducible repeat' apply And.intro); all_goals (first | assumption | exact Below.drew (by assumption) | exact keep_cell (by assumption) (by assumption) | exact keep_below (by assumption) (by simp) (by assumption) | exact keep_below (by assumption) (Nat.le_refl _) (by assumption) | (simp; done) | (simp; rfl) | go_keep)))
            (first | (go_at_call 42; refine (number31_i64 _ (by assumption) _).mono ?_; rintro e w' ⟨rfl, hb⟩) | (go_at_call 43; refine (bit31I_any _ _).mono ?_; rintro e w' ⟨rfl, rfl⟩))
          rename_i hH
          obtain ⟨hB', _, _, _, _⟩ := hH
          have HB' := Lib.hid hB'
          have EN : Hid (y7 = zp ++ (P.obj.take (q + 1)).flatMap objL) := by
            rw [EY.out, EO.out, HSo.out, List.append_assoc]; exact Lib.hid rfl
          clear s1 s2 s3 s4 s5 s6 s7 e1 e2 e3 e4 e5 e6 e7 hB' HBq q1'
          go_wp2
          go_roundw
          case rel => exact ⟨q + 1, y7, by omega, by go_num, rfl, EN, HB'⟩
          case measure => simp [intOf]; omega
        · have e : P.obj.take q = P.obj := List.take_of_length_le (by omega)
          have hge : ¬ ((q : Int) < (P.obj.length : Int)) := by omega
          rw [e] at EO
          have hfl := flat_len objL 100 P.obj (fun x hx => objL_len (HOk.out x hx))
          have hzol : zo.length ≤ 25000000200005 := by rw [EO.out, List.length_append]; omega
          obtain ⟨zt, rfl⟩ : ∃ x, x = zo := ⟨zo, rfl⟩
          have EOz := EO
          clear e hlq hfl
          go_wp2
          go_loopw [4, 66, 95] (fun s i _ wr => ∃ (q : Nat) (zo : List UInt8), q ≤ P.thr.length ∧ i = .int .i64 q ∧ s = .string (sb zo) ∧ Hid (zo = zt ++ thrLs (P.thr.take q)) ∧ Hid (Below (wp.heap.size + 1) (wp.alloc (.cells #[.slice X1 P.thr.length n1, .slice X2 P.obj.length n2] 73)) wr) ∧ Hid ((P.thr.take q).all (fun t => progOk t.prog) = true)) (fun _ i _ _ => P.thr.length - (intOf i).toNat)
          case atStart => exact ⟨0, zt, Nat.zero_le _, rfl, rfl, Lib.hid (by simp [thrLs]), hwq, Lib.hid rfl⟩
          case round =>
            clear hwq hsq q1 q0 EO hge hbq
            obtain ⟨q, zo, hq, rfl, rfl, ET, hwq, hall2⟩ := hrel
            have hsq := box_size hwq.out
            have hbq := (Hbw.out.trans ((box_below hwq.out).mono (by omega)))
            have q0 := box_row hwq.out 0
            by_cases hlq : q < P.thr.length
            · have hlcq : (q : Int) < (P.thr.length : Int) := by omega
              obtain ⟨g2, o2, c2', e, hg2, hcells⟩ := HTh.out.cells (by omega)
              cases e
              obtain ⟨pv, hcs, d0', d1', d2', d3'⟩ := hcells q P.thr[q] (List.getElem?_eq_getElem hlq)
              obtain ⟨Ap, cp, rfl⟩ := hcs.slice
              have hgB2 : g2 < w.heap.size := hg2
              rw [← hbq.cell (p := ⟨g2, o2 + q * 4, none⟩) hgB2] at d0'
              rw [← hbq.cell (p := ⟨g2, o2 + q * 4 + 1, none⟩) hgB2] at d1'
              rw [← hbq.cell (p := ⟨g2, o2 + q * 4 + 2, none⟩) hgB2] at d2'
              rw [← hbq.cell (p := ⟨g2, o2 + q * 4 + 3, none⟩) hgB2] at d3'
              have htk := HTk.out P.thr[q] (List.getElem_mem hlq)
              have HSt := Lib.hid (take_thrLs P.thr q hlq)
              have HSB := Lib.hid (take_all (fun t : ThreadD => progOk t.prog) P.thr q hlq)
              have HNB := Lib.hid (not_all (fun t : ThreadD => progOk t.prog) P.thr q hlq)
              have hll := thrLs_len P.thr q HTk.out k4
              have hzol : zo.length ≤ 25024000200005 := by rw [ET.out, List.length_append]; omega
              have HCS := Lib.hid hcs
              have Hbq := Lib.hid hbq
              clear hcells hg2 hll hbq hcs
              generalize P.thr[q] = th at *
              obtain ⟨i0, i1, i2, i3⟩ := htk
              have HI3 := Lib.hid i3
              have hlth : th.prog.length ≤ 1000 := i3.2
              have ic : I64 th.caps := ⟨by omega, by omega⟩
              have t0 := itoa_len i0
              have t1 := itoa_len ic
              have t2 := itoa_len (bitI_i64 th.control)
              have hwrap : IntKind.i64.wrap th.caps = th.caps := Go.IntWalk.i64_in _ (by omega)
              clear i3
              obtain ⟨y1, E1, b1, s1, e1⟩ := catK zo [116, 104, 114, 101, 97, 100, 32] (ByteArray.mk #[116, 104, 114, 101, 97, 100, 32]) 7 rfl rfl (by omega)
              obtain ⟨y2, E2, b2, s2, e2⟩ := cat y1 (Lib.itoa th.prio) (by omega)
              obtain ⟨y3, E3, b3, s3, e3⟩ := catK y2 [32] (ByteArray.mk #[32]) 1 rfl rfl (by omega)
              obtain ⟨y4, E4, b4, s4, e4⟩ := cat y3 (Lib.itoa th.caps) (by omega)
              obtain ⟨y5, E5, b5, s5, e5⟩ := catK y4 [32] (ByteArray.mk #[32]) 1 rfl rfl (by omega)
              obtain ⟨y6, E6, b6, s6, e6⟩ := cat y5 (Lib.itoa (bitI th.control)) (by omega)
              obtain ⟨y7, E7, b7, s7, e7⟩ := catK y6 [10] (ByteArray.mk #[10]) 1 rfl rfl (by omega)
              have EY : Hid (y7 = zo ++ thrL th) := by
                rw [E7.out, E6.out, E5.out, E4.out, E3.out, E2.out, E1.out]
                exact Lib.hid (by simp [thrL, wlineL, spacedL])
              clear E1 E2 E3 E4 E5 E6 E7 b1 b2 b3 b4 b5 b6 b7
              clear t0 t1 t2
              go_wp2_with fail
              obtain ⟨wt, rfl⟩ : ∃ x, x = wr := ⟨wr, rfl⟩
              have ha : Below (wt.heap.size + 1) (wt.alloc (.cells #[.int .i64 th.prio, .int .u32 th.caps, .bool th.control, .slice Ap th.prog.length cp] 91)) (wt.alloc (.cells #[.int .i64 th.prio, .int .u32 th.caps, .bool th.control, .slice Ap th.prog.length cp] 91)) := Below.refl _ _
              have a0 := box_row ha 0
              have a1 := box_row ha 1
              have a2 := box_row ha 2
              go_region_held3 (fun w' => Below (wt.heap.size + 1) (wt.alloc (.cells #[.int .i64 th.prio, .int .u32 th.caps, .bool th.control, .slice Ap th.prog.length cp] 91)) w' ∧ w'.cell? ⟨wt.heap.size, 0, none⟩ = some (.int .i64 th.prio) ∧ w'.cell? ⟨wt.heap.size, 1, none⟩ = some (.int .u32 th.caps) ∧ w'.cell? ⟨wt.heap.size, 2, none⟩ = some (.bool th.control))
                (((try dsimp only); (try go_split_ands); (with_reducible repeat' apply And.intro); all_goals (first | assumption | exact Below.drew (by assumption) | exact keep_cell (by assumption) (by assumption) | exact keep_below (by assumption) (by simp) (by assumption) | exact keep_below (by assumption) (Nat.le_refl _) (by assumption) | (simp; done) | (simp; rfl) | go_keep)))
                (first | (go_at_call 42; refine (number31_i64 _ (by assumption) _).mono ?_; rintro e w' ⟨rfl, hb⟩) | (go_at_call 43; refine (bit31I_any _ _).mono ?_; rintro e w' ⟨rfl, rfl⟩))
              rename_i hH
              obtain ⟨hB', _, _, _⟩ := hH
              have HB' := Lib.hid hB'
              obtain ⟨zc, rfl⟩ : ∃ x, x = y7 := ⟨y7, rfl⟩
              have hzcl : zc.length ≤ 25024000200200 := by rw [EY.out, List.length_append]; have := thrL_len (show ThrOk th from ⟨i0, i1, i2, HI3.out⟩); omega
              clear s1 s2 s3 s4 s5 s6 s7 e1 e2 e3 e4 e5 e6 e7 hB' ha a0 a1 a2 hwrap d0' d1' d2' d3' q0 i0 i1 i2 ic
              have a3 := box_row HB'.out 3
              go_wp2
              go_loopw [4, 95] (fun s i wr => ∃ (j : Nat) (zo : List UInt8), j ≤ th.prog.length ∧ i = .int .i64 j ∧ s = .string (sb zo) ∧ Hid (zo = zc ++ (th.prog.take j).flatMap callLn) ∧ Hid (Below (wt.heap.size + 1) (wt.alloc (.cells #[.int .i64 th.prio, .int .u32 th.caps, .bool th.control, .slice Ap th.prog.length cp] 91)) wr) ∧ Hid ((th.prog.take j).all (fun c => !(nameL c.kind == [])) = true)) (fun _ i _ => th.prog.length - (intOf i).toNat)
              case atStart => exact ⟨0, zc, Nat.zero_le _, rfl, rfl, Lib.hid (by simp), HB', Lib.hid rfl⟩
              case round =>
                clear HB' a3
                obtain ⟨j, zo, hj, rfl, rfl, EO, hwj, hallc⟩ := hrel
                have hsj := box_size hwj.out
                have hbj := (Hbq.out.trans ((box_below hwj.out).mono (by omega)))
                have a3 := box_row hwj.out 3
                have hll := callsLn_len th.prog j (fun c hc => HI3.out.1 c hc) HI3.out.2
                have hzol : zo.length ≤ 25024024000000 := by rw [EO.out, List.length_append]; omega
                by_cases hjt : j < th.prog.length
                · have hjc : (j : Int) < (th.prog.length : Int) := by omega
                  obtain ⟨g3, o3, c3', e, hg3, hcells⟩ := calls_cells HCS.out (by omega)
                  cases e
                  obtain ⟨u, hu, d0, d1, d2, d3, d4, d5⟩ := hcells j th.prog[j] (List.getElem?_eq_getElem hjt)
                  have hgB3 : g3 < w.heap.size := hg3
                  rw [← hbj.cell (p := ⟨g3, o3 + j * 6, none⟩) hgB3] at d0
                  rw [← hbj.cell (p := ⟨g3, o3 + j * 6 + 1, none⟩) hgB3] at d1
                  rw [← hbj.cell (p := ⟨g3, o3 + j * 6 + 2, none⟩) hgB3] at d2
                  rw [← hbj.cell (p := ⟨g3, o3 + j * 6 + 3, none⟩) hgB3] at d3
                  rw [← hbj.cell (p := ⟨g3, o3 + j * 6 + 4, none⟩) hgB3] at d4
                  rw [← hbj.cell (p := ⟨g3, o3 + j * 6 + 5, none⟩) hgB3] at d5
                  have hcok := HI3.out.1 th.prog[j] (List.getElem_mem hjt)
                  have HSC := Lib.hid (take_flat callLn th.prog j hjt)
                  have HSX := Lib.hid (take_all (fun c : CallD => !(nameL c.kind == [])) th.prog j hjt)
                  have HNX := Lib.hid (not_all (fun c : CallD => !(nameL c.kind == [])) th.prog j hjt)
                  obtain ⟨Au, cu, rfl⟩ := hu.slice
                  have HU := Lib.hid hu
                  have HCO := Lib.hid hcok
                  have Hbj := Lib.hid hbj
                  clear hcells hg3 hu hcok hll hbj
                  generalize th.prog[j] = cl at *
                  by_cases hnm : nameL cl.kind = []
                  · have hF := HNX.out (by simp [hnm])
                    have hPO := HNB.out hF
                    have hCO := HNA.out hPO
                    have HPN : Hid (printV c = .tuple #[.string (ByteArray.mk #[]), .int .i64 1]) := Lib.hid (by unfold printV printL; rw [hCO]; rfl)
                    have HNm := Lib.hid (fun W => refName_any cl.kind W)
                    rw [hnm] at HNm
                    have e0 : (sb ([] : List UInt8)).toList.isEmpty = true := sb_isEmpty []
                    clear hF hPO hCO hnm HNX HSX HNB HSB HNA HSA
                    go_wp2_with (go_at_call 29; refine (HNm.out _).mono ?_; rintro e w4 ⟨rfl, hb4⟩; have HB4 := Lib.hid hb4; clear hb4)
                    go_ret2
                    exact ⟨congrArg Ending.returned HPN.out.symm, (Hbj.out.trans (HB4.out.mono (by omega)))⟩
                  · have hne : (sb (nameL cl.kind)).toList.isEmpty = false := by rw [sb_isEmpty]; simpa using hnm
                    have HNm := Lib.hid (fun W => refName_any cl.kind W)
                    have HCl := Lib.hid (fun (W : World) (hW : Below wr.heap.size wr W) => callText_any cl HCO.out.1 (fun k => k < w.heap.size) (.slice Au cl.words.length cu) (Nat.le_trans HCO.out.2 (by decide)) W (IntsAt.kept (fun q hq hqF => (Hbj.out.trans (hW.mono (by omega))).block q hqF) HU.out) hnm)
                    unfold callV at HCl
                    have hcl := callL_len HCO.out.1
                    have hcw := HCO.out.2
                    have HNK := Lib.hid hnm
                    obtain ⟨y1, E1, b1, s1, e1⟩ := catK zo [99, 97, 108, 108, 32] (ByteArray.mk #[99, 97, 108, 108, 32]) 5 rfl rfl (by omega)
                    obtain ⟨y2, E2, b2, s2, e2⟩ := cat y1 (callL cl) (by omega)
                    obtain ⟨y3, E3, b3, s3, e3⟩ := catK y2 [10] (ByteArray.mk #[10]) 1 rfl rfl (by omega)
                    have EY2 : Hid (y3 = zo ++ callLn cl) := by
                      rw [E3.out, E2.out, E1.out]
                      exact Lib.hid (by simp [callLn, wlineL, spacedL])
                    clear E1 E2 E3 b1 b2 b3
                    clear hnm hcl hcw
                    go_wp2_with (go_at_call 29; refine (HNm.out _).mono ?_; rintro e w4 ⟨rfl, hb4⟩; refine Hid.out ?_)
                    rw [← hb4.cell (p := ⟨g3, o3 + j * 6, none⟩) (World.block_lt_of_cell? wr _ d0)] at d0
                    rw [← hb4.cell (p := ⟨g3, o3 + j * 6 + 1, none⟩) (World.block_lt_of_cell? wr _ d1)] at d1
                    rw [← hb4.cell (p := ⟨g3, o3 + j * 6 + 2, none⟩) (World.block_lt_of_cell? wr _ d2)] at d2
                    rw [← hb4.cell (p := ⟨g3, o3 + j * 6 + 3, none⟩) (World.block_lt_of_cell? wr _ d3)] at d3
                    rw [← hb4.cell (p := ⟨g3, o3 + j * 6 + 4, none⟩) (World.block_lt_of_cell? wr _ d4)] at d4
                    rw [← hb4.cell (p := ⟨g3, o3 + j * 6 + 5, none⟩) (World.block_lt_of_cell? wr _ d5)] at d5
                    have a3' := box_row (box_next hwj.out hb4) 3
                    have HB4 := Lib.hid hb4
                    have hs4 := hb4.size
                    clear hb4 a3
                    refine Lib.hid ?_
                    go_wp2_with (go_at_call 44; refine (HCl.out _ HB4.out).mono ?_; rintro e w5 ⟨rfl, hb5⟩; refine Hid.out ?_)
                    have HB5 := Lib.hid hb5
                    clear hb5
                    refine Lib.hid ?_
                    go_wp2
                    have EN : Hid (y3 = zc ++ (th.prog.take (j + 1)).flatMap callLn) := by
                      rw [EY2.out, EO.out, HSC.out, List.append_assoc]; exact Lib.hid rfl
                    have hwn := Lib.hid (box_next (box_next hwj.out HB4.out) HB5.out)
                    have han := Lib.hid (HSX.out hallc.out (by simpa using HNK.out))
                    go_roundw
                    case rel => exact ⟨j + 1, y3, by omega, by go_num, rfl, EN, hwn, han⟩
                    case measure => simp [intOf]; omega
                · have e : th.prog.take j = th.prog := List.take_of_length_le (by omega)
                  have hge : ¬ ((j : Int) < (th.prog.length : Int)) := by omega
                  rw [e] at EO hallc
                  clear e hjt
                  have EN : Hid (zo = zt ++ thrLs (P.thr.take (q + 1))) := by
                    rw [EO.out, EY.out, ET.out, HSt.out]; exact Lib.hid (by simp)
                  have han := Lib.hid (HSB.out hall2.out hallc.out)
                  have hwn := Lib.hid (hwq.out.trans (((Below.refl (wp.heap.size + 1) wt).alloc (by omega) _).trans (hwj.out.mono (by omega))))
                  clear HSB HNB hj a3
                  go_wp2
                  go_roundw
                  case rel => exact ⟨q + 1, zo, by omega, by go_num, rfl, EN, hwn, han⟩
                  case measure => simp [intOf]; omega
            · have e : P.thr.take q = P.thr := List.take_of_length_le (by omega)
              have hge : ¬ ((q : Int) < (P.thr.length : Int)) := by omega
              rw [e] at ET hall2
              clear e hlq
              have EN : Hid (zo = (c.parts.take (k + 1)).flatMap partL) := by
                rw [ET.out, EOz.out, EP.out, HS.out, EZ.out]; exact Lib.hid (by simp [partL, partWord, wlineL, spacedL])
              have han := Lib.hid (HSA.out hall.out hall2.out)
              have hwn := Lib.hid (hw.out.trans (((Below.refl (w.heap.size + 1) wp).alloc (by omega) _).trans (hwq.out.mono (by omega))))
              clear HSA HNA
              go_wp2
              go_roundw
              case rel => exact ⟨k + 1, zo, by omega, by go_num, rfl, EN, hwn, han⟩
              case measure => simp [intOf]; omega
    · have e : c.parts.take k = c.parts := List.take_of_length_le (by omega)
      have hge : ¬ ((k : Int) < (c.parts.length : Int)) := by omega
      rw [e] at EZ hall
      have hfl := flat_len partL 25000000000 c.parts (fun x hx => partL_len (HO.out.parts x hx))
      have hzl : z.length ≤ 25000000000000 := by rw [EZ.out]; omega
      have HPR : Hid (printV c = .tuple #[.string (sb (c.parts.flatMap partL ++ (c.wins.flatMap winL ++ c.chans.flatMap chanL))), .int .i64 0]) := Lib.hid (by unfold printV printL; rw [hall.out]; rfl)
      rw [← EZ.out] at HPR
      obtain ⟨zw, rfl⟩ : ∃ x, x = z := ⟨z, rfl⟩
      have f1 := box_row hw.out 1
      clear e hlt hfl hall EZ HP lp r0 hk hsz hbw e5
      go_wp2
      go_loopw [4, 122] (fun s i wr => ∃ (k : Nat) (z : List UInt8), k ≤ c.wins.length ∧ i = .int .i64 k ∧ s = .string (sb z) ∧ Hid (z = zw ++ (c.wins.take k).flatMap winL) ∧ Hid (Below (w.heap.size + 1) (w.alloc (.cells #[.slice A1 c.parts.length c1, .slice A2 c.wins.length c2, .slice A3 c.chans.length c3] 41)) wr)) (fun _ i _ => c.wins.length - (intOf i).toNat)
      case atStart => exact ⟨0, zw, Nat.zero_le _, rfl, rfl, Lib.hid (by simp), hw⟩
      case round =>
        clear hw f1
        obtain ⟨k, z, hk, rfl, rfl, EZ, hw⟩ := hrel
        have hsz := box_size hw.out
        have hbw := box_below hw.out
        have r1 := box_row hw.out 1
        by_cases hlt : k < c.wins.length
        · have hlc : (k : Int) < (c.wins.length : Int) := by omega
          obtain ⟨g, o, c', e, hg, hcells⟩ := HW.out.cells (by omega)
          cases e
          obtain ⟨d0, d1⟩ := hcells k c.wins[k] (List.getElem?_eq_getElem hlt)
          have hgB : g < w.heap.size := hg
          rw [← hbw.cell (p := ⟨g, o + k * 2, none⟩) hgB] at d0
          rw [← hbw.cell (p := ⟨g, o + k * 2 + 1, none⟩) hgB] at d1
          obtain ⟨i0, i1⟩ := HO.out.wins c.wins[k] (List.getElem_mem hlt)
          have HS := Lib.hid (take_flat winL c.wins k hlt)
          have hfl := flat_len winL 100 (c.wins.take k) (fun x hx => winL_len (HO.out.wins x (List.mem_of_mem_take hx)))
          rw [List.length_take] at hfl
          have hzl2 : z.length ≤ 25000000200000 := by rw [EZ.out, List.length_append]; omega
          have t0 := itoa_len i0
          have t1 := itoa_len i1
          clear hcells hg hfl hbw
          generalize c.wins[k] = x at *
          obtain ⟨y1, E1, b1, s1, e1⟩ := catK z [119, 105, 110, 100, 111, 119, 32] (ByteArray.mk #[119, 105, 110, 100, 111, 119, 32]) 7 rfl rfl (by omega)
          obtain ⟨y2, E2, b2, s2, e2⟩ := cat y1 (Lib.itoa x.part) (by omega)
          obtain ⟨y3, E3, b3, s3, e3⟩ := catK y2 [32] (ByteArray.mk #[32]) 1 rfl rfl (by omega)
          obtain ⟨y4, E4, b4, s4, e4⟩ := cat y3 (Lib.itoa x.ticks) (by omega)
          obtain ⟨y5, E5, b5, s5, e5⟩ := catK y4 [10] (ByteArray.mk #[10]) 1 rfl rfl (by omega)
          have EY : Hid (y5 = z ++ winL x) := by
            rw [E5.out, E4.out, E3.out, E2.out, E1.out]
            exact Lib.hid (by simp [winL, wlineL, spacedL])
          clear E1 E2 E3 E4 E5 b1 b2 b3 b4 b5
          clear t0 t1
          have HBq : Below (w.heap.size + 1) (w.alloc (.cells #[.slice A1 c.parts.length c1, .slice (some ⟨g, o, none⟩) c.wins.length c2, .slice A3 c.chans.length c3] 41)) wr := hw.out
          have r1' : wr.cell? ⟨w.heap.size, 1, none⟩ = some (.slice (some ⟨g, o, none⟩) c.wins.length c2) := r1
          go_wp2_with fail
          go_region_held3 (fun w' => Below (w.heap.size + 1) (w.alloc (.cells #[.slice A1 c.parts.length c1, .slice (some ⟨g, o, none⟩) c.wins.length c2, .slice A3 c.chans.length c3] 41)) w' ∧ w'.cell? ⟨w.heap.size, 1, none⟩ = some (.slice (some ⟨g, o, none⟩) c.wins.length c2) ∧ w'.cell? ⟨g, o + k * 2, none⟩ = some (.int .i64 x.part) ∧ w'.cell? ⟨g, o + k * 2 + 1, none⟩ = some (.int .i64 x.ticks))
            (((try dsimp only); (try go_split_ands); (with_reducible repeat' apply And.intro); all_goals (first | assumption | exact Below.drew (by assumption) | exact keep_cell (by assumption) (by assumption) | exact keep_below (by assumption) (by simp) (by assumption) | exact keep_below (by assumption) (Nat.le_refl _) (by assumption) | (simp; done) | (simp; rfl) | go_keep)))
            (first | (go_at_call 42; refine (number31_i64 _ (by assumption) _).mono ?_; rintro e w' ⟨rfl, hb⟩) | (go_at_call 43; refine (bit31I_any _ _).mono ?_; rintro e w' ⟨rfl, rfl⟩))
          rename_i hH
          obtain ⟨hB', _, _, _⟩ := hH
          have HB' := Lib.hid hB'
          have EN : Hid (y5 = zw ++ (c.wins.take (k + 1)).flatMap winL) := by
            rw [EY.out, EZ.out, HS.out, List.append_assoc]; exact Lib.hid rfl
          clear s1 s2 s3 s4 s5 e1 e2 e3 e4 e5 hB' HBq r1'
          go_wp2
          go_roundw
          case rel => exact ⟨k + 1, y5, by omega, by go_num, rfl, EN, HB'⟩
          case measure => simp [intOf]; omega
        · have e : c.wins.take k = c.wins := List.take_of_length_le (by omega)
          have hge : ¬ ((k : Int) < (c.wins.length : Int)) := by omega
          rw [e] at EZ
          have hfl := flat_len winL 100 c.wins (fun x hx => winL_len (HO.out.wins x hx))
          have hzl2 : z.length ≤ 25000000200000 := by rw [EZ.out, List.length_append]; omega
          rw [← List.append_assoc, ← EZ.out] at HPR
          obtain ⟨zc, rfl⟩ : ∃ x, x = z := ⟨z, rfl⟩
          have f2 := box_row hw.out 2
          clear e hlt hfl EZ HW lw r1 hk hsz hbw
          go_wp2
          go_loopw [4, 149] (fun s i wr => ∃ (k : Nat) (z : List UInt8), k ≤ c.chans.length ∧ i = .int .i64 k ∧ s = .string (sb z) ∧ Hid (z = zc ++ (c.chans.take k).flatMap chanL) ∧ Hid (Below (w.heap.size + 1) (w.alloc (.cells #[.slice A1 c.parts.length c1, .slice A2 c.wins.length c2, .slice A3 c.chans.length c3] 41)) wr)) (fun _ i _ => c.chans.length - (intOf i).toNat)
          case atStart => exact ⟨0, zc, Nat.zero_le _, rfl, rfl, Lib.hid (by simp), hw⟩
          case round =>
            clear hw f2
            obtain ⟨k, z, hk, rfl, rfl, EZ, hw⟩ := hrel
            have hsz := box_size hw.out
            have hbw := box_below hw.out
            have r2 := box_row hw.out 2
            by_cases hlt : k < c.chans.length
            · have hlc : (k : Int) < (c.chans.length : Int) := by omega
              obtain ⟨g, o, c', e, hg, hcells⟩ := HC.out.cells (by omega)
              cases e
              obtain ⟨d0, d1, d2, d3⟩ := hcells k c.chans[k] (List.getElem?_eq_getElem hlt)
              have hgB : g < w.heap.size := hg
              rw [← hbw.cell (p := ⟨g, o + k * 4, none⟩) hgB] at d0
              rw [← hbw.cell (p := ⟨g, o + k * 4 + 1, none⟩) hgB] at d1
              rw [← hbw.cell (p := ⟨g, o + k * 4 + 2, none⟩) hgB] at d2
              rw [← hbw.cell (p := ⟨g, o + k * 4 + 3, none⟩) hgB] at d3
              obtain ⟨i0, i1, i2, i3⟩ := HO.out.chans c.chans[k] (List.getElem_mem hlt)
              have HS := Lib.hid (take_flat chanL c.chans k hlt)
              have hfl := flat_len chanL 150 (c.chans.take k) (fun x hx => chanL_len (HO.out.chans x (List.mem_of_mem_take hx)))
              rw [List.length_take] at hfl
              have hzl3 : z.length ≤ 25000000400000 := by rw [EZ.out, List.length_append]; omega
              have t0 := itoa_len i0
              have t1 := itoa_len i1
              have t2 := itoa_len i2
              have t3 := itoa_len i3
              clear hcells hg hfl hbw
              generalize c.chans[k] = x at *
              obtain ⟨y1, E1, b1, s1, e1⟩ := catK z [99, 104, 97, 110, 110, 101, 108, 32] (ByteArray.mk #[99, 104, 97, 110, 110, 101, 108, 32]) 8 rfl rfl (by omega)
              obtain ⟨y2, E2, b2, s2, e2⟩ := cat y1 (Lib.itoa x.frm) (by omega)
              obtain ⟨y3, E3, b3, s3, e3⟩ := catK y2 [32] (ByteArray.mk #[32]) 1 rfl rfl (by omega)
              obtain ⟨y4, E4, b4, s4, e4⟩ := cat y3 (Lib.itoa x.out) (by omega)
              obtain ⟨y5, E5, b5, s5, e5⟩ := catK y4 [32] (ByteArray.mk #[32]) 1 rfl rfl (by omega)
              obtain ⟨y6, E6, b6, s6, e6⟩ := cat y5 (Lib.itoa x.tgt) (by omega)
              obtain ⟨y7, E7, b7, s7, e7⟩ := catK y6 [32] (ByteArray.mk #[32]) 1 rfl rfl (by omega)
              obtain ⟨y8, E8, b8, s8, e8⟩ := cat y7 (Lib.itoa x.inn) (by omega)
              obtain ⟨y9, E9, b9, s9, e9⟩ := catK y8 [10] (ByteArray.mk #[10]) 1 rfl rfl (by omega)
              have EY : Hid (y9 = z ++ chanL x) := by
                rw [E9.out, E8.out, E7.out, E6.out, E5.out, E4.out, E3.out, E2.out, E1.out]
                exact Lib.hid (by simp [chanL, wlineL, spacedL])
              clear E1 E2 E3 E4 E5 E6 E7 E8 E9 b1 b2 b3 b4 b5 b6 b7 b8 b9
              clear t0 t1 t2 t3
              go_wp2_with fail
              obtain ⟨wt, rfl⟩ : ∃ x, x = wr := ⟨wr, rfl⟩
              have ha : Below (wt.heap.size + 1) (wt.alloc (.cells #[.int .i64 x.frm, .int .i64 x.out, .int .i64 x.tgt, .int .i64 x.inn] 83)) (wt.alloc (.cells #[.int .i64 x.frm, .int .i64 x.out, .int .i64 x.tgt, .int .i64 x.inn] 83)) := Below.refl _ _
              have a0 := box_row ha 0
              have a1 := box_row ha 1
              have a2 := box_row ha 2
              have a3 := box_row ha 3
              go_region_held3 (fun w' => Below (wt.heap.size + 1) (wt.alloc (.cells #[.int .i64 x.frm, .int .i64 x.out, .int .i64 x.tgt, .int .i64 x.inn] 83)) w' ∧ w'.cell? ⟨wt.heap.size, 0, none⟩ = some (.int .i64 x.frm) ∧ w'.cell? ⟨wt.heap.size, 1, none⟩ = some (.int .i64 x.out) ∧ w'.cell? ⟨wt.heap.size, 2, none⟩ = some (.int .i64 x.tgt) ∧ w'.cell? ⟨wt.heap.size, 3, none⟩ = some (.int .i64 x.inn))
                (((try dsimp only); (try go_split_ands); (with_reducible repeat' apply And.intro); all_goals (first | assumption | exact Below.drew (by assumption) | exact keep_cell (by assumption) (by assumption) | exact keep_below (by assumption) (by simp) (by assumption) | exact keep_below (by assumption) (Nat.le_refl _) (by assumption) | (simp; done) | (simp; rfl) | go_keep)))
                (first | (go_at_call 42; refine (number31_i64 _ (by assumption) _).mono ?_; rintro e w' ⟨rfl, hb⟩) | (go_at_call 43; refine (bit31I_any _ _).mono ?_; rintro e w' ⟨rfl, rfl⟩))
              rename_i hH
              obtain ⟨hB', _, _, _, _⟩ := hH
              have HB' := Lib.hid (hw.out.trans (((Below.refl (w.heap.size + 1) wt).alloc (by omega) _).trans (hB'.mono (by omega))))
              have EN : Hid (y9 = zc ++ (c.chans.take (k + 1)).flatMap chanL) := by
                rw [EY.out, EZ.out, HS.out, List.append_assoc]; exact Lib.hid rfl
              clear s1 s2 s3 s4 s5 s6 s7 s8 s9 e1 e2 e3 e4 e5 e6 e7 e8 e9 hB' ha a0 a1 a2 a3 d0 d1 d2 d3
              go_wp2
              go_roundw
              case rel => exact ⟨k + 1, y9, by omega, by go_num, rfl, EN, HB'⟩
              case measure => simp [intOf]; omega
            · have e : c.chans.take k = c.chans := List.take_of_length_le (by omega)
              have hge : ¬ ((k : Int) < (c.chans.length : Int)) := by omega
              rw [e] at EZ
              rw [← EZ.out] at HPR
              have Hbw := Lib.hid hbw
              clear e hlt EZ hbw r2
              go_wp2
              go_ret2
              exact ⟨congrArg Ending.returned HPR.out.symm, Hbw.out⟩
end Go.Proofs.YtpmafppcccbmaaaDoor
