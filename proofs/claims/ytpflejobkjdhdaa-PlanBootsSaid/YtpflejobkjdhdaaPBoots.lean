/-
  The walk of PlanBoots.
-/
import Derived.Test.YtpflejobkjdhdaaNew13
import Derived.Test.YtpflejobkjdhdaaPBLaw
import Derived.Test.YtpflejobkjdhdaaAwake12
import Derived.Test.YtpflejobkjdhdaaPartIn
set_option linter.unusedVariables false
set_option linter.unusedSimpArgs false
namespace Go.Proofs.Ytpflejobkjdhdaa
open Go.RowKit

/-- The queue of a model that lies in memory. -/
theorem ModelAt.queue {w : World} {B mb : Nat} {S : Nat → Prop} {M : MD} (h : ModelAt w B S mb M) : ∃ F, QRef w F mb 4 M.q ∧ ∀ k, F k → k < w.heap.size := by
  obtain ⟨F, sT, sO, vT, vO, q, vm, h⟩ := h
  exact ⟨F, fun p hp => ⟨q p, (cell_of_block h.blk _).trans (modelCells_q _ _ _ _ _ _ _ _ hp), h.que p hp⟩, fun k hk => (h.low k hk).1⟩
theorem rdM_get (m : Mem) (k : Nat) (h : k < m.length) : (encInts m)[k]? = some (.int .i64 (rdM m k)) := by
  unfold rdM
  rw [if_pos (by omega), Int.toNat_natCast]
  simp only [encInts, List.getElem?_map, List.getElem?_eq_getElem h, List.getD_eq_getElem?_getD]
  rfl
/-- Words that are read, one by one. -/
theorem IntsAt.word {w : World} {F : Nat → Prop} {v : Value} {m : Mem} (h : IntsAt w F v m) (hn : 0 < m.length) : ∃ b o c, v = .slice (some ⟨b, o, none⟩) m.length c ∧ F b ∧ b < w.heap.size ∧ ∀ k : Nat, k < m.length → w.cell? ⟨b, o + k, none⟩ = some (.int .i64 (rdM m k)) := by
  obtain ⟨b, o, c, e, hF, hc⟩ := IntsAt.cells h hn
  have h0 := hc 0 m[0] (List.getElem?_eq_getElem hn)
  refine ⟨b, o, c, e, hF, World.block_lt_of_cell? w _ h0, fun k hk => ?_⟩
  have h1 := hc k m[k] (List.getElem?_eq_getElem hk)
  have h2 : rdM m k = m[k] := by unfold rdM; rw [if_pos (by omega), Int.toNat_natCast, List.getD_eq_getElem?_getD, List.getElem?_eq_getElem hk]; rfl
  rw [h2]; exact h1

set_option maxRecDepth 100000 in
set_option maxHeartbeats 4000000 in
theorem pboots_any (P : PartD) (pv : Value) (F0 : Nat → Prop) (hc : CapsOk P.thr) (w : World) (h0 : PartAt w F0 pv P) :
    Calls Try.prog 3 #[pv] w fun e w' => e = .returned (.bool true) ∧ Below w.heap.size w w' := by
  obtain ⟨F, hFl, h⟩ : ∃ F : Nat → Prop, (∀ k, F k → k < w.heap.size) ∧ PartAt w F pv P := ⟨_, fun k hk => hk.2, h0.inn⟩
  clear h0
  have HFew := Lib.hid (fun (W : World) (hb : Below w.heap.size w W) => fewPart_any P pv F W (h.kept (fun k hk _ => hb.block k hk)))
  have HNo := Lib.hid (fun (hf : fewB P = true) (hw : partWrong P ≠ 0) (W : World) (hb : Below w.heap.size w W) => planOf_no P pv F (fewB_partOk hf hc) hw W (h.kept (fun k hk _ => hb.block k hk)))
  have HYes := Lib.hid (fun (hf : fewB P = true) (hw : partWrong P = 0) (W : World) (hb : Below w.heap.size w W) => planOf_yes P pv F (fewB_partOk hf hc) hw W (h.kept (fun k hk _ => hb.block k hk)))
  have HPA := Lib.hid h
  have HFL := Lib.hid hFl
  obtain ⟨v1, v3, rfl, h1, h2⟩ := h
  obtain ⟨A1, c1, rfl⟩ := h1.slice
  obtain ⟨A2, c2, rfl⟩ := ObjsAt.slice h2
  clear h1 h2 hc hFl
  go_enter Try.func3, Try.ntmps3
  go_wp2_with fail
  go_at_call 10
  refine (awake12_any _).mono ?_
  rintro e w1 ⟨rfl, hb⟩
  simp only [World.size_alloc] at hb
  obtain ⟨p1, p2⟩ := box_cells hb
  have Hb1 := Lib.hid hb
  clear hb
  go_wp2_with fail
  go_at_call 11
  refine (HFew.out _ (below_box Hb1.out)).mono ?_
  rintro e w2 ⟨rfl, hb2⟩
  have hb2' := below_next Hb1.out hb2
  obtain ⟨p3, p4⟩ := box_cells hb2'
  have Hb2 := Lib.hid hb2'
  clear hb2 hb2' HFew p1 p2
  cases hf : fewB P with
  | false =>
    clear HNo HYes hf
    go_wp2_with fail
    go_at_call 10
    refine (awake12_any _).mono ?_
    rintro e w3 ⟨rfl, hb3⟩
    have Hb3 := Lib.hid (below_next Hb2.out hb3)
    clear hb3
    go_wp2
    go_ret
    exact ⟨rfl, below_box Hb3.out⟩
  | true =>
    by_cases hw : partWrong P = 0
    · have HY := Lib.hid (HYes.out hf hw)
      obtain ⟨q6, q1, q8, qp, qo⟩ := partRight hw
      have QP := Lib.hid qp
      have HPO := Lib.hid (poolSize hw)
      have QO := Lib.hid qo
      clear HNo HYes hf hw qp qo
      go_wp2_with fail
      go_at_call 12
      refine (HY.out _ (below_box Hb2.out)).mono ?_
      rintro e w3 ⟨pv, rfl, hP, hb3⟩
      replace hP := hP.inn
      have hP0 := hP
      obtain ⟨sT, sO, u1, u2, rfl, g1, g2, g3⟩ := hP
      obtain ⟨B1, d1, e1⟩ := g1.slice
      obtain ⟨B2, d2, e2⟩ := g2.slice
      obtain ⟨x1, x2, e0, g5, g6⟩ := g3
      cases e0
      obtain ⟨B3, d3, rfl⟩ := g5.slice
      obtain ⟨B4, d4, rfl⟩ := ObjsAt.slice g6
      rw [thAts_length] at e1
      rw [obAts_length] at e2
      subst e1 e2
      have HP := Lib.hid hP0
      have hb3' := below_next Hb2.out hb3
      obtain ⟨p1, p2⟩ := box_cells hb3'
      have hsz : w.heap.size < w3.heap.size := by have := hb3'.size; rw [World.size_alloc] at this; omega
      have Hb3 := Lib.hid hb3'
      clear hb3 hb3' hP0 g1 g2 g5 g6 HY p3 p4
      simp only [planArr] at HP ⊢
      obtain ⟨w4, hW4⟩ : ∃ x, x = w3.alloc (.cells #[.int .i64 0, .int .i64 2, .int .i64 4, .int .i64 3, .int .i64 5, .int .i64 6, .int .i64 8, .int .i64 41, .int .i64 43, .slice B1 P.thr.length d1, .slice B2 P.obj.length d2, .int .i64 (planWords P), .slice B3 P.thr.length d3, .slice B4 P.obj.length d4] 31) := ⟨_, rfl⟩
      have hs4 : w3.heap.size + 1 ≤ w4.heap.size ∧ w4.heap.size ≤ w3.heap.size + 1 := by rw [hW4, World.size_alloc]; omega
      have hq4 : w4.heap[w3.heap.size]? = some (.cells #[.int .i64 0, .int .i64 2, .int .i64 4, .int .i64 3, .int .i64 5, .int .i64 6, .int .i64 8, .int .i64 41, .int .i64 43, .slice B1 P.thr.length d1, .slice B2 P.obj.length d2, .int .i64 (planWords P), .slice B3 P.thr.length d3, .slice B4 P.obj.length d4] 31 (0, 0)) := by rw [hW4]; exact heap_alloc_new _ _
      have HP4 := Lib.hid (HP.out.kept (w' := w4) (fun k hk hF => by rw [hW4]; exact Below.heap_alloc _ _ _ hk))
      have hbx : Below (w.heap.size + 1) (w.alloc (.cells #[.slice A1 P.thr.length c1, .slice A2 P.obj.length c2] 25)) w4 := by
        rw [hW4]; exact Hb3.out.alloc (by have := Hb3.out.size; rw [World.size_alloc] at this; exact this) _
      have HBX := Lib.hid hbx
      have HQ4 := Lib.hid hq4
      have HW4 := Lib.hid hW4
      have hlaw := Lib.hid (bootM_at P q6 q8 QP.out)
      clear hbx hW4
      go_wp2_with fail
      rw [← HW4.out]
      go_at_call 13
      refine (planBoot_any P _ _ q6 q8 QP.out QO.out w4 HP4.out).mono ?_
      rintro e w5 ⟨mb, wb, rfl, hm, hb5, lm, lw⟩
      have HM5 := Lib.hid hm
      have HB5 := Lib.hid hb5
      have r5 := row_of ((hb5.block w3.heap.size (by omega)).trans HQ4.out)
      have s5 := hb5.size
      have z5 : w3.heap.size < w5.heap.size := by omega
      have hlen := bootM_length P
      have HLEN : Hid ((bootM P).length = planWords P) := Lib.hid hlen
      have hln : ∀ n, Calls Try.prog 14 #[.pointer (some ⟨mb, 0, none⟩)] (w5.drewN n) fun e w' => e = .returned (.int .i64 (bootM P).length) ∧ w' = w5.drewN n := fun n => (len_any mb wb (bootM P) (w5.drewN n) (hm.kept rfl rfl)).mono (fun e w' h => ⟨h.1, h.2.symm⟩)
      have HLN := Lib.hid hln
      clear hm hb5 hq4 p1 p2 hln
      rw [hlen] at HLN
      clear hlen
      go_wp2_with fail
      go_quiet ((go_at_call 14; exact Calls.quiet_of_same (HLN.out _)))
      clear HLN
      go_wp2_with fail
      go_at_call 15
      refine (mwords_any mb wb (bootM P) (w5.drewN nq) (MemAt.kept (w := w5) HM5.out rfl rfl)).mono ?_
      rintro e w6 ⟨lv, rfl, hl6, hb6⟩
      have hb56 : Below w5.heap.size w5 w6 := ⟨hb6.os, hb6.tape, hb6.output, hb6.size, hb6.block⟩
      have HPW : Hid (planWords P = 51 + 24 * (P.thr.length + P.obj.length)) := Lib.hid rfl
      have hpw : 51 + P.obj.length ≤ planWords P := by have := HPW.out; omega
      have hpw2 : planWords P ≤ 4000 := by have := HPW.out; omega
      obtain ⟨bl, ol, cl, rfl, hbl, hbl6, hlw⟩ := hl6.word (by rw [HLEN.out]; omega)
      rw [HLEN.out] at hlw ⊢
      have HLW := Lib.hid hlw
      have h46 : Below w4.heap.size w4 w6 := HB5.out.trans (hb56.mono s5)
      have HB6 := Lib.hid h46
      have r6 := row_of ((h46.block w3.heap.size (by omega)).trans HQ4.out)
      have s6 := h46.size
      have z6 : w3.heap.size < w6.heap.size := by omega
      have r1 := (box_cells (HBX.out.trans (h46.mono (by omega)))).1
      have x1 : w.heap.size < w6.heap.size := by omega
      have hN := fun (n : Nat) => new13_any P _ F (by omega) (by omega) QP.out HPO.out (w6.drewN n) (fun k hk => Nat.lt_of_lt_of_le (HFL.out k hk) (by show w.heap.size ≤ w6.heap.size; omega)) (HPA.out.kept (fun k hk _ => (h46.block k (by omega)).trans ((HBX.out.block k (by omega)).trans (Below.heap_alloc _ _ _ hk))))
      have HN := Lib.hid hN
      clear hl6 hb6 hb56 h46 hlw hN r5
      go_wp2_with fail
      go_at_call 16
      refine (HN.out 0).mono ?_
      rintro e w7 ⟨rfl, hM, hb7⟩
      obtain ⟨FQ, hQ, hFQ⟩ := hM.queue
      have hqm : ∀ p, p < 16 → ((model0 P).q p).length ≤ 1000 := fun p _ => by have := qlist_len P.thr 0 (fun _ => []) p 0 (by simp); show (qlist P.thr 0 (fun _ => []) p).length ≤ 1000; omega
      have hbb := best_any 2 (by omega) [] (by simp) (.slice none 0 0) (model0 P).q hqm FQ (w6.heap.size + 1) w7 hQ hFQ (nil_ints _ _)
      have HBB := Lib.hid hbb
      have hb67 : Below w6.heap.size w6 w7 := hb7
      have HB7 := Lib.hid hb67
      clear hM hQ hFQ hqm hbb hb67 hb7 HN r1 r6
      go_wp2_with fail
      go_at_call 17
      refine HBB.out.mono ?_
      rintro e w8 ⟨bv, rfl, hbo, hb8⟩
      have e8 : bestR 2 [] (orderR (model0 P).q) = bootBest P := best_boot P
      rw [e8] at hbo
      have hbi := ownsRow_ints hbo
      obtain ⟨Ab, cb, rfl⟩ := hbi.slice
      have s7 := HB7.out.size
      have s8 := hb8.size
      have h68 : Below w6.heap.size w6 w8 := HB7.out.trans (hb8.mono s7)
      have HBI := Lib.hid hbi
      have r8 := row_of ((h68.block w3.heap.size (by omega)).trans ((HB6.out.block w3.heap.size (by omega)).trans HQ4.out))
      have z8 : w3.heap.size < w8.heap.size := by omega
      have lw8 : ∀ k : Nat, k < planWords P → w8.cell? ⟨bl, ol + k, none⟩ = some (.int .i64 (rdM (bootM P) k)) := fun k hk => (h68.cell (p := ⟨bl, ol + k, none⟩) hbl6).trans (HLW.out k hk)
      have LW8 := Lib.hid lw8
      have HFin : Hid (Below w.heap.size w w8) := Lib.hid ((((Below.refl _ _).alloc (Nat.le_refl _) _).trans (HBX.out.mono (by omega))).trans ((HB6.out.mono (by omega)).trans (h68.mono (by omega))))
      have zl8 : bl < w8.heap.size := by omega
      clear e8 hbo hbi hb8 h68 lw8 HBB
      go_wp2
      go_loop [8, 9, 38] (fun _ _ i => ∃ k : Nat, k ≤ 2 ∧ i = .int .i64 k) (fun _ _ i => 2 - (intOf i).toNat)
      case atStart => exact ⟨0, by omega, rfl⟩
      case round =>
        obtain ⟨k, hk, rfl⟩ := hrel
        by_cases hlt : k < 2
        · obtain rfl | rfl : k = 0 ∨ k = 1 := by omega
          · have hcv := coreV_best P 0 (by omega)
            have h0 : rdM (bootM P) 3 = coreV P.thr.length (bootOrd P) 0 := hlaw.out.core0
            have hi0 : rdM (bootM P) 2 = 0 := hlaw.out.low 2 (by omega) (by omega) (by omega)
            have l1 := LW8.out 3 (by omega)
            have l2 := LW8.out 2 (by omega)
            rw [show ((3 : Nat) : Int) = 3 from rfl, h0, hcv] at l1
            rw [show ((2 : Nat) : Int) = 2 from rfl, hi0] at l2
            cases hbc : (bootBest P)[0]? with
            | some x =>
              rw [hbc] at l1
              dsimp only at l1
              obtain ⟨x0, x1⟩ := bootBest_range P hbc
              have hl := (List.getElem?_eq_some_iff.1 hbc).1
              obtain ⟨bb, ob, cb', eb, _, hcb⟩ := IntsAt.cells HBI.out (by omega)
              cases eb
              have l3 : w8.cell? ⟨bb, ob, none⟩ = some (.int .i64 x) := hcb 0 x hbc
              clear h0 hi0 hcv hcb hbc
              have hlc : (0 : Int) < ((bootBest P).length : Int) := by omega
              have hd1 : decide (0 < (bootBest P).length) = true := by simpa using hl
              have hbb : bb < w8.heap.size := World.block_lt_of_cell? w8 _ l3
              go_wp2
              go_round
              case rel => exact ⟨1, by omega, by go_num⟩
              case measure => simp [intOf]
            | none =>
              rw [hbc] at l1
              dsimp only at l1
              have hl := List.getElem?_eq_none_iff.1 hbc
              clear h0 hi0 hcv hbc
              have hlc : ¬ ((0 : Int) < ((bootBest P).length : Int)) := by omega
              have hd1 : decide (0 < (bootBest P).length) = false := by simpa using hl
              go_wp2
              go_round
              case rel => exact ⟨1, by omega, by go_num⟩
              case measure => simp [intOf]
          · have hcv := coreV_best P 1 (by omega)
            have h0 : rdM (bootM P) 5 = coreV P.thr.length (bootOrd P) 1 := hlaw.out.core1
            have hi0 : rdM (bootM P) 4 = 0 := hlaw.out.low 4 (by omega) (by omega) (by omega)
            have l1 := LW8.out 5 (by omega)
            have l2 := LW8.out 4 (by omega)
            rw [show ((5 : Nat) : Int) = 5 from rfl, h0, hcv] at l1
            rw [show ((4 : Nat) : Int) = 4 from rfl, hi0] at l2
            cases hbc : (bootBest P)[1]? with
            | some x =>
              rw [hbc] at l1
              dsimp only at l1
              obtain ⟨x0, x1⟩ := bootBest_range P hbc
              have hl := (List.getElem?_eq_some_iff.1 hbc).1
              obtain ⟨bb, ob, cb', eb, _, hcb⟩ := IntsAt.cells HBI.out (by omega)
              cases eb
              have l3 : w8.cell? ⟨bb, ob + 1, none⟩ = some (.int .i64 x) := hcb 1 x hbc
              clear h0 hi0 hcv hcb hbc
              have hlc : (1 : Int) < ((bootBest P).length : Int) := by omega
              have hd1 : decide (1 < (bootBest P).length) = true := by simpa using hl
              have hbb : bb < w8.heap.size := World.block_lt_of_cell? w8 _ l3
              go_wp2
              go_round
              case rel => exact ⟨2, by omega, by go_num⟩
              case measure => simp [intOf]
            | none =>
              rw [hbc] at l1
              dsimp only at l1
              have hl := List.getElem?_eq_none_iff.1 hbc
              clear h0 hi0 hcv hbc
              have hlc : ¬ ((1 : Int) < ((bootBest P).length : Int)) := by omega
              have hd1 : decide (1 < (bootBest P).length) = false := by simpa using hl
              go_wp2
              go_round
              case rel => exact ⟨2, by omega, by go_num⟩
              case measure => simp [intOf]
        · obtain rfl : k = 2 := by omega
          go_wp2
          go_loop [10, 73] (fun _ i => ∃ k : Nat, k ≤ P.obj.length ∧ i = .int .i64 k) (fun _ i => P.obj.length - (intOf i).toNat)
          case atStart => exact ⟨0, by omega, rfl⟩
          case round =>
            obtain ⟨k, hk2, rfl⟩ := hrel
            by_cases hlt2 : k < P.obj.length
            · have hlc : (k : Int) < (P.obj.length : Int) := by omega
              have l1 := LW8.out (43 + k) (by omega)
              have l0 : rdM (bootM P) ((43 + k : Nat) : Int) = 0 := hlaw.out.low _ (by omega) (by omega) (by omega)
              rw [l0] at l1
              have t2 : (43 + (k : Int)).toNat = 43 + k := by omega
              have t3 : (43 + (k : Int)) < ((planWords P : Nat) : Int) := by omega
              clear l0
              go_wp2
              go_round
              case rel => exact ⟨k + 1, by omega, by go_num⟩
              case measure => simp [intOf]; omega
            · have l1 := LW8.out 0 (by omega)
              have l2 := LW8.out 1 (by omega)
              have l3 := LW8.out 6 (by omega)
              have l4 := LW8.out 7 (by omega)
              rw [show rdM (bootM P) ((0 : Nat) : Int) = 0 from hlaw.out.low _ (by omega) (by omega) (by omega), Nat.add_zero] at l1
              rw [show rdM (bootM P) ((1 : Nat) : Int) = 0 from hlaw.out.low _ (by omega) (by omega) (by omega)] at l2
              rw [show rdM (bootM P) ((6 : Nat) : Int) = 0 from hlaw.out.low _ (by omega) (by omega) (by omega)] at l3
              rw [show rdM (bootM P) ((7 : Nat) : Int) = 0 from hlaw.out.low _ (by omega) (by omega) (by omega)] at l4
              have hge : ¬ ((k : Int) < (P.obj.length : Int)) := by omega
              have i0 : (0 : Int) < ((planWords P : Nat) : Int) := by omega
              have i1 : (1 : Int) < ((planWords P : Nat) : Int) := by omega
              have i6 : (6 : Int) < ((planWords P : Nat) : Int) := by omega
              have i7 : (7 : Int) < ((planWords P : Nat) : Int) := by omega
              go_wp2
              go_ret
              exact ⟨rfl, HFin.out⟩
    · have HN := Lib.hid (HNo.out hf hw)
      clear HNo HYes hf hw
      unfold zeroPlan at HN
      go_wp2_with fail
      go_at_call 12
      refine (HN.out _ (below_box Hb2.out)).mono ?_
      rintro e w3 ⟨rfl, hb3⟩
      have Hb3 := Lib.hid (below_next Hb2.out hb3)
      clear hb3
      go_wp2
      go_ret
      refine ⟨rfl, ?_⟩
      exact Below.alloc (below_box Hb3.out) (below_box Hb3.out).size _
end Go.Proofs.Ytpflejobkjdhdaa
