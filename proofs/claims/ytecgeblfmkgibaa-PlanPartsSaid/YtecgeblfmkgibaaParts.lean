/-
  The walk of PlanParts.
-/
import Derived.Test.YtecgeblfmkgibaaPartsLaw
import Derived.Test.YtecgeblfmkgibaaAwake12
import Derived.Test.YtecgeblfmkgibaaRefPart
import Derived.Test.YtecgeblfmkgibaaFew
import Derived.Deep.DeepCutAuto
set_option linter.unusedVariables false
set_option linter.unusedSimpArgs false
namespace Go.Proofs.Ytecgeblfmkgibaa
open Go.RowKit

theorem belowQ_box {w W : World} {o : Obj} (h : Below (w.heap.size + 1) (w.alloc o) W) : Below w.heap.size w W := ((Below.refl _ _).alloc (Nat.le_refl _) _).trans (h.mono (by omega))
theorem belowQ_next {w W W' : World} {o : Obj} (h : Below (w.heap.size + 1) (w.alloc o) W) (h' : Below W.heap.size W W') : Below (w.heap.size + 1) (w.alloc o) W' := h.trans (h'.mono (by have := h.size; simpa using this))
theorem partWrong_few {P : PartD} (h : partWrong P = 0) : P.thr.length ≤ 6 ∧ P.obj.length ≤ 8 := by
  unfold partWrong at h
  split at h
  · omega
  · split at h
    · omega
    · omega

theorem Try.info_bool : (Try.prog.info? 4).map (fun i => (i.zero, i.size, i.bytes)) = some (some (.bool false), 1, 1) := by kernel_rfl
theorem usedNew (n : Nat) : madeCells #[Value.bool false] n = ((List.replicate n false).map Value.bool).toArray := by
  apply Array.ext'
  apply List.ext_getElem
  · simp [madeCells]
  · intro i h1 h2
    simp [madeCells, Nat.mod_one]
theorem used_none {n a : Nat} (h : (List.replicate n false)[a]? = some true) : False := by
  rw [List.getElem?_replicate] at h
  split at h <;> simp at h
theorem UsedAt.new (w : World) (m : Nat) : UsedAt (w.alloc (.cells (madeCells #[Value.bool false] 600) 4)) w.heap.size m 0 0 :=
  ⟨List.replicate 600 false, by rw [heap_alloc_new, usedNew], List.length_replicate, fun a ha => (used_none ha).elim⟩
theorem UsedAt.free {w : World} {ub m i k : Nat} (h : UsedAt w ub m i k) (j : Nat) : w.frozen? ⟨ub, j, none⟩ = false := by
  obtain ⟨us, h1, _, _⟩ := h
  exact free_of_block h1 j
theorem UsedAt.done {w : World} {ub m i : Nat} (h : UsedAt w ub m i (thingN m i)) : UsedAt w ub m (i + 1) 0 := by
  obtain ⟨us, h1, h2, h3⟩ := h
  exact ⟨us, h1, h2, fun a ha => taken_done m i a (h3 a ha)⟩
theorem UsedAt.lt {w : World} {ub m i k : Nat} (h : UsedAt w ub m i k) : ub < w.heap.size := by
  obtain ⟨us, h1, _, _⟩ := h
  exact lt_of_block h1
set_option maxRecDepth 100000 in
set_option maxHeartbeats 3200000 in
theorem parts_any (P : PartD) (pv : Value) (F : Nat → Prop) (hc : CapsOk P.thr) (w : World) (h : PartAt w F pv P) :
    Calls Try.prog 3 #[pv] w fun e w' => e = .returned (.bool true) ∧ Below w.heap.size w w' := by
  have HFew := Lib.hid (fun (W : World) (hb : Below w.heap.size w W) => fewPart_any P pv F W (h.kept (fun k hk _ => hb.block k hk)))
  have HRef := Lib.hid (fun (W : World) (hb : Below w.heap.size w W) => refPart_any P pv F hc W (h.kept (fun k hk _ => hb.block k hk)))
  have HNo := Lib.hid (fun (hf : fewB P = true) (hw : partWrong P ≠ 0) (W : World) (hb : Below w.heap.size w W) => planOf_no P pv F (fewB_partOk hf hc) hw W (h.kept (fun k hk _ => hb.block k hk)))
  have HYes := Lib.hid (fun (hf : fewB P = true) (hw : partWrong P = 0) (W : World) (hb : Below w.heap.size w W) => planOf_yes P pv F (fewB_partOk hf hc) hw W (h.kept (fun k hk _ => hb.block k hk)))
  obtain ⟨v1, v2, rfl, h1, h2⟩ := h
  obtain ⟨A1, c1, rfl⟩ := h1.slice
  obtain ⟨A2, c2, rfl⟩ := ObjsAt.slice h2
  clear h1 h2 hc
  go_enter Try.func3, Try.ntmps3
  go_wp2_with fail
  go_at_call 15
  refine (awake12_any _).mono ?_
  rintro e w1 ⟨rfl, hb⟩
  simp only [World.size_alloc] at hb
  obtain ⟨p1, p2⟩ := below_cellsT hb
  have Hb1 := Lib.hid hb
  clear hb
  go_wp2_with fail
  go_at_call 16
  refine (HFew.out _ (belowQ_box Hb1.out)).mono ?_
  rintro e w2 ⟨rfl, hb2⟩
  have hb2' := belowQ_next Hb1.out hb2
  obtain ⟨p3, p4⟩ := below_cellsT hb2'
  have Hb2 := Lib.hid hb2'
  clear hb2 hb2' HFew p1 p2
  cases hf : fewB P with
  | false =>
    clear HNo HYes hf
    go_wp2_with fail
    go_at_call 15
    refine (awake12_any _).mono ?_
    rintro e w3 ⟨rfl, hb3⟩
    have Hb3 := Lib.hid (belowQ_next Hb2.out hb3)
    clear hb3
    go_wp2
    go_ret
    exact ⟨rfl, belowQ_box Hb3.out⟩
  | true =>
    by_cases hw : partWrong P = 0
    · have HY := Lib.hid (HYes.out hf hw)
      have q6 := partWrong_few hw
      rw [hw] at HRef
      clear HNo HYes hf hw
      go_wp2_with fail
      go_at_call 17
      refine (HY.out _ (belowQ_box Hb2.out)).mono ?_
      rintro e w3 ⟨pv, rfl, hP, hb3⟩
      have hP0 := hP
      obtain ⟨sT, sO, u1, u2, rfl, g1, g2, g3⟩ := hP
      obtain ⟨B1, d1, e1⟩ := g1.slice
      obtain ⟨B2, d2, e2⟩ := g2.slice
      obtain ⟨x1, x2, e0, g5, g6⟩ := g3
      cases e0
      obtain ⟨B3, d3, rfl⟩ := g5.slice
      obtain ⟨B4, d4, rfl⟩ := ObjsAt.slice g6
      rw [thAts_length] at e1
      rw [obAts_length] at e2
      subst e1 e2
      have HT := Lib.hid (fun (W : World) (hb : Below w3.heap.size w3 W) => things_any P q6 _ _ W (hP0.kept (fun k hk _ => hb.block k hk)))
      have hb3' := belowQ_next Hb2.out hb3
      obtain ⟨p1, p2⟩ := below_cellsT hb3'
      have hsz : w.heap.size < w3.heap.size := by have := hb3'.size; simp at this; omega
      have Hb3 := Lib.hid hb3'
      clear hb3 hb3' hP0 g1 g2 g5 g6 HY p3 p4
      obtain ⟨q6a, q6b⟩ := q6
      have hpw : (planWords P : Int) ≤ 387 := by unfold planWords; omega
      simp only [planArr] at HT ⊢
      go_wp2_with fail
      go_at_call 18
      refine (HRef.out _ ((belowQ_box Hb3.out).alloc (belowQ_box Hb3.out).size _)).mono ?_
      rintro e w4 ⟨rfl, hb4⟩
      simp only [World.size_alloc] at hb4
      obtain ⟨p5, p6⟩ := below_cells hb4 (b := w3.heap.size) (by omega) (heap_alloc_new w3 _)
      have hb34 : Below w3.heap.size w3 w4 := ((Below.refl _ _).alloc (Nat.le_refl _) _).trans (hb4.mono (by omega))
      have hb4w := belowQ_next Hb3.out hb34
      obtain ⟨p7, p8⟩ := below_cellsT hb4w
      have HT4 := Lib.hid (HT.out w4 hb34)
      have lpl : w3.heap.size < w4.heap.size := by have := hb4.size; simp at this; omega
      have Hb4 := Lib.hid (belowQ_box hb4w)
      have hpl : w4.heap[w3.heap.size]? = _ := (hb4.block _ (by omega)).trans (heap_alloc_new w3 _)
      have Hpl := Lib.hid hpl
      have hsz4 : w.heap.size < w4.heap.size := by omega
      clear hb4 hb34 hb4w HT hpl p1 p2 HRef
      go_wp2_with fail
      go_at_call 19
      refine HT4.out.mono ?_
      rintro e w5 ⟨t1, t2, rfl, ha, hn, hb5⟩
      obtain ⟨b1, o1, z1, rfl, _, hc1⟩ := ha.cell (by simp [atFirst])
      obtain ⟨b2, o2, z2, rfl, _, hc2⟩ := hn.cell (by simp [manyFirst])
      have hl1 : (atFirst ++ thAts P.thr.length ++ obAts P.thr.length P.obj.length).length = 9 + P.thr.length + P.obj.length := by simp [atFirst, thAts_length, obAts_length]; omega
      have hl2 : (manyFirst P.obj.length ++ List.replicate (P.thr.length + P.obj.length) 24).length = 9 + P.thr.length + P.obj.length := by simp [manyFirst]; omega
      rw [hl1, hl2]
      have Hc1 := Lib.hid (fun i hi => hc1 i _ (things_get P.thr.length P.obj.length i hi))
      have Hc2 := Lib.hid (fun i hi => hc2 i _ (manys_get P.thr.length P.obj.length i hi))
      have hpl5 := cell_of_block ((hb5.block _ lpl).trans Hpl.out)
      have r11 := hpl5 11
      simp only [List.getElem?_toArray, List.getElem?_cons_succ, List.getElem?_cons_zero] at r11
      have Hb5 := Lib.hid (Hb4.out.trans (hb5.mono Hb4.out.size))
      have lp5 : w3.heap.size < w5.heap.size := by have := hb5.size; omega
      clear ha hn hc1 hc2 hl1 hl2 hpl5 hb5 p5 p6 p7 p8 HT4 Hpl
      have hmk : ∀ w : World, (Instr.makeSlice 38 (.int .i64 600) (.int .i64 600)).run Try.prog w = .ok (.slice (some ⟨w.heap.size, 0, none⟩) 600 600) (w.alloc (.cells (madeCells #[.bool false] 600) 4)) := fun w => run_make_row' (P := Try.prog) 38 4 (.bool false) 1 Try.underlying38 Try.info_bool rfl .i64 .i64 600 (by omega) (by omega) w
      have U0 := Lib.hid (UsedAt.new w5 P.obj.length)
      go_wp2
      clear hmk
      have hT : 9 + P.thr.length + P.obj.length ≤ 23 := by omega
      have lo1 : b1 < w5.heap.size := World.block_lt_of_cell? w5 _ (Hc1.out 0 (by omega))
      have lo2 : b2 < w5.heap.size := World.block_lt_of_cell? w5 _ (Hc2.out 0 (by omega))
      have R11 := Lib.hid r11
      clear r11
      go_loopw [8, 9, 10, 77] (fun _ _ _ i wr => ∃ k : Nat, k ≤ 9 + P.thr.length + P.obj.length ∧ i = .int .i64 k ∧ Below w5.heap.size w5 wr ∧ UsedAt wr w5.heap.size P.obj.length k 0) (fun _ _ _ i _ => 9 + P.thr.length + P.obj.length - (intOf i).toNat)
      case atStart => exact ⟨0, Nat.zero_le _, rfl, (Below.refl _ _).alloc (Nat.le_refl _) _, U0.out⟩
      case round =>
        clear U0
        obtain ⟨k, hk, rfl, hb, hu⟩ := hrel
        by_cases hlt : k < 9 + P.thr.length + P.obj.length
        · have e2 : wr.cell? ⟨b2, o2 + k, none⟩ = some (.int .i64 (thingN P.obj.length k : Nat)) := by
            rw [hb.cell (p := ⟨b2, o2 + k, none⟩) lo2]; exact Hc2.out k hlt
          have hlc : (k : Int) < ((9 + P.thr.length + P.obj.length : Nat) : Int) := by omega
          have hin := thing_in P.thr.length P.obj.length k q6b hlt
          have hpw2 : planWords P = 51 + 24 * (P.thr.length + P.obj.length) := rfl
          have Hpw2 := Lib.hid hpw2
          have Hb := Lib.hid hb
          have Hu := Lib.hid hu
          have hin2 : thingAt k + thingN P.obj.length k ≤ 387 := by omega
          obtain ⟨wo, rfl⟩ : ∃ wo : World, wo = wr := ⟨_, rfl⟩
          clear hb hu hpw2
          go_wp2
          have hd78 : decide ((k : Int) < 9 + (P.thr.length : Int) + (P.obj.length : Int)) = true := by
            rw [decide_eq_true_eq]
            omega
          simp only [hd78]
          have Hlt := Lib.hid hlt
          clear hd78
          clear e2 hlt hlc
          go_loopw [9, 10, 84] (fun _ _ i wr => ∃ j : Nat, j ≤ thingN P.obj.length k ∧ i = .int .i64 j ∧ Below w5.heap.size w5 wr ∧ UsedAt wr w5.heap.size P.obj.length k j) (fun _ _ i _ => thingN P.obj.length k - (intOf i).toNat)
          case atStart => exact ⟨0, Nat.zero_le _, rfl, Hb.out, Hu.out⟩
          case round =>
            clear Hb Hu
            obtain ⟨j, hj, rfl, hb, hu⟩ := hrel
            by_cases hlt2 : j < thingN P.obj.length k
            · have e1 : wr.cell? ⟨b1, o1 + k, none⟩ = some (.int .i64 (thingAt k : Nat)) := by
                rw [hb.cell (p := ⟨b1, o1 + k, none⟩) lo1]; exact Hc1.out k Hlt.out
              have e3 : wr.cell? ⟨w3.heap.size, 11, none⟩ = some (.int .i64 (planWords P : Nat)) := by
                rw [hb.cell (p := ⟨w3.heap.size, 11, none⟩) lp5]; exact R11.out
              have hlc2 : (j : Int) < (thingN P.obj.length k : Int) := by omega
              have e4 := hu.cell q6b hlt2 (by omega)
              have e5 := hu.free (thingAt k + j)
              have hwl : ((thingAt k : Nat) : Int) + (j : Int) < (planWords P : Int) := by have := Hpw2.out; omega
              have h600 : ((thingAt k : Nat) : Int) + (j : Int) < 600 := by omega
              have lub := hu.lt
              have Hb := Lib.hid hb
              have Hu := Lib.hid hu
              clear hb hu
              go_wp2
              go_roundw
              case rel => exact ⟨j + 1, by omega, by go_num, Hb.out.setCell (Nat.le_refl _) _, Hu.out.put⟩
              case measure => simp [intOf]; omega
            · have hjn : j = thingN P.obj.length k := by omega
              subst hjn
              have Hb := Lib.hid hb
              have Hu := Lib.hid hu
              clear hb hu
              go_wp2
              go_roundw
              case rel => exact ⟨k + 1, by omega, by go_num, Hb.out, Hu.out.done⟩
              case measure => simp [intOf]; omega
        · have Hb := Lib.hid hb
          clear hb hu
          go_wp2
          go_ret
          exact ⟨rfl, Hb5.out.trans (Hb.out.mono Hb5.out.size)⟩
    · have HN := Lib.hid (HNo.out hf hw)
      clear HNo HYes hf
      have hne : (partWrong P != 0) = true := by rw [bne_iff_ne]; exact hw
      clear hw
      generalize partWrong P = r at *
      unfold zeroPlan at HN
      go_wp2_with fail
      go_at_call 17
      refine (HN.out _ (belowQ_box Hb2.out)).mono ?_
      rintro e w3 ⟨rfl, hb3⟩
      have hb3' := belowQ_next Hb2.out hb3
      obtain ⟨p1, p2⟩ := below_cellsT hb3'
      have hsz : w.heap.size < w3.heap.size := by have := hb3'.size; simp at this; omega
      have Hb3 := Lib.hid hb3'
      clear hb3 hb3' p3 p4
      go_wp2_with fail
      go_at_call 18
      refine (HRef.out _ ((belowQ_box Hb3.out).alloc (belowQ_box Hb3.out).size _)).mono ?_
      rintro e w4 ⟨rfl, hb4⟩
      simp only [World.size_alloc] at hb4
      obtain ⟨p5, p6⟩ := below_cells hb4 (b := w3.heap.size) (by omega) (heap_alloc_new w3 _)
      have Hend := Lib.hid (((belowQ_box Hb3.out).alloc (belowQ_box Hb3.out).size _).trans (hb4.mono (by omega)))
      clear hb4
      go_wp2
      go_ret
      exact ⟨rfl, Hend.out⟩
end Go.Proofs.Ytecgeblfmkgibaa
