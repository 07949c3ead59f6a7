/-
  The walk of PortOrder.
-/
import Derived.Test.YtpidlgmigmbbbaaAwake23
import Derived.Test.YtpidlgmigmbbbaaSegR
import Derived.Lib.MinMax
import Derived.Deep.DeepCutAuto
set_option linter.unusedVariables false
set_option linter.unusedSimpArgs false
namespace Go.Proofs.Ytpidlgmigmbbbaa
open Go.RowKit

set_option maxRecDepth 100000 in
set_option maxHeartbeats 8000000 in
theorem portOrder_any (a b : Int) (ha : 0 ≤ a ∧ a ≤ 255) (hb : 0 ≤ b ∧ b ≤ 255) (lv : Value) (F0 : Nat → Prop) (l : List Int) (hl64 : ∀ x ∈ l, I64 x) (w : World) (h0 : IntsAt w F0 lv l) :
    Calls Try.prog 3 #[.int .u8 a, .int .u8 b, lv] w fun e w' => e = .returned (.bool true) ∧ Below w.heap.size w w' := by
  obtain ⟨A, cap, rfl⟩ := h0.slice
  have HL := Lib.hid h0
  have HL64 := Lib.hid hl64
  obtain ⟨a0, a1⟩ := ha
  obtain ⟨b0, b1⟩ := hb
  clear h0 hl64
  by_cases hlen : l.length ≤ 16
  · go_enter Try.func3, Try.ntmps3
    go_wp2_with fail
    go_at_call 9
    refine (awake23_any _).mono ?_
    rintro e w1 ⟨rfl, hb1⟩
    have HB1 := Lib.hid hb1
    clear hb1
    go_wp2_with fail
    have hca : 1 ≤ 1 + a % 16 ∧ 1 + a % 16 ≤ 16 := by omega
    have hda : 1 ≤ 1 + b % 16 ∧ 1 + b % 16 ≤ 16 := by omega
    generalize 1 + a % 16 = ca at *
    generalize 1 + b % 16 = da at *
    obtain ⟨c, rfl⟩ : ∃ c : Nat, ca = c := ⟨ca.toNat, by omega⟩
    obtain ⟨d, rfl⟩ : ∃ d : Nat, da = d := ⟨da.toNat, by omega⟩
    obtain ⟨c0, c1⟩ := hca
    obtain ⟨d0, d1⟩ := hda
    refine (newBench_yes (portPart c d) _ _ (portPart_ok c d) (portPart_right c d c0 c1 d0 d1) _ (portPart_at w1 c d)).mono ?_
    rintro e wB ⟨F, S, bb, mb, wb, md, sT, sO, v1, v2, rfl, hB, hb2⟩
    obtain ⟨pb, ps⟩ := portPart_b c0 c1 d0 d1 hB
    have hbw : Below w.heap.size w wB := (HB1.out.trans ((((Below.refl _ _).alloc (Nat.le_refl _) _).alloc (by simp) _).mono HB1.out.size)).trans (hb2.mono (by have := HB1.out.size; simp <;> omega))
    have PB := Lib.hid pb
    have PS := Lib.hid ps
    have HBW := Lib.hid hbw
    have hbase := hB.base
    simp only [World.size_alloc] at hbase
    have hwb : w.heap.size < wb := by have := HB1.out.size; omega
    have HKL := Lib.hid (fun (W : World) (hc : ChgO (some wb) wB W) => (IntsAt.kept (fun k hk _ => (hc.block k (by have := hbw.size; omega) (fun e => by cases e; omega)).trans (hbw.block k hk)) HL.out : IntsAt W F0 (.slice A l.length cap) l))
    have HEND := Lib.hid (fun (W : World) (hc : ChgO (some wb) wB W) => (hbw.trans ⟨hc.os, hc.tape, hc.output, hc.size, fun j hj => hc.block j (by have := hbw.size; omega) (fun e => by cases e; omega)⟩ : Below w.heap.size w W))
    clear hB hb2 hbw pb ps HB1 hbase
    go_wp2
    go_loopw [51] (fun x wr => ∃ i : Nat, i ≤ l.length ∧ x = .int .i64 i ∧ Hid (PoS wB mb wb (portPart c d) 0 1 wr ((min i c : Nat) : Int) (l.take (min i c)) 0 [])) (fun x _ => l.length - (intOf x).toNat)
    case atStart => exact ⟨0, Nat.zero_le _, rfl, by simpa using PS⟩
    case round =>
      clear PS
      obtain ⟨i, hi, rfl, hS⟩ := hrel
      have hch := hS.out.choose_spec.chg
      have r1 := row_of (hch.blkAt PB.out)
      unfold benchArr at r1
      have zb : bb < wr.heap.size := lt_of_block (hch.blkAt PB.out)
      by_cases hlt : i < l.length
      · have hlc : (i : Int) < (l.length : Int) := by omega
        obtain ⟨bl, ol, cl, el, _, hcl⟩ := IntsAt.cells (HKL.out wr hch) (by omega)
        cases el
        have g1 := hcl i l[i] (List.getElem?_eq_getElem hlt)
        have hv : I64 l[i] := HL64.out _ (List.getElem_mem hlt)
        have zl := World.block_lt_of_cell? wr _ g1
        have hlen9 : (l.take (min i c)).length = min i c := by simp; omega
        have htk : i < c → l.take (min i c) ++ [l[i]] = l.take (min (i + 1) c) := fun h => by
          rw [Nat.min_eq_left (by omega), Nat.min_eq_left (by omega), List.take_succ_eq_append_getElem hlt]
        have HTK := Lib.hid htk
        have HV := Lib.hid hv
        have HCH := Lib.hid hch
        have HRUN := Lib.hid (po_post PB.out ((min i c : Nat) : Int) 0 (l.take (min i c)) [] (by omega) (by rw [hlen9]; show ((min i c : Nat) : Int) ≤ (c : Int); omega) (wr.alloc (.cells (act23 sT sO v1 v2 (planWords (portPart c d)) 0 false 0 0 l[i] 0 0) 49)).drew wr.heap.size false 0 l[i] 0 0 (i64_small (by omega) (by omega)) hv (by have := hch.size; exact this) (hS.out.later ((Below.refl _ _).alloc (Nat.le_refl _) _).drew) (heap_alloc_new _ _))
        rw [hlen9] at HRUN
        unfold act23 at HRUN
        clear hcl htk hv hch hlen9 hS
        generalize l[i] = v at *
        go_wp2_with fail
        go_still_tail 10, (by kernel_rfl)
        go_wp2_with fail
        go_at_call 11
        by_cases hic : i < c
        · have hic' : ((min i c : Nat) : Int) < (objD (portPart c d) 0).size := by show ((min i c : Nat) : Int) < (c : Int); omega
          rw [if_pos hic', if_pos hic', if_pos hic'] at HRUN
          have e9 : ((min i c : Nat) : Int) + 1 = ((min (i + 1) c : Nat) : Int) := by omega
          rw [HTK.out hic, e9] at HRUN
          refine HRUN.out.mono ?_
          rintro e w3 ⟨rfl, hS3, hx3, hs3, hk3⟩
          have HS3 := Lib.hid hS3
          have x3 := row_of hx3
          have z3 : wr.heap.size < w3.heap.size := lt_of_block hx3
          have hd1 : decide ((i : Int) < (c : Int)) = true := by simpa using hic
          have hd2 : decide (i < c) = true := by simpa using hic
          have hic2 : (i : Int) < (c : Int) := by omega
          clear hS3 hx3 hs3 hk3 HRUN r1 g1 e9
          go_wp2
          go_roundw
          case rel => exact ⟨i + 1, by omega, by go_num, HS3⟩
          case measure => simp [intOf]; omega
        · have hic' : ¬ ((min i c : Nat) : Int) < (objD (portPart c d) 0).size := by show ¬ ((min i c : Nat) : Int) < (c : Int); omega
          rw [if_neg hic', if_neg hic', if_neg hic'] at HRUN
          have e9 : min i c = min (i + 1) c := by omega
          rw [e9] at HRUN
          refine HRUN.out.mono ?_
          rintro e w3 ⟨rfl, hS3, hx3, hs3, hk3⟩
          have HS3 := Lib.hid hS3
          have x3 := row_of hx3
          have z3 : wr.heap.size < w3.heap.size := lt_of_block hx3
          have hd1 : decide ((i : Int) < (c : Int)) = false := by simpa using hic
          have hd2 : decide (i < c) = false := by simpa using hic
          have hd3 : decide ((c : Int) ≤ (i : Int)) = true := by simp; omega
          have hd4 : decide (c ≤ i) = true := by simp; omega
          have hic2 : ¬ (i : Int) < (c : Int) := by omega
          clear hS3 hx3 hs3 hk3 HRUN r1 g1 e9
          go_wp2
          go_roundw
          case rel => exact ⟨i + 1, by omega, by go_num, HS3⟩
          case measure => simp [intOf]; omega
      · obtain rfl : i = l.length := by omega
        have hge : ¬ ((l.length : Int) < (l.length : Int)) := by omega
        obtain ⟨n, hn⟩ : ∃ n, n = min l.length c := ⟨_, rfl⟩
        obtain ⟨q, hq⟩ : ∃ q, q = min n d := ⟨_, rfl⟩
        rw [← hn] at hS
        have hnl : n ≤ 16 := by omega
        have hql : q ≤ l.length := by omega
        have hlen9 : (l.take n).length = n := by simp; omega
        have HMV := Lib.hid (po_move PB.out (n : Int) 0 (l.take n) [] d rfl (by omega) (fun x hx => HL64.out x (List.mem_of_mem_take hx)) wr.drew hch.size (hS.out.later (Below.refl _ _).drew))
        have e1 : putN n ([] : List Int).length d = q := by simp [putN]; omega
        have e2 : ([] : List Int) ++ (l.take n).take (d - ([] : List Int).length) = l.take q := by rw [List.nil_append, List.length_nil, Nat.sub_zero, List.take_take, hq, Nat.min_comm]
        rw [hlen9, e1, e2] at HMV
        have hm1 : min (l.length : Int) (c : Int) = (n : Int) := by omega
        have hm2 : min (n : Int) (d : Int) = (q : Int) := by omega
        have hqn : (q : Int) ≤ (n : Int) := by omega
        have HQL := Lib.hid hql
        unfold planArr at HMV
        clear hn hq e1 e2 hlen9 hch hS
        go_wp2_with fail
        go_cut [13, 14] (fun x y wx => x = .int .i64 (q : Int) ∧ y = .int .i64 ((n : Int) - (q : Int)) ∧ Hid (PoS wB mb wb (portPart c d) 0 1 wx (n : Int) [] 0 (l.take q)))
        case first =>
          go_region_held3 (fun w' => ∀ k, w'.cell? ⟨bb, k, none⟩ = #[.int .i64 0, .int .i64 2, .int .i64 4, .int .i64 3, .int .i64 5, .int .i64 6, .int .i64 8, .int .i64 41, .int .i64 43, sT, sO, .int .i64 (planWords (portPart c d)), v1, v2, .pointer (some ⟨mb, 0, none⟩), .pointer (some ⟨md, 0, none⟩)][k]?)
            ((with_reducible first | assumption | exact keepDr (by assumption)))
            (first
              | (go_at_call 13; refine HMV.out.mono ?_; rintro e w3 ⟨rfl, hS3⟩; have HS3 := Lib.hid hS3; have r3 := row_of (hS3.choose_spec.chg.blkAt PB.out); unfold benchArr at r3; have z3 := lt_of_block (hS3.choose_spec.chg.blkAt PB.out); clear hS3))
          all_goals
            clear HMV r1
            go_wp2_with fail
            go_meet
            exact ⟨rfl, rfl, HS3⟩
        case rest =>
          obtain ⟨rfl, rfl, HS3⟩ := hcut
          clear HMV r1
          go_wp2
          go_loopw [129] (fun x wr => ∃ i : Nat, i ≤ q ∧ x = .int .i64 i ∧ Hid (PoS wB mb wb (portPart c d) 0 1 wr (n : Int) [] (i : Int) ((l.take q).drop i))) (fun x _ => q - (intOf x).toNat)
          case atStart => exact ⟨0, Nat.zero_le _, rfl, by simpa using HS3⟩
          case round =>
            clear HS3
            obtain ⟨i, hi, rfl, hS⟩ := hrel
            have hch := hS.out.choose_spec.chg
            have r1 := row_of (hch.blkAt PB.out)
            unfold benchArr at r1
            have zb : bb < wr.heap.size := lt_of_block (hch.blkAt PB.out)
            have e9 : (i : Int) + 1 = ((i + 1 : Nat) : Int) := by omega
            by_cases hlt : i < q
            · have HRUN := Lib.hid (po_fetch PB.out (n : Int) (i : Int) [] ((l.take q).drop i) (by omega) (wr.alloc (.cells (act23 sT sO v1 v2 (planWords (portPart c d)) 1 false 1 0 0 0 0) 49)).drew wr.heap.size false 0 0 0 0 (i64_small (by omega) (by omega)) (by have := hch.size; exact this) (hS.out.later ((Below.refl _ _).alloc (Nat.le_refl _) _).drew) (heap_alloc_new _ _))
              unfold act23 at HRUN
              have hlc : (i : Int) < (q : Int) := by omega
              have hil : i < l.length := by have := HQL.out; omega
              have hil2 : (i : Int) < (l.length : Int) := by omega
              have hdr : (l.take q).drop i = l[i] :: (l.take q).drop (i + 1) := by
                have h1 : i < (l.take q).length := by simp; omega
                rw [List.drop_eq_getElem_cons h1, List.getElem_take]
              rw [hdr] at HRUN
              simp only [List.isEmpty_cons, Bool.false_eq_true, if_false, List.tail_cons, List.headD_cons] at HRUN
              rw [e9] at HRUN
              obtain ⟨bl, ol, cl, el, _, hcl⟩ := IntsAt.cells (HKL.out wr hch) (by omega)
              cases el
              have hgi := Lib.hid (List.getElem?_eq_getElem hil)
              have hpos : 0 < l.length := by omega
              clear hcl hdr hch hS e9
              generalize l[i] = v at *
              go_upto_region 21 with (fail)
              go_cut [16] (fun x wx => x = .pointer (some ⟨wr.heap.size, 0, none⟩) ∧ wx = wr.alloc (.cells (#[.int .i64 0, .int .i64 2, .int .i64 4, .int .i64 3, .int .i64 5, .int .i64 6, .int .i64 8, .int .i64 41, .int .i64 43, sT, sO, .int .i64 (planWords (portPart c d)), v1, v2, .int .u8 1, .bool false, .int .i64 1, .int .i64 0, .int .i64 0, .int .i64 0, .int .i64 0]) 49))
              case first =>
                go_wp2_with fail
                go_meet
                exact ⟨rfl, rfl⟩
              case rest =>
              obtain ⟨rfl, rfl⟩ := hcut
              clear r1
              go_wp2_with fail
              refine wp_region_parts (by kernel_rfl) ?_
              refine wpAny_part 0 3 20 (by kernel_rfl) ?_
              simp only [List.take_succ_cons, List.take_zero, List.drop_succ_cons, List.drop_zero]
              repeat still_step
              refine wpStill_nil ?_
              refine wpAny_one 3 19 rfl (by kernel_rfl) (by kernel_rfl) (by kernel_rfl) (fun K hK => ?_)
              go_simp
              refine HRUN.out.mono ?_
              rintro e w3 ⟨rfl, hS3, hx3, hs3, hk3⟩
              have HS3 := Lib.hid hS3
              obtain ⟨bl3, ol3, cl3, el3, hz3, hcl3⟩ := IntsAt.cells (HKL.out w3 hS3.choose_spec.chg) hpos
              cases el3
              have g3 := hcl3 i v hgi.out
              have zl3 := World.block_lt_of_cell? w3 _ g3
              have x3 := row_of hx3
              have z3 := lt_of_block hx3
              refine hK _ _ ?_
              clear hS3 hx3 hs3 hk3 hcl3 hz3 hK K HRUN
              refine wpAny_last 4 (by kernel_rfl) (by kernel_rfl) ?_
              simp only [List.drop_succ_cons, List.drop_zero]
              repeat still_step
              refine wpStill_nil ?_
              go_wp2
              go_roundw
              case rel => exact ⟨i + 1, by omega, by go_num, HS3⟩
              case measure => simp [intOf]; omega
            · obtain rfl : i = q := by omega
              have hge : ¬ ((i : Int) < (i : Int)) := by omega
              have HRUN := Lib.hid (po_fetch PB.out (n : Int) (i : Int) [] ((l.take i).drop i) (by omega) (wr.alloc (.cells (act23 sT sO v1 v2 (planWords (portPart c d)) 1 false 1 0 0 0 0) 49)) wr.heap.size false 0 0 0 0 (i64_small (by omega) (by omega)) (by have := hch.size; exact this) (hS.out.later ((Below.refl _ _).alloc (Nat.le_refl _) _)) (heap_alloc_new _ _))
              unfold act23 at HRUN
              have hdr : (l.take i).drop i = [] := by simp
              rw [hdr] at HRUN
              simp only [List.isEmpty_nil, if_true, List.tail_nil, List.headD_nil] at HRUN
              clear hdr hch hS e9
              go_wp2_with fail
              go_at_call 11
              refine HRUN.out.mono ?_
              rintro e w3 ⟨rfl, hS3, hx3, hs3, hk3⟩
              have HE := Lib.hid (HEND.out w3 hS3.choose_spec.chg)
              have x3 := row_of hx3
              have z3 := lt_of_block hx3
              clear hS3 hx3 hs3 hk3 HRUN r1
              go_wp2
              go_ret
              exact ⟨by simp, HE.out⟩
  · go_enter Try.func3, Try.ntmps3
    go_wp2_with fail
    go_at_call 9
    refine (awake23_any _).mono ?_
    rintro e w1 ⟨rfl, hb1⟩
    have HB1 := Lib.hid hb1
    clear hb1
    have hgt : (16 : Int) < (l.length : Int) := by omega
    go_wp2_with fail
    go_at_call 9
    refine (awake23_any _).mono ?_
    rintro e w2 ⟨rfl, hb2⟩
    have HB2 := Lib.hid (HB1.out.trans (hb2.mono HB1.out.size))
    clear hb2
    go_wp2
    go_ret
    exact ⟨rfl, HB2.out⟩
end Go.Proofs.Ytpidlgmigmbbbaa
