/-
  The walk of PortBlind from its benches on.
-/
import Derived.Test.YtpidlgmigmbbbaaPBlindE
import Derived.Deep.DeepCutAuto
set_option linter.unusedVariables false
set_option linter.unusedSimpArgs false
namespace Go.Proofs.Ytpidlgmigmbbbaa
open Go.RowKit

/-- What follows a region, in a row of statements. -/
def restAfter (n : Nat) : Code → Option Code
  | .seq a b => match a with
    | .region id _ _ => if id = n then some b else restAfter n b
    | _ => restAfter n b
  | _ => none
noncomputable def pbRest : Code := (Try.f4.body.bind (restAfter 7)).getD .skip

set_option maxRecDepth 100000 in
set_option maxHeartbeats 8000000 in
theorem pb_rest (full : Int) (f0 : 0 ≤ full) (f1 : full ≤ 255) (l : List Op23) (hlen : l.length ≤ 60) (HLO : Hid (∀ x ∈ l, x.ok)) (A : Option Addr) (cap : Nat) (F0 : Nat → Prop) (w w4 : World) (A1 A2 A3 A4 : Bn) (T : Nat → Prop) (s0 s1 s2 : Int) (hs2 : 1 ≤ s2 ∧ s2 ≤ 16)
    (HKL : Hid (∀ W : World, ChgT T w4 W → Op23sAt W F0 (.slice A l.length cap) l)) (HEND : Hid (∀ W : World, ChgT T w4 W → Below w.heap.size w W)) (HF : Hid (Four T w4 A1 A2 A3 A4 s0 s1 s2)) (HPO : Hid (PoB w4 A4.F A4.bb A4.mb A4.wb A4.md (threePart s2) A4.sT A4.sO A4.v1 A4.v2 1 0))
    (HFI : Hid (FillS w4 A4.mb A4.wb (threePart s2) w4 0)) (HMA : Hid (MemAt w4 A1.mb A1.wb (bootM (onePart s0)))) (HMB : Hid (MemAt w4 A2.mb A2.wb (bootM (onePart s0)))) (HMC : Hid (MemAt w4 A3.mb A3.wb (bootM (twoPart s1))))
    (t0 t3 t4 t5 t6 t7 t8 t9 t14 t15 t16 t17 t18 t19 t20 t21 t22 t23 t24 t25 t26 t27 t28 t29 t30 t31 t32 t33 t34 t35 t36 t37 t38 t39 t40 t41 t42 t43 t44 t45 t46 t47 t48 t49 t50 t51 t52 t53 t54 t55 t56 t57 t58 t59 t60 t61 t62 t63 t64 t65 t66 t67 t68 t69 t70 t71 t72 t73 t74 t75 t76 t77 t78 t79 t80 t81 t82 t83 t84 t85 t86 t87 t88 t89 t90 t91 t92 t93 t94 t95 t96 t97 t98 t99 t100 t101 t102 t103 t104 t105 t106 t107 t108 t109 t110 t111 t112 t113 t114 t115 t116 t117 t118 t119 t120 t121 t122 t123 t124 t125 t126 t127 t128 t129 t130 t131 t132 t133 t134 t135 t136 t137 t138 t139 t140 t141 t142 t143 t144 t145 t146 t147 t148 t149 t150 t151 t152 t153 t154 t155 t156 t157 t158 t159 t160 t161 t162 t163 t164 t165 t166 t167 t168 t169 t170 t171 t172 t173 t174 t175 t176 t177 t178 t179 t180 t181 t182 t183 t184 t185 t186 t187 t188 t189 t190 t191 t192 t193 t194 t195 t196 t197 t198 t199 t200 t201 t202 t203 t204 t205 t206 t207 t208 t209 t210 t211 t212 t213 t214 t215 t216 t217 : Value) :
    Code.wp Try.prog pbRest (bodyPost Try.prog Try.f4 fun e w' => e = .returned (.bool true) ∧ Below w.heap.size w w')
      ⟨#[t0, .int .u8 full, .slice A l.length cap, t3, t4, t5, t6, t7, t8, t9, .pointer (some ⟨A1.bb, 0, none⟩), .pointer (some ⟨A2.bb, 0, none⟩), .pointer (some ⟨A3.bb, 0, none⟩), .pointer (some ⟨A4.bb, 0, none⟩), t14, t15, t16, t17, t18, t19, t20, t21, t22, t23, t24, t25, t26, t27, t28, t29, t30, t31, t32, t33, t34, t35, t36, t37, t38, t39, t40, t41, t42, t43, t44, t45, t46, t47, t48, t49, t50, t51, t52, t53, t54, t55, t56, t57, t58, t59, t60, t61, t62, t63, t64, t65, t66, t67, t68, t69, t70, t71, t72, t73, t74, t75, t76, t77, t78, t79, t80, t81, t82, t83, t84, t85, t86, t87, t88, t89, t90, t91, t92, t93, t94, t95, t96, t97, t98, t99, t100, t101, t102, t103, t104, t105, t106, t107, t108, t109, t110, t111, t112, t113, t114, t115, t116, t117, t118, t119, t120, t121, t122, t123, t124, t125, t126, t127, t128, t129, t130, t131, t132, t133, t134, t135, t136, t137, t138, t139, t140, t141, t142, t143, t144, t145, t146, t147, t148, t149, t150, t151, t152, t153, t154, t155, t156, t157, t158, t159, t160, t161, t162, t163, t164, t165, t166, t167, t168, t169, t170, t171, t172, t173, t174, t175, t176, t177, t178, t179, t180, t181, t182, t183, t184, t185, t186, t187, t188, t189, t190, t191, t192, t193, t194, t195, t196, t197, t198, t199, t200, t201, t202, t203, t204, t205, t206, t207, t208, t209, t210, t211, t212, t213, t214, t215, t216, t217], []⟩ w4 := by
  conv => arg 2; whnf
  go_wp2
  have hq : 0 ≤ full % 17 ∧ full % 17 ≤ 16 := by omega
  generalize full % 17 = q at *
  obtain ⟨n, rfl⟩ : ∃ n : Nat, q = n := ⟨q.toNat, by omega⟩
  obtain ⟨_, hq⟩ := hq
  go_loopw [81] (fun x wr => ∃ j : Nat, j ≤ n ∧ x = .int .u8 j ∧ Hid (FillS w4 A4.mb A4.wb (threePart s2) wr j)) (fun x _ => n - (intOf x).toNat)
  case atStart => exact ⟨0, Nat.zero_le _, rfl, HFI⟩
  case round =>
    clear HFI
    obtain ⟨j, hj, rfl, hS⟩ := hrel
    have hch := hS.out.chg
    have r1 := row_of (hch.blkAt HPO.out)
    unfold benchArr at r1
    have zb : A4.bb < wr.heap.size := lt_of_block (hch.blkAt HPO.out)
    by_cases hlt : j < n
    · have hlc : (j : Int) < (n : Int) := by omega
      have HRUN := Lib.hid (fill_post HPO.out (wr.alloc (.cells (act23 A4.sT A4.sO A4.v1 A4.v2 (planWords (threePart s2)) 0 false 1 0 9 0 0) 49)) j (by omega) wr.heap.size false 0 0 0 hch.size (hS.out.later ((Below.refl _ _).alloc (Nat.le_refl _) _)) (heap_alloc_new _ _))
      unfold act23 at HRUN
      clear hS hch
      go_wp2_with fail
      go_at_call 11
      refine HRUN.out.mono ?_
      rintro e w3 ⟨rfl, hS3⟩
      have HS3 := Lib.hid hS3
      clear hS3 HRUN r1
      go_wp2
      go_roundw
      case rel => exact ⟨j + 1, by omega, by go_num, HS3⟩
      case measure => simp [intOf]; omega
    · obtain rfl : j = n := by omega
      have hge : ¬ ((j : Int) < (j : Int)) := by omega
      have HM := Lib.hid (fill_move HPO.out wr.drew j hs2 (hS.out.later (Below.refl _ _).drew))
      unfold planArr at HM
      clear hS hch
      go_wp2_with fail
      go_still_tail 16, (by kernel_rfl)
      go_wp2_with fail
      go_at_call 13
      refine HM.out.mono ?_
      rintro e w5 ⟨x5, y5, p5, k5, rfl, hS5⟩
      obtain ⟨ma, mc, md, hbl⟩ := bl_begin HF.out HMA.out HMB.out HMC.out hS5
      have HBL := Lib.hid hbl
      clear hbl hS5 HM r1 HMA HMB HMC HPO
      go_wp2
      go_loopw [114] (fun x wr => ∃ i : Nat, i ≤ l.length ∧ x = .int .i64 i ∧ ∃ p l' kc kd ma mc md, p ≤ (i : Int) ∧ Hid (BlS T w4 A1 A2 A3 A4 wr p l' kc kd ma ma mc md)) (fun x _ => l.length - (intOf x).toNat)
      case atStart => exact ⟨0, Nat.zero_le _, rfl, 0, [], [], k5, ma, mc, md, by omega, HBL⟩
      case round =>
        clear HBL
        obtain ⟨i, hi, rfl, p, l', kc, kd, ma, mc, md, hp, hS⟩ := hrel
        have hch := hS.out.chg
        by_cases hlt : i < l.length
        · have hlc : (i : Int) < (l.length : Int) := by omega
          obtain ⟨bl, ol, cl, el, _, hcl⟩ := Op23sAt.cells (HKL.out wr hch) (by omega)
          cases el
          obtain ⟨g1, g2⟩ := hcl i l[i] (List.getElem?_eq_getElem hlt)
          have hok := HLO.out _ (List.getElem_mem hlt)
          have hk0 := hok.kind.1
          have hk1 := hok.kind.2
          have HV := Lib.hid hok.v
          have zl := World.block_lt_of_cell? wr _ g1
          have r1 := row_of (HF.out.a.blkAt hch)
          have r2 := row_of (HF.out.b.blkAt hch)
          have r3 := row_of (HF.out.c.blkAt hch)
          have r4 := row_of (HF.out.d.blkAt hch)
          have zb1 := lt_of_block (HF.out.a.blkAt hch)
          have zb2 := lt_of_block (HF.out.b.blkAt hch)
          have zb3 := lt_of_block (HF.out.c.blkAt hch)
          have zb4 := lt_of_block (HF.out.d.blkAt hch)
          unfold benchArr at r1 r2 r3 r4
          clear hcl hok
          generalize l[i].kind = kd0 at *
          generalize l[i].v = v at *
          go_upto_if 123 with (fail)
          go_cut [] (fun wx => ∃ p2 l2 kc2 kd2 ma2 mc2 md2, p2 ≤ ((i + 1 : Nat) : Int) ∧ Hid (BlS T w4 A1 A2 A3 A4 wx p2 l2 kc2 kd2 ma2 ma2 mc2 md2))
          case first =>
            by_cases hkind : kd0 % 3 = 2
            · have HM1 := Lib.hid (bl_move1 HF.out (hS.out.later (Below.refl _ _).drew))
              unfold planArr at HM1
              have hra := hS.out.ra
              have hpl := hS.out.pl
              have h64 := hS.out.l64
              have HM2 := Lib.hid (fun (W : World) (ma' mc' : Mem) (kc' : List Int) (h : BlS T w4 A1 A2 A3 A4 W p [] kc' kd ma' ma mc' md) (hm : rdM ma' = upd (rdM ma) (obAt A1.P.thr.length 0 + 4) (p - l'.length + l'.length)) => bl_move2 HF.out (h.later (Below.refl _ _).drew) hra hpl h64 hm)
              unfold planArr at HM2
              clear hS hch hra hpl h64 g2 HV
              go_wp2_with fail
              go_still_tail 16, (by kernel_rfl)
              go_wp2_with fail
              go_at_call 13
              refine HM1.out.mono ?_
              rintro e w5 ⟨x5, y5, ma5, mc5, kc5, rfl, hm5, hS5⟩
              have HMM := Lib.hid (HM2.out w5 ma5 mc5 kc5 hS5 hm5)
              have s2 := row_of (HF.out.b.blkAt hS5.chg)
              have s4 := row_of (HF.out.d.blkAt hS5.chg)
              have sz2 := lt_of_block (HF.out.b.blkAt hS5.chg)
              have sz4 := lt_of_block (HF.out.d.blkAt hS5.chg)
              unfold benchArr at s2 s4
              clear hS5 hm5 r1 r2 r3 r4 g1 zl HM1 HM2
              go_wp2_with fail
              go_still_tail 16, (by kernel_rfl)
              go_wp2_with fail
              go_at_call 13
              refine HMM.out.mono ?_
              rintro e w6 ⟨x6, y6, md6, kd6, rfl, hS6⟩
              clear s2 s4 HMM
              go_wp2_with fail
              go_meet
              exact ⟨p, [], kc5, kd6, ma5, mc5, md6, by omega, Lib.hid hS6⟩
            · have hkne : kd0 % 3 ≠ 2 := hkind
              have hkb : (kd0 % 3 == 2) = false := by simpa using hkind
              rw [hkb]
              refine wp_cond_false rfl ?_
              refine wp_onlyN ?_
              refine pb_else l hlen cap w4 wr A1 A2 A3 A4 T s0 s1 s2 HF i hlt hlc bl ol v g2 zl HV p l' kc kd ma mc md hp hS hch _ _ _ _ _ _ _ _ _ _ _ _ _ _ _ _ _ _ _ _ _ _ _ _ _ _ _ _ _ _ _ _ _ _ _ _ _ _ _ _ _ _ _ _ _ _ _ _ _ _ _ _ _ _ _ _ _ _ _ _ _ _ _ _ _ _ _ _ _ _ _ _ _ _ _ _ _ _ _ _ _ _ _ _ _ _ _ _ _ _ _ _ _ _ _ _ _ _ _ _ _ _ _ _ _ _ _ _ _ _ _ _ _ _ _ _ _ _ _ _ _ _ _ _ _ _ _ _ _ _ _ _ _ _ _ _ _ _ _ _ _ _ _ _ _ _ _ _ _ _ _ _ _ _ _ _ _ _ _ _ _ _ _ _ _ _ _ _ _ _ _ _ _ _ _ _ _ _ _ _ _ _ _ _ _ _ _ _ _ _ _ _ _ _ _ _ _ _ _ _ _ _ _ _ _ _ _ _ _ _ _ _ _ _ _ ?_
              intro x16 x17 x158 x159 x160 x161 x162 x163 x164 x165 x166 x167 x168 x169 x170 x171 x172 x173 x174 x175 x176 x177 x178 x179 x180 x181 x182 x183 x184 x185 x186 x187 x188 x189 x190 x191 x192 x193 x194 x195 x196 x197 x198 x199 x200 x201 x202 x203 x204 wx hx
              go_wp2_with fail
              go_meet
              exact hx
          case rest =>
          obtain ⟨p6, l6, kc6, kd6, ma6, mc6, md6, hp6, HS6⟩ := hcut
          obtain ⟨w6, rfl⟩ : ∃ x, x = wc := ⟨wc, rfl⟩
          have hS6 := HS6.out
          clear r1 r2 r3 r4 g1 g2 zl hS hch HS6
          have q1 := row_of (HF.out.a.blkAt hS6.chg)
          have q2 := row_of (HF.out.b.blkAt hS6.chg)
          have qz1 := lt_of_block (HF.out.a.blkAt hS6.chg)
          have qz2 := lt_of_block (HF.out.b.blkAt hS6.chg)
          have c1 : w6.cell? ⟨A1.bb, 14, none⟩ = some (.pointer (some ⟨A1.mb, 0, none⟩)) := q1 14
          have c2 : w6.cell? ⟨A2.bb, 14, none⟩ = some (.pointer (some ⟨A2.mb, 0, none⟩)) := q2 14
          have HQ1 := Lib.hid (fun (W : World) (hb : Below w6.heap.size w6 W) => (World.cell?_of_block (a := ⟨A1.bb, 14, none⟩) (hb.block _ qz1)).trans c1)
          have HQ2 := Lib.hid (fun (W : World) (hb : Below w6.heap.size w6 W) => (World.cell?_of_block (a := ⟨A2.bb, 14, none⟩) (hb.block _ qz2)).trans c2)
          have hml : ma6.length ≤ 100000 := Nat.le_trans hS6.a.len (by omega)
          have HW1 := Lib.hid (mwords_any A1.mb A1.wb ma6 w6.drew (hS6.a.later (Below.refl _ _).drew) |>.mono (fun e w' h => (⟨h.choose, h.choose_spec.1, h.choose_spec.2.1, (Below.refl w6.heap.size w6).drew.trans h.choose_spec.2.2⟩ : ∃ v, e = .returned v ∧ IntsAt w' (fun k => w6.heap.size ≤ k) v ma6 ∧ Below w6.heap.size w6 w')))
          have HW2 := Lib.hid (fun (W : World) (hb : Below w6.heap.size w6 W) => mwords_any A2.mb A2.wb ma6 W (hS6.b.later hb))
          have HWW := Lib.hid (fun (W : World) (u1 u2 : Value) (F1 F2 : Nat → Prop) (h1 : IntsAt W F1 u1 ma6) (h2 : IntsAt W F2 u2 ma6) => (words_any ma6 ma6 u1 u2 F1 F2 hml W h1 h2).mono (fun e w' h => (⟨h.1.trans (by simp), h.2⟩ : e = .returned (.bool true) ∧ ∃ n, W.drewN n = w')))
          have HS9 := Lib.hid (fun (W : World) (hb : Below w6.heap.size w6 W) => hS6.later hb)
          have d1 := HQ1.out w6.drew (Below.refl _ _).drew
          have d2 := HQ2.out w6.drew (Below.refl _ _).drew
          clear q1 q2 hml hS6
          go_wp2_with fail
          go_region_held3 (fun w' => w'.cell? ⟨A1.bb, 14, none⟩ = some (.pointer (some ⟨A1.mb, 0, none⟩)) ∧ w'.cell? ⟨A2.bb, 14, none⟩ = some (.pointer (some ⟨A2.mb, 0, none⟩)))
            ((with_reducible first | exact ⟨by assumption, by assumption⟩))
            (first
              | (go_at_call 15; refine HW1.out.mono ?_; rintro e w7 ⟨u7, rfl, hi7, hb7⟩; have HI7 := Lib.hid hi7; have HB7 := Lib.hid hb7; have c3 := HQ1.out w7 hb7; have c4 := HQ2.out w7 hb7; have HW3 := Lib.hid (HW2.out w7 hb7); clear hi7 hb7 HW1)
              | (go_at_call 15; refine HW3.out.mono ?_; rintro e w8 ⟨u8, rfl, hi8, hb8⟩; have HB8 := Lib.hid (HB7.out.trans (hb8.mono HB7.out.size)); have c5 := HQ1.out w8 HB8.out; have c6 := HQ2.out w8 HB8.out; have HW4 := Lib.hid (HWW.out w8 u7 u8 _ _ (HI7.out.kept (fun k hk _ => hb8.block k hk)) hi8); clear hi8 hb8 HW3)
              | (go_at_call 14; refine HW4.out.mono ?_; rintro e w9 ⟨rfl, hn9⟩; obtain ⟨n9, hn9⟩ := hn9; have HB9 := Lib.hid (below_drewN HB8.out n9 : Below w6.heap.size w6 (w8.drewN n9)); rw [hn9] at HB9; have c7 := HQ1.out w9 HB9.out; have c8 := HQ2.out w9 HB9.out; clear hn9))
          all_goals
            have HSF := Lib.hid (HS9.out w9 HB9.out)
            clear HQ1 HQ2 HW2 HWW HS9 HI7 HB7 HB8 HB9
            go_wp2
            go_roundw
            case rel => exact ⟨i + 1, by omega, by go_num, p6, l6, kc6, kd6, ma6, mc6, md6, by omega, HSF⟩
            case measure => simp [intOf]; omega
        · obtain rfl : i = l.length := by omega
          have hge : ¬ ((l.length : Int) < (l.length : Int)) := by omega
          have HE := Lib.hid (HEND.out wr hch)
          clear hS hch
          go_wp2
          go_ret
          exact ⟨by simp, HE.out⟩
end Go.Proofs.Ytpidlgmigmbbbaa
