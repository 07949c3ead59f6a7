/-
  The walk of PortBlind: two posts.
-/
import Derived.Test.YtpidlgmigmbbbaaBlindT
import Derived.Test.YtpidlgmigmbbbaaSegR
import Derived.Deep.DeepCutAuto
import Derived.Deep.CutRange
set_option linter.unusedVariables false
set_option linter.unusedSimpArgs false
namespace Go.Proofs.Ytpidlgmigmbbbaa
open Go.RowKit

/-- The other branch of the test of a slot. -/
def elseOf (n : Nat) : Code → Option Code
  | .cond c a b => match c with
    | .tmp k => if k = n then some b else (match elseOf n a with | some r => some r | none => elseOf n b)
    | _ => (match elseOf n a with | some r => some r | none => elseOf n b)
  | .seq a b => (match elseOf n a with | some r => some r | none => elseOf n b)
  | .block _ c => elseOf n c
  | .loop c => elseOf n c
  | .scope c => elseOf n c
  | _ => none
/-- Q at a normal end; nothing else. -/
def onlyN (Q : Act → World → Prop) : Exit → Act → World → Prop
  | .normal, a, w => Q a w
  | _, _, _ => False
theorem wp_onlyN {P : Program} {c : Code} {Q : Exit → Act → World → Prop} {a : Act} {w : World} (h : c.wp P (onlyN fun a w => Q .normal a w) a w) : c.wp P Q a w :=
  Code.wp_mono (fun e a w h => by cases e <;> first | exact h | exact (h : False).elim) h
noncomputable def pbElse : Code := (Try.f4.body.bind (elseOf 123)).getD .skip

set_option maxRecDepth 100000 in
set_option maxHeartbeats 8000000 in
theorem pb_else (l : List Op23) (hlen : l.length ≤ 60) (cap : Nat) (w4 wr : World) (A1 A2 A3 A4 : Bn) (T : Nat → Prop) (s0 s1 s2 : Int) (HF : Hid (Four T w4 A1 A2 A3 A4 s0 s1 s2))
    (i : Nat) (hlt : i < l.length) (hlc : (i : Int) < (l.length : Int)) (bl ol : Nat) (v : Int) (g2 : wr.cell? ⟨bl, ol + i * 5 + 4, none⟩ = some (.int .i64 v)) (zl : bl < wr.heap.size) (HV : Hid (I64 v))
    (p : Int) (l' kc kd : List Int) (ma mc md : Mem) (hp : p ≤ (i : Int)) (hS : Hid (BlS T w4 A1 A2 A3 A4 wr p l' kc kd ma ma mc md)) (hch : ChgT T w4 wr)
    (t0 t1 t3 t4 t5 t6 t7 t8 t9 t12 t13 t14 t16 t17 t18 t19 t20 t21 t22 t23 t24 t25 t26 t27 t28 t29 t30 t31 t32 t33 t34 t35 t36 t37 t38 t39 t40 t41 t42 t43 t44 t45 t46 t47 t48 t49 t50 t51 t52 t53 t54 t55 t56 t57 t58 t59 t60 t61 t62 t63 t64 t65 t66 t67 t68 t69 t70 t71 t72 t73 t74 t75 t76 t77 t78 t79 t80 t81 t82 t83 t84 t85 t86 t87 t88 t89 t90 t91 t92 t93 t94 t95 t96 t97 t98 t99 t100 t101 t102 t103 t104 t105 t106 t107 t108 t109 t110 t111 t112 t113 t114 t115 t116 t117 t118 t119 t120 t121 t122 t123 t124 t125 t126 t127 t128 t129 t130 t131 t132 t133 t134 t135 t136 t137 t138 t139 t140 t141 t142 t143 t144 t145 t146 t147 t148 t149 t150 t151 t152 t153 t154 t155 t156 t157 t158 t159 t160 t161 t162 t163 t164 t165 t166 t167 t168 t169 t170 t171 t172 t173 t174 t175 t176 t177 t178 t179 t180 t181 t182 t183 t184 t185 t186 t187 t188 t189 t190 t191 t192 t193 t194 t195 t196 t197 t198 t199 t200 t201 t202 t203 t204 t205 t206 t207 t208 t209 t210 t211 t212 t213 t214 t215 t216 t217 : Value) (Q : Act → World → Prop)
    (hQ : ∀ (x16 x17 x158 x159 x160 x161 x162 x163 x164 x165 x166 x167 x168 x169 x170 x171 x172 x173 x174 x175 x176 x177 x178 x179 x180 x181 x182 x183 x184 x185 x186 x187 x188 x189 x190 x191 x192 x193 x194 x195 x196 x197 x198 x199 x200 x201 x202 x203 x204 : Value) (wx : World), (∃ p2 l2 kc2 kd2 ma2 mc2 md2, p2 ≤ ((i + 1 : Nat) : Int) ∧ Hid (BlS T w4 A1 A2 A3 A4 wx p2 l2 kc2 kd2 ma2 ma2 mc2 md2)) → Q ⟨#[t0, t1, .slice (some ⟨bl, ol, none⟩) l.length cap, t3, t4, t5, t6, t7, t8, t9, .pointer (some ⟨A1.bb, 0, none⟩), .pointer (some ⟨A2.bb, 0, none⟩), t12, t13, t14, .int .i64 (i : Nat), x16, x17, t18, t19, t20, t21, t22, t23, t24, t25, t26, t27, t28, t29, t30, t31, t32, t33, t34, t35, t36, t37, t38, t39, t40, t41, t42, t43, t44, t45, t46, t47, t48, t49, t50, t51, t52, t53, t54, t55, t56, t57, t58, t59, t60, t61, t62, t63, t64, t65, t66, t67, t68, t69, t70, t71, t72, t73, t74, t75, t76, t77, t78, t79, t80, t81, t82, t83, t84, t85, t86, t87, t88, t89, t90, t91, t92, t93, t94, t95, t96, t97, t98, t99, t100, t101, t102, t103, t104, t105, t106, t107, t108, t109, t110, t111, t112, t113, t114, t115, t116, t117, t118, t119, t120, t121, t122, t123, t124, t125, t126, t127, t128, t129, t130, t131, t132, t133, t134, t135, t136, t137, t138, t139, t140, t141, t142, t143, t144, t145, t146, t147, t148, t149, t150, t151, t152, t153, t154, t155, t156, t157, x158, x159, x160, x161, x162, x163, x164, x165, x166, x167, x168, x169, x170, x171, x172, x173, x174, x175, x176, x177, x178, x179, x180, x181, x182, x183, x184, x185, x186, x187, x188, x189, x190, x191, x192, x193, x194, x195, x196, x197, x198, x199, x200, x201, x202, x203, x204, t205, t206, t207, t208, t209, t210, t211, t212, t213, t214, t215, t216, t217], []⟩ wx) :
    Code.wp Try.prog pbElse (onlyN Q)
      ⟨#[t0, t1, .slice (some ⟨bl, ol, none⟩) l.length cap, t3, t4, t5, t6, t7, t8, t9, .pointer (some ⟨A1.bb, 0, none⟩), .pointer (some ⟨A2.bb, 0, none⟩), t12, t13, t14, .int .i64 (i : Nat), t16, t17, t18, t19, t20, t21, t22, t23, t24, t25, t26, t27, t28, t29, t30, t31, t32, t33, t34, t35, t36, t37, t38, t39, t40, t41, t42, t43, t44, t45, t46, t47, t48, t49, t50, t51, t52, t53, t54, t55, t56, t57, t58, t59, t60, t61, t62, t63, t64, t65, t66, t67, t68, t69, t70, t71, t72, t73, t74, t75, t76, t77, t78, t79, t80, t81, t82, t83, t84, t85, t86, t87, t88, t89, t90, t91, t92, t93, t94, t95, t96, t97, t98, t99, t100, t101, t102, t103, t104, t105, t106, t107, t108, t109, t110, t111, t112, t113, t114, t115, t116, t117, t118, t119, t120, t121, t122, t123, t124, t125, t126, t127, t128, t129, t130, t131, t132, t133, t134, t135, t136, t137, t138, t139, t140, t141, t142, t143, t144, t145, t146, t147, t148, t149, t150, t151, t152, t153, t154, t155, t156, t157, t158, t159, t160, t161, t162, t163, t164, t165, t166, t167, t168, t169, t170, t171, t172, t173, t174, t175, t176, t177, t178, t179, t180, t181, t182, t183, t184, t185, t186, t187, t188, t189, t190, t191, t192, t193, t194, t195, t196, t197, t198, t199, t200, t201, t202, t203, t204, t205, t206, t207, t208, t209, t210, t211, t212, t213, t214, t215, t216, t217], []⟩ wr := by
  conv => arg 2; whnf
  have r1 := row_of (HF.out.a.blkAt hch)
  have r2 := row_of (HF.out.b.blkAt hch)
  have r3 := True.intro
  have r4 := True.intro
  have g1 := True.intro
  have zb1 := lt_of_block (HF.out.a.blkAt hch)
  have zb2 := lt_of_block (HF.out.b.blkAt hch)
  unfold benchArr at r1 r2
  have HS0 := hS
  have hsz := hch.size
  clear hS hch
  go_wp2_with fail
  go_cut [16, 17] from 158 to 181 (fun x y wx => ∃ xb yb, x = .pointer (some ⟨xb, 0, none⟩) ∧ y = .pointer (some ⟨yb, 0, none⟩) ∧ xb ≠ yb ∧ w4.heap.size ≤ xb ∧ w4.heap.size ≤ yb ∧ xb < wx.heap.size ∧ yb < wx.heap.size ∧ Hid (Below wr.heap.size wr wx) ∧
      Hid (wx.heap[xb]? = some (.cells (act23 A1.sT A1.sO A1.v1 A1.v2 (planWords A1.P) 0 false 0 0 v 0 0) 49 (0, 0))) ∧ Hid (wx.heap[yb]? = some (.cells (act23 A2.sT A2.sO A2.v1 A2.v2 (planWords A2.P) 0 false 0 0 v 0 0) 49 (0, 0))))
  case first =>
    go_region
    all_goals
      go_wp2_with fail
      go_meet
      first
      | exact ⟨_, _, rfl, rfl, by omega, hsz, by omega, (two_new wr _ _).2.2.1, (two_new wr _ _).2.2.2.1, Lib.hid (two_new wr _ _).2.2.2.2, Lib.hid (two_new wr _ _).1, Lib.hid (two_new wr _ _).2.1⟩
      | exact ⟨_, _, rfl, rfl, by omega, by omega, hsz, (two_new wr _ _).2.2.2.1, (two_new wr _ _).2.2.1, Lib.hid (two_new wr _ _).2.2.2.2, Lib.hid (two_new wr _ _).2.1, Lib.hid (two_new wr _ _).1⟩
  case rest =>
  obtain ⟨xb, yb, rfl, rfl, hxy, hx4, hy4, hxl, hyl, HBX, HX, HY⟩ := hcut
  have hS1 := HS0.out.later HBX.out
  have HP1 := Lib.hid (bl_post1 HF.out (W := wc.drew) (hS1.later (Below.refl _ _).drew) (by omega) v HV.out xb yb hx4 hy4 hxy hyl false 0 0 0 HX.out)
  have HP2 := Lib.hid (fun (W : World) (r p7 : Int) (l7 : List Int) (ma7 : Mem) (h : BlS T w4 A1 A2 A3 A4 W p7 l7 kc kd ma7 ma mc md) (hd : Does (kPost A1.P 0 v) ma r (rdM ma7) 10) (hx : xb < W.heap.size) (hb : W.heap[yb]? = some (.cells (act23 A2.sT A2.sO A2.v1 A2.v2 (planWords A2.P) 0 false 0 0 v 0 0) 49 (0, 0))) => bl_post2 HF.out h v HV.out r hd xb yb hx4 hy4 hxy hx false 0 0 0 hb)
  clear hS1 HS0 r1 r2 r3 r4 g1 g2 zl
  go_wp2_with fail
  refine wp_region_parts (by kernel_rfl) ?_
  refine wpAny_part 0 3 20 (by kernel_rfl) ?_
  simp only [List.take_succ_cons, List.take_zero, List.drop_succ_cons, List.drop_zero]
  repeat still_step
  refine wpStill_nil ?_
  refine wpAny_one 3 19 rfl (by kernel_rfl) (by kernel_rfl) (by kernel_rfl) (fun K hK => ?_)
  go_simp
  refine HP1.out.mono ?_
  rintro e w6 ⟨rfl, r7, p7, l7, ma7, hp7, hd7, hl7, hS6, hx6, hy6⟩
  have zx6 := lt_of_block hx6
  have HP3 := Lib.hid (HP2.out w6 r7 p7 l7 ma7 hS6 hd7 zx6 (hy6.trans HY.out))
  have HX6 := Lib.hid hx6
  refine hK _ _ ?_
  clear hK K hS6 hx6 hy6 hd7 hl7 HP1 HP2
  refine wpAny_part 4 5 14 (by kernel_rfl) ?_
  simp only [List.take_succ_cons, List.take_zero, List.drop_succ_cons, List.drop_zero]
  repeat still_step
  refine wpStill_nil ?_
  refine wpAny_one 9 13 rfl (by kernel_rfl) (by kernel_rfl) (by kernel_rfl) (fun K hK => ?_)
  go_simp
  refine HP3.out.mono ?_
  rintro e w7 ⟨rfl, hS7, hy7, hx7⟩
  have t1 := row_of (hx7.trans HX6.out)
  have t2 := row_of hy7
  have zx7 := lt_of_block (hx7.trans HX6.out)
  have zy7 := lt_of_block hy7
  unfold act23 at t1 t2
  refine hK _ _ ?_
  clear hK K hy7 hx7 HP3 HX6
  refine wpAny_last 10 (by kernel_rfl) (by kernel_rfl) ?_
  simp only [List.drop_succ_cons, List.drop_zero]
  repeat still_step
  refine wpStill_nil ?_
  clear t1 t2
  go_wp2_with fail
  exact hQ _ _ _ _ _ _ _ _ _ _ _ _ _ _ _ _ _ _ _ _ _ _ _ _ _ _ _ _ _ _ _ _ _ _ _ _ _ _ _ _ _ _ _ _ _ _ _ _ _ _ ⟨p7, l7, kc, kd, ma7, mc, md, by omega, Lib.hid hS7⟩
end Go.Proofs.Ytpidlgmigmbbbaa
