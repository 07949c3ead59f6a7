/-
  PortBlind: what stands of its four benches.
-/
import Derived.Test.YtpidlgmigmbbbaaBlind
import Derived.Test.YtpidlgmigmbbbaaAwake23
set_option linter.unusedVariables false
set_option linter.unusedSimpArgs false
namespace Go.Proofs.Ytpidlgmigmbbbaa
open Go.RowKit

theorem bn_of {w w4 : World} {B : Nat} {F S : Nat → Prop} {bb mb wb md : Nat} {P : PartD} {sT sO v1 v2 : Value} {m : Mem} {M : MD} {T : Nat → Prop} (h : BenchAt w B F S bb mb wb md P sT sO v1 v2 m M) (hb : Below w.heap.size w w4)
    (hT : ∀ k, T k → k < w.heap.size → B ≤ k → k = wb) (hTw : T wb) (hw : partWrong P = 0) : BnAt T w4 ⟨F, bb, mb, wb, md, P, sT, sO, v1, v2⟩ ∧ MemAt w4 mb wb m := by
  obtain ⟨q6, q1, q8, qp, qo⟩ := partRight hw
  obtain ⟨b1, b2, b3⟩ := h.base
  have l1 := lt_of_block h.blk
  have l2 := lt_of_block h.mem.st
  have l3 := lt_of_block h.mem.ws
  have hs := hb.size
  refine ⟨⟨(hb.block _ l1).trans h.blk, h.plan.kept (fun k hk _ => hb.block k hk), ⟨by show mb < _; omega, by show wb < _; omega⟩, ⟨fun e => h.sep.2 (hT _ e l1 b1), fun e => h.mem.ne (hT _ e l2 b2), hTw⟩, fun k hk => ?_, q6, q8, rightRings (partRightO hw)⟩, h.mem.kept (hb.block _ l2) (hb.block _ l3)⟩
  obtain ⟨h1, h2, h3, h4, h5⟩ := h.sepF k hk
  exact ⟨by omega, fun e => h5 (hT _ e h2 h1)⟩

/-- The three partitions. -/
def onePart (s : Int) : PartD := litPart [0] [⟨6, s, false⟩]
def twoPart (s : Int) : PartD := litPart [0] [⟨7, s, false⟩]
def threePart (s : Int) : PartD := litPart [0] [⟨7, s, false⟩, ⟨6, 16, false⟩]
theorem onePart_right (s : Int) (h : 1 ≤ s) (h' : s ≤ 16) : partWrong (onePart s) = 0 := by
  simp [partWrong, onePart, litPart, plainPart, rightThreadB, rightObjectB, withinB, h, h']
theorem twoPart_right (s : Int) (h : 1 ≤ s) (h' : s ≤ 16) : partWrong (twoPart s) = 0 := by
  simp [partWrong, twoPart, litPart, plainPart, rightThreadB, rightObjectB, withinB, h, h']
theorem threePart_right (s : Int) (h : 1 ≤ s) (h' : s ≤ 16) : partWrong (threePart s) = 0 := by
  simp [partWrong, threePart, litPart, plainPart, rightThreadB, rightObjectB, withinB, h, h']
theorem onePart_ok (s : Int) : PartOk (onePart s) := litPart_ok [0] _ (by simp) (by simp)
theorem twoPart_ok (s : Int) : PartOk (twoPart s) := litPart_ok [0] _ (by simp) (by simp)
theorem threePart_ok (s : Int) : PartOk (threePart s) := litPart_ok [0] _ (by simp) (by simp)
theorem onePart_O {s : Int} (h : 1 ≤ s) (h' : s ≤ 16) : OOk (onePart s) (planWords (onePart s)) 0 := by
  obtain ⟨q6, q1, q8, qp, qo⟩ := partRight (onePart_right s h h')
  exact ⟨q6, q8, by omega, by show (0 : Int) < 1; omega, h, h', rfl⟩
theorem twoPart_I {s : Int} (h : 1 ≤ s) (h' : s ≤ 16) : OOk (twoPart s) (planWords (twoPart s)) 0 := by
  obtain ⟨q6, q1, q8, qp, qo⟩ := partRight (twoPart_right s h h')
  exact ⟨q6, q8, by omega, by show (0 : Int) < 1; omega, h, h', rfl⟩
theorem threePart_I {s : Int} (h : 1 ≤ s) (h' : s ≤ 16) : OOk (threePart s) (planWords (threePart s)) 0 := by
  obtain ⟨q6, q1, q8, qp, qo⟩ := partRight (threePart_right s h h')
  exact ⟨q6, q8, by omega, by show (0 : Int) < 2; omega, h, h', rfl⟩
theorem threePart_O {s : Int} (h : 1 ≤ s) (h' : s ≤ 16) : OOk (threePart s) (planWords (threePart s)) 1 := by
  obtain ⟨q6, q1, q8, qp, qo⟩ := partRight (threePart_right s h h')
  exact ⟨q6, q8, by omega, by show (1 : Int) < 2; omega, by show (1 : Int) ≤ 16; omega, by show (16 : Int) ≤ 16; omega, rfl⟩

/-- The four benches. -/
structure Four (T : Nat → Prop) (w4 : World) (A B C D : Bn) (s0 s1 s2 : Int) : Prop where
  a : BnAt T w4 A
  b : BnAt T w4 B
  c : BnAt T w4 C
  d : BnAt T w4 D
  pa : A.P = onePart s0
  pb : B.P = onePart s0
  pc : C.P = twoPart s1
  pd : D.P = threePart s2
  ne : A.wb ≠ B.wb ∧ A.wb ≠ C.wb ∧ A.wb ≠ D.wb ∧ B.wb ≠ C.wb ∧ B.wb ≠ D.wb ∧ C.wb ≠ D.wb
  z0 : 1 ≤ s0 ∧ s0 ≤ 16
  z1 : 1 ≤ s1 ∧ s1 ≤ 16
  z2 : 1 ≤ s2 ∧ s2 ≤ 16
/-- Their memories: 'mB' that of the second one. -/
structure BlS (T : Nat → Prop) (w4 : World) (A B C D : Bn) (W : World) (p : Int) (l kc kd : List Int) (ma mB mc md : Mem) : Prop where
  a : MemAt W A.mb A.wb ma
  b : MemAt W B.mb B.wb mB
  c : MemAt W C.mb C.wb mc
  d : MemAt W D.mb D.wb md
  la : ma.length = planWords A.P
  lb : mB.length = planWords A.P
  lc : mc.length = planWords C.P
  ld : md.length = planWords D.P
  ra : ORing A.P (rdM ma) 0 (p - l.length) l
  rc : ORing C.P (rdM mc) 0 0 kc
  rd : ORing D.P (rdM md) 0 0 kd
  pl : (l.length : Int) ≤ p ∧ p ≤ 800000
  l64 : ∀ x ∈ l, I64 x
  chg : ChgT T w4 W
theorem MemAt.later {w w' : World} {mb wb : Nat} {m : Mem} (h : MemAt w mb wb m) (hb : Below w.heap.size w w') : MemAt w' mb wb m := h.kept (hb.block _ (lt_of_block h.st)) (hb.block _ (lt_of_block h.ws))
theorem MemAt.left {w w' : World} {mb wb xb wb' : Nat} {m : Mem} (h : MemAt w mb wb m) (hL : Left (fun k => k = xb) wb' w w') (h1 : mb ≠ wb' ∧ wb ≠ wb') (h2 : mb ≠ xb ∧ wb ≠ xb) : MemAt w' mb wb m :=
  h.kept (hL.block _ (lt_of_block h.st) h1.1 h2.1) (hL.block _ (lt_of_block h.ws) h1.2 h2.2)
section
variable {T : Nat → Prop} {w4 : World} {A B C D : Bn} {s0 s1 s2 : Int}
theorem BlS.later {W W' : World} {p : Int} {l kc kd : List Int} {ma mB mc md : Mem} (h : BlS T w4 A B C D W p l kc kd ma mB mc md) (hb : Below W.heap.size W W') : BlS T w4 A B C D W' p l kc kd ma mB mc md :=
  ⟨h.a.later hb, h.b.later hb, h.c.later hb, h.d.later hb, h.la, h.lb, h.lc, h.ld, h.ra, h.rc, h.rd, h.pl, h.l64, h.chg.later hb⟩
variable (hF : Four T w4 A B C D s0 s1 s2)
include hF
theorem bl_post1 {W : World} {p : Int} {l kc kd : List Int} {ma mc md : Mem} (h : BlS T w4 A B C D W p l kc kd ma ma mc md) (hp : p + 1 ≤ 800000) (v : Int) (hv : I64 v) (xb yb : Nat) (hx : w4.heap.size ≤ xb) (hy : w4.heap.size ≤ yb) (hxy : xb ≠ yb) (hyl : yb < W.heap.size) (sec : Bool) (inn got e0 : Int)
    (hblk : W.heap[xb]? = some (.cells (act23 A.sT A.sO A.v1 A.v2 (planWords A.P) 0 sec 0 inn v got e0) 49 (0, 0))) :
    Calls Try.prog 11 #[.pointer (some ⟨A.bb, 0, none⟩), bound 12 (.pointer (some ⟨xb, 0, none⟩))] W fun e w1 => e = .returned (.bool true) ∧
      ∃ r p' l' ma', p' ≤ p + 1 ∧ Does (kPost A.P 0 v) ma r (rdM ma') 10 ∧ ma'.length = ma.length ∧ BlS T w4 A B C D w1 p' l' kc kd ma' ma mc md ∧
        w1.heap[xb]? = some (.cells (act23 A.sT A.sO A.v1 A.v2 (planWords A.P) 0 sec 0 inn v got r) 49 (0, 0)) ∧ w1.heap[yb]? = W.heap[yb]? := by
  obtain ⟨n1, n2, n3, n4, n5, n6⟩ := hF.ne
  have okO : OOk A.P ma.length 0 := by rw [h.la, hF.pa]; exact onePart_O hF.z0.1 hF.z0.2
  have hk : isKB A.P 0 6 = true := by rw [hF.pa]; rfl
  have hT := hF.a.sep.2.2
  have xA := hF.a.lts
  have xB := hF.b.lts
  have xC := hF.c.lts
  have xD := hF.d.lts
  have key : ∀ (r : Int) (g : Int → Int) (p' : Int) (l' : List Int), Does (kPost A.P 0 v) ma r g 10 → p' ≤ p + 1 → ((l'.length : Int) ≤ p' ∧ p' ≤ 800000) → (∀ x ∈ l', I64 x) → ORing A.P g 0 (p' - l'.length) l' →
      Calls Try.prog 11 #[.pointer (some ⟨A.bb, 0, none⟩), bound 12 (.pointer (some ⟨xb, 0, none⟩))] W fun e w1 => e = .returned (.bool true) ∧
      ∃ r p' l' ma', p' ≤ p + 1 ∧ Does (kPost A.P 0 v) ma r (rdM ma') 10 ∧ ma'.length = ma.length ∧ BlS T w4 A B C D w1 p' l' kc kd ma' ma mc md ∧
        w1.heap[xb]? = some (.cells (act23 A.sT A.sO A.v1 A.v2 (planWords A.P) 0 sec 0 inn v got r) 49 (0, 0)) ∧ w1.heap[yb]? = W.heap[yb]? := by
    intro r g p' l' hd h1 h2 h3 h4
    refine (bn_post hF.a 0 v hk (i64_small (by omega) (by omega)) hv W h.chg ma h.a xb hx sec inn got e0 hblk r g hd).mono ?_
    rintro e w1 ⟨he, m', hm', hg, hl, hb, hL⟩
    exact ⟨he, r, p', l', m', h1, hg ▸ hd, hl, ⟨hm', h.b.left hL ⟨fun e => hF.b.sep.2.1 (e ▸ hT), Ne.symm n1⟩ ⟨by omega, by omega⟩, h.c.left hL ⟨fun e => hF.c.sep.2.1 (e ▸ hT), Ne.symm n2⟩ ⟨by omega, by omega⟩, h.d.left hL ⟨fun e => hF.d.sep.2.1 (e ▸ hT), Ne.symm n3⟩ ⟨by omega, by omega⟩, hl.trans h.la, h.lb, h.lc, h.ld, hg ▸ h4, h.rc, h.rd, h2, h3, h.chg.left hL hx hT⟩, hb, hL.block yb hyl (by omega) (Ne.symm hxy)⟩
  have hr := h.ra.room
  by_cases hlt : (l.length : Int) < (objD A.P 0).size
  · obtain ⟨g, hd, h1, h2⟩ := does_post_yes (v := v) h.ra okO hk (by have := h.pl.1; omega) (by have := h.pl.2; omega) hlt
    refine key 0 g (p + 1) (l ++ [v]) hd (by omega) ⟨by have := h.pl.1; simp; omega, hp⟩ (fun x hx => ?_) ?_
    · rcases List.mem_append.1 hx with e | e
      · exact h.l64 x e
      · simp at e; subst e; exact hv
    · rw [show p + 1 - ((l ++ [v]).length : Int) = p - l.length by simp; omega]; exact h1
  · have hd := does_post_no (v := v) h.ra okO hk (by have := h.pl.1; omega) (by have := h.pl.2; omega) (by omega)
    exact key 11 (rdM ma) p l hd (by omega) h.pl h.l64 h.ra
theorem bl_post2 {W : World} {p : Int} {l kc kd : List Int} {ma ma' mc md : Mem} (h : BlS T w4 A B C D W p l kc kd ma' ma mc md) (v : Int) (hv : I64 v) (r : Int) (hd : Does (kPost A.P 0 v) ma r (rdM ma') 10) (xb yb : Nat) (hx : w4.heap.size ≤ xb) (hy : w4.heap.size ≤ yb) (hxy : xb ≠ yb) (hxl : xb < W.heap.size) (sec : Bool) (inn got e0 : Int)
    (hblk : W.heap[yb]? = some (.cells (act23 B.sT B.sO B.v1 B.v2 (planWords B.P) 0 sec 0 inn v got e0) 49 (0, 0))) :
    Calls Try.prog 11 #[.pointer (some ⟨B.bb, 0, none⟩), bound 12 (.pointer (some ⟨yb, 0, none⟩))] W fun e w1 => e = .returned (.bool true) ∧
      BlS T w4 A B C D w1 p l kc kd ma' ma' mc md ∧
        w1.heap[yb]? = some (.cells (act23 B.sT B.sO B.v1 B.v2 (planWords B.P) 0 sec 0 inn v got r) 49 (0, 0)) ∧ w1.heap[xb]? = W.heap[xb]? := by
  obtain ⟨n1, n2, n3, n4, n5, n6⟩ := hF.ne
  have hk : isKB B.P 0 6 = true := by rw [hF.pb]; rfl
  have hPP : B.P = A.P := hF.pb.trans hF.pa.symm
  have hT := hF.b.sep.2.2
  have xA := hF.a.lts
  have xB := hF.b.lts
  have xC := hF.c.lts
  have xD := hF.d.lts
  refine (bn_post hF.b 0 v hk (i64_small (by omega) (by omega)) hv W h.chg ma h.b yb hy sec inn got e0 hblk r (rdM ma') (by rw [hPP]; exact hd)).mono ?_
  rintro e w1 ⟨he, m', hm', hg, hl, hb, hL⟩
  obtain rfl : m' = ma' := mem_ext (by rw [hl, h.lb, h.la]) hg
  exact ⟨he, ⟨h.a.left hL ⟨fun e => hF.a.sep.2.1 (e ▸ hT), n1⟩ ⟨by omega, by omega⟩, hm', h.c.left hL ⟨fun e => hF.c.sep.2.1 (e ▸ hT), Ne.symm n4⟩ ⟨by omega, by omega⟩, h.d.left hL ⟨fun e => hF.d.sep.2.1 (e ▸ hT), Ne.symm n5⟩ ⟨by omega, by omega⟩, h.la, h.la, h.lc, h.ld, h.ra, h.rc, h.rd, h.pl, h.l64, h.chg.left hL hy hT⟩, hb, hL.block xb hxl (by omega) hxy⟩
/-- The first one's Move. -/
theorem bl_move1 {W : World} {p : Int} {l kc kd : List Int} {ma mc md : Mem} (h : BlS T w4 A B C D W p l kc kd ma ma mc md) :
    Calls Try.prog 13 #[.pointer (some ⟨A.mb, 0, none⟩), .agg (planArr A.sT A.sO A.v1 A.v2 (planWords A.P)), .int .i64 0, .pointer (some ⟨C.mb, 0, none⟩), .agg (planArr C.sT C.sO C.v1 C.v2 (planWords C.P)), .int .i64 0] W fun e w' =>
      ∃ x y ma' mc' kc', e = .returned (.tuple #[.int .i64 x, .int .i64 y]) ∧ rdM ma' = upd (rdM ma) (obAt A.P.thr.length 0 + 4) (p - l.length + l.length) ∧ BlS T w4 A B C D w' p [] kc' kd ma' ma mc' md := by
  obtain ⟨n1, n2, n3, n4, n5, n6⟩ := hF.ne
  have hkO : isKB A.P 0 6 = true := by rw [hF.pa]; rfl
  have hkI : isKB C.P 0 7 = true := by rw [hF.pc]; rfl
  have okO : OOk A.P (planWords A.P) 0 := by rw [hF.pa]; exact onePart_O hF.z0.1 hF.z0.2
  have okI : OOk C.P (planWords C.P) 0 := by rw [hF.pc]; exact twoPart_I hF.z1.1 hF.z1.2
  have hTT : ∀ j, (j = A.wb ∨ j = C.wb) → T j := fun j h => h.elim (fun e => e.symm ▸ hF.a.sep.2.2) (fun e => e.symm ▸ hF.c.sep.2.2)
  have hpl := h.pl
  have hsz : (objD C.P 0).size = ((objD C.P 0).size.toNat : Int) := by have := okI.c0; omega
  refine (bn_move hF.a hF.c n2 0 0 hkO hkI okO okI W h.chg ma mc h.a h.la h.c h.lc _ 0 l kc _ hsz h.ra h.rc (by omega) (by omega) h.l64).mono ?_
  rintro e w' ⟨he, m1, m2, h1, h2, h3, h4, h5, h6, h7⟩
  refine ⟨_, _, m1, m2, _, he, h2, ⟨h1, h.b.chg h7 ?_ ?_, h4, h.d.chg h7 ?_ ?_, h3, h.lb, h5, h.ld, ?_, h6, h.rd, ⟨by simp; omega, hpl.2⟩, by simp, h.chg.trans h7 hTT⟩⟩
  · rintro (e | e)
    · exact hF.b.sep.2.1 (e ▸ hF.a.sep.2.2)
    · exact hF.b.sep.2.1 (e ▸ hF.c.sep.2.2)
  · rintro (e | e)
    · exact n1 e.symm
    · exact n4 e
  · rintro (e | e)
    · exact hF.d.sep.2.1 (e ▸ hF.a.sep.2.2)
    · exact hF.d.sep.2.1 (e ▸ hF.c.sep.2.2)
  · rintro (e | e)
    · exact n3 e.symm
    · exact n6 e.symm
  · have := RingAt.drop h.ra okO.c0 l.length (Nat.le_refl _)
    rw [List.drop_length] at this
    rw [h2, show p - (([] : List Int).length : Int) = p - l.length + l.length by simp]
    exact this
/-- The second one's Move. -/
theorem bl_move2 {W : World} {p : Int} {l kc kd : List Int} {ma ma' mc md : Mem} (h : BlS T w4 A B C D W p [] kc kd ma' ma mc md) (hr : ORing A.P (rdM ma) 0 (p - l.length) l) (hpl : (l.length : Int) ≤ p ∧ p ≤ 800000) (h64 : ∀ x ∈ l, I64 x) (hm : rdM ma' = upd (rdM ma) (obAt A.P.thr.length 0 + 4) (p - l.length + l.length)) :
    Calls Try.prog 13 #[.pointer (some ⟨B.mb, 0, none⟩), .agg (planArr B.sT B.sO B.v1 B.v2 (planWords B.P)), .int .i64 0, .pointer (some ⟨D.mb, 0, none⟩), .agg (planArr D.sT D.sO D.v1 D.v2 (planWords D.P)), .int .i64 0] W fun e w' =>
      ∃ x y md' kd', e = .returned (.tuple #[.int .i64 x, .int .i64 y]) ∧ BlS T w4 A B C D w' p [] kc kd' ma' ma' mc md' := by
  obtain ⟨n1, n2, n3, n4, n5, n6⟩ := hF.ne
  have hPP : B.P = A.P := hF.pb.trans hF.pa.symm
  have hkO : isKB B.P 0 6 = true := by rw [hF.pb]; rfl
  have hkI : isKB D.P 0 7 = true := by rw [hF.pd]; rfl
  have okO : OOk B.P (planWords B.P) 0 := by rw [hF.pb]; exact onePart_O hF.z0.1 hF.z0.2
  have okI : OOk D.P (planWords D.P) 0 := by rw [hF.pd]; exact threePart_I hF.z2.1 hF.z2.2
  have hTT : ∀ j, (j = B.wb ∨ j = D.wb) → T j := fun j h => h.elim (fun e => e.symm ▸ hF.b.sep.2.2) (fun e => e.symm ▸ hF.d.sep.2.2)
  have hsz : (objD D.P 0).size = ((objD D.P 0).size.toNat : Int) := by have := okI.c0; omega
  refine (bn_move hF.b hF.d n5 0 0 hkO hkI okO okI W h.chg ma md h.b (by rw [h.lb, hPP]) h.d h.ld _ 0 l kd _ hsz (by rw [hPP]; exact hr) h.rd (by omega) (by omega) h64).mono ?_
  rintro e w' ⟨he, m1, m2, h1, h2, h3, h4, h5, h6, h7⟩
  obtain rfl : m1 = ma' := mem_ext (by rw [h3, hPP, h.la]) (by rw [h2, hm, hPP])
  refine ⟨_, _, m2, _, he, ⟨h.a.chg h7 ?_ ?_, h1, h.c.chg h7 ?_ ?_, h4, h.la, h.la, h.lc, h5, h.ra, h.rc, h6, h.pl, h.l64, h.chg.trans h7 hTT⟩⟩
  · rintro (e | e)
    · exact hF.a.sep.2.1 (e ▸ hF.b.sep.2.2)
    · exact hF.a.sep.2.1 (e ▸ hF.d.sep.2.2)
  · rintro (e | e)
    · exact n1 e
    · exact n3 e
  · rintro (e | e)
    · exact hF.c.sep.2.1 (e ▸ hF.b.sep.2.2)
    · exact hF.c.sep.2.1 (e ▸ hF.d.sep.2.2)
  · rintro (e | e)
    · exact n4 e.symm
    · exact n6 e
end
end Go.Proofs.Ytpidlgmigmbbbaa
