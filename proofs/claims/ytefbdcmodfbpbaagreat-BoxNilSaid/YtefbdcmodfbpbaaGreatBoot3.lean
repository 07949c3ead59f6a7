/-
  plan.bootObjects, number.
  plan.number, boot.
-/
import Derived.Test.YtefbdcmodfbpbaaGreatBoot1
import Derived.Test.YtefbdcmodfbpbaaGreatOf
set_option linter.unusedVariables false
set_option linter.unusedSimpArgs false
namespace Go.Proofs.YtefbdcmodfbpbaaGreat
open Go.RowKit

def kBootObjFrom (n : Nat) : List ObjD → Nat → Prog Unit
  | [], _ => pure ()
  | t :: ts, i => do
    kInit (obAt n i)
    kInit (obAt n i + 2)
    if t.kind == 4 then do
      kBInit (obAt n i + 4) t.size
      kBootObjFrom n ts (i + 1)
    else do
      kBootObjFrom n ts (i + 1)
def ObjsOk (os : List ObjD) : Prop := ∀ t ∈ os, I64 t.kind ∧ I64 t.size

set_option maxRecDepth 100000 in
set_option maxHeartbeats 1600000 in
theorem bootObjects_any (P : PartD) (pv : Value) (F : Nat → Prop) (hn : P.thr.length ≤ 6) (hn2 : P.obj.length ≤ 8) (hp : ObjsOk P.obj) (w : World) (g : FG) (sl : Value) (s : FS) (hF : Fr w g sl s) (h : PlanVal w F pv P) (ha : Apart F g sl) (s' : FS) (hx : exec (kBootObjFrom P.thr.length P.obj 0) s = some ((), s')) :
    Calls Tryz.prog 207 #[pv, .pointer (some ⟨g.fb, 0, none⟩)] w fun e w' => (True) ∧ Posts g sl s' w (.tuple #[]) e w' := by
  obtain ⟨sT, sO, v1, v2, rfl, h1, h2, h3⟩ := h
  obtain ⟨A1, c1, e1⟩ := h2.slice
  obtain ⟨A0, c0, e00⟩ := h1.slice
  obtain ⟨u1, u2, e0, h5, h6⟩ := h3
  cases e0
  obtain ⟨A3, c3, rfl⟩ := ObjsAt.slice h6
  obtain ⟨A4, c4, rfl⟩ := h5.slice
  rw [obAts_length] at e1
  subst e1 e00
  have HI := Lib.hid h2
  have HT := Lib.hid h6
  have HA := Lib.hid ha
  have HP := Lib.hid hp
  have HF0 := Lib.hid hF
  have HX := Lib.hid hx
  clear h1 h2 h5 h6 ha hp hF hx
  generalize (Value.slice A0 (thAts P.thr.length).length c0) = sT at *
  generalize (Value.slice A4 P.thr.length c4) = v1 at *
  unfold planArr at *
  go_enter Tryz.func207, Tryz.ntmps207
  go_wp2
  have HK := Lib.hid (fun wr slr hE => plan_keep (F := F) (o := (.cells #[.int .i64 0, .int .i64 2, .int .i64 4, .int .i64 3, .int .i64 5, .int .i64 6, .int .i64 8, .int .i64 41, .int .i64 43, sT, .slice A1 P.obj.length c1, .int .i64 (planWords P), v1, .slice A3 P.obj.length c3] 61)) HF0.out HA.out wr slr hE)
  go_loopw [11] (fun i wr => ∃ k : Nat, k ≤ P.obj.length ∧ i = .int .i64 k ∧ ∃ slr sr, Hid (Fr wr g slr sr) ∧ Hid (Ev g sl slr (w.alloc (.cells #[.int .i64 0, .int .i64 2, .int .i64 4, .int .i64 3, .int .i64 5, .int .i64 6, .int .i64 8, .int .i64 41, .int .i64 43, sT, .slice A1 P.obj.length c1, .int .i64 (planWords P), v1, .slice A3 P.obj.length c3] 61)) wr) ∧ Hid (exec (kBootObjFrom P.thr.length (P.obj.drop k) k) sr = some ((), s'))) (fun i _ => P.obj.length - (intOf i).toNat)
  case atStart => exact ⟨0, by omega, rfl, sl, s, Lib.hid (HF0.out.alloc _), Lib.hid (Ev.refl _ _ _), HX⟩
  case round =>
    obtain ⟨k, hk, rfl, slr, sr, hFr, hEr, hXr⟩ := hrel
    obtain ⟨K1, K2⟩ := HK.out _ _ hEr.out
    by_cases hlt : k < P.obj.length
    · have hlc : (k : Int) < (P.obj.length : Int) := by omega
      have hx := hXr.out
      rw [List.drop_eq_getElem_cons hlt] at hx
      unfold kBootObjFrom at hx
      obtain ⟨_, s1, x1, hx⟩ := exec_bind_some hx
      obtain ⟨_, s2, x2, hx⟩ := exec_bind_some hx
      have X1 := Lib.hid x1
      have X2 := Lib.hid x2
      have hpk := HP.out P.obj[k] (List.getElem_mem hlt)
      obtain ⟨b, o, c', e, hFb, hcells⟩ := HT.out.cells (by omega)
      cases e
      obtain ⟨d0, d1, d2⟩ := hcells k P.obj[k] (List.getElem?_eq_getElem hlt)
      have lb : b < w.heap.size := World.block_lt_of_cell? w _ d0
      rw [← K1 b _ hFb lb] at d0 d1 d2
      obtain ⟨b1, o1, c1', e, hFb1, hcells1⟩ := HI.out.cell (by rw [obAts_length]; omega)
      rw [obAts_length] at e
      cases e
      have e0 := hcells1 k (obAt P.thr.length k) (by simp [obAts, hlt])
      have lb1 : b1 < w.heap.size := World.block_lt_of_cell? w _ e0
      rw [← K1 b1 _ hFb1 lb1] at e0
      have r0 := row_of K2
      have hsz : w.heap.size < wr.heap.size := by have := hEr.out.size; rw [World.size_alloc] at this; omega
      have lbr : b < wr.heap.size := by omega
      have lbr1 : b1 < wr.heap.size := by omega
      clear x1 x2 hXr hcells hcells1 K1 K2
      have hob : 0 ≤ obAt P.thr.length k ∧ obAt P.thr.length k ≤ 1000 := by unfold obAt; omega
      generalize obAt P.thr.length k = ob at *
      generalize P.obj[k] = th at *
      obtain ⟨ob0, ob1⟩ := hob
      have HPK := Lib.hid hpk.2
      have HE0 := Lib.hid (Ev.refl g slr (wr.alloc (.cells #[.int .i64 th.kind, .int .i64 th.size, .bool th.prio] 129)))
      clear hpk
      cases hkd : (th.kind == 4) with
      | true =>
        have hx := exec_tt hkd hx
        obtain ⟨_, s3, x3, hx⟩ := exec_bind_some hx
        have X3 := Lib.hid x3
        have HX2 := Lib.hid hx
        clear x3 hx
        go_wp2_with fail
        go_at_call 274
        refine (init_any _ (i64_small (by omega) (by omega)) _ g _ _ (hFr.out.alloc _) _ X1.out).mono ?_
        rintro e w1 ⟨_, rfl, sl1, hF1, hE1⟩
        have HF1 := Lib.hid hF1
        have HE1 := Lib.hid (HE0.out.trans hE1)
        have q1 := row_of ((HE1.out.keep (by simp) (hFr.out.newApart _ (Nat.le_refl _))).trans (heap_alloc_new wr (.cells #[.int .i64 th.kind, .int .i64 th.size, .bool th.prio] 129)))
        clear hF1 hE1
        go_wp2_with fail
        go_at_call 274
        refine (init_any _ (i64_small (by omega) (by omega)) _ g _ _ HF1.out _ X2.out).mono ?_
        rintro e w2 ⟨_, rfl, sl2, hF2, hE2⟩
        have HF2 := Lib.hid hF2
        have HE2 := Lib.hid (HE1.out.trans hE2)
        have q2 := row_of ((HE2.out.keep (by simp) (hFr.out.newApart _ (Nat.le_refl _))).trans (heap_alloc_new wr (.cells #[.int .i64 th.kind, .int .i64 th.size, .bool th.prio] 129)))
        clear hF2 hE2 q1
        go_wp2_with fail
        go_at_call 277
        refine (bInit_any _ th.size (i64_small (by omega) (by omega)) HPK.out _ g _ _ HF2.out _ X3.out).mono ?_
        rintro e w3 ⟨_, rfl, sl3, hF3, hE3⟩
        have HF3 := Lib.hid hF3
        have HE4 := Lib.hid (hEr.out.trans ((Ev.alloc g slr wr _).trans (HE2.out.trans hE3)))
        clear hF3 hE3 q2
        go_wp2
        go_roundw
        case rel => exact ⟨k + 1, by omega, by go_num, sl3, s3, HF3, HE4, HX2⟩
        case measure => simp [intOf]; omega
      | false =>
        have hx := exec_ff hkd hx
        have HX2 := Lib.hid hx
        clear hx
        go_wp2_with fail
        go_at_call 274
        refine (init_any _ (i64_small (by omega) (by omega)) _ g _ _ (hFr.out.alloc _) _ X1.out).mono ?_
        rintro e w1 ⟨_, rfl, sl1, hF1, hE1⟩
        have HF1 := Lib.hid hF1
        have HE1 := Lib.hid (HE0.out.trans hE1)
        have q1 := row_of ((HE1.out.keep (by simp) (hFr.out.newApart _ (Nat.le_refl _))).trans (heap_alloc_new wr (.cells #[.int .i64 th.kind, .int .i64 th.size, .bool th.prio] 129)))
        clear hF1 hE1
        go_wp2_with fail
        go_at_call 274
        refine (init_any _ (i64_small (by omega) (by omega)) _ g _ _ HF1.out _ X2.out).mono ?_
        rintro e w2 ⟨_, rfl, sl2, hF2, hE2⟩
        have HF2 := Lib.hid hF2
        have HE2 := Lib.hid (HE1.out.trans hE2)
        have q2 := row_of ((HE2.out.keep (by simp) (hFr.out.newApart _ (Nat.le_refl _))).trans (heap_alloc_new wr (.cells #[.int .i64 th.kind, .int .i64 th.size, .bool th.prio] 129)))
        clear hF2 hE2 q1
        have HE4 := Lib.hid (hEr.out.trans ((Ev.alloc g slr wr _).trans HE2.out))
        go_wp2
        go_roundw
        case rel => exact ⟨k + 1, by omega, by go_num, sl2, s2, HF2, HE4, HX2⟩
        case measure => simp [intOf]; omega
    · have hke : P.obj.drop k = [] := List.drop_eq_nil_of_le (by omega)
      have hx := hXr.out
      rw [hke] at hx
      obtain ⟨-, rfl⟩ := exec_pure hx
      clear hx hke K1 K2
      go_wp2
      first | go_end0 | ((try simp only [Exit.inBlock, Exit.then]); refine bodyPost_ret (results_none rfl _ _ _) rfl ?_)
      exact ⟨trivial, by simp, slr, hFr.out, (Ev.alloc g sl w _).trans hEr.out⟩
end Go.Proofs.YtefbdcmodfbpbaaGreat
namespace Go.Proofs.YtefbdcmodfbpbaaGreat
open Go.RowKit

def numOf (n : Nat) (node : Int) : Int := ofNode n node + 1
theorem numOf_range (n : Nat) (node : Int) : 0 ≤ numOf n node ∧ numOf n node ≤ n := by
  have := firstAt_ge (fun y => node == y) (thAts n) 0
  rw [thAts_length] at this
  unfold numOf ofNode
  omega

set_option maxRecDepth 100000 in
set_option maxHeartbeats 1600000 in
theorem number_any (P : PartD) (pv : Value) (F : Nat → Prop) (hn : P.thr.length ≤ 6) (node : Int) (w : World) (h : PlanVal w F pv P) :
    Calls Tryz.prog 210 #[pv, .int .i64 node] w fun e w' => e = .returned (.int .i64 (numOf P.thr.length node)) ∧ Below w.heap.size w w' := by
  obtain ⟨sT, sO, v1, v2, rfl, h1, h2, h3⟩ := h
  obtain ⟨A1, c1, e1⟩ := h1.slice
  rw [thAts_length] at e1
  subst e1
  have HI := Lib.hid h1
  have hR : firstAt (fun y => node == y) ((thAts P.thr.length).drop 0) 0 + 1 = numOf P.thr.length node := rfl
  generalize numOf P.thr.length node = R at *
  have HR := Lib.hid hR
  clear h1 h2 h3 hR
  unfold planArr
  go_enter Tryz.func210, Tryz.ntmps210
  go_wp2
  have HB : Hid (Below w.heap.size w (w.alloc (.cells (planArr (.slice A1 P.thr.length c1) sO v1 v2 (planWords P)) 61))) := Lib.hid ((Below.refl _ _).alloc (Nat.le_refl _) _)
  go_loop [10] (fun i => ∃ k : Nat, k ≤ P.thr.length ∧ i = .int .i64 k ∧ firstAt (fun y => node == y) ((thAts P.thr.length).drop k) k + 1 = R) (fun i => P.thr.length - (intOf i).toNat)
  case atStart => exact ⟨0, Nat.zero_le _, rfl, HR.out⟩
  case round =>
    obtain ⟨k, hk, rfl, hr⟩ := hrel
    by_cases hlt : k < P.thr.length
    · have hlc : (k : Int) < (P.thr.length : Int) := by omega
      have hl2 : k < (thAts P.thr.length).length := by rw [thAts_length]; exact hlt
      obtain ⟨b1, o1, c1', e, hFb1, hcells1⟩ := HI.out.cell (by rw [thAts_length]; omega)
      rw [thAts_length] at e
      cases e
      have e0 := hcells1 k (thAt k) (by simp [thAts, hlt])
      have lb1 : b1 < w.heap.size := World.block_lt_of_cell? w _ e0
      have hge : (thAts P.thr.length)[k]? = some (thAt k) := by simp [thAts, hlt]
      rw [firstAt_drop _ _ _ _ hge] at hr
      have Hr := Lib.hid hr
      clear hr hge hcells1 hl2
      unfold thAt at *
      cases hxy : (51 + 24 * (k : Int) == node) with
      | true =>
        have hyx : (node == 51 + 24 * (k : Int)) = true := by simp at hxy ⊢; omega
        have hr' : (k : Int) + 1 = R := by rw [← Hr.out, hyx]; rfl
        have Hr' := Lib.hid hr'
        clear hr' hyx
        go_wp2
        go_ret
        exact ⟨by rw [← Hr'.out]; rfl, HB.out⟩
      | false =>
        have hyx : (node == 51 + 24 * (k : Int)) = false := by simp at hxy ⊢; omega
        have hr' : firstAt (fun y => node == y) ((thAts P.thr.length).drop (k + 1)) (k + 1) + 1 = R := by rw [← Hr.out, hyx]; rfl
        have Hr' := Lib.hid hr'
        clear hr' hyx
        go_wp2
        go_round
        case rel => exact ⟨k + 1, by omega, by go_num, Hr'.out⟩
        case measure => simp [intOf]; omega
    · have hr' : R = 0 := by rw [← hr, List.drop_eq_nil_of_le (by rw [thAts_length]; omega)]; rfl
      have Hr' := Lib.hid hr'
      clear hr hr'
      go_wp2
      go_ret
      exact ⟨by rw [Hr'.out]; rfl, HB.out⟩
end Go.Proofs.YtefbdcmodfbpbaaGreat
