/-
  The body of a Clock's op; what an op has come to.
-/
import Derived.Test.YtefbdcmodfbpbaaGreatKCall
import Derived.Test.YtefbdcmodfbpbaaGreatTake
set_option linter.unusedVariables false
set_option linter.unusedSimpArgs false
namespace Go.Proofs.YtefbdcmodfbpbaaGreat
open Go.RowKit

/-- An op's outcome, made anew. -/
theorem out_zero {ob : Nat} {sT sO v1 v2 : Value} {W core t kind handle a b : Int} {wv : Value} {timeout o : Int} {does body : Value} {code count : Int} {ws : Value} {blk spn : Bool} {tk : Int} {mv : Bool} {rn : Int} {an stir : Bool} {w : World}
    (h : w.heap[ob]? = some (.cells (opArr sT sO v1 v2 W core t kind handle a b wv timeout o does body code count ws blk spn tk mv rn an stir) 133 (0, 0))) {X : World} (hX : X = ((((((((w.setCell ⟨ob, 25, none⟩ (.int .i64 0)).setCell ⟨ob, 26, none⟩ (.int .i64 0)).setCell ⟨ob, 27, none⟩ (.slice none 0 0)).setCell ⟨ob, 28, none⟩ (.bool false)).setCell ⟨ob, 29, none⟩ (.bool false)).setCell ⟨ob, 30, none⟩ (.int .i64 0)).setCell ⟨ob, 31, none⟩ (.bool false)).setCell ⟨ob, 32, none⟩ (.int .i64 0)).setCell ⟨ob, 33, none⟩ (.bool false)) :
    SameBut ob w X ∧ X.heap[ob]? = some (.cells (opArr sT sO v1 v2 W core t kind handle a b wv timeout o does body 0 0 nilS false false 0 false 0 false stir) 133 (0, 0)) := by
  subst hX
  refine ⟨((((((((((SameBut.refl ob w).set _ _).set _ _).set _ _).set _ _).set _ _).set _ _).set _ _).set _ _).set _ _), ?_⟩
  have k := block_setCell (block_setCell (block_setCell (block_setCell (block_setCell (block_setCell (block_setCell (block_setCell (block_setCell h 25 (.int .i64 0)) 26 (.int .i64 0)) 27 (.slice none 0 0)) 28 (.bool false)) 29 (.bool false)) 30 (.int .i64 0)) 31 (.bool false)) 32 (.int .i64 0)) 33 (.bool false)
  rw [k]
  unfold opArr nilS
  simp

set_option maxRecDepth 100000 in
set_option maxHeartbeats 3200000 in
theorem word_any (ob : Nat) (sT sO v1 v2 : Value) (W core t kind handle a b : Int) (wv : Value) (timeout o : Int) (does body : Value) (code count : Int) (ws : Value) (blk spn : Bool) (tk : Int) (mv : Bool) (rn : Int) (an stir : Bool) (v : Int) (w : World)
    (h : w.heap[ob]? = some (.cells (opArr sT sO v1 v2 W core t kind handle a b wv timeout o does body code count ws blk spn tk mv rn an stir) 133 (0, 0))) :
    Calls Tryz.prog 149 #[.pointer (some ⟨ob, 0, none⟩), .int .i64 v] w fun e w' => e = .returned (.tuple #[]) ∧ ((w.setCell ⟨ob, 26, none⟩ (.int .i64 1)).setCell ⟨ob, 27, none⟩ (.slice (some ⟨w.heap.size, 0, none⟩) 1 1)).alloc (.cells #[.int .i64 v] 2) = w' := by
  have r0 := row_of h
  have f0 := free_of_block h
  have l0 := lt_of_block h
  unfold opArr at r0
  clear h
  go_enter Tryz.func149, Tryz.ntmps149
  go_wp2
  first | go_end0 | ((try simp only [Exit.inBlock, Exit.then]); refine bodyPost_ret (results_none rfl _ _ _) rfl ?_)
  exact ⟨rfl, rfl⟩

set_option maxRecDepth 100000 in
set_option maxHeartbeats 3200000 in
theorem clock_any (ob : Nat) (sT sO v1 v2 : Value) (W core t kind handle a b : Int) (wv : Value) (timeout o : Int) (does body : Value) (code count : Int) (ws : Value) (blk spn : Bool) (tk : Int) (mv : Bool) (rn : Int) (an stir : Bool) (w : World) (g : FG) (sl : Value) (s : FS) (hF : Fr w g sl s)
    (h0 : w.heap[ob]? = some (.cells (opArr sT sO v1 v2 W core t kind handle a b wv timeout o does body code count ws blk spn tk mv rn an stir) 133 (0, 0)))
    (hap : ob ≠ g.fb ∧ ob ≠ g.wb ∧ sl.ownBlock ≠ some ob) (hm : ob ≠ g.mb) (r : Option Int) (s' : FS) (hx : exec (kTake1 6 true) s = some (r, s')) :
    Calls Tryz.prog 81 #[.pointer (some ⟨ob, 0, none⟩), .pointer (some ⟨g.fb, 0, none⟩)] w fun e w' => e = .returned (.tuple #[]) ∧ ∃ sl', Fr w' g sl' s' ∧ EvS (fun j => j = ob) g sl sl' w w' ∧ (ob ≠ g.fb ∧ ob ≠ g.wb ∧ sl'.ownBlock ≠ some ob) ∧ ∃ ws', TookAt w g sl' r ws' w' ∧
      w'.heap[ob]? = some (.cells (opArr sT sO v1 v2 W core t kind handle a b wv timeout o does body 0 (if r = none then 0 else 1) ws' false false 0 false 0 false stir) 133 (0, 0)) := by
  have r0 := row_of h0
  have f0 := free_of_block h0
  have l0 := lt_of_block h0
  unfold opArr at r0
  have HF := Lib.hid hF
  have H0 := Lib.hid h0
  have HX := Lib.hid hx
  have HAP := Lib.hid hap
  clear h0 hx hF hap
  go_enter Tryz.func81, Tryz.ntmps81
  go_wp2_with fail
  obtain ⟨w1, hw1⟩ : ∃ x, x = ((((((((w.setCell ⟨ob, 25, none⟩ (.int .i64 0)).setCell ⟨ob, 26, none⟩ (.int .i64 0)).setCell ⟨ob, 27, none⟩ (.slice none 0 0)).setCell ⟨ob, 28, none⟩ (.bool false)).setCell ⟨ob, 29, none⟩ (.bool false)).setCell ⟨ob, 30, none⟩ (.int .i64 0)).setCell ⟨ob, 31, none⟩ (.bool false)).setCell ⟨ob, 32, none⟩ (.int .i64 0)).setCell ⟨ob, 33, none⟩ (.bool false) := ⟨_, rfl⟩
  obtain ⟨hs1, hb1⟩ := out_zero H0.out hw1
  rw [← hw1]
  have HF1 := Lib.hid (HF.out.sameBut HAP.out hm hs1)
  have hz1 := hs1.size
  have HE1 := Lib.hid (hs1.evS g sl)
  have HB1 := Lib.hid hb1
  clear hw1 hb1 r0 f0 H0 hs1
  go_at_call 148
  refine (take1_any 6 (by omega) (by omega) true _ g _ _ HF1.out _ _ HX.out).mono ?_
  rintro e w2 ⟨tv, sl2, rfl, ht, hF2, hE2⟩
  have l1 := lt_of_block HB1.out
  have hA2 := apart_ev HAP.out hE2 l1
  have hb2 := (hE2.keep l1 HAP.out).trans HB1.out
  have HF2 := Lib.hid hF2
  have HE2 := Lib.hid (HE1.out.trans (hE2.toS _))
  have HB2 := Lib.hid hb2
  have HA2 := Lib.hid hA2
  have hsz2 := hE2.size
  cases r with
  | none =>
    have e1 : tv = .slice none 0 0 := ht
    subst e1
    clear ht hF2 hE2 hA2 hb2 HX
    go_wp2
    first | go_end0 | ((try simp only [Exit.inBlock, Exit.then]); refine bodyPost_ret (results_none rfl _ _ _) rfl ?_)
    exact ⟨rfl, sl2, HF2.out, HE2.out, HA2.out, .slice none 0 0, rfl, HB2.out⟩
  | some x =>
    obtain ⟨hi, tb, rfl, hbt, hbg, hba⟩ := ht
    have HI := Lib.hid hi
    have c2 : w2.cell? ⟨tb, 0, none⟩ = some (.int .i64 x) := cell_of_block hbt 0
    have lt2 := lt_of_block hbt
    clear hF2 hE2 hA2 hb2 HX hbt hi hbg hba
    go_wp2_with fail
    go_at_call 149
    refine (word_any _ _ _ _ _ _ _ _ _ _ _ _ _ _ _ _ _ _ _ _ _ _ _ _ _ _ _ _ _ HB2.out).mono ?_
    rintro e w3 ⟨rfl, hw3⟩
    have l2 := lt_of_block HB2.out
    have hs3 : SameBut ob w2 ((w2.setCell ⟨ob, 26, none⟩ (.int .i64 1)).setCell ⟨ob, 27, none⟩ (.slice (some ⟨w2.heap.size, 0, none⟩) 1 1)) := ((SameBut.refl ob w2).set _ _).set _ _
    have k3 := HF2.out.sameBut HA2.out hm hs3
    have ke := (HE2.out.trans (hs3.evS g sl2)).trans ((Ev.alloc g sl2 _ (.cells #[.int .i64 x] 2)).toS (fun j => j = ob))
    have kb := (Below.heap_alloc _ (.cells #[.int .i64 x] 2) _ (by rw [hs3.size]; exact l2)).trans (block_setCell (block_setCell HB2.out 26 (.int .i64 1)) 27 (.slice (some ⟨w2.heap.size, 0, none⟩) 1 1))
    have kn := heap_alloc_new ((w2.setCell ⟨ob, 26, none⟩ (.int .i64 1)).setCell ⟨ob, 27, none⟩ (.slice (some ⟨w2.heap.size, 0, none⟩) 1 1)) (.cells #[.int .i64 x] 2)
    have hz3 := hs3.size
    rw [hz3] at kn
    have kap := k3.newApart w2.heap.size (by rw [hz3]; exact Nat.le_refl _)
    have hfin : w.heap.size ≤ w2.heap.size := by omega
    rw [hw3] at ke kb kn
    have KF := Lib.hid (hw3 ▸ k3.alloc (.cells #[.int .i64 x] 2) : Fr w3 g sl2 s')
    have KE := Lib.hid ke
    have KB := Lib.hid kb
    have KN := Lib.hid kn
    have KA := Lib.hid kap
    clear ke kb kn kap k3 hs3 hw3
    go_wp2
    first | go_end0 | ((try simp only [Exit.inBlock, Exit.then]); refine bodyPost_ret (results_none rfl _ _ _) rfl ?_)
    exact ⟨rfl, sl2, KF.out, KE.out, HA2.out, _, ⟨HI.out, w2.heap.size, rfl, KN.out, hfin, KA.out⟩, KB.out⟩

theorem TookAt.ev {w0 : World} {g : FG} {sl sl' : Value} {r : Option Int} {v : Value} {w1 w2 : World} (h : TookAt w0 g sl r v w1) (hE : Ev g sl sl' w1 w2) : TookAt w0 g sl' r v w2 := by
  cases r with
  | none => exact h
  | some x =>
    obtain ⟨hi, b, rfl, hb, hg, ha⟩ := h
    exact ⟨hi, b, rfl, (hE.keep (lt_of_block hb) ha).trans hb, hg, apart_ev ha hE (lt_of_block hb)⟩
theorem enters_clock : Enters 81 := by
  intro args w
  go_simp
set_option maxHeartbeats 1600000 in
/-- A Clock's op run: the clock's word is told, the memory is as it was. -/
theorem clockRun (ob : Nat) (sT sO v1 v2 : Value) (W core t kind handle a b : Int) (wv : Value) (timeout o : Int) (does body : Value) (code count : Int) (ws : Value) (blk spn : Bool) (tk : Int) (mv : Bool) (rn : Int) (an stir : Bool) (mb wb : Nat) (m : Mem) (w : World) (hm : MemAt w mb wb m)
    (h0 : w.heap[ob]? = some (.cells (opArr sT sO v1 v2 W core t kind handle a b wv timeout o does body code count ws blk spn tk mv rn an stir) 133 (0, 0))) (hx : ob ≠ mb ∧ ob ≠ wb) (he : (rdM m 6).tmod 2 = 0) :
    Calls Tryz.prog 83 #[.pointer (some ⟨mb, 0, none⟩), bound 81 (.pointer (some ⟨ob, 0, none⟩)), .int .i64 60000] w fun e w' => e = .returned (.bool true) ∧ Left (fun k => k = ob) wb w w' ∧ (∃ m', MemAt w' mb wb m' ∧ rdM m' = rdM m ∧ m'.length = m.length) ∧
      ∃ tb, w'.heap[ob]? = some (.cells (opArr sT sO v1 v2 W core t kind handle a b wv timeout o does body 0 1 (.slice (some ⟨tb, 0, none⟩) 1 1) false false 0 false 0 false stir) 133 (0, 0)) ∧ w'.heap[tb]? = some (.cells #[.int .i64 (rdM m 7)] 2 (0, 0)) ∧ w.heap.size ≤ tb := by
  obtain ⟨sE, hrun, hov, hg, hl⟩ := does_runsS (does_take1 6 true m he) (safe_take1 6 true) (most := 60000) (by omega) (by omega)
  refine (frunC w mb wb m hm 60000 (by omega) _ (.pointer (some ⟨ob, 0, none⟩)) enters_clock (kTake1 6 true) _ sE ob (fun _ => False)
    (fun w1 => ∃ code count ws blk spn tk mv rn an, w1.heap[ob]? = some (.cells (opArr sT sO v1 v2 W core t kind handle a b wv timeout o does body code count ws blk spn tk mv rn an stir) 133 (0, 0)))
    (fun sl r w1 => (ob ≠ w.heap.size ∧ ob ≠ wb ∧ sl.ownBlock ≠ some ob) ∧ ∃ ws', TookAt w ⟨w.heap.size, mb, wb⟩ sl r ws' w1 ∧ w1.heap[ob]? = some (.cells (opArr sT sO v1 v2 W core t kind handle a b wv timeout o does body 0 (if r = none then 0 else 1) ws' false false 0 false 0 false stir) 133 (0, 0)))
    ?_ ⟨_, _, _, _, _, _, _, _, _, h0⟩ ⟨lt_of_block h0, hx⟩ (fun k hk => hk.elim) ?_ ?_ hrun).mono ?_
  · rintro wa wc ⟨q1, q2, q3, q4, q5, q6, q7, q8, q9, h1⟩ hk
    exact ⟨q1, q2, q3, q4, q5, q6, q7, q8, q9, (hk ob (lt_of_block h1) (.inr rfl)).trans h1⟩
  · rintro wa sl s x s1 hFr ⟨q1, q2, q3, q4, q5, q6, q7, q8, q9, h1⟩ hlt hA hm2 - - hex
    refine (clock_any ob sT sO v1 v2 W core t kind handle a b wv timeout o does body q1 q2 q3 q4 q5 q6 q7 q8 q9 stir wa _ sl s hFr h1 hA hm2 x s1 hex).mono ?_
    rintro e wc ⟨he, sl2, hF2, hE2, hA2, ws', ht, hb⟩
    refine ⟨he, sl2, hF2, hE2, ⟨_, _, _, _, _, _, _, _, _, hb⟩, hA2, ws', ?_, hb⟩
    cases x with
    | none => exact ht
    | some y =>
      obtain ⟨hi, tb, e1, hbt, hge, hap⟩ := ht
      refine ⟨hi, tb, e1, hbt, ?_, hap⟩
      have := hFr.lts.1
      exact Nat.le_trans (Nat.le_of_lt this) hge
  · rintro x sl sl' s wa wc ⟨hA, ws', ht, hb⟩ hFr hE
    exact ⟨apart_ev hA hE (lt_of_block hb), ws', ht.ev hE, (hE.keep (lt_of_block hb) hA).trans hb⟩
  · rintro e wc ⟨he, hm2, ⟨sl, hF2, hR⟩, hL⟩
    obtain ⟨hA, ws', ht, hb⟩ := hR _ rfl
    obtain ⟨hi, tb, rfl, hbt, hge, hap⟩ := ht
    exact ⟨by rw [he, hov], hL, ⟨_, hm2, hg, hl⟩, tb, hb, hbt, hge⟩

set_option maxRecDepth 100000 in
set_option maxHeartbeats 3200000 in
theorem outcome_any (ob : Nat) (sT sO v1 v2 : Value) (W core t kind handle a b : Int) (wv : Value) (timeout o : Int) (does body : Value) (code count : Int) (ws : Value) (blk spn : Bool) (tk : Int) (mv : Bool) (rn : Int) (an stir : Bool) (xs : List Int) (F : Nat → Prop) (hl : xs.length ≤ 1000) (w : World)
    (h : w.heap[ob]? = some (.cells (opArr sT sO v1 v2 W core t kind handle a b wv timeout o does body code count ws blk spn tk mv rn an stir) 133 (0, 0))) (hw : IntsAt w F ws xs) :
    Calls Tryz.prog 23 #[.pointer (some ⟨ob, 0, none⟩)] w fun e w' => ∃ ws', e = .returned (.agg #[.int .i64 code, .int .i64 count, ws', .bool blk, .bool spn, .int .i64 tk, .bool mv, .int .i64 rn, .bool an]) ∧ IntsAt w' (fun k => w.heap.size ≤ k) ws' xs ∧ Below w.heap.size w w' := by
  have HC := Lib.hid (fun W (hb : Below w.heap.size w W) => clone_int64 W F ws xs.length (encInts xs) (encInts_one _) (by omega) (Reads.kept hw (fun k hk _ => hb.block k hk)))
  obtain ⟨A3, c3, rfl⟩ := IntsAt.slice hw
  have r0 := row_of h
  have l0 := lt_of_block h
  unfold opArr at r0
  clear h hw
  go_enter Tryz.func23, Tryz.ntmps23
  go_wp2_with fail
  go_at_call 65
  refine (HC.out _ (((Below.refl _ _).alloc (Nat.le_refl _) _).alloc (by simp) _)).mono ?_
  rintro e w1 ⟨wv', rfl, hown, hb⟩
  obtain ⟨A', c', rfl⟩ := own_form hown
  obtain ⟨p1, p2⟩ := below_cells hb (b := w.heap.size) (by simp <;> omega) (two_first _ _ _)
  obtain ⟨q1, q2⟩ := below_cells hb (b := w.heap.size + 1) (by simp) (two_second _ _ _)
  have Hown := Lib.hid hown
  have Hb := Lib.hid hb
  clear hown hb
  go_wp2
  refine bodyPost_ret (v := .agg #[.int .i64 code, .int .i64 count, .slice A' xs.length c', .bool blk, .bool spn, .int .i64 tk, .bool mv, .int .i64 rn, .bool an]) (by simp [results, Tryz.results23, go_sem, p1, q1]) rfl ⟨_, rfl, ?_, ?_⟩
  · have hr := ownsRow_reads Hown.out
    refine Reads.wider (Reads.kept hr (fun k _ hk => ?_)) (fun k hk => ?_)
    · simp only [World.size_alloc] at hk
      iterate 10 rw [block_setCell_other _ _ _ (by omega)]
    · simp only [World.size_alloc] at hk
      omega
  · have h0 : Below w.heap.size w w1 := (((Below.refl _ _).alloc (Nat.le_refl _) _).alloc (by simp) _).trans (Hb.out.mono (by simp <;> omega))
    iterate 10 refine Below.setCell ?_ (by dsimp only; omega) _
    exact h0
end Go.Proofs.YtefbdcmodfbpbaaGreat
