/-
  The call that a box's thread has made last.
  A box's thread makes its first call.
  A box's steps: the first one, one within an op.
-/
import Derived.Test.YtefbdcmodfbpbaaGreatBoxA
import Derived.BigRegion
set_option linter.unusedVariables false
set_option linter.unusedSimpArgs false
namespace Go.Proofs.YtefbdcmodfbpbaaGreat
open Go.RowKit

set_option maxRecDepth 100000 in
set_option maxHeartbeats 3200000 in
theorem boxCall_any (bb ab ao c pb po c2 sb d : Nat) (A3 : Option Addr) (c3 : Nat) (w : World) (h1 : w.cell? ⟨bb, 12, none⟩ = some (.slice (some ⟨ab, ao, none⟩) 1 c)) (h2 : w.cell? ⟨bb, 19, none⟩ = some (.slice (some ⟨sb, 0, none⟩) 1 d)) (h3 : w.cell? ⟨sb, 0, none⟩ = some (.int .i64 1)) (h4 : w.cell? ⟨ab, ao + 3, none⟩ = some (.slice (some ⟨pb, po, none⟩) 1 c2))
    (g0 : w.cell? ⟨pb, po, none⟩ = some (.int .i64 0)) (g1 : w.cell? ⟨pb, po + 1, none⟩ = some (.int .i64 0)) (g2 : w.cell? ⟨pb, po + 2, none⟩ = some (.int .i64 0)) (g3 : w.cell? ⟨pb, po + 3, none⟩ = some (.int .i64 0)) (g4 : w.cell? ⟨pb, po + 4, none⟩ = some (.slice A3 0 c3)) (g5 : w.cell? ⟨pb, po + 5, none⟩ = some (.int .i64 0)) :
    Calls Tryz.prog 163 #[.pointer (some ⟨bb, 0, none⟩), .int .i64 0] w fun e w' => e = .returned (.agg (callCells call0 (.slice A3 0 c3)).toArray) ∧ Below w.heap.size w w' := by
  have zb : bb < w.heap.size := World.block_lt_of_cell? w _ h1
  have zs : sb < w.heap.size := World.block_lt_of_cell? w _ h3
  have za : ab < w.heap.size := World.block_lt_of_cell? w _ h4
  have zp : pb < w.heap.size := World.block_lt_of_cell? w _ g0
  obtain ⟨W0, hW0⟩ : ∃ x, x = w.alloc (.cells #[.int .i64 0, .int .i64 0, .int .i64 0, .int .i64 0, .slice none 0 0, .int .i64 0] 28) := ⟨_, rfl⟩
  have HB0 := Lib.hid (show Below w.heap.size w W0 by rw [hW0]; exact (Below.refl _ _).alloc (Nat.le_refl _) _)
  have hr : W0.heap[w.heap.size]? = some (.cells #[.int .i64 0, .int .i64 0, .int .i64 0, .int .i64 0, .slice none 0 0, .int .i64 0] 28 (0, 0)) := by rw [hW0]; exact heap_alloc_new w _
  have r0 := row_of hr
  have f0 := free_of_block hr
  have HR := Lib.hid hr
  have k : ∀ {b j : Nat} {v : Value}, b < w.heap.size → w.cell? ⟨b, j, none⟩ = some v → W0.cell? ⟨b, j, none⟩ = some v := fun hb h => (World.cell?_of_block (a := ⟨_, _, none⟩) (HB0.out.block _ hb)).trans h
  replace h1 := k zb h1
  replace h2 := k zb h2
  replace h3 := k zs h3
  replace h4 := k za h4
  replace g0 := k zp g0
  replace g1 := k zp g1
  replace g2 := k zp g2
  replace g3 := k zp g3
  replace g4 := k zp g4
  replace g5 := k zp g5
  have HW0 := Lib.hid hW0
  clear hW0 hr k
  go_enter Tryz.func163, Tryz.ntmps163
  go_wp2_with fail
  rw [← HW0.out]
  go_region
  obtain ⟨w2, hw2⟩ : ∃ x, x = ((((((W0.setCell ⟨w.heap.size, 0, none⟩ (.int .i64 0)).setCell ⟨w.heap.size, 1, none⟩ (.int .i64 0)).setCell ⟨w.heap.size, 2, none⟩ (.int .i64 0)).setCell ⟨w.heap.size, 3, none⟩ (.int .i64 0)).setCell ⟨w.heap.size, 4, none⟩ (.slice A3 0 c3)).setCell ⟨w.heap.size, 5, none⟩ (.int .i64 0)).drew := ⟨_, rfl⟩
  rw [← hw2]
  have hs2 : SameBut w.heap.size W0 w2 := by rw [hw2]; exact (((((((SameBut.refl _ W0).set _ _).set _ _).set _ _).set _ _).set _ _).set _ _).drew
  have k2 : w2.heap[w.heap.size]? = some (.cells #[.int .i64 0, .int .i64 0, .int .i64 0, .int .i64 0, .slice A3 0 c3, .int .i64 0] 28 (0, 0)) := by
    have k := block_setCell (block_setCell (block_setCell (block_setCell (block_setCell (block_setCell HR.out 0 (.int .i64 0)) 1 (.int .i64 0)) 2 (.int .i64 0)) 3 (.int .i64 0)) 4 (.slice A3 0 c3)) 5 (.int .i64 0)
    simp only [Array.setIfInBounds_def, List.size_toArray, List.length_cons, List.length_nil] at k
    simp at k
    rw [hw2]
    exact k
  have r2 := row_of k2
  clear r0 f0
  clear hw2
  go_wp2
  refine bodyPost_ret (v := .agg #[.int .i64 0, .int .i64 0, .int .i64 0, .int .i64 0, .slice A3 0 c3, .int .i64 0]) (by simp [results, Tryz.results163, go_sem, r2]) rfl ⟨rfl, ?_⟩
  exact HB0.out.trans ⟨hs2.os, hs2.tape, hs2.output, by rw [hs2.size]; exact Nat.le_refl _, fun k hk => hs2.block k (by omega)⟩
end Go.Proofs.YtefbdcmodfbpbaaGreat
namespace Go.Proofs.YtefbdcmodfbpbaaGreat
open Go.RowKit

/-- A new box of the one thread. -/
structure Idle (w : World) (bb mb wb sb : Nat) (F : Nat → Prop) (sT sO v1 v2 : Value) (m : Mem) (r1 : Int) (B : Nat) : Prop where
  hb : w.heap[bb]? = some (.cells (boxArr sT sO v1 v2 75 mb 0 r1 (.pointer none) (.pointer none) (.slice (some ⟨sb, 0, none⟩) 1 1) 0 (.slice none 0 0)) 150 (0, 0))
  hP : PlanVal w F (.agg (planArr sT sO v1 v2 75)) oneP
  hM : MemAt w mb wb m
  hs : w.heap[sb]? = some (.cells #[.int .i64 0, .bool false, .bool false, .int .i64 0, .int .i64 0] 152 (0, 0))
  ne : bb ≠ mb ∧ bb ≠ wb ∧ bb ≠ sb ∧ sb ≠ mb ∧ sb ≠ wb
  sep : ∀ k, F k → k < w.heap.size ∧ k ≠ bb ∧ k ≠ mb ∧ k ≠ wb ∧ k ≠ sb
  lo : B ≤ bb ∧ B ≤ mb ∧ B ≤ wb ∧ B ≤ sb
  lB : B ≤ w.heap.size

theorem cell_kept {w w' : World} {b j : Nat} {v : Value} (hb : w'.heap[b]? = w.heap[b]?) (h : w.cell? ⟨b, j, none⟩ = some v) : w'.cell? ⟨b, j, none⟩ = some v := (World.cell?_of_block (a := ⟨b, j, none⟩) hb).trans h

set_option maxRecDepth 100000 in
set_option maxHeartbeats 8000000 in
theorem thread_any (bb mb wb sb : Nat) (F : Nat → Prop) (sT sO v1 v2 : Value) (m : Mem) (r1 : Int) (B : Nat) (w : World) (h : Idle w bb mb wb sb F sT sO v1 v2 m r1 B) (s1 : FS) (hx : exec kSect ((FS.new m).begin_ 0) = some ((), s1)) (hov : s1.finish_.over = false) :
    Calls Tryz.prog 88 #[.pointer (some ⟨bb, 0, none⟩), .int .i64 0, .int .i64 0, .int .i64 0] w fun e w' => e = .returned (.tuple #[]) ∧ Below B w w' ∧
      ∃ tb ob fb sl' cs hv A1 c1 A2 c2 A c, InOp w' bb tb ob sb 1 cs B hv 1 (evCells 0 0 0 0 call0 (.slice A1 0 c1) 0 0 (.slice A2 0 c2)) ⟨fb, mb, wb⟩ sl' s1.finish_ sT sO v1 v2 A c ∧ cs[15]? = some (.int .i64 0) := by
  obtain ⟨hb, hP, hM, hs, ne, sep, lo, lB⟩ := h
  obtain ⟨ab, ao, c, pb, po, c2, A3, c3, rfl, Fa, Fp, k3, g0, g1, g2, g3, g4, g5⟩ := oneP_prog hP
  have lb := lt_of_block hb
  have ls := lt_of_block hs
  have la := (sep ab Fa).1
  have lp := (sep pb Fp).1
  have b0 := row_of hb
  have s0 := row_of hs
  have sf := free_of_block hs
  obtain ⟨W1, hW1⟩ : ∃ x, x = w.setCell ⟨sb, 0, none⟩ (.int .i64 1) := ⟨_, rfl⟩
  have hs1 : SameBut sb w W1 := by rw [hW1]; exact (SameBut.refl sb w).set _ _
  have hz1 : W1.heap.size = w.heap.size := hs1.size
  have hb1 := (hs1.block bb ne.2.2.1).trans hb
  have hsb1 : W1.heap[sb]? = some (.cells #[.int .i64 1, .bool false, .bool false, .int .i64 0, .int .i64 0] 152 (0, 0)) := by rw [hW1]; exact block_setCell hs 0 _
  have hP1 := hP.kept (fun k hk hF => hs1.block k (sep k hF).2.2.2.2)
  have hM1 := hM.kept (hs1.block mb ne.2.2.2.1.symm) (hs1.block wb ne.2.2.2.2.symm)
  have ka := hs1.block ab (sep ab Fa).2.2.2.2
  have kp := hs1.block pb (sep pb Fp).2.2.2.2
  -- the call, anywhere later
  have HC := Lib.hid (fun (W : World) (h12 : W.cell? ⟨bb, 12, none⟩ = some (.slice (some ⟨ab, ao, none⟩) 1 c)) (h19 : W.cell? ⟨bb, 19, none⟩ = some (.slice (some ⟨sb, 0, none⟩) 1 1)) (hks : W.heap[sb]? = W1.heap[sb]?) (hka : W.heap[ab]? = W1.heap[ab]?) (hkp : W.heap[pb]? = W1.heap[pb]?) =>
    boxCall_any bb ab ao c pb po c2 sb 1 A3 c3 W h12 h19 (cell_kept hks ((cell_of_block hsb1 0).trans rfl)) (cell_kept (hka.trans ka) k3) (cell_kept (hkp.trans kp) g0) (cell_kept (hkp.trans kp) g1) (cell_kept (hkp.trans kp) g2) (cell_kept (hkp.trans kp) g3) (cell_kept (hkp.trans kp) g4) (cell_kept (hkp.trans kp) g5))
  have HN := Lib.hid (fun (W : World) (hW : Below W1.heap.size W1 W) => boxNote_any bb _ _ B (.slice none 0 0) 0 [] 0 0 0 0 call0 (.slice A3 0 c3) (fun _ => True) (by simp [call0]) (by omega) W ((hW.block bb (by omega)).trans hb1) rfl ⟨rfl, .inl ⟨rfl, rfl⟩⟩ (by simp [Value.ownBlock]) (by have := hW.size; omega) ⟨rfl, A3, c3, rfl, fun h => absurd h (by simp [call0])⟩)
  simp only [callCells, call0, List.length_nil] at HC HN
  have hC1 := HC.out W1 ((cell_of_block hb1 12).trans rfl) ((cell_of_block hb1 19).trans rfl) rfl rfl rfl
  have HC1 := Lib.hid hC1
  have HW1 := Lib.hid hW1
  unfold boxArr at b0
  have HBL1 := Lib.hid (show Below B w W1 from ⟨hs1.os, hs1.tape, hs1.output, by rw [hz1]; exact Nat.le_refl _, fun k hk => hs1.block k (by omega)⟩)
  have HI1 := Lib.hid (⟨hb1, hsb1, hP1, hM1⟩ : _ ∧ _ ∧ _ ∧ _)
  clear hC1 hb hP hM hs hs1 hb1 hsb1 hP1 hM1 ka kp hW1 g0 g1 g2 g3 g4 g5
  go_enter Tryz.func88, Tryz.ntmps88
  go_wp2_with fail
  rw [← HW1.out]
  go_at_call 163
  refine HC1.out.mono ?_
  rintro e w2 ⟨rfl, hb2⟩
  have HB2 := Lib.hid hb2
  clear hb2 b0 s0
  go_wp2_with fail
  go_at_call 164
  refine (HN.out w2 HB2.out).mono ?_
  rintro e w3 ⟨rfl, A1, c1, A2, c2', hx3⟩
  have hz2 := HB2.out.size
  have hz3 := hx3.size
  obtain ⟨hb1, hsb1, hP1, hM1⟩ := HI1.out
  have kk : ∀ k, k < w.heap.size → k ≠ bb → w3.heap[k]? = W1.heap[k]? := fun k hk hne => (hx3.keep (by omega) hne (by simp [Value.ownBlock])).trans (HB2.out.block k (by omega))
  have hsb3 := (kk sb ls ne.2.2.1.symm).trans hsb1
  have hP3 := hP1.kept (w' := w3) (fun k hk hF => kk k (by omega) (sep k hF).2.1)
  have lm := lt_of_block hM1.st
  have lw := lt_of_block hM1.ws
  have hM3 := hM1.kept (kk mb (by omega) ne.1.symm) (kk wb (by omega) ne.2.1.symm)
  have ka3 := kk ab la (sep ab Fa).2.1
  have kp3 := kk pb lp (sep pb Fp).2.1
  have ks3 := kk sb ls ne.2.2.1.symm
  obtain ⟨gg, cap, hb3, hr3, hw3, hg3, hn3⟩ := hx3
  have lb3 := lt_of_block hb3
  have hgg : w2.heap.size ≤ gg := by
    rcases hg3 with e | e
    · simp [Value.ownBlock] at e
    · exact e
  have hBA : ∀ k : Nat, k < 14 → (boxArr sT sO (.slice (some ⟨ab, ao, none⟩) 1 c) v2 75 mb 0 r1 (.pointer none) (.pointer none) (.slice (some ⟨sb, 0, none⟩) 1 1) 0 (.slice none 0 0))[k]? = (#[.int .i64 0, .int .i64 2, .int .i64 4, .int .i64 3, .int .i64 5, .int .i64 6, .int .i64 8, .int .i64 41, .int .i64 43, sT, sO, .int .i64 75, .slice (some ⟨ab, ao, none⟩) 1 c, v2] : Array Value)[k]? := fun k hk => by
    match k, hk with
    | 0, _ => rfl | 1, _ => rfl | 2, _ => rfl | 3, _ => rfl | 4, _ => rfl | 5, _ => rfl | 6, _ => rfl | 7, _ => rfl | 8, _ => rfl | 9, _ => rfl | 10, _ => rfl | 11, _ => rfl | 12, _ => rfl | 13, _ => rfl
  have p3 : ∀ k, k < 14 → w3.cell? ⟨bb, k, none⟩ = #[.int .i64 0, .int .i64 2, .int .i64 4, .int .i64 3, .int .i64 5, .int .i64 6, .int .i64 8, .int .i64 41, .int .i64 43, sT, sO, .int .i64 75, .slice (some ⟨ab, ao, none⟩) 1 c, v2][k]? := fun k hk => by
    rw [row_of hb3 k, Array.getElem?_setIfInBounds_ne (by omega)]
    exact hBA k hk
  have HP6 := Lib.hid (fun (w6 : World) (u1 u2 : Value) (t : TypeId) (h : w6.heap[bb]? = some (.cells (((boxArr sT sO (.slice (some ⟨ab, ao, none⟩) 1 c) v2 75 mb 0 r1 (.pointer none) (.pointer none) (.slice (some ⟨sb, 0, none⟩) 1 1) 0 (.slice none 0 0)).setIfInBounds 21 u1).setIfInBounds 17 u2) t (0, 0))) (k : Nat) (hk : k < 14) => show w6.cell? ⟨bb, k, none⟩ = (#[.int .i64 0, .int .i64 2, .int .i64 4, .int .i64 3, .int .i64 5, .int .i64 6, .int .i64 8, .int .i64 41, .int .i64 43, sT, sO, .int .i64 75, .slice (some ⟨ab, ao, none⟩) 1 c, v2] : Array Value)[k]? from by
    rw [row_of h k, Array.getElem?_setIfInBounds_ne (by omega), Array.getElem?_setIfInBounds_ne (by omega)]
    exact hBA k hk)
  have HC3 := Lib.hid (HC.out w3.drew ((row_of hb3 12).trans rfl) ((row_of hb3 19).trans rfl) ks3 ka3 kp3)
  have HK := Lib.hid (fun (W : World) (hW : Below w3.heap.size w3 W) => kcallNop_any oneP _ F (by decide) 0 0 (by decide) 0 0 0 0 [] (by simp) (.slice A3 0 c3) (fun _ => True) W (hP3.kept (fun k hk _ => hW.block k hk)) ⟨rfl, A3, c3, rfl, fun h => absurd h (by simp)⟩)
  have HG := Lib.hid (fun (W : World) (hW : Below w3.heap.size w3 W) ob A c' (hob : w3.heap.size ≤ ob) ho =>
    begin_any bb mb wb ob sb 1 m (.pointer none) _ B (.slice (some ⟨gg, 0, none⟩) 1 cap) 1 _ 0 (by omega) W s1 sT sO (.slice (some ⟨ab, ao, none⟩) 1 c) v2 A c' ((hW.block bb lb3).trans hb3) (by rfl) (by rfl) (by rfl) (by rfl) (ownsRow_kept hr3 (fun k hk => hW.block k (hr3.lt k hk).2)) (by simpa [Value.ownBlock] using hn3) (by have := hW.size; omega) ho (hM3.kept (hW.block mb (by omega)) (hW.block wb (by omega)))
      ⟨ne.1, ne.2.1, by omega, by omega, by simp [Value.ownBlock]; omega, by simp [Value.ownBlock]; omega⟩ ⟨by omega, by have := (hr3.lt gg (by simp [Value.ownBlock])).2; simp [Value.ownBlock]; omega⟩ ⟨lo.1, by omega, lo.2.2.1⟩ hx hov)
  have HW3 := Lib.hid hw3
  simp only [planArr] at HK
  have HLT := Lib.hid (⟨lb3, hgg, hz2, hz3⟩ : _ ∧ _ ∧ _ ∧ _)
  clear hb3 hr3 hw3 hg3 hsb3 hP3 hM3 ka3 kp3 ks3 hb1 hsb1 hP1 hM1 kk HN HC1 HC k3 hBA
  go_wp2_with fail
  go_region_held3 (fun w' => ∀ k, k < 14 → w'.cell? ⟨bb, k, none⟩ = #[.int .i64 0, .int .i64 2, .int .i64 4, .int .i64 3, .int .i64 5, .int .i64 6, .int .i64 8, .int .i64 41, .int .i64 43, sT, sO, .int .i64 75, .slice (some ⟨ab, ao, none⟩) 1 c, v2][k]?)
    ((with_reducible first | assumption | exact keepDW (by assumption)))
    (first
      | (go_at_call 163; refine HC3.out.mono ?_; rintro e w4 ⟨rfl, hb4⟩; have HB4 := Lib.hid (⟨hb4.os, hb4.tape, hb4.output, hb4.size, hb4.block⟩ : Below w3.heap.size w3 w4); have p4 := fun k (hk : k < 14) => (World.cell?_of_block (w := w3) (w' := w4) (a := ⟨bb, k, none⟩) (HB4.out.block bb lb3)).trans (p3 k hk); clear hb4)
      | (go_at_call 28; refine (HK.out w4 HB4.out).mono ?_; rintro e w5 ⟨ob, sT', sO', v1', v2', A, c', he, rfl, hob, hb5, hx5⟩; cases he; have HB5 := Lib.hid (below_end HB4.out (Nat.le_refl _) hb5); have HOB := Lib.hid (Nat.le_trans HB4.out.size hob); have p5 := fun k (hk : k < 14) => (World.cell?_of_block (w := w3) (w' := w5) (a := ⟨bb, k, none⟩) (HB5.out.block bb lb3)).trans (p3 k hk); have HX5 := Lib.hid hx5; clear hb5 hob hx5)
      | (go_at_call 86; refine (HG.out w5 HB5.out ob _ _ HOB.out HX5.out).mono ?_; rintro e w6 ⟨rfl, hB6, tb, fb, sl', hI⟩; have p6 := HP6.out w6 _ _ _ hI.hb; have HI6 := Lib.hid hI; have HB6 := Lib.hid hB6; clear hI hB6))
  all_goals
    first | go_end0 | ((try simp only [Exit.inBlock, Exit.then]); refine bodyPost_ret (results_none rfl _ _ _) rfl ?_)
    have l1 := HLT.out
    refine ⟨rfl, (((HBL1.out.trans (HB2.out.mono (by omega))).trans ⟨HW3.out.os, HW3.out.tape, HW3.out.output, HW3.out.size, fun k hk => HW3.out.block k (by omega) ?_⟩).trans (HB5.out.mono (by omega))).trans HB6.out, tb, ob, fb, sl', _, _, A1, c1, A2, c2', A, c', HI6.out, ?_⟩
    · rintro (e | e)
      · omega
      · simp [Value.ownBlock] at e
    · rw [Array.getElem?_setIfInBounds_ne (by omega), Array.getElem?_setIfInBounds_ne (by omega)]
      rfl
end Go.Proofs.YtefbdcmodfbpbaaGreat
namespace Go.Proofs.YtefbdcmodfbpbaaGreat
open Go.RowKit

set_option maxRecDepth 100000 in
set_option maxHeartbeats 3200000 in
theorem stepFirst_any (bb mb wb sb : Nat) (F : Nat → Prop) (sT sO v1 v2 : Value) (m : Mem) (r1 : Int) (B : Nat) (w : World) (h : Idle w bb mb wb sb F sT sO v1 v2 m r1 B) (s1 : FS) (hx : exec kSect ((FS.new m).begin_ 0) = some ((), s1)) (hov : s1.finish_.over = false) :
    Calls Tryz.prog 31 #[.pointer (some ⟨bb, 0, none⟩), .int .i64 0, .int .i64 0] w fun e w' => e = .returned (.tuple #[]) ∧ Below B w w' ∧
      ∃ tb ob fb sl' cs hv A1 c1 A2 c2 A c, InOp w' bb tb ob sb 1 cs B hv 1 (evCells 0 0 0 0 call0 (.slice A1 0 c1) 0 0 (.slice A2 0 c2)) ⟨fb, mb, wb⟩ sl' s1.finish_ sT sO v1 v2 A c ∧ cs[15]? = some (.int .i64 0) := by
  have HT := Lib.hid (thread_any bb mb wb sb F sT sO v1 v2 m r1 B w h s1 hx hov)
  have HR := Lib.hid (runs_any bb _ _ 0 (by omega) w h.hb (by rfl))
  have b0 := row_of h.hb
  unfold boxArr at b0
  clear h hx hov
  go_enter Tryz.func31, Tryz.ntmps31
  go_wp2_with (first | (go_at_call 84; refine (is_any bb 0 rfl _).mono ?_; rintro e w' ⟨rfl, rfl⟩) | (go_at_call 34; refine HR.out.mono ?_; rintro e w' ⟨rfl, rfl⟩))
  go_at_call 88
  refine HT.out.mono ?_
  rintro e w1 ⟨rfl, hB, hI⟩
  have HB := Lib.hid hB
  have HI := Lib.hid hI
  clear hB hI b0
  go_wp2
  first | go_end0 | ((try simp only [Exit.inBlock, Exit.then]); refine bodyPost_ret (results_none rfl _ _ _) rfl ?_)
  exact ⟨rfl, HB.out, HI.out⟩

set_option maxRecDepth 100000 in
set_option maxHeartbeats 3200000 in
theorem stepIn_any {bb tb ob sb d : Nat} {cs : Array Value} {B : Nat} {hv : Value} {n : Nat} {cells : List Value} {g : FG} {sl : Value} {s : FS} {sT sO v1 v2 : Value} {A : Option Addr} {c : Nat} {w : World}
    (h : InOp w bb tb ob sb d cs B hv n cells g sl s sT sO v1 v2 A c) (h15 : cs[15]? = some (.int .i64 0)) (hn : n ≤ 1000) (now : Int) (s1 : FS) (hov : s.over = false) (hr : s.log.length + 1 ≤ 1000000) (hx : exec kSect (s.begin_ now) = some ((), s1)) :
    Calls Tryz.prog 31 #[.pointer (some ⟨bb, 0, none⟩), .int .i64 0, .int .i64 now] w fun e w' => e = .returned (.tuple #[]) ∧ Below B w w' ∧
      (s1.finish_.over = false ∧ (∃ sl', InOp w' bb tb ob sb d cs B hv n cells g sl' s1.finish_ sT sO v1 v2 A c) ∨
       s1.finish_.over = true ∧ ∃ cs' hv' A1 c1 A2 c2 A3 c3 A4 c4, w'.heap[bb]? = some (.cells cs' 150 (0, 0)) ∧ cs'[21]? = some hv' ∧ w'.ownsRow B 222 13 hv' (n + 2) ((cells ++ evCells 1 s1.finish_.mark 0 0 call0 (.slice A1 0 c1) 0 0 (.slice A2 0 c2)) ++ evCells 2 now 0 0 call0 (.slice A3 0 c3) 0 0 (.slice A4 0 c4))) := by
  have HG := Lib.hid (goOn_in h hn now s1 hov hr hx)
  have HR := Lib.hid (runs_any bb _ _ 0 (by omega) w h.hb h15)
  have b17 := (row_of h.hb 17).trans h.h17
  clear h h15 hn hov hr hx
  go_enter Tryz.func31, Tryz.ntmps31
  go_wp2_with (first | (go_at_call 84; refine (is_any bb 0 rfl _).mono ?_; rintro e w' ⟨rfl, rfl⟩) | (go_at_call 34; refine HR.out.mono ?_; rintro e w' ⟨rfl, rfl⟩))
  go_at_call 85
  refine HG.out.mono ?_
  rintro e w1 ⟨rfl, hB, hI⟩
  have HB := Lib.hid hB
  have HI := Lib.hid hI
  clear hB hI b17
  go_wp2
  first | go_end0 | ((try simp only [Exit.inBlock, Exit.then]); refine bodyPost_ret (results_none rfl _ _ _) rfl ?_)
  exact ⟨rfl, HB.out, HI.out⟩
end Go.Proofs.YtefbdcmodfbpbaaGreat
