/-
  What the statements of layer 23 ask first (awake).
-/
import Derived.Test.YtpidlgmigmbbbaaPoRun
set_option linter.unusedVariables false
set_option linter.unusedSimpArgs false
namespace Go.Proofs.Ytpidlgmigmbbbaa
open Go.RowKit

/-- One thread, an Out, an In. -/
def portPart (c d : Int) : PartD := litPart [0] [⟨6, c, false⟩, ⟨7, d, false⟩]
theorem portPart_right (c d : Int) (c0 : 1 ≤ c) (c1 : c ≤ 16) (d0 : 1 ≤ d) (d1 : d ≤ 16) : partWrong (portPart c d) = 0 := by
  simp [partWrong, portPart, litPart, plainPart, rightThreadB, rightObjectB, withinB, c0, c1, d0, d1]
theorem portPart_ok (c d : Int) : PartOk (portPart c d) := litPart_ok [0] _ (by simp) (by simp)
theorem portPart_b {w : World} {B : Nat} {F S : Nat → Prop} {bb mb wb md : Nat} {c d : Int} {sT sO v1 v2 : Value} {M : MD} (c0 : 1 ≤ c) (c1 : c ≤ 16) (d0 : 1 ≤ d) (d1 : d ≤ 16) (h : BenchAt w B F S bb mb wb md (portPart c d) sT sO v1 v2 (bootM (portPart c d)) M) :
    PoB w F bb mb wb md (portPart c d) sT sO v1 v2 0 1 ∧ PoS w mb wb (portPart c d) 0 1 w 0 [] 0 [] := by
  have hw := portPart_right c d c0 c1 d0 d1
  obtain ⟨q6, q1, q8, qp, qo⟩ := partRight hw
  have okO : OOk (portPart c d) (planWords (portPart c d)) 0 := ⟨q6, q8, by omega, by show (0 : Int) < 2; omega, c0, c1, rfl⟩
  have okI : OOk (portPart c d) (planWords (portPart c d)) 1 := ⟨q6, q8, by omega, by show (1 : Int) < 2; omega, d0, d1, rfl⟩
  have hml := bootM_length (portPart c d)
  refine ⟨⟨h.blk, h.plan, lt_of_block h.mem.st, lt_of_block h.mem.ws, ⟨h.sep.2, h.mem.ne⟩, fun k hk => ⟨(h.sepF k hk).2.1, (h.sepF k hk).2.2.2.2⟩, okO, okI, by rfl, by rfl, by omega, rightRings (partRightO hw)⟩, bootM (portPart c d), h.mem, hml, ?_, ?_, by simp, by omega, ChgO.refl _ _⟩
  · exact boot_ring qp (by rw [hml]; exact okO) (by show (6 : Int) ≠ 4; omega)
  · exact boot_ring qp (by rw [hml]; exact okI) (by show (7 : Int) ≠ 4; omega)
theorem portPart_at (w : World) (c d : Int) : PartAt ((w.alloc (.cells #[.int .i64 0, .int .u32 0, .bool false, .slice none 0 0] 29)).alloc (.cells #[.int .i64 6, .int .i64 c, .bool false, .int .i64 7, .int .i64 d, .bool false] 32)) (fun _ => True)
    (.agg #[.slice (some ⟨w.heap.size, 0, none⟩) 1 1, .slice (some ⟨w.heap.size + 1, 0, none⟩) 2 2]) (portPart c d) :=
  litPart_at _ w.heap.size (w.heap.size + 1) [0] [⟨6, c, false⟩, ⟨7, d, false⟩] 1 2 rfl rfl _ _ ((Below.heap_alloc _ _ _ (by simp)).trans (heap_alloc_new w _)) rfl (two_second _ _ _) rfl

set_option maxRecDepth 100000 in
set_option maxHeartbeats 4000000 in
theorem awake23_any (w : World) : Calls Try.prog 9 #[] w fun e w' => e = .returned (.bool true) ∧ Below w.heap.size w w' := by
  have HN := Lib.hid (newBench_yes (portPart 1 1) _ _ (portPart_ok 1 1) (portPart_right 1 1 (by omega) (by omega) (by omega) (by omega)) _ (portPart_at w 1 1))
  go_enter Try.func9, Try.ntmps9
  go_wp2_with fail
  go_at_call 10
  refine HN.out.mono ?_
  rintro e w1 ⟨F, S, bb, mb, wb, md, sT, sO, v1, v2, rfl, hB, hb1⟩
  obtain ⟨pb, ps⟩ := portPart_b (by omega) (by omega) (by omega) (by omega) hB
  have hb1' : Below w.heap.size w w1 := (((Below.refl _ _).alloc (Nat.le_refl _) _).alloc (by simp) _).trans (hb1.mono (by simp <;> omega))
  have PB := Lib.hid pb
  have PS := Lib.hid ps
  have HB1 := Lib.hid hb1'
  have r1 := row_of pb.blk
  have z1 := lt_of_block pb.blk
  have hbase := hB.base
  simp only [World.size_alloc] at hbase
  unfold benchArr at r1
  have HR := Lib.hid (po_post pb 0 0 [] [] (by omega) (by show ((0 : Nat) : Int) ≤ 1; omega) (w1.alloc (.cells (act23 sT sO v1 v2 (planWords (portPart 1 1)) 0 false 0 0 5 0 0) 49)) w1.heap.size false 0 5 0 0 (i64_small (by omega) (by omega)) (i64_small (by omega) (by omega)) (Nat.le_refl _) (ps.later ((Below.refl _ _).alloc (Nat.le_refl _) _)) (heap_alloc_new _ _))
  unfold act23 at HR
  clear hB hb1 hb1' pb ps HN
  go_wp2_with fail
  go_at_call 11
  refine HR.out.mono ?_
  rintro e w2 ⟨rfl, hS2, hx2, hs2, hk2⟩
  have hS2' : PoS w1 mb wb (portPart 1 1) 0 1 w2 1 [5] 0 [] := hS2
  have hch2 : ChgO (some wb) w1 w2 := by obtain ⟨m, h⟩ := hS2'; exact h.chg
  have r2 := row_of (hch2.blkAt PB.out)
  unfold benchArr at r2
  have z2 : bb < w2.heap.size := Nat.lt_of_lt_of_le z1 hch2.size
  have HMV := Lib.hid (po_move PB.out 1 0 [5] [] 1 rfl (by simp) (fun x hx => by simp at hx; subst hx; exact i64_small (by omega) (by omega)) w2.drew hch2.size (hS2'.later (Below.refl _ _).drew))
  have HC2 := Lib.hid hch2
  have e1 : putN ([5] : List Int).length ([] : List Int).length 1 = 1 := rfl
  rw [e1] at HMV
  unfold planArr at HMV
  clear hS2 hS2' hch2 hx2 hk2 r1 HR e1
  go_wp2_with fail
  go_region_held3 (fun w' => ∀ k, w'.cell? ⟨bb, k, none⟩ = #[.int .i64 0, .int .i64 2, .int .i64 4, .int .i64 3, .int .i64 5, .int .i64 6, .int .i64 8, .int .i64 41, .int .i64 43, sT, sO, .int .i64 (planWords (portPart 1 1)), v1, v2, .pointer (some ⟨mb, 0, none⟩), .pointer (some ⟨md, 0, none⟩)][k]?)
    ((with_reducible first | assumption | exact keepDr (by assumption)))
    (first
      | (go_at_call 13; refine HMV.out.mono ?_; rintro e w3 ⟨rfl, hS3⟩; have HS3 := Lib.hid hS3; have r3 := row_of (hS3.choose_spec.chg.blkAt PB.out); unfold benchArr at r3; clear hS3))
  all_goals
    go_wp2
    go_ret
    have hc := HS3.out.choose_spec.chg
    exact ⟨by simp, HB1.out.trans ⟨hc.os, hc.tape, hc.output, hc.size, fun j hj => hc.block j (by have := HB1.out.size; omega) (fun e => by cases e; omega)⟩⟩
end Go.Proofs.Ytpidlgmigmbbbaa
