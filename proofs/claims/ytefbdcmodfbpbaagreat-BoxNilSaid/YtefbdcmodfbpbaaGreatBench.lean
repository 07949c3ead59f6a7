/-
  septumlaw16.New: a bench: a plan, its memory, the reference's model.
  Literal partitions; a bench's Run.
-/
import Derived.Test.YtefbdcmodfbpbaaGreatNew13
import Derived.Test.YtefbdcmodfbpbaaGreatPBLaw
import Derived.Test.YtefbdcmodfbpbaaGreatMoreG
import Derived.Test.YtefbdcmodfbpbaaGreatPlanE
set_option linter.unusedVariables false
set_option linter.unusedSimpArgs false
namespace Go.Proofs.YtefbdcmodfbpbaaGreat
open Go.RowKit

theorem ModelAt.narrow {w : World} {B B' mb : Nat} {S : Nat → Prop} {M : MD} (h : ModelAt w B S mb M) (hB : B' ≤ B) : ModelAt w B' (fun k => S k ∧ k < w.heap.size) mb M := by
  obtain ⟨F, sT, sO, vT, vO, q, vm, h⟩ := h
  have hT : ∀ k, vT.ownBlock = some k → k < w.heap.size := fun k hk => by obtain ⟨L, _, _, _, h4⟩ := h.thr; exact (h4.lt k hk).2
  have hO : ∀ k, vO.ownBlock = some k → k < w.heap.size := fun k hk => by obtain ⟨L, _, _, _, h4⟩ := h.obj; exact (h4.lt k hk).2
  refine ⟨F, sT, sO, vT, vO, q, vm, h.blk, h.part, ?_, ?_, h.que, h.tim, fun k hk => ⟨h.inS k hk, (h.low k hk).1⟩, h.low, ⟨⟨h.mbS.1, (Array.getElem?_eq_some_iff.1 h.blk).1⟩, Nat.le_trans hB h.mbS.2⟩, fun k hk => ⟨⟨(h.tbS k hk).1, hT k hk⟩, (h.tbS k hk).2⟩, fun k hk => ⟨⟨(h.obS k hk).1, hO k hk⟩, (h.obS k hk).2⟩⟩
  · obtain ⟨L, l1, l2, l3, l4⟩ := h.thr
    exact ⟨L, l1, l2, l3, ownsRow_lower l4 hB⟩
  · obtain ⟨L, l1, l2, l3, l4⟩ := h.obj
    exact ⟨L, l1, l2, l3, ownsRow_lower l4 hB⟩

theorem keepAll {w : World} {b : Nat} {o : Obj} {cs : Array Value} (h : ∀ k, w.cell? ⟨b, k, none⟩ = cs[k]?) (hb : b < w.heap.size) : ∀ k, (w.alloc o).cell? ⟨b, k, none⟩ = cs[k]? := fun k => (World.cell?_of_block (w := w) (w' := w.alloc o) (a := ⟨b, k, none⟩) (Below.heap_alloc _ _ _ hb)).trans (h k)
theorem keepDr {w : World} {b : Nat} {cs : Array Value} (h : ∀ k, w.cell? ⟨b, k, none⟩ = cs[k]?) : ∀ k, w.drew.cell? ⟨b, k, none⟩ = cs[k]? := h
def benchArr (sT sO v1 v2 : Value) (W : Int) (mb md : Nat) : Array Value :=
  #[.int .i64 0, .int .i64 2, .int .i64 4, .int .i64 3, .int .i64 5, .int .i64 6, .int .i64 8, .int .i64 41, .int .i64 43, sT, sO, .int .i64 W, v1, v2, .pointer (some ⟨mb, 0, none⟩), .pointer (some ⟨md, 0, none⟩)]
/-- A bench in memory; all its own blocks lie at 'B' and above. -/
structure BenchAt (w : World) (B : Nat) (F S : Nat → Prop) (bb mb wb md : Nat) (P : PartD) (sT sO v1 v2 : Value) (m : Mem) (M : MD) : Prop where
  blk : w.heap[bb]? = some (.cells (benchArr sT sO v1 v2 (planWords P) mb md) 65 (0, 0))
  plan : PlanVal w F (.agg (planArr sT sO v1 v2 (planWords P))) P
  mem : MemAt w mb wb m
  mod : ModelAt w B S md M
  base : B ≤ bb ∧ B ≤ mb ∧ B ≤ wb
  sepF : ∀ k, F k → B ≤ k ∧ k < w.heap.size ∧ k ≠ bb ∧ k ≠ mb ∧ k ≠ wb
  sepS : ¬ S bb ∧ ¬ S mb ∧ ¬ S wb
  sep : bb ≠ mb ∧ bb ≠ wb

set_option maxRecDepth 100000 in
set_option maxHeartbeats 4000000 in
theorem newBench_yes (P : PartD) (pv : Value) (F0 : Nat → Prop) (hok : PartOk P) (hw : partWrong P = 0) (w : World) (h0 : PartAt w F0 pv P) :
    Calls Tryz.prog 25 #[pv] w fun e w' => ∃ F S bb mb wb md sT sO v1 v2, e = .returned (.pointer (some ⟨bb, 0, none⟩)) ∧ BenchAt w' w.heap.size F S bb mb wb md P sT sO v1 v2 (bootM P) (model0 P) ∧ Below w.heap.size w w' := by
  obtain ⟨FP, hFl, h⟩ : ∃ F : Nat → Prop, (∀ k, F k → k < w.heap.size) ∧ PartAt w F pv P := ⟨_, fun k hk => hk.2, h0.inn⟩
  have HPA := Lib.hid h
  have HFL := Lib.hid hFl
  have HO := Lib.hid (fun (W : World) (hb : Below w.heap.size w W) => planOf_yes P pv FP hok hw W (h.kept (fun k hk _ => hb.block k hk)))
  obtain ⟨q6, q1, q8, qp, qo⟩ := partRight hw
  have QP := Lib.hid qp
  have QO := Lib.hid qo
  have HPO := Lib.hid (poolSize hw)
  obtain ⟨v1, v3, rfl, h1, h2⟩ := h
  obtain ⟨A1, c1, rfl⟩ := h1.slice
  obtain ⟨A2, c2, rfl⟩ := ObjsAt.slice h2
  clear h1 h2 hok hFl hw h0 qp qo
  go_enter Tryz.func25, Tryz.ntmps25
  go_wp2_with fail
  go_at_call 70
  refine (HO.out _ ((Below.refl _ _).alloc (Nat.le_refl _) _)).mono ?_
  rintro e w3 ⟨pv, rfl, hP, hb3⟩
  rw [World.size_alloc] at hP
  replace hP := hP.inn
  have hP0 := hP
  obtain ⟨sT, sO, u1, u2, rfl, g1, g2, g3⟩ := hP
  obtain ⟨B1, d1, e1⟩ := g1.slice
  obtain ⟨B2, d2, e2⟩ := g2.slice
  obtain ⟨x1, x2, e0, g5, g6⟩ := g3
  cases e0
  obtain ⟨B3, d3, rfl⟩ := g5.slice
  obtain ⟨B4, d4, rfl⟩ := ObjsAt.slice g6
  rw [thAts_length] at e1
  rw [obAts_length] at e2
  subst e1 e2
  have hb3' : Below (w.heap.size + 1) (w.alloc (.cells #[.slice A1 P.thr.length c1, .slice A2 P.obj.length c2] 25)) w3 := hb3.mono (by simp)
  have hsz : w.heap.size < w3.heap.size := by have := hb3'.size; rw [World.size_alloc] at this; omega
  have HP := Lib.hid hP0
  have HB3 := Lib.hid hb3'
  have p1 := (box_cells hb3').1
  clear hb3 hb3' hP0 g1 g2 g5 g6 HO
  simp only [planArr] at HP ⊢
  obtain ⟨w4, hW4⟩ : ∃ x, x = w3.alloc (.cells #[.int .i64 0, .int .i64 2, .int .i64 4, .int .i64 3, .int .i64 5, .int .i64 6, .int .i64 8, .int .i64 41, .int .i64 43, .slice B1 P.thr.length d1, .slice B2 P.obj.length d2, .int .i64 (planWords P), .slice B3 P.thr.length d3, .slice B4 P.obj.length d4] 61) := ⟨_, rfl⟩
  have hs4 : w3.heap.size + 1 ≤ w4.heap.size ∧ w4.heap.size ≤ w3.heap.size + 1 := by rw [hW4, World.size_alloc]; omega
  have hq4 : w4.heap[w3.heap.size]? = some (.cells #[.int .i64 0, .int .i64 2, .int .i64 4, .int .i64 3, .int .i64 5, .int .i64 6, .int .i64 8, .int .i64 41, .int .i64 43, .slice B1 P.thr.length d1, .slice B2 P.obj.length d2, .int .i64 (planWords P), .slice B3 P.thr.length d3, .slice B4 P.obj.length d4] 61 (0, 0)) := by rw [hW4]; exact heap_alloc_new _ _
  have HP4 := Lib.hid (HP.out.kept (w' := w4) (fun k hk hF => by rw [hW4]; exact Below.heap_alloc _ _ _ hk))
  have hbx : Below (w.heap.size + 1) (w.alloc (.cells #[.slice A1 P.thr.length c1, .slice A2 P.obj.length c2] 25)) w4 := by
    rw [hW4]; exact HB3.out.alloc (by have := HB3.out.size; rw [World.size_alloc] at this; exact this) _
  have HBX := Lib.hid hbx
  have HQ4 := Lib.hid hq4
  have HW4 := Lib.hid hW4
  have r4 := row_of hq4
  have r1 := (box_cells hbx).1
  have z4 : w3.heap.size < w4.heap.size := by omega
  have z4' : w.heap.size < w4.heap.size := by omega
  clear hbx hW4 hq4 p1
  go_wp2_with fail
  rw [← HW4.out]
  have HBOOT := Lib.hid (fun (W : World) (hb : Below w4.heap.size w4 W) => planBoot_any P _ _ q6 q8 QP.out QO.out W (HP4.out.kept (fun k hk _ => hb.block k hk)))
  have HNEW := Lib.hid (fun (W : World) (hb : Below w4.heap.size w4 W) => new13_any P _ FP (by omega) (by omega) QP.out HPO.out W (fun k hk => Nat.lt_of_lt_of_le (HFL.out k hk) (by have := hb.size; omega)) (HPA.out.kept (fun k hk _ => (hb.block k (by omega)).trans ((HBX.out.block k (by omega)).trans (Below.heap_alloc _ _ _ hk)))))
  go_region_held3 (fun w' => (∀ k, w'.cell? ⟨w3.heap.size, k, none⟩ = #[.int .i64 0, .int .i64 2, .int .i64 4, .int .i64 3, .int .i64 5, .int .i64 6, .int .i64 8, .int .i64 41, .int .i64 43, .slice B1 P.thr.length d1, .slice B2 P.obj.length d2, .int .i64 (planWords P), .slice B3 P.thr.length d3, .slice B4 P.obj.length d4][k]?) ∧ (∀ k, w'.cell? ⟨w.heap.size, k, none⟩ = #[.slice A1 P.thr.length c1, .slice A2 P.obj.length c2][k]?))
    (((try dsimp only); (try go_split_ands); (with_reducible repeat' apply And.intro); all_goals (with_reducible first | assumption | exact keepDr (by assumption) | exact keepAll (by assumption) (by assumption))))
    (first
      | ((try go_split_ands); go_at_call 71; refine (HBOOT.out _ (Below.refl _ _).drew).mono ?_; rintro e w5 ⟨mb, wb, rfl, hm, hb5, lm, lw⟩; have hc5 := hb5.size; have hr5 := fun k => (World.cell?_of_block (w := w4) (w' := w5) (a := ⟨w3.heap.size, k, none⟩) (hb5.block w3.heap.size z4)).trans (r4 k); have hr5' := fun k => (World.cell?_of_block (w := w4) (w' := w5) (a := ⟨w.heap.size, k, none⟩) (hb5.block w.heap.size z4')).trans (r1 k); have HM5 := Lib.hid hm; have HB5 := Lib.hid (⟨hb5.os, hb5.tape, hb5.output, hb5.size, hb5.block⟩ : Below w4.heap.size w4 w5); clear hm hb5)
      | ((try go_split_ands); go_at_call 72; refine (HNEW.out _ HB5.out).mono ?_; rintro e w6 ⟨rfl, hM, hb6⟩; have hc6 := hb6.size; have hr6 := fun k => (World.cell?_of_block (w := w5) (w' := w6) (a := ⟨w3.heap.size, k, none⟩) (hb6.block w3.heap.size (Nat.lt_of_lt_of_le z4 hc5))).trans (hr5 k); have hr6' := fun k => (World.cell?_of_block (w := w5) (w' := w6) (a := ⟨w.heap.size, k, none⟩) (hb6.block w.heap.size (Nat.lt_of_lt_of_le z4' hc5))).trans (hr5' k); have hz6 := Nat.lt_of_lt_of_le (Nat.lt_of_lt_of_le z4 hc5) hc6; have hz6' := Nat.lt_of_lt_of_le (Nat.lt_of_lt_of_le z4' hc5) hc6; have HM6 := Lib.hid hM; have HB6 := Lib.hid hb6; clear hM hb6))
  all_goals
    have lm' : w4.heap.size ≤ mb := lm
    have lw' : w4.heap.size ≤ wb := lw
    have l1 := lt_of_block HM5.out.st
    have l2 := lt_of_block HM5.out.ws
    have k56 : ∀ j, j < w5.heap.size → ∀ o, (w6.alloc o).heap[j]? = w5.heap[j]? := fun j hj o => (Below.heap_alloc _ _ _ (by omega)).trans (HB6.out.block j hj)
    have k46 : ∀ j, j < w4.heap.size → ∀ o, (w6.alloc o).heap[j]? = w4.heap[j]? := fun j hj o => (k56 j (by omega) o).trans (HB5.out.block j hj)
    have hfin : ∀ o, BenchAt (w6.alloc o) w.heap.size (fun k => w.heap.size + 1 ≤ k ∧ k < w3.heap.size) (fun k => (FP k ∨ w5.heap.size ≤ k) ∧ k < w6.heap.size) w6.heap.size mb wb (w5.heap.size + 1) P (.slice B1 P.thr.length d1) (.slice B2 P.obj.length d2) (.slice B3 P.thr.length d3) (.slice B4 P.obj.length d4) (bootM P) (model0 P) ∨ o ≠ .cells (benchArr (.slice B1 P.thr.length d1) (.slice B2 P.obj.length d2) (.slice B3 P.thr.length d3) (.slice B4 P.obj.length d4) (planWords P) mb (w5.heap.size + 1)) 65 := by
      intro o
      by_cases ho : o = .cells (benchArr (.slice B1 P.thr.length d1) (.slice B2 P.obj.length d2) (.slice B3 P.thr.length d3) (.slice B4 P.obj.length d4) (planWords P) mb (w5.heap.size + 1)) 65
      · left
        subst ho
        refine ⟨heap_alloc_new _ _, ?_, ?_, ?_, ⟨by omega, by omega, by omega⟩, fun k hk => ⟨by omega, by simp; omega, by omega, by omega, by omega⟩, ⟨fun h => by omega, fun h => ?_, fun h => ?_⟩, ⟨by omega, by omega⟩⟩
        · exact HP4.out.kept (fun k hk hF => k46 k hk _)
        · exact HM5.out.kept (k56 _ l1 _) (k56 _ l2 _)
        · exact (HM6.out.narrow (by omega)).kept (fun k hk _ => Below.heap_alloc _ _ _ hk) (by simp)
        · rcases h.1 with h' | h'
          · have := HFL.out _ h'; omega
          · omega
        · rcases h.1 with h' | h'
          · have := HFL.out _ h'; omega
          · omega
      · exact .inr ho
    have hbel : Below w.heap.size w w6 := (((Below.refl _ _).alloc (Nat.le_refl _) _).trans (HBX.out.mono (by omega))).trans ((HB5.out.mono (by omega)).trans (HB6.out.mono (by omega)))
    have HFin := Lib.hid (hfin _ |>.resolve_right (fun h => h rfl))
    have HBel := Lib.hid hbel
    clear hfin hbel k46 k56 hr5 hr5' hr6 hr6'
    go_wp2
    go_ret
    exact ⟨_, _, _, mb, wb, _, _, _, _, _, rfl, HFin.out, HBel.out.alloc (by have := HBel.out.size; exact this) _⟩
end Go.Proofs.YtefbdcmodfbpbaaGreat
namespace Go.Proofs.YtefbdcmodfbpbaaGreat
open Go.RowKit

/-- A partition of plain threads, and objects. -/
def litPart (ps : List Int) (os : List ObjD) : PartD := { thr := (plainPart ps).thr, obj := os }
theorem litPart_at (w : World) (b bo : Nat) (ps : List Int) (os : List ObjD) (n m : Nat) (hn : ps.length = n) (hm : os.length = m) (cs ds : Array Value) (h : w.heap[b]? = some (.cells cs 105 (0, 0))) (hc : cs = (ps.flatMap (fun p => [Value.int .i64 p, .int .u32 0, .bool false, .slice none 0 0])).toArray)
    (ho : w.heap[bo]? = some (.cells ds 129 (0, 0))) (hd : ds = (encObjs os).toArray) :
    PartAt w (fun _ => True) (.agg #[.slice (some ⟨b, 0, none⟩) n n, .slice (some ⟨bo, 0, none⟩) m m]) (litPart ps os) := by
  obtain ⟨v1, v2, e, h1, _⟩ := plainPart_at w b ps n hn cs h hc
  cases e
  subst hm
  refine ⟨_, _, rfl, h1, ⟨encObjs_length os, _, _, rfl, fun _ => ⟨bo, 0, rfl, trivial, fun j u hu => ?_⟩⟩⟩
  rw [Nat.zero_add, cell_of_block ho, hd]
  have hu' : (encObjs os)[j]? = some u := hu
  simpa using hu'
theorem litPart_ok (ps : List Int) (os : List ObjD) (h : ps.length ≤ 100) (ho : os.length ≤ 100) : PartOk (litPart ps os) := by
  have := plainPart_ok ps h
  exact ⟨this.caps, this.thr, ho, this.prog⟩
set_option maxHeartbeats 400000 in
theorem benchRun (bb mb : Nat) (nb : Nat) (recv : Value) (w : World) (hc : w.cell? ⟨bb, 14, none⟩ = some (.pointer (some ⟨mb, 0, none⟩))) (Q : World → Prop)
    (h : Calls Tryz.prog 83 #[.pointer (some ⟨mb, 0, none⟩), bound nb recv, .int .i64 60000] w fun e w' => e = .returned (.bool true) ∧ Q w') :
    Calls Tryz.prog 29 #[.pointer (some ⟨bb, 0, none⟩), bound nb recv] w fun e w' => e = .returned (.bool true) ∧ Q w' := by
  have H := Lib.hid h
  clear h
  go_enter Tryz.func29, Tryz.ntmps29
  go_wp2_with fail
  go_at_call 83
  refine H.out.mono ?_
  rintro e w1 ⟨rfl, hq⟩
  have HQ := Lib.hid hq
  clear hq
  go_wp2
  go_ret
  exact ⟨rfl, HQ.out⟩
end Go.Proofs.YtefbdcmodfbpbaaGreat
