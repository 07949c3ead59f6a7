/-
  septumref13.New.
-/
import Derived.Test.YtefbdcmodfbpbaaGreatModel
import Derived.Test.YtefbdcmodfbpbaaGreatBootLaw3
import Derived.Test.YtefbdcmodfbpbaaGreatBoot1
import Derived.Test.YtefbdcmodfbpbaaGreatKeep2
import Derived.Deep.RegionHeld3
import Derived.Deep.DeepCutAuto
import Derived.StillTailTactics
set_option linter.unusedVariables false
set_option linter.unusedSimpArgs false
namespace Go.Proofs.YtefbdcmodfbpbaaGreat
open Go.RowKit

theorem Tryz.info_obj13 : (Tryz.prog.info? 196).map (fun i => (i.zero, i.size, i.bytes)) = some (some (.agg #[.int .i64 0, .slice none 0 0, .slice none 0 0, .slice none 0 0, .int .i64 0, .pointer none, .int .i64 0, .int .i64 0, .int .i64 0]), 9, 120) := by kernel_rfl
theorem Tryz.info_thr13 : (Tryz.prog.info? 200).map (fun i => (i.zero, i.size, i.bytes)) = some (some (.agg #[.int .i64 0, .int .i64 0, .int .i64 0, .int .i64 0, .int .i64 0, .int .i64 0, .int .i64 0, .slice none 0 0, .int .i64 0, .int .i64 0, .slice none 0 0, .slice none 0 0, .slice none 0 0, .int .i64 0]), 14, 176) := by kernel_rfl

theorem objRow_k : ∀ (w w' : World) (F : Nat → Prop) (x : MO) (l : List Value), (∀ k, k < w.heap.size → F k → w'.heap[k]? = w.heap[k]?) → ObjRow w F x l → ObjRow w' F x l := fun _ _ _ _ _ h h' => h'.kept h
theorem objRow_w : ∀ (w : World) (F F' : Nat → Prop) (x : MO) (l : List Value), (∀ k, F k → F' k) → ObjRow w F x l → ObjRow w F' x l := fun _ _ _ _ _ h h' => h'.wider h
theorem thrRow_k : ∀ (w w' : World) (F : Nat → Prop) (x : MT) (l : List Value), (∀ k, k < w.heap.size → F k → w'.heap[k]? = w.heap[k]?) → ThrRow w F x l → ThrRow w' F x l := fun _ _ _ _ _ h h' => h'.kept h
theorem thrRow_w : ∀ (w : World) (F F' : Nat → Prop) (x : MT) (l : List Value), (∀ k, F k → F' k) → ThrRow w F x l → ThrRow w F' x l := fun _ _ _ _ _ h h' => h'.wider h
theorem nil_ints (w : World) (F : Nat → Prop) : IntsAt w F (.slice none 0 0) [] := ⟨rfl, none, 0, rfl, fun h => absurd h (by simp)⟩
theorem nil_pairs (w : World) (F : Nat → Prop) : PairsAt w F (.slice none 0 0) [] := ⟨rfl, none, 0, rfl, fun h => absurd h (by simp)⟩
/-- The rows of objects behind loop 1's round 'k'. -/
abbrev ObjSt (wr : World) (B : Nat) (v : Value) (os : List ObjD) : Prop := RowsSt ObjRow wr B 196 9 v (os.map mo0)
abbrev ThrSt (wr : World) (B : Nat) (v : Value) (ts : List ThreadD) : Prop := RowsSt ThrRow wr B 200 14 v (ts.map fun t => mt0 t.prio)
theorem obj0_row (w : World) (F : Nat → Prop) (o : ObjD) (h : ¬ o.kind = 4) : ObjRow w F (mo0 o) [.int .i64 0, .slice none 0 0, .slice none 0 0, .slice none 0 0, .int .i64 0, .pointer none, .int .i64 (-1), .int .i64 0, .int .i64 0] :=
  ⟨_, _, _, _, rfl, nil_ints _ _, nil_ints _ _, nil_ints _ _, by unfold mo0; rw [if_neg h]; rfl⟩
theorem obj4_row (w : World) (F : Nat → Prop) (o : ObjD) (h : o.kind = 4) (b : Nat) (v : Value) (hF : F b) (hb : w.heap[b]? = some (.cells #[.int .i64 o.size, v] 260 (0, 0))) (hi : IntsAt w F v (natsI o.size.toNat)) : ObjRow w F (mo0 o) [.int .i64 0, .slice none 0 0, .slice none 0 0, .slice none 0 0, .int .i64 0, .pointer (some ⟨b, 0, none⟩), .int .i64 (-1), .int .i64 0, .int .i64 0] :=
  ⟨_, _, _, _, rfl, nil_ints _ _, nil_ints _ _, nil_ints _ _, by unfold mo0; rw [if_pos h]; exact ⟨b, v, rfl, hF, hb, hi⟩⟩
theorem thr0_row (w : World) (F : Nat → Prop) (t : ThreadD) : ThrRow w F (mt0 t.prio) [.int .i64 0, .int .i64 t.prio, .int .i64 t.prio, .int .i64 (-1), .int .i64 0, .int .i64 0, .int .i64 0, .slice none 0 0, .int .i64 0, .int .i64 0, .slice none 0 0, .slice none 0 0, .slice none 0 0, .int .i64 0] :=
  ⟨_, _, _, _, rfl, nil_ints _ _, nil_ints _ _, nil_ints _ _, nil_pairs _ _⟩
theorem one9 (p : Value) (hp : p.oneCell' = true) : ∀ u ∈ ([.int .i64 0, .slice none 0 0, .slice none 0 0, .slice none 0 0, .int .i64 0, p, .int .i64 (-1), .int .i64 0, .int .i64 0] : List Value), u.oneCell' = true := by
  intro u hu
  simp only [List.mem_cons, List.not_mem_nil, or_false] at hu
  rcases hu with rfl | rfl | rfl | rfl | rfl | rfl | rfl | rfl | rfl <;> first | rfl | exact hp

/-- What loop 1 keeps. -/
def ObjLoop (w wr : World) (sT sO : Value) (P : PartD) (k : Nat) (vO : Value) : Prop :=
  wr.heap[w.heap.size + 1]? = some (.cells (modelCells sT sO (.slice none 0 0) vO (fun _ => .slice none 0 0) (.slice none 0 0) 0) 193 (0, 0)) ∧
  ObjSt wr (w.heap.size + 2) vO (P.obj.take k) ∧ Below (w.heap.size + 1) (w.alloc (.cells #[sT, sO] 25)) wr ∧ w.heap.size + 2 ≤ wr.heap.size
theorem ObjLoop.next {w wr w4 w5 : World} {sT sO : Value} {P : PartD} {k : Nat} {vO : Value} (h : ObjLoop w wr sT sO P k vO) (hk : k < P.obj.length) (h4 : Below wr.heap.size wr w4) (cells : List Value) (hc : wr.ownsRow (w.heap.size + 2) 196 9 vO k cells)
    (news : List Value) (F4 : Nat → Prop) (hn : news.length = 9) (hx : ObjRow w4 F4 (mo0 P.obj[k]) news) (hF4 : ∀ j, F4 j → wr.heap.size ≤ j ∧ j < w4.heap.size) {gg cap : Nat}
    (hown : w5.ownsRow (w.heap.size + 2) 196 9 (.slice (some ⟨gg, 0, none⟩) (k + 1) cap) (k + 1) (cells ++ news)) (hg : w4.grownBy w5 vO.ownBlock) (hat : vO.ownBlock = some gg ∨ gg = w4.heap.size) :
    ObjLoop w (w5.setCell ⟨w.heap.size + 1, 3, none⟩ (.slice (some ⟨gg, 0, none⟩) (k + 1) cap)) sT sO P (k + 1) (.slice (some ⟨gg, 0, none⟩) (k + 1) cap) := by
  obtain ⟨h1, h2, h3, h3'⟩ := h
  have hlen : ((P.obj.take k).map mo0).length = k := by simp; omega
  have hs4 := h4.size
  have hs5 := hg.size
  have hmn : ∀ j, j < w.heap.size + 2 → some j ≠ vO.ownBlock := fun j hj e => by have := (h2.own j e.symm).1; omega
  have hmlt := (Array.getElem?_eq_some_iff.1 h1).1
  have hb5 : w5.heap[w.heap.size + 1]? = _ := (hg.block _ (by omega) (hmn _ (by omega))).trans ((h4.block _ hmlt).trans h1)
  have hst := rows_push objRow_k objRow_w (by omega) h2 (fun j _ hj => h4.block j hj) hs4 h3' cells (by rw [hlen]; exact hc) (mo0 P.obj[k]) news hn F4 hx
    (fun j hj => ⟨by have := (hF4 j hj).1; omega, (hF4 j hj).2, fun e => by have := (h2.own j e).2; have := (hF4 j hj).1; omega⟩) (gg := gg) (cap := cap) (by rw [hlen]; exact hown) hg hat
  rw [hlen] at hst
  have e1 : (P.obj.take k).map mo0 ++ [mo0 P.obj[k]] = (P.obj.take (k + 1)).map mo0 := by rw [List.take_succ_eq_append_getElem hk, List.map_append]; rfl
  rw [e1] at hst
  refine ⟨?_, ?_, ?_, by simp only [World.size_setCell]; omega⟩
  · rw [set_blockK hb5 3 _]; rfl
  · exact RowsSt.kept objRow_k hst (fun j hj _ => block_setCell_other _ _ _ (by omega)) (by simp)
  · refine Below.setCell ((h3.trans (h4.mono (by omega))).trans ⟨hg.os, hg.tape, hg.output, hg.size, fun j hj => hg.block j (by omega) (hmn j (by omega))⟩) (Nat.le_refl _) _

theorem modelCells_q (sT sO vT vO : Value) (q : Nat → Value) (vm : Value) (c : Int) (p : Nat) (h : p < 16) : (modelCells sT sO vT vO q vm c)[4 + p]? = some (q p) := by
  have : p = 0 ∨ p = 1 ∨ p = 2 ∨ p = 3 ∨ p = 4 ∨ p = 5 ∨ p = 6 ∨ p = 7 ∨ p = 8 ∨ p = 9 ∨ p = 10 ∨ p = 11 ∨ p = 12 ∨ p = 13 ∨ p = 14 ∨ p = 15 := by omega
  rcases this with rfl | rfl | rfl | rfl | rfl | rfl | rfl | rfl | rfl | rfl | rfl | rfl | rfl | rfl | rfl | rfl <;> rfl
theorem modelCells_set (sT sO vT vO : Value) (q : Nat → Value) (vm : Value) (c : Int) (p : Nat) (h : p < 16) (v : Value) : (modelCells sT sO vT vO q vm c).setIfInBounds (4 + p) v = modelCells sT sO vT vO (fun j => if j = p then v else q j) vm c := by
  have : p = 0 ∨ p = 1 ∨ p = 2 ∨ p = 3 ∨ p = 4 ∨ p = 5 ∨ p = 6 ∨ p = 7 ∨ p = 8 ∨ p = 9 ∨ p = 10 ∨ p = 11 ∨ p = 12 ∨ p = 13 ∨ p = 14 ∨ p = 15 := by omega
  rcases this with rfl | rfl | rfl | rfl | rfl | rfl | rfl | rfl | rfl | rfl | rfl | rfl | rfl | rfl | rfl | rfl <;> rfl

/-- What loop 2 keeps: 'wb' is the world at its start. -/
def ThrLoop (wb wr : World) (mb : Nat) (sT sO vO : Value) (P : PartD) (k : Nat) (vT : Value) (q : Nat → Value) : Prop :=
  wr.heap[mb]? = some (.cells (modelCells sT sO vT vO q (.slice none 0 0) 0) 193 (0, 0)) ∧
  ThrSt wr wb.heap.size vT (P.thr.take k) ∧
  (∀ p, p < 16 → IntsAt wr (fun j => wb.heap.size ≤ j ∧ j < wr.heap.size ∧ vT.ownBlock ≠ some j) (q p) (qlist (P.thr.take k) 0 (fun _ => []) p)) ∧
  ChgO (some mb) wb wr ∧ mb < wb.heap.size
theorem ThrLoop.next {wb wr w4 w5 : World} {mb : Nat} {sT sO vO : Value} {P : PartD} {k : Nat} {vT : Value} {q : Nat → Value} (h : ThrLoop wb wr mb sT sO vO P k vT q) (hk : k < P.thr.length) (h4 : Below wr.heap.size wr w4) (cells : List Value) (hc : wr.ownsRow wb.heap.size 200 14 vT k cells)
    {gg cap : Nat} (hown : w5.ownsRow wb.heap.size 200 14 (.slice (some ⟨gg, 0, none⟩) (k + 1) cap) (k + 1) (cells ++ [.int .i64 0, .int .i64 P.thr[k].prio, .int .i64 P.thr[k].prio, .int .i64 (-1), .int .i64 0, .int .i64 0, .int .i64 0, .slice none 0 0, .int .i64 0, .int .i64 0, .slice none 0 0, .slice none 0 0, .slice none 0 0, .int .i64 0])) (hg : w4.grownBy w5 vT.ownBlock) (hat : vT.ownBlock = some gg ∨ gg = w4.heap.size) :
    (w5.setCell ⟨mb, 2, none⟩ (.slice (some ⟨gg, 0, none⟩) (k + 1) cap)).heap[mb]? = some (.cells (modelCells sT sO (.slice (some ⟨gg, 0, none⟩) (k + 1) cap) vO q (.slice none 0 0) 0) 193 (0, 0)) ∧
    ThrSt (w5.setCell ⟨mb, 2, none⟩ (.slice (some ⟨gg, 0, none⟩) (k + 1) cap)) wb.heap.size (.slice (some ⟨gg, 0, none⟩) (k + 1) cap) (P.thr.take (k + 1)) ∧
    (∀ p, p < 16 → IntsAt (w5.setCell ⟨mb, 2, none⟩ (.slice (some ⟨gg, 0, none⟩) (k + 1) cap)) (fun j => wb.heap.size ≤ j ∧ j < (w5.setCell ⟨mb, 2, none⟩ (.slice (some ⟨gg, 0, none⟩) (k + 1) cap)).heap.size ∧ gg ≠ j) (q p) (qlist (P.thr.take k) 0 (fun _ => []) p)) ∧
    ChgO (some mb) wb (w5.setCell ⟨mb, 2, none⟩ (.slice (some ⟨gg, 0, none⟩) (k + 1) cap)) := by
  obtain ⟨h1, h2, h3, h5, h6⟩ := h
  have hlen : ((P.thr.take k).map fun t => mt0 t.prio).length = k := by simp; omega
  have hs4 := h4.size
  have hs5 := hg.size
  have hsb := h5.size
  have hmn : ∀ j, j < wb.heap.size → some j ≠ vT.ownBlock := fun j hj e => by have := (h2.own j e.symm).1; omega
  have hmlt := (Array.getElem?_eq_some_iff.1 h1).1
  have hb5 : w5.heap[mb]? = _ := (hg.block _ (by omega) (hmn _ h6)).trans ((h4.block _ hmlt).trans h1)
  have hst := rows_push thrRow_k thrRow_w (by omega) h2 (fun j _ hj => h4.block j hj) hs4 hsb cells (by rw [hlen]; exact hc) (mt0 P.thr[k].prio) _ rfl (fun _ => False) (thr0_row _ _ _) (fun j hj => hj.elim) (gg := gg) (cap := cap) (by rw [hlen]; exact hown) hg hat
  rw [hlen] at hst
  have e1 : ((P.thr.take k).map fun t => mt0 t.prio) ++ [mt0 P.thr[k].prio] = (P.thr.take (k + 1)).map fun t => mt0 t.prio := by rw [List.take_succ_eq_append_getElem hk, List.map_append]; rfl
  rw [e1] at hst
  refine ⟨?_, ?_, fun p hp => ?_, ?_⟩
  · rw [set_blockK hb5 2 _]; rfl
  · exact RowsSt.kept thrRow_k hst (fun j hj _ => block_setCell_other _ _ _ (by omega)) (by simp)
  · refine Reads.wider (F := fun j => wb.heap.size ≤ j ∧ j < wr.heap.size ∧ vT.ownBlock ≠ some j) (Reads.kept (h3 p hp) (fun j hj hF => ?_)) (fun j hF => ⟨hF.1, by have := hF.2.1; rw [World.size_setCell]; omega, fun e => ?_⟩)
    · rw [block_setCell_other _ _ _ (by omega)]
      exact (hg.block j (by omega) hF.2.2.symm).trans (h4.block j hj)
    · rcases hat with h' | h'
      · exact hF.2.2 (by rw [h', e])
      · have := hF.2.1; omega
  · refine ChgO.set ⟨hg.os.trans (h4.os.trans h5.os), hg.tape.trans (h4.tape.trans h5.tape), hg.output.trans (h4.output.trans h5.output), by omega, fun j hj hne => ?_⟩ rfl _
    exact (hg.block j (by omega) (hmn j hj)).trans ((h4.block j (by omega)).trans (h5.block j hj hne))
theorem ThrLoop.queue {wb w5 w6 : World} {mb : Nat} {sT sO vO : Value} {P : PartD} {k gg cap : Nat} {q : Nat → Value} {v : Value} (hk : k < P.thr.length) (hp0 : 0 ≤ P.thr[k].prio) (hp1 : P.thr[k].prio < 16)
    (h2 : ThrSt w5 wb.heap.size (.slice (some ⟨gg, 0, none⟩) (k + 1) cap) (P.thr.take (k + 1)))
    (h3 : ∀ p, p < 16 → IntsAt w5 (fun j => wb.heap.size ≤ j ∧ j < w5.heap.size ∧ gg ≠ j) (q p) (qlist (P.thr.take k) 0 (fun _ => []) p)) (h5 : ChgO (some mb) wb w5) (h6 : mb < wb.heap.size)
    (hv : IntsAt w6 (fun j => w5.heap.size ≤ j) v (qlist (P.thr.take k) 0 (fun _ => []) P.thr[k].prio.toNat ++ [(k : Int)])) (hb : w6.heap[mb]? = some (.cells ((modelCells sT sO (.slice (some ⟨gg, 0, none⟩) (k + 1) cap) vO q (.slice none 0 0) 0).setIfInBounds (4 + P.thr[k].prio.toNat) v) 193 (0, 0))) (hc : ChgO (some mb) w5 w6) :
    ThrLoop wb w6 mb sT sO vO P (k + 1) (.slice (some ⟨gg, 0, none⟩) (k + 1) cap) (fun j => if j = P.thr[k].prio.toNat then v else q j) := by
  have hpp : P.thr[k].prio.toNat < 16 := by omega
  rw [modelCells_set _ _ _ _ _ _ _ _ hpp] at hb
  have hgg := (h2.own gg rfl)
  have hs5 := hc.size
  refine ⟨hb, RowsSt.kept thrRow_k h2 (fun j h7 h8 => hc.block j h8 (fun e => by cases e; omega)) hs5, fun p hp => ?_, ⟨hc.os.trans h5.os, hc.tape.trans h5.tape, hc.output.trans h5.output, Nat.le_trans h5.size hs5, fun j h7 h8 => (hc.block j (by have := h5.size; omega) h8).trans (h5.block j h7 h8)⟩, h6⟩
  rw [List.take_succ_eq_append_getElem hk, qlist_snoc]
  have e1 : ((0 + (P.thr.take k).length : Nat) : Int) = (k : Int) := by simp; omega
  rw [e1]
  show IntsAt w6 _ (if p = P.thr[k].prio.toNat then v else q p) _
  by_cases e : p = P.thr[k].prio.toNat
  · subst e
    rw [if_pos rfl]
    have e2 : addL (qlist (P.thr.take k) 0 fun _ => []) P.thr[k].prio.toNat (k : Int) P.thr[k].prio.toNat = qlist (P.thr.take k) 0 (fun _ => []) P.thr[k].prio.toNat ++ [(k : Int)] := by simp [addL]
    rw [e2]
    have hv' : IntsAt w6 (fun j => w5.heap.size ≤ j ∧ j < w6.heap.size) v _ := Reads.inn hv (by omega)
    exact Reads.wider hv' (fun j hj => ⟨by have := hj.1; have := hgg.2; omega, hj.2, fun e => by have e' : gg = j := Option.some.inj e; have := hj.1; have := hgg.2; omega⟩)
  · rw [if_neg e]
    have e2 : addL (qlist (P.thr.take k) 0 fun _ => []) P.thr[k].prio.toNat (k : Int) p = qlist (P.thr.take k) 0 (fun _ => []) p := by simp [addL, e]
    rw [e2]
    exact Reads.wider (Reads.kept (h3 p hp) (fun j h7 h8 => hc.block j h7 (fun e => by cases e; have := h8.1; omega))) (fun j h8 => ⟨h8.1, by have := h8.2.1; omega, fun e => by cases e; exact h8.2.2 rfl⟩)
/-- The model, at the end. -/
theorem ThrLoop.model {w wb w' : World} {sT sO vO vT : Value} {P : PartD} {q : Nat → Value} {F : Nat → Prop} (h : ThrLoop wb w' (w.heap.size + 1) sT sO vO P P.thr.length vT q) (ho : ObjLoop w wb sT sO P P.obj.length vO) (hF : ∀ k, F k → k < w.heap.size) (hP : PartAt w F (.agg #[sT, sO]) P) :
    ModelAt w' w.heap.size (fun j => F j ∨ w.heap.size ≤ j) (w.heap.size + 1) (model0 P) ∧ Below w.heap.size w w' := by
  obtain ⟨h1, h2, h3, h5, h6⟩ := h
  obtain ⟨_, g2, g3, g4⟩ := ho
  rw [List.take_length] at h2 g2
  have hb : Below w.heap.size w w' := by
    refine (below_box g3).trans ⟨h5.os, h5.tape, h5.output, h5.size, fun j hj => h5.block j (by omega) (fun e => by cases e; omega)⟩
  refine ⟨?_, hb⟩
  have g2' := RowsSt.kept objRow_k g2 (w' := w') (fun j h7 h8 => h5.block j h8 (fun e => by cases e; omega)) h5.size
  obtain ⟨FT, hT, hFT⟩ := h2
  obtain ⟨FO, hO, hFO⟩ := g2
  have hTo : ∀ k, vT.ownBlock = some k → wb.heap.size ≤ k ∧ k < w'.heap.size := fun k hk => by
    obtain ⟨L, _, _, _, h⟩ := hT
    exact h.lt k hk
  have hOo : ∀ k, vO.ownBlock = some k → w.heap.size + 2 ≤ k ∧ k < wb.heap.size := fun k hk => by
    obtain ⟨L, _, _, _, h⟩ := hO
    exact h.lt k hk
  have hsz := h5.size
  refine ⟨fun j => F j ∨ (w.heap.size + 2 ≤ j ∧ j < w'.heap.size ∧ vT.ownBlock ≠ some j ∧ vO.ownBlock ≠ some j), sT, sO, vT, vO, q, .slice none 0 0, h1, ?_, ?_, ?_, fun p hp => ?_, nil_pairs _ _, ?_, ?_, ⟨.inr (by omega), by omega⟩, ?_, ?_⟩
  · exact (hP.kept (fun k hk _ => hb.block k hk)).wider (fun k hk => .inl hk)
  · obtain ⟨L, l1, l2, l3, l4⟩ := hT
    refine ⟨L, l1, l2, fun i x hx => ?_, ownsRow_lower l4 (by omega)⟩
    obtain ⟨l, h7, h8⟩ := l3 i x hx
    exact ⟨l, h7, h8.wider (fun j hj => .inr ⟨by have := (hFT j hj).1; omega, (hFT j hj).2.1, (hFT j hj).2.2, fun e => by have := (hOo j e).2; have := (hFT j hj).1; omega⟩)⟩
  · obtain ⟨L, l1, l2, l3, l4⟩ := hO
    refine ⟨L, l1, l2, fun i x hx => ?_, ownsRow_lower (ownsRow_same l4 (fun k hk => h5.block k (hOo k hk).2 (fun e => by cases e; have := (hOo _ hk).1; omega))) (by omega)⟩
    obtain ⟨l, h7, h8⟩ := l3 i x hx
    exact ⟨l, h7, (h8.kept (fun j h9 hj => h5.block j h9 (fun e => by cases e; have := (hFO _ hj).1; omega))).wider (fun j hj => .inr ⟨(hFO j hj).1, by have := (hFO j hj).2.1; omega, fun e => by have := (hTo j e).1; have := (hFO j hj).2.1; omega, (hFO j hj).2.2⟩)⟩
  · have := h3 p hp
    rw [List.take_length] at this
    exact Reads.wider this (fun j hj => .inr ⟨by have := hj.1; omega, hj.2.1, hj.2.2, fun e => by have := (hOo j e).2; have := hj.1; omega⟩)
  · intro k hk
    rcases hk with h | h
    · exact .inl h
    · exact .inr (by omega)
  · intro k hk
    rcases hk with h | h
    · have := hF k h
      exact ⟨by omega, by omega, fun e => by have := (hTo k e).1; omega, fun e => by have := (hOo k e).1; omega⟩
    · exact ⟨h.2.1, by omega, h.2.2⟩
  · intro k hk
    have := hTo k hk
    exact ⟨.inr (by omega), by omega⟩
  · intro k hk
    have := hOo k hk
    exact ⟨.inr (by omega), by omega, fun e => by have := (hTo k e).1; omega⟩

set_option maxRecDepth 100000 in
set_option maxHeartbeats 3200000 in
theorem new13_any (P : PartD) (v : Value) (F : Nat → Prop) (hnT : P.thr.length ≤ 20) (hnO : P.obj.length ≤ 20) (hp : PriosOk P.thr) (hS : ∀ o ∈ P.obj, o.kind = 4 → 0 ≤ o.size ∧ o.size ≤ 1000) (w : World) (hFl : ∀ k, F k → k < w.heap.size) (h : PartAt w F v P) :
    Calls Tryz.prog 72 #[v] w fun e w' => e = .returned (.pointer (some ⟨w.heap.size + 1, 0, none⟩)) ∧ ModelAt w' w.heap.size (fun j => F j ∨ w.heap.size ≤ j) (w.heap.size + 1) (model0 P) ∧ Below w.heap.size w w' := by
  obtain ⟨i0, hi0, hz0, hz1, hz2⟩ := info_parts Tryz.info_obj13
  obtain ⟨j0, hj0, hy0, hy1, hy2⟩ := info_parts Tryz.info_thr13
  have HPA := Lib.hid h
  obtain ⟨v1, v2, rfl, h1, h2⟩ := h
  obtain ⟨A1, c1, rfl⟩ := h1.slice
  obtain ⟨A2, c2, rfl⟩ := ObjsAt.slice h2
  have HS := Lib.hid hS
  have HPR := Lib.hid hp
  have HFL := Lib.hid hFl
  clear hS hp hFl
  have H1 := Lib.hid h1
  have H2 := Lib.hid h2
  clear h1 h2
  go_enter Tryz.func72, Tryz.ntmps72
  go_wp2
  go_loopw [13] (fun i wr => ∃ k : Nat, k ≤ P.obj.length ∧ i = .int .i64 k ∧ ∃ vO, Hid (ObjLoop w wr (.slice A1 P.thr.length c1) (.slice A2 P.obj.length c2) P k vO)) (fun i _ => P.obj.length - (intOf i).toNat)
  case atStart => exact ⟨0, Nat.zero_le _, rfl, _, Lib.hid ⟨two_second _ _ _, RowsSt.nil _ _ _ _, (Below.refl _ _).alloc (by simp) _, by simp⟩⟩
  case round =>
    obtain ⟨k, hk, rfl, vO, hst⟩ := hrel
    obtain ⟨hh, hobj, hb, hbs2⟩ := hst.out
    have b0 := (box_cells hb).1 0
    have b1 := (box_cells hb).1 1
    simp only [List.getElem?_toArray, List.getElem?_cons_succ, List.getElem?_cons_zero] at b0 b1
    have hbs0 : w.heap.size < wr.heap.size := by omega
    have hbs : w.heap.size + 1 < wr.heap.size := by omega
    have HB := Lib.hid hb
    by_cases hlt : k < P.obj.length
    · have hlc : (k : Int) < (P.obj.length : Int) := by omega
      obtain ⟨g, o, c', e, _, hcells⟩ := H2.out.cells (by omega)
      cases e
      obtain ⟨d0, d1, _⟩ := hcells k P.obj[k] (List.getElem?_eq_getElem hlt)
      have l0 := World.block_lt_of_cell? w _ d0
      rw [← (below_box hb).cell (p := ⟨g, o + k * 3, none⟩) l0] at d0
      rw [← (below_box hb).cell (p := ⟨g, o + k * 3 + 1, none⟩) l0] at d1
      have hgl : g < wr.heap.size := by have : g < w.heap.size := l0; omega
      obtain ⟨Av, cv, ev⟩ := hobj.form
      have hlen : ((P.obj.take k).map mo0).length = k := by simp; omega
      rw [hlen] at ev
      subst ev
      obtain ⟨cells, hrow⟩ := hobj.row
      rw [hlen] at hrow
      have c3 := cell_of_block hh 3
      have f3 := free_of_block hh 3
      have hlo : ∀ j, (Value.slice Av k cv).ownBlock = some j → w.heap.size + 2 ≤ j := fun j hj => (hrow.lt j hj).1
      have HLO := Lib.hid hlo
      have HROW := Lib.hid hrow
      unfold modelCells at c3
      simp only [List.getElem?_toArray, List.getElem?_cons_succ, List.getElem?_cons_zero] at c3
      have hsz := HS.out P.obj[k] (List.getElem_mem hlt)
      have HNX := Lib.hid (fun w4 w5 h4 news F4 hn hx hF4 gg cap hown hg hat => hst.out.next (w4 := w4) (w5 := w5) hlt h4 cells hrow news F4 hn hx hF4 (gg := gg) (cap := cap) hown hg hat)
      clear hcells l0 hh hobj hb hlo hrow hst
      have nT : some (w.heap.size + 1) ≠ (Value.slice Av k cv).ownBlock := fun e => by have := HLO.out _ e.symm; omega
      by_cases hk4 : P.obj[k].kind = 4
      · obtain ⟨hz0', hz1'⟩ := hsz hk4
        have HX := Lib.hid (fun W F => obj4_row W F P.obj[k] hk4)
        generalize P.obj[k] = ob at *
        obtain ⟨sz, hsz'⟩ : ∃ n : Nat, ob.size = n := ⟨ob.size.toNat, by omega⟩
        rw [hsz'] at d1 HX
        rw [hk4] at d0
        rw [Int.toNat_natCast] at HX
        have hszl : sz ≤ 100000 := by omega
        clear hk4 hsz hsz' hz0' hz1'
        go_wp2_with fail
        go_at_call 136
        refine (free_any sz hszl _).mono ?_
        rintro e w2 ⟨rfl, vF, hF, hownF, hb2⟩
        have hs2 : wr.heap.size + 1 < w2.heap.size := by have := (Array.getElem?_eq_some_iff.1 hF).1; simpa using this
        have hobj := (hb2.block wr.heap.size (by simp)).trans (heap_alloc_new wr _)
        have hw2 : Below wr.heap.size wr w2 := (belA (Below.refl _ _) (Nat.le_refl _)).trans (hb2.mono (by simp))
        rw [World.size_alloc] at hF hownF
        have c3' : w2.cell? ⟨w.heap.size + 1, 3, none⟩ = some (.slice Av k cv) := (hw2.cell (p := ⟨w.heap.size + 1, 3, none⟩) hbs).trans c3
        have f3' : w2.frozen? ⟨w.heap.size + 1, 3, none⟩ = false := (hw2.frozen (p := ⟨w.heap.size + 1, 3, none⟩) hbs).trans f3
        have q5 := free_of_block hobj 5
        have q5c := cell_of_block hobj 5
        simp only [List.getElem?_toArray, List.getElem?_cons_succ, List.getElem?_cons_zero] at q5c
        have hs2' : wr.heap.size < w2.heap.size := by omega
        have HF := Lib.hid hF
        have HOF := Lib.hid hownF
        have HB2 := Lib.hid hw2
        have HOB := Lib.hid hobj
        clear hF hownF hb2 hw2 hobj c3 f3 d0 d1 b0 b1
        go_wp2_with fail
        generalize hW3 : w2.setCell ⟨wr.heap.size, 5, none⟩ (.pointer (some ⟨wr.heap.size + 1, 0, none⟩)) = W3
        have hz3 : W3.heap.size = w2.heap.size := by rw [← hW3]; simp
        have ho3 : W3.heap[wr.heap.size]? = some (.cells #[.int .i64 0, .slice none 0 0, .slice none 0 0, .slice none 0 0, .int .i64 0, .pointer (some ⟨wr.heap.size + 1, 0, none⟩), .int .i64 (-1), .int .i64 0, .int .i64 0] 196 (0, 0)) := by rw [← hW3]; exact set_blockK HOB.out 5 _
        have hw3 : Below wr.heap.size wr W3 := by rw [← hW3]; exact HB2.out.setCell (Nat.le_refl _) _
        have hk3 : ∀ j, j ≠ wr.heap.size → W3.heap[j]? = w2.heap[j]? := fun j hj => by rw [← hW3]; exact block_setCell_other _ _ _ hj
        have ce3 : W3.cell? ⟨w.heap.size + 1, 3, none⟩ = some (.slice Av k cv) := (World.cell?_of_block (a := ⟨w.heap.size + 1, 3, none⟩) (hk3 (w.heap.size + 1) (by omega))).trans c3'
        have fe3 : W3.frozen? ⟨w.heap.size + 1, 3, none⟩ = false := (World.frozen?_of_block (a := ⟨w.heap.size + 1, 3, none⟩) (hk3 (w.heap.size + 1) (by omega))).trans f3'
        have qe3 := row_of ho3
        have hx3 := HX.out (W3.alloc (.cells #[.int .i64 0, .slice none 0 0, .slice none 0 0, .slice none 0 0, .int .i64 0, .pointer (some ⟨wr.heap.size + 1, 0, none⟩), .int .i64 (-1), .int .i64 0, .int .i64 0] 196)).drew (fun j => wr.heap.size + 1 ≤ j ∧ j < w2.heap.size) (wr.heap.size + 1) vF ⟨Nat.le_refl _, hs2⟩ ((Below.heap_alloc _ _ _ (by omega)).trans ((hk3 _ (by omega)).trans HF.out))
          (Reads.kept (w := w2) (Reads.wider (Reads.inn (ownsRow_ints (by simpa [natsI_len] using HOF.out)) (by omega)) (fun j hj => ⟨by have := hj.1; omega, hj.2⟩)) (fun j h1 h2 => (Below.heap_alloc _ _ _ (by omega)).trans (hk3 j (by have := h2.1; omega))))
        have HX3 := Lib.hid hx3
        have HWW := Lib.hid hw3
        have HZ3 := Lib.hid hz3
        have hzl : wr.heap.size + 1 < W3.heap.size := by omega
        have hbs3 : w.heap.size + 1 < W3.heap.size := by omega
        have hobs3 : wr.heap.size < W3.heap.size := by omega
        clear hW3 hx3 hw3 hk3 hz3 c3' f3' q5 q5c hs2' HX HF HOF HB2 HOB ho3
        go_region_law
          (refine step_append_lies _ (by rfl) _ _ _ (by rfl) (w.heap.size + 2) 196 i0 _ 9 120 Tryz.underlying186 hi0 hz0 hz1 hz2 rfl (by omega) (.slice Av k cv) k cells (by rfl) (((ownsRow_below HROW.out HWW.out).alloc _).drew) ⟨W3.heap.size, 0, none⟩ 1 1 [.int .i64 0, .slice none 0 0, .slice none 0 0, .slice none 0 0, .int .i64 0, .pointer (some ⟨wr.heap.size + 1, 0, none⟩), .int .i64 (-1), .int .i64 0, .int .i64 0] (by rfl) (by rfl) (World.news_of_block (cs := #[.int .i64 0, .slice none 0 0, .slice none 0 0, .slice none 0 0, .int .i64 0, .pointer (some ⟨wr.heap.size + 1, 0, none⟩), .int .i64 (-1), .int .i64 0, .int .i64 0]) (t := 196) (fr := (0, 0)) (heap_alloc_new _ _)) (one9 _ rfl) (by omega) (by unfold maxLen; omega) (by omega) (by simp; omega) (W3.heap.size + 1) (by simp) ?_; intro gg cap w5 hown5 hgrow hat hlt5
           have z1 : w5.cell? ⟨w.heap.size + 1, 3, none⟩ = some (.slice Av k cv) := by rw [hgrow.cell_far _ (by simp; omega) nT]; go_simp
           have z2 : w5.frozen? ⟨w.heap.size + 1, 3, none⟩ = false := by rw [hgrow.frozen_far _ (by simp; omega) nT]; go_simp)
        all_goals
          have HR := Lib.hid (HNX.out _ _ ((HWW.out).trans ((belA (Below.refl _ _) (Nat.le_refl _)).mono (by omega))).drew _ (fun j => wr.heap.size + 1 ≤ j ∧ j < w2.heap.size) rfl HX3.out (fun j hj => ⟨by have := hj.1; omega, by have := hj.2; have := HZ3.out; simp; omega⟩) gg cap hown5 hgrow (by simpa using hat))
          clear hown5 hgrow hat hlt5 z1 z2 HX3 HWW
          go_wp2
          go_roundw
          case rel => exact ⟨k + 1, by omega, by go_num, _, HR⟩
          case measure => simp [intOf]; omega
      · have HX := Lib.hid (fun W F => obj0_row W F P.obj[k] hk4)
        generalize P.obj[k] = ob at *
        go_wp2_with fail
        go_region_law
          (refine step_append_lies _ (by rfl) _ _ _ (by rfl) (w.heap.size + 2) 196 i0 _ 9 120 Tryz.underlying186 hi0 hz0 hz1 hz2 rfl (by omega) (.slice Av k cv) k cells (by rfl) (((HROW.out.alloc _).alloc _).drew) ⟨wr.heap.size + 1, 0, none⟩ 1 1 [.int .i64 0, .slice none 0 0, .slice none 0 0, .slice none 0 0, .int .i64 0, .pointer none, .int .i64 (-1), .int .i64 0, .int .i64 0] (by rfl) (by rfl) (World.news_of_block (cs := #[.int .i64 0, .slice none 0 0, .slice none 0 0, .slice none 0 0, .int .i64 0, .pointer none, .int .i64 (-1), .int .i64 0, .int .i64 0]) (t := 196) (fr := (0, 0)) (two_second _ _ _)) (one9 _ rfl) (by omega) (by unfold maxLen; omega) (by omega) (by simp; omega) (wr.heap.size + 2) (by simp) ?_; intro gg cap w5 hown5 hgrow hat hlt5
           have z1 : w5.cell? ⟨w.heap.size + 1, 3, none⟩ = some (.slice Av k cv) := by rw [hgrow.cell_far _ (by simp; omega) nT]; go_simp
           have z2 : w5.frozen? ⟨w.heap.size + 1, 3, none⟩ = false := by rw [hgrow.frozen_far _ (by simp; omega) nT]; go_simp)
        all_goals
          have HR := Lib.hid (HNX.out _ _ ((belA (Below.refl _ _) (Nat.le_refl _)).trans ((belA (Below.refl _ _) (Nat.le_refl _)).mono (by simp))).drew _ (fun _ => False) rfl (HX.out _ _) (fun j hj => hj.elim) gg cap hown5 hgrow (by simpa using hat))
          clear hown5 hgrow hat hlt5 z1 z2
          go_wp2
          go_roundw
          case rel => exact ⟨k + 1, by omega, by go_num, _, HR⟩
          case measure => simp [intOf]; omega
    · obtain rfl : k = P.obj.length := by omega
      have hch0 : ChgO (some (w.heap.size + 1)) wr wr := ChgO.refl _ _
      have HT0 : Hid (ThrLoop wr wr (w.heap.size + 1) (.slice A1 P.thr.length c1) (.slice A2 P.obj.length c2) vO P 0 (.slice none 0 0) (fun _ => .slice none 0 0)) := Lib.hid ⟨hh, RowsSt.nil _ _ _ _, fun p hp => nil_ints _ _, hch0, hbs⟩
      clear hh hobj hb hch0
      go_wp2
      obtain ⟨wb, rfl⟩ : ∃ x : World, x = wr := ⟨_, rfl⟩
      go_loopw [46] (fun i wx => ∃ k : Nat, k ≤ P.thr.length ∧ i = .int .i64 k ∧ ∃ vT q, Hid (ThrLoop wb wx (w.heap.size + 1) (.slice A1 P.thr.length c1) (.slice A2 P.obj.length c2) vO P k vT q)) (fun i _ => P.thr.length - (intOf i).toNat)
      case atStart => exact ⟨0, Nat.zero_le _, rfl, _, _, HT0⟩
      case round =>
        clear HT0 b0 b1
        obtain ⟨k, hk, rfl, vT, q, hst2⟩ := hrel
        obtain ⟨hh, hthr, hque, hchg, hmb⟩ := hst2.out
        have hbr : Below (w.heap.size + 1) (w.alloc (.cells #[.slice A1 P.thr.length c1, .slice A2 P.obj.length c2] 25)) wr := HB.out.trans ⟨hchg.os, hchg.tape, hchg.output, hchg.size, fun j hj => hchg.block j (by omega) (fun e => by cases e; omega)⟩
        have b0 := (box_cells hbr).1 0
        simp only [List.getElem?_toArray, List.getElem?_cons_succ, List.getElem?_cons_zero] at b0
        have hsz := hchg.size
        by_cases hlt2 : k < P.thr.length
        · have hlc : (k : Int) < (P.thr.length : Int) := by omega
          have hpr := HPR.out P.thr[k] (List.getElem_mem hlt2)
          obtain ⟨g, o, c', e, _, hcells⟩ := H1.out.cells (by omega)
          cases e
          obtain ⟨pv, _, d0, _⟩ := hcells k P.thr[k] (List.getElem?_eq_getElem hlt2)
          have l0 := World.block_lt_of_cell? w _ d0
          have D0 := Lib.hid d0
          rw [← (below_box hbr).cell (p := ⟨g, o + k * 4, none⟩) l0] at d0
          have hgl : g < w.heap.size := l0
          obtain ⟨Av, cv, ev⟩ := hthr.form
          have hlen : ((P.thr.take k).map fun t => mt0 t.prio).length = k := by simp; omega
          rw [hlen] at ev
          subst ev
          obtain ⟨cells, hrow⟩ := hthr.row
          rw [hlen] at hrow
          have m2 := cell_of_block hh 2
          have f2 := free_of_block hh 2
          unfold modelCells at m2
          simp only [List.getElem?_toArray, List.getElem?_cons_succ, List.getElem?_cons_zero] at m2
          have hlo : ∀ j, (Value.slice Av k cv).ownBlock = some j → wb.heap.size ≤ j := fun j hj => (hrow.lt j hj).1
          have HROW := Lib.hid hrow
          have HLO := Lib.hid hlo
          have HST := Lib.hid hst2.out
          have nM : some (w.heap.size + 1) ≠ (Value.slice Av k cv).ownBlock := fun e => by have := HLO.out _ e.symm; omega
          have nP : some w.heap.size ≠ (Value.slice Av k cv).ownBlock := fun e => by have := HLO.out _ e.symm; omega
          have nG : some g ≠ (Value.slice Av k cv).ownBlock := fun e => by have := HLO.out _ e.symm; omega
          have HNX := Lib.hid (fun w4 w5 h4 gg cap hown hg hat => hst2.out.next (w4 := w4) (w5 := w5) hlt2 h4 cells hrow (gg := gg) (cap := cap) hown hg hat)
          clear hcells l0 hh hthr hque hchg hlo hrow hst2 hbr
          have HQ := Lib.hid (fun w5 w6 gg cap v h2 h3 h5 hv hb hc => ThrLoop.queue (wb := wb) (w5 := w5) (w6 := w6) (mb := w.heap.size + 1) (sT := .slice (some ⟨g, o, none⟩) P.thr.length c1) (sO := .slice A2 P.obj.length c2) (vO := vO) (P := P) (k := k) (gg := gg) (cap := cap) (q := q) (v := v) hlt2 hpr.1 hpr.2 h2 h3 h5 hbs hv hb hc)
          generalize hth : P.thr[k] = th at *
          have hmr : w.heap.size + 1 < wr.heap.size := by omega
          have hpr' : w.heap.size < wr.heap.size := by omega
          have hgr : g < wr.heap.size := by omega
          go_wp2_with fail
          go_cut [] (fun wx => ∃ gg cap, Hid (wx.heap[w.heap.size + 1]? = some (.cells (modelCells (.slice (some ⟨g, o, none⟩) P.thr.length c1) (.slice A2 P.obj.length c2) (.slice (some ⟨gg, 0, none⟩) (k + 1) cap) vO q (.slice none 0 0) 0) 193 (0, 0))) ∧ Hid (ThrSt wx wb.heap.size (.slice (some ⟨gg, 0, none⟩) (k + 1) cap) (P.thr.take (k + 1))) ∧
            Hid (∀ p, p < 16 → IntsAt wx (fun j => wb.heap.size ≤ j ∧ j < wx.heap.size ∧ gg ≠ j) (q p) (qlist (P.thr.take k) 0 (fun _ => []) p)) ∧ Hid (ChgO (some (w.heap.size + 1)) wb wx))
          case first =>
            go_region_law
              (first | ((try go_split_ands); refine step_append_lies _ (by rfl) (.tmp 53) (.tmp 67) 185 (by rfl) wb.heap.size 200 j0 _ 14 176 Tryz.underlying185 hj0 hy0 hy1 hy2 rfl (by omega) (.slice Av k cv) k cells (by rfl) ((HROW.out.alloc _).drew) ⟨wr.heap.size, 0, none⟩ 1 1 [.int .i64 0, .int .i64 th.prio, .int .i64 th.prio, .int .i64 (-1), .int .i64 0, .int .i64 0, .int .i64 0, .slice none 0 0, .int .i64 0, .int .i64 0, .slice none 0 0, .slice none 0 0, .slice none 0 0, .int .i64 0] (by rfl) (by rfl) (World.news_of_block (cs := #[.int .i64 0, .int .i64 th.prio, .int .i64 th.prio, .int .i64 (-1), .int .i64 0, .int .i64 0, .int .i64 0, .slice none 0 0, .int .i64 0, .int .i64 0, .slice none 0 0, .slice none 0 0, .slice none 0 0, .int .i64 0]) (t := 200) (fr := (0, 0)) (heap_alloc_new _ _)) (by simp [Value.oneCell']) (by omega) (by unfold maxLen; omega) (by omega) (by simp; omega) (wr.heap.size + 1) (by simp) ?_
                        intro gg cap w5 hown5 hgrow hat hlt5
                        have z1 := (hgrow.cell_far _ (by simp; omega) nM).trans (keepa (o := .cells #[.int .i64 0, .int .i64 th.prio, .int .i64 th.prio, .int .i64 (-1), .int .i64 0, .int .i64 0, .int .i64 0, .slice none 0 0, .int .i64 0, .int .i64 0, .slice none 0 0, .slice none 0 0, .slice none 0 0, .int .i64 0] 200) m2)
                        have z2 := (hgrow.frozen_far _ (by simp; omega) nM).trans (keepfa (o := .cells #[.int .i64 0, .int .i64 th.prio, .int .i64 th.prio, .int .i64 (-1), .int .i64 0, .int .i64 0, .int .i64 0, .slice none 0 0, .int .i64 0, .int .i64 0, .slice none 0 0, .slice none 0 0, .slice none 0 0, .int .i64 0] 200) f2 hmr)))
            all_goals
              have hfin := HNX.out _ _ ((belA (Below.refl _ _) (Nat.le_refl _)).drew) gg cap hown5 hgrow (by simpa using hat)
              clear hown5 hgrow hat hlt5 z1 z2 HNX
              obtain ⟨k1, k2, k3, k4⟩ := hfin
              have K1 := Lib.hid k1
              have K2 := Lib.hid k2
              have K3 := Lib.hid k3
              have K4 := Lib.hid k4
              clear k1 k2 k3 k4
              go_wp2_with fail
              go_meet
              exact ⟨gg, cap, K1, K2, K3, K4⟩
          case rest =>
            obtain ⟨gg, cap, K1, K2, K3, K4⟩ := hcut
            have hsc := K4.out.size
            have hbc : Below (w.heap.size + 1) (w.alloc (.cells #[.slice (some ⟨g, o, none⟩) P.thr.length c1, .slice A2 P.obj.length c2] 25)) wc := HB.out.trans ⟨K4.out.os, K4.out.tape, K4.out.output, K4.out.size, fun j hj => K4.out.block j (by omega) (fun e => by cases e; omega)⟩
            have e0 := (box_cells hbc).1 0
            simp only [List.getElem?_toArray, List.getElem?_cons_succ, List.getElem?_cons_zero] at e0
            have g0 := D0.out
            rw [← (below_box hbc).cell (p := ⟨g, o + k * 4, none⟩) hgl] at g0
            obtain ⟨pn, hpn⟩ : ∃ n : Nat, th.prio = n := ⟨th.prio.toNat, by omega⟩
            have hp16 : pn < 16 := by omega
            have hql := qlist_len (P.thr.take k) 0 (fun _ => []) pn 0 (by simp)
            have hkl : (P.thr.take k).length ≤ 20 := by rw [List.length_take]; omega
            obtain ⟨Aq, cq, eq⟩ := (K3.out pn hp16).slice
            have hcs := (modelCells_q (.slice (some ⟨g, o, none⟩) P.thr.length c1) (.slice A2 P.obj.length c2) (.slice (some ⟨gg, 0, none⟩) (k + 1) cap) vO q (.slice none 0 0) 0 pn hp16).trans (congrArg some eq)
            have hia := K3.out pn hp16
            rw [eq] at hia
            have hgc : g < wc.heap.size := by omega
            have hmc : w.heap.size + 1 < wc.heap.size := by omega
            have hpc : w.heap.size < wc.heap.size := by omega
            have HQA := Lib.hid (fun n => qaddR_any (k : Int) (pn : Int) (by omega) (by omega) (qlist (P.thr.take k) 0 (fun _ => []) pn) (by omega) _ (w.heap.size + 1) 4 Aq cq _ _ (wc.drewN n) K1.out (by rw [Int.toNat_natCast]; exact hcs) (Reads.kept hia (fun _ _ _ => rfl)))
            rw [hpn] at g0 HQ
            rw [Int.toNat_natCast] at HQ HQA
            clear d0 b0 m2 f2 hbc hcs hia eq hql hkl hpr hpn HNX
            go_wp2_with fail
            go_still_tail 10, (by kernel_rfl)
            go_wp2_with fail
            go_at_call 137
            refine (HQA.out 1).mono ?_
            rintro e w6 ⟨rfl, v6, hv6, hb6, hc6⟩
            have HR := Lib.hid (HQ.out wc w6 gg cap v6 K2.out K3.out K4.out hv6 hb6 ⟨hc6.os, hc6.tape, hc6.output, hc6.size, hc6.block⟩)
            clear hv6 hb6 hc6 HQA HQ K1 K2 K3 K4
            go_wp2
            go_roundw
            case rel => exact ⟨k + 1, by omega, by go_num, _, _, HR⟩
            case measure => simp [intOf]; omega
        · obtain rfl : k = P.thr.length := by omega
          have HM := Lib.hid (ThrLoop.model hst2.out hst.out HFL.out HPA.out)
          clear hh hthr hque hchg hbr
          go_wp2
          go_ret
          exact ⟨rfl, HM.out⟩
end Go.Proofs.YtefbdcmodfbpbaaGreat
