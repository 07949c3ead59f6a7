/-
  plan.Of: where all stands.
-/
import Derived.Test.YtefbdcmodfbpbaaGreatCloneP
import Derived.Test.YtefbdcmodfbpbaaGreatConfig
set_option linter.unusedVariables false
set_option linter.unusedSimpArgs false
namespace Go.Proofs.YtefbdcmodfbpbaaGreat
open Go.RowKit

/-- The cells of a plan: of its slices of threads and objects, of its part. -/
def planArr (sT sO v1 v2 : Value) (W : Int) : Array Value :=
  #[.int .i64 0, .int .i64 2, .int .i64 4, .int .i64 3, .int .i64 5, .int .i64 6, .int .i64 8, .int .i64 41, .int .i64 43, sT, sO, .int .i64 W, v1, v2]
def thAt (i : Int) : Int := 51 + 24 * i
def obAt (n : Int) (i : Int) : Int := 51 + 24 * n + 24 * i
def thAts (n : Nat) : List Int := (List.range n).map fun (i : Nat) => thAt i
def obAts (n m : Nat) : List Int := (List.range m).map fun (i : Nat) => obAt n i
def planWords (P : PartD) : Nat := 51 + 24 * (P.thr.length + P.obj.length)

/-- A plan's value, of a partition that is right. -/
def PlanVal (w : World) (F : Nat → Prop) (v : Value) (P : PartD) : Prop :=
  ∃ sT sO v1 v2, v = .agg (planArr sT sO v1 v2 (planWords P)) ∧ IntsAt w F sT (thAts P.thr.length) ∧ IntsAt w F sO (obAts P.thr.length P.obj.length) ∧ PartAt w F (.agg #[v1, v2]) P

/-- What is asked of a partition that comes in. -/
structure PartOk (P : PartD) : Prop where
  caps : CapsOk P.thr
  thr : P.thr.length ≤ 100
  obj : P.obj.length ≤ 100
  prog : ∀ t ∈ P.thr, t.prog.length ≤ 100 ∧ ∀ c ∈ t.prog, CallOk c

def zeroPlan : Value := .agg #[.int .i64 0, .int .i64 0, .int .i64 0, .int .i64 0, .int .i64 0, .int .i64 0, .int .i64 0, .int .i64 0, .int .i64 0, .slice none 0 0, .slice none 0 0, .int .i64 0, .slice none 0 0, .slice none 0 0]

theorem take_any (w : World) (pb : Nat) (n m : Int) (h : w.cell? ⟨pb, 11, none⟩ = some (.int .i64 n)) (hf : w.frozen? ⟨pb, 11, none⟩ = false) (h0 : 0 ≤ n ∧ n ≤ 10000) (h1 : 0 ≤ m ∧ m ≤ 1000) :
    Calls Tryz.prog 132 #[.pointer (some ⟨pb, 0, none⟩), .int .i64 m] w fun e w' => e = .returned (.int .i64 n) ∧ w.setCell ⟨pb, 11, none⟩ (.int .i64 (n + m)) = w' := by
  obtain ⟨_, _⟩ := h0
  obtain ⟨_, _⟩ := h1
  go_enter Tryz.func132, Tryz.ntmps132
  go_wp2
  go_ret
  exact ⟨rfl, rfl⟩

theorem take_at (W : World) (c0 c1 c2 c3 c4 c5 c6 c7 c8 c9 c10 c12 c13 : Value) (n m : Int) (h0 : 0 ≤ n ∧ n ≤ 10000) (h1 : 0 ≤ m ∧ m ≤ 1000) :
    Calls Tryz.prog 132 #[.pointer (some ⟨W.heap.size, 0, none⟩), .int .i64 m] (W.alloc (.cells #[c0, c1, c2, c3, c4, c5, c6, c7, c8, c9, c10, .int .i64 n, c12, c13] 61)) fun e w' =>
      e = .returned (.int .i64 n) ∧ W.alloc (.cells #[c0, c1, c2, c3, c4, c5, c6, c7, c8, c9, c10, .int .i64 (n + m), c12, c13] 61) = w' := by
  have hb : (W.alloc (.cells #[c0, c1, c2, c3, c4, c5, c6, c7, c8, c9, c10, .int .i64 n, c12, c13] 61)).heap[W.heap.size]? = _ := heap_alloc_new W _
  refine (take_any _ W.heap.size n m (cell_of_block hb 11) (free_of_block hb 11) h0 h1).mono ?_
  rintro e w' ⟨rfl, rfl⟩
  exact ⟨rfl, by go_simp⟩

theorem seqWords_one (w : World) : Calls Tryz.prog 133 #[.int .i64 1] w fun e w' => e = .returned (.int .i64 2) ∧ w = w' := by
  go_enter Tryz.func133, Tryz.ntmps133
  go_wp2
  go_ret
  exact ⟨rfl, rfl⟩

set_option maxRecDepth 100000 in
set_option maxHeartbeats 1600000 in
theorem planOf_no (P : PartD) (v : Value) (F : Nat → Prop) (hok : PartOk P) (hw : partWrong P ≠ 0) (w : World) (h : PartAt w F v P) :
    Calls Tryz.prog 70 #[v] w fun e w' => e = .returned (.tuple #[zeroPlan, .int .i64 15]) ∧ Below w.heap.size w w' := by
  have HC := Lib.hid (fun (W : World) (hb : Below w.heap.size w W) => configPart_any P v F hok.caps ⟨hok.thr, hok.obj⟩ W (h.kept (fun k hk _ => hb.block k hk)))
  obtain ⟨v1, v2, rfl, h1, h2⟩ := h
  obtain ⟨A1, c1, rfl⟩ := h1.slice
  obtain ⟨A2, c2, rfl⟩ := h2.slice
  clear h1 h2 hok
  have hne : (partWrong P != 0) = true := by rw [bne_iff_ne]; exact hw
  generalize partWrong P = r at *
  clear hw
  go_enter Tryz.func70, Tryz.ntmps70
  go_wp2_with (go_at_call 66; refine (HC.out _ (((Below.refl _ _).alloc (Nat.le_refl _) _).alloc (by simp) _)).mono ?_; rintro e w1 ⟨rfl, hb⟩; obtain ⟨p1, p2⟩ := below_cells hb (b := w.heap.size + 1) (by simp) (two_second _ _ _); have Hb := Lib.hid hb; clear hb)
  refine bodyPost_ret (v := .tuple #[zeroPlan, .int .i64 15]) (by simp [results, Tryz.results70, go_sem, p1, zeroPlan]) rfl ⟨rfl, ?_⟩
  iterate 14 refine Below.setCell ?_ (by dsimp only; omega) _
  exact (((Below.refl _ _).alloc (Nat.le_refl _) _).alloc (by simp) _).trans (Hb.out.mono (by simp <;> omega))

theorem Tryz.infoInt : (Tryz.prog.info? 3).map (fun i => (i.zero, i.size, i.bytes)) = some (some (.int .i64 0), 1, 8) := by kernel_rfl

theorem thAts_succ (k : Nat) : thAts (k + 1) = thAts k ++ [thAt k] := by simp [thAts, List.range_succ]
theorem obAts_succ (n k : Nat) : obAts n (k + 1) = obAts n k ++ [obAt n k] := by simp [obAts, List.range_succ]
theorem encInts_append (xs ys : List Int) : encInts (xs ++ ys) = encInts xs ++ encInts ys := by simp [encInts]
theorem thAts_length (k : Nat) : (thAts k).length = k := by simp [thAts]
theorem obAts_length (n k : Nat) : (obAts n k).length = k := by simp [obAts]

theorem heap_set_alloc_new (w : World) (a : Addr) (v : Value) (o : Obj) : (((w.setCell a v).alloc o).drew).heap[w.heap.size]? = some o := by
  show ((w.setCell a v).alloc o).heap[w.heap.size]? = _
  have h := heap_alloc_new (w.setCell a v) o
  rwa [World.size_setCell] at h

/-- The state while the threads' places are taken: 'k' of them. -/
def ThState (w2 wr : World) (v1 v2 : Value) (k : Nat) : Prop :=
  ∃ sT, wr.heap[w2.heap.size]? = some (.cells (planArr sT (.slice none 0 0) v1 v2 (51 + 24 * (k : Int))) 61 (0, 0)) ∧ wr.ownsRow (w2.heap.size + 1) 3 1 sT k (encInts (thAts k)) ∧ Below w2.heap.size w2 wr ∧ w2.heap.size + 1 ≤ wr.heap.size
/-- Behind one more. -/
theorem ThState.next {w2 wr w1 : World} {v1 v2 sT : Value} {k gg cap : Nat} (c1 : wr.heap[w2.heap.size]? = some (.cells (planArr sT (.slice none 0 0) v1 v2 (51 + 24 * (k : Int))) 61 (0, 0)))
    (hb : Below w2.heap.size w2 wr) (hsz : w2.heap.size + 1 ≤ wr.heap.size) (hs : ∀ b, sT.ownBlock = some b → w2.heap.size + 1 ≤ b)
    (hown : w1.ownsRow (w2.heap.size + 1) 3 1 (.slice (some ⟨gg, 0, none⟩) (k + 1) cap) (k + 1) (encInts (thAts k) ++ [.int .i64 (51 + 24 * (k : Int))])) (hgg : w2.heap.size + 1 ≤ gg)
    (hgrow : (((wr.setCell ⟨w2.heap.size, 11, none⟩ (.int .i64 (51 + 24 * (k : Int) + 24))).alloc (.cells #[.int .i64 (51 + 24 * (k : Int))] 3)).drew).grownBy w1 sT.ownBlock) :
    ThState w2 (w1.setCell ⟨w2.heap.size, 9, none⟩ (.slice (some ⟨gg, 0, none⟩) (k + 1) cap)) v1 v2 (k + 1) := by
  have hlt := lt_of_block c1
  have e1 : w1.heap[w2.heap.size]? = some (.cells ((planArr sT (.slice none 0 0) v1 v2 (51 + 24 * (k : Int))).setIfInBounds 11 (.int .i64 (51 + 24 * (k : Int) + 24))) 61 (0, 0)) := by
    rw [hgrow.block _ (by simp; omega) (fun e => by have := hs _ e.symm; omega)]
    show (World.alloc _ _).heap[w2.heap.size]? = _
    rw [Below.heap_alloc _ _ _ (by simpa [World.setCell] using hlt), block_setCell c1]
  refine ⟨.slice (some ⟨gg, 0, none⟩) (k + 1) cap, ?_, ?_, ?_, ?_⟩
  · rw [block_setCell e1]
    simp [planArr]; omega
  · rw [thAts_succ, encInts_append]
    exact ownsRow_setCell_below hown (by dsimp only; omega) _
  · refine Below.setCell ?_ (by dsimp only; omega) _
    exact (((hb.setCell (by dsimp only; omega) _).alloc (by simp; omega) _).drew).grown hgrow (by simp; omega) (fun b e => by have := hs b e; omega)
  · have := hgrow.size; simp [World.setCell] at this ⊢; omega
def ObState (w2 wr : World) (v1 v2 sT : Value) (n k : Nat) : Prop :=
  ∃ sO, wr.heap[w2.heap.size]? = some (.cells (planArr sT sO v1 v2 (51 + 24 * (n : Int) + 24 * (k : Int))) 61 (0, 0)) ∧ wr.ownsRow (w2.heap.size + 1) 3 1 sT n (encInts (thAts n)) ∧ wr.ownsRow (w2.heap.size + 1) 3 1 sO k (encInts (obAts n k)) ∧
    sT.ownBlock ≠ some w2.heap.size ∧ (∀ b, sO.ownBlock = some b → sT.ownBlock ≠ some b) ∧ Below w2.heap.size w2 wr ∧ w2.heap.size + 1 ≤ wr.heap.size
theorem ObState.next {w2 wr w1 : World} {v1 v2 sT sO : Value} {n k gg cap : Nat} (c1 : wr.heap[w2.heap.size]? = some (.cells (planArr sT sO v1 v2 (51 + 24 * (n : Int) + 24 * (k : Int))) 61 (0, 0)))
    (hT : wr.ownsRow (w2.heap.size + 1) 3 1 sT n (encInts (thAts n))) (hTn : sT.ownBlock ≠ some w2.heap.size) (hd : ∀ b, sO.ownBlock = some b → sT.ownBlock ≠ some b)
    (hb : Below w2.heap.size w2 wr) (hsz : w2.heap.size + 1 ≤ wr.heap.size) (hs : ∀ b, sO.ownBlock = some b → w2.heap.size + 1 ≤ b)
    (hown : w1.ownsRow (w2.heap.size + 1) 3 1 (.slice (some ⟨gg, 0, none⟩) (k + 1) cap) (k + 1) (encInts (obAts n k) ++ [.int .i64 (51 + 24 * (n : Int) + 24 * (k : Int))])) (hat : sO.ownBlock = some gg ∨ gg = wr.heap.size + 1)
    (hgrow : (((wr.setCell ⟨w2.heap.size, 11, none⟩ (.int .i64 (51 + 24 * (n : Int) + 24 * (k : Int) + 24))).alloc (.cells #[.int .i64 (51 + 24 * (n : Int) + 24 * (k : Int))] 3)).drew).grownBy w1 sO.ownBlock) :
    ObState w2 (w1.setCell ⟨w2.heap.size, 10, none⟩ (.slice (some ⟨gg, 0, none⟩) (k + 1) cap)) v1 v2 sT n (k + 1) := by
  have hlt := lt_of_block c1
  have hgg : w2.heap.size + 1 ≤ gg := by
    rcases hat with e | e
    · exact hs _ e
    · omega
  have e1 : w1.heap[w2.heap.size]? = some (.cells ((planArr sT sO v1 v2 (51 + 24 * (n : Int) + 24 * (k : Int))).setIfInBounds 11 (.int .i64 (51 + 24 * (n : Int) + 24 * (k : Int) + 24))) 61 (0, 0)) := by
    rw [hgrow.block _ (by simp; omega) (fun e => by have := hs _ e.symm; omega)]
    show (World.alloc _ _).heap[w2.heap.size]? = _
    rw [Below.heap_alloc _ _ _ (by simpa [World.setCell] using hlt), block_setCell c1]
  refine ⟨.slice (some ⟨gg, 0, none⟩) (k + 1) cap, ?_, ?_, ?_, hTn, ?_, ?_, ?_⟩
  · rw [block_setCell e1]
    simp [planArr]; omega
  · refine ownsRow_kept hT (fun b hb' => ?_)
    have hbl := hT.lt b hb'
    rw [block_setCell_other _ _ _ (by omega), hgrow.block _ (by simp; omega) (fun e => hd b e.symm hb')]
    show (World.alloc _ _).heap[b]? = _
    rw [Below.heap_alloc _ _ _ (by simpa [World.setCell] using hbl.2), block_setCell_other _ _ _ (by omega)]
  · rw [obAts_succ, encInts_append]
    exact ownsRow_setCell_below hown (by dsimp only; omega) _
  · intro b e e'
    simp only [Value.ownBlock, Option.some.injEq] at e
    subst e
    rcases hat with e | e
    · exact hd _ e e'
    · have := (hT.lt gg e').2; omega
  · refine Below.setCell ?_ (by dsimp only; omega) _
    exact (((hb.setCell (by dsimp only; omega) _).alloc (by simp; omega) _).drew).grown hgrow (by simp; omega) (fun b e => by have := hs b e; omega)
  · have := hgrow.size; simp [World.setCell] at this ⊢; omega

set_option maxRecDepth 100000 in
set_option maxHeartbeats 3200000 in
theorem planOf_yes (P : PartD) (v : Value) (F : Nat → Prop) (hok : PartOk P) (hw : partWrong P = 0) (w : World) (h : PartAt w F v P) :
    Calls Tryz.prog 70 #[v] w fun e w' => ∃ pv, e = .returned (.tuple #[pv, .int .i64 0]) ∧ PlanVal w' (fun k => w.heap.size ≤ k) pv P ∧ Below w.heap.size w w' := by
  obtain ⟨i0, hi0, hz0, hz1, hz2⟩ := info_parts Tryz.infoInt
  have hn : P.thr.length ≤ 6 ∧ P.obj.length ≤ 8 := by
    unfold partWrong at hw
    split at hw
    · cases hw
    · split at hw
      · cases hw
      · omega
  have HC := Lib.hid (fun (W : World) (hb : Below w.heap.size w W) => configPart_any P v F hok.caps ⟨hok.thr, hok.obj⟩ W (h.kept (fun k hk _ => hb.block k hk)))
  have HD := Lib.hid (fun (W : World) (hb : Below w.heap.size w W) => clonePart_any P v F ⟨hok.thr, hok.obj, hok.prog⟩ W (h.kept (fun k hk _ => hb.block k hk)))
  obtain ⟨v1, v2, rfl, h1, h2⟩ := h
  obtain ⟨A1, c1, rfl⟩ := h1.slice
  obtain ⟨A2, c2, rfl⟩ := h2.slice
  clear h1 h2 hok
  rw [hw] at HC
  clear hw
  obtain ⟨hn1, hn2⟩ := hn
  go_enter Tryz.func70, Tryz.ntmps70
  go_wp2_with fail
  go_at_call 66
  refine (HC.out _ (((Below.refl _ _).alloc (Nat.le_refl _) _).alloc (by simp) _)).mono ?_
  rintro e w1 ⟨rfl, hb⟩
  obtain ⟨q1, q2⟩ := below_cells hb (b := w.heap.size) (by simp only [World.size_alloc]; omega) (two_first _ _ _)
  have hk1 : w1.heap[w.heap.size]? = some (.cells #[.slice A1 P.thr.length c1, .slice A2 P.obj.length c2] 25 (0, 0)) := (hb.block _ (by simp only [World.size_alloc]; omega)).trans (two_first _ _ _)
  have hk2 : w1.heap[w.heap.size + 1]? = some (.cells #[.int .i64 0, .int .i64 0, .int .i64 0, .int .i64 0, .int .i64 0, .int .i64 0, .int .i64 0, .int .i64 0, .int .i64 0, .slice none 0 0, .slice none 0 0, .int .i64 0, .slice none 0 0, .slice none 0 0] 61 (0, 0)) := (hb.block _ (by simp only [World.size_alloc]; omega)).trans (two_second _ _ _)
  have hb1 : Below w.heap.size w w1 := (((Below.refl _ _).alloc (Nat.le_refl _) _).alloc (by simp) _).trans (hb.mono (by simp <;> omega))
  have hsz1 : w.heap.size + 2 ≤ w1.heap.size := by have := hb.size; simpa using this
  have Hk1 := Lib.hid hk1
  have Hk2 := Lib.hid hk2
  have Hb1 := Lib.hid hb1
  clear hk1 hk2 hb1 hb
  go_wp2_with fail
  go_at_call 67
  refine (HD.out _ Hb1.out).mono ?_
  rintro e w2 ⟨pv, rfl, ⟨v1, v2, rfl, hT, hO⟩, hb2⟩
  obtain ⟨B1, d1, rfl⟩ := hT.slice
  obtain ⟨B2, d2, rfl⟩ := ObjsAt.slice hO
  obtain ⟨r1, r2⟩ := below_cells hb2 (b := w.heap.size) (by omega) Hk1.out
  have hsz2 := hb2.size
  have hlt1 : w.heap.size < w2.heap.size := by omega
  have hlt2 : w.heap.size + 1 < w2.heap.size := by omega
  have HP := Lib.hid (show PartAt w2 (fun k => w1.heap.size ≤ k) (.agg #[.slice B1 P.thr.length d1, .slice B2 P.obj.length d2]) P from ⟨_, _, rfl, hT, hO⟩)
  have Hb2 := Lib.hid hb2
  have Hc := Lib.hid ((hb2.block _ (by omega)).trans Hk1.out)
  have Hc2 := Lib.hid ((hb2.block _ (by omega)).trans Hk2.out)
  clear hT hO hb2 q1 q2
  go_wp2_with (go_at_call 132; refine (take_at _ _ _ _ _ _ _ _ _ _ _ _ _ _ _ _ (by omega) (by omega)).mono ?_; rintro e w' ⟨rfl, rfl⟩)
  go_loopw [5, 15] (fun _ i wr =>
    (i = .int .i64 0 ∧ wr = w2.alloc (.cells #[.int .i64 0, .int .i64 0, .int .i64 0, .int .i64 0, .int .i64 0, .int .i64 0, .int .i64 0, .int .i64 0, .int .i64 0, .slice none 0 0, .slice none 0 0, .int .i64 2, .slice B1 P.thr.length d1, .slice B2 P.obj.length d2] 61)) ∨
    (i = .int .i64 1 ∧ wr = w2.alloc (.cells #[.int .i64 0, .int .i64 2, .int .i64 0, .int .i64 3, .int .i64 0, .int .i64 0, .int .i64 0, .int .i64 0, .int .i64 0, .slice none 0 0, .slice none 0 0, .int .i64 4, .slice B1 P.thr.length d1, .slice B2 P.obj.length d2] 61)) ∨
    (i = .int .i64 2 ∧ wr = w2.alloc (.cells #[.int .i64 0, .int .i64 2, .int .i64 4, .int .i64 3, .int .i64 5, .int .i64 0, .int .i64 0, .int .i64 0, .int .i64 0, .slice none 0 0, .slice none 0 0, .int .i64 6, .slice B1 P.thr.length d1, .slice B2 P.obj.length d2] 61))) (fun _ i _ => 2 - (intOf i).toNat)
  case atStart => exact .inl ⟨rfl, rfl⟩
  case round =>
    rcases hrel with ⟨rfl, rfl⟩ | ⟨rfl, rfl⟩ | ⟨rfl, rfl⟩
    · go_wp2_with (go_at_call 132; refine (take_at _ _ _ _ _ _ _ _ _ _ _ _ _ _ _ _ (by omega) (by omega)).mono ?_; rintro e w' ⟨rfl, rfl⟩)
      go_roundw
      case rel => exact .inr (.inl ⟨by first | trivial | rfl, by first | trivial | rfl⟩)
      case measure => simp [intOf]
    · go_wp2_with (go_at_call 132; refine (take_at _ _ _ _ _ _ _ _ _ _ _ _ _ _ _ _ (by omega) (by omega)).mono ?_; rintro e w' ⟨rfl, rfl⟩)
      go_roundw
      case rel => exact .inr (.inr ⟨by first | trivial | rfl, by first | trivial | rfl⟩)
      case measure => simp [intOf]
    · go_wp2_with (first | (go_at_call 132; refine (take_at _ _ _ _ _ _ _ _ _ _ _ _ _ _ _ _ (by omega) (by omega)).mono ?_; rintro e w' ⟨rfl, rfl⟩) | (go_at_call 133; refine (seqWords_one _).mono ?_; rintro e w' ⟨rfl, rfl⟩))
      have st0 : ThState w2 (w2.alloc (.cells #[.int .i64 0, .int .i64 2, .int .i64 4, .int .i64 3, .int .i64 5, .int .i64 6, .int .i64 8, .int .i64 41, .int .i64 43, .slice none 0 0, .slice none 0 0, .int .i64 51, .slice B1 P.thr.length d1, .slice B2 P.obj.length d2] 61)) (.slice B1 P.thr.length d1) (.slice B2 P.obj.length d2) 0 :=
        ⟨.slice none 0 0, heap_alloc_new w2 _, World.ownsRow_nil _ _ _ _, (Below.refl _ _).alloc (Nat.le_refl _) _, by simp⟩
      have St0 := Lib.hid st0
      clear st0
      go_loopw [39] (fun i wr => ∃ k : Nat, k ≤ P.thr.length ∧ i = .int .i64 k ∧ ThState w2 wr (.slice B1 P.thr.length d1) (.slice B2 P.obj.length d2) k) (fun i _ => P.thr.length - (intOf i).toNat)
      case atStart => exact ⟨0, Nat.zero_le _, rfl, St0.out⟩
      case round =>
        obtain ⟨k, hk, rfl, sT, c1, hown, hbl, hszr⟩ := hrel
        have k9 := cell_of_block c1 9
        have k11 := cell_of_block c1 11
        have fz := free_of_block c1
        have hs9 : ∀ b, sT.ownBlock = some b → w2.heap.size + 1 ≤ b := fun b hb => (hown.lt b hb).1
        have nT : some w2.heap.size ≠ sT.ownBlock := fun e => by have := hs9 _ e.symm; omega
        have lw := lt_of_block c1
        have hl1 : k + 1 ≤ maxLen := by unfold maxLen; omega
        have hl2 : (k + 1) * 8 ≤ 140737488355328 := by omega
        simp only [planArr, List.getElem?_toArray, List.getElem?_cons_succ, List.getElem?_cons_zero] at k9 k11
        by_cases hlt : k < P.thr.length
        · have hlc : (k : Int) < (P.thr.length : Int) := by omega
          have Hown := Lib.hid hown
          have Hc1 := Lib.hid c1
          have Hbl := Lib.hid hbl
          clear c1 hown hbl r1 r2
          go_wp2_with fail
          go_region_law
            (first
              | (refine step_append_lies _ (by rfl) _ _ _ (by rfl) (w2.heap.size + 1) 3 i0 _ 1 8 Tryz.underlying38 hi0 hz0 hz1 hz2 rfl (by omega) sT k (encInts (thAts k)) (by rfl) (((ownsRow_setCell_below Hown.out (by dsimp only; omega) _).alloc _).drew)
                  ⟨wr.heap.size, 0, none⟩ 1 1 [.int .i64 (51 + 24 * (k : Int))] (by rfl) (by rfl) (World.news_of_block (cs := #[.int .i64 (51 + 24 * (k : Int))]) (t := 3) (fr := (0, 0)) (heap_set_alloc_new _ _ _ _)) (by simp [Value.oneCell'])
                  (by omega) hl1 hl2 (by simp; omega) (wr.heap.size + 1) (by simp) ?_; intro gg cap w5 hown5 hgrow hat hlt5
                 have z1 : w5.cell? ⟨w2.heap.size, 9, none⟩ = some sT := by rw [hgrow.cell_far _ (by simp; omega) nT]; go_simp
                 have z2 : w5.frozen? ⟨w2.heap.size, 9, none⟩ = false := by rw [hgrow.frozen_far _ (by simp; omega) nT]; go_simp)
              | (go_simp; go_at_call 132; refine (take_any _ w2.heap.size (51 + 24 * (k : Int)) 24 (by go_simp) (by go_simp) (by omega) (by omega)).mono ?_; rintro e w' ⟨rfl, rfl⟩))
          all_goals
            have Hown5 := Lib.hid hown5
            have Hgrow := Lib.hid hgrow
            have Hat := Lib.hid hat
            clear hown5 hgrow hat hlt5 z1 z2
            go_wp2
            go_roundw
            case rel =>
              refine ⟨k + 1, by omega, by go_num, ThState.next Hc1.out Hbl.out hszr hs9 Hown5.out ?_ Hgrow.out⟩
              rcases Hat.out with e | e
              · exact hs9 _ e
              · omega
            case measure => simp [intOf]; omega
        · have hkn : k = P.thr.length := by omega
          subst hkn
          have dd1 := cell_of_block (w := wr) (b := w.heap.size) ((hbl.block _ hlt1).trans Hc.out)
          have Hown := Lib.hid hown
          have Hc1 := Lib.hid c1
          have Hbl := Lib.hid hbl
          clear c1 hown hbl r1 r2
          go_wp2
          have st1 : ObState w2 wr (.slice B1 P.thr.length d1) (.slice B2 P.obj.length d2) sT P.thr.length 0 :=
            ⟨.slice none 0 0, by simpa using Hc1.out, Hown.out, World.ownsRow_nil _ _ _ _, fun e => nT e.symm, fun b e => by simp [Value.ownBlock] at e, Hbl.out, hszr⟩
          have St1 := Lib.hid st1
          obtain ⟨wt, rfl⟩ : ∃ wt : World, wt = wr := ⟨_, rfl⟩
          clear st1 dd1 Hown Hc1 Hbl hs9 nT
          go_loopw [51] (fun i wr => ∃ k : Nat, k ≤ P.obj.length ∧ i = .int .i64 k ∧ ObState w2 wr (.slice B1 P.thr.length d1) (.slice B2 P.obj.length d2) sT P.thr.length k) (fun i _ => P.obj.length - (intOf i).toNat)
          case atStart => exact ⟨0, Nat.zero_le _, rfl, St1.out⟩
          case round =>
            obtain ⟨j, hj, rfl, sO, c1, hown, hownO, hTn, hdis, hbl, hszr⟩ := hrel
            have k9 := cell_of_block c1 10
            have k11 := cell_of_block c1 11
            have fz := free_of_block c1
            have hs9 : ∀ b, sO.ownBlock = some b → w2.heap.size + 1 ≤ b := fun b hb => (hownO.lt b hb).1
            have nT : some w2.heap.size ≠ sO.ownBlock := fun e => by have := hs9 _ e.symm; omega
            have lw := lt_of_block c1
            have hl1 : j + 1 ≤ maxLen := by unfold maxLen; omega
            have hl2 : (j + 1) * 8 ≤ 140737488355328 := by omega
            simp only [planArr, List.getElem?_toArray, List.getElem?_cons_succ, List.getElem?_cons_zero] at k9 k11
            by_cases hlt : j < P.obj.length
            · have hlc : (j : Int) < (P.obj.length : Int) := by omega
              have Hown := Lib.hid hown
              have HownO := Lib.hid hownO
              have Hc1 := Lib.hid c1
              have Hbl := Lib.hid hbl
              have Hdis := Lib.hid hdis
              clear c1 hown hownO hbl hdis
              go_wp2_with fail
              go_region_law
                (first
                  | (refine step_append_lies _ (by rfl) _ _ _ (by rfl) (w2.heap.size + 1) 3 i0 _ 1 8 Tryz.underlying38 hi0 hz0 hz1 hz2 rfl (by omega) sO j (encInts (obAts P.thr.length j)) (by rfl) (((ownsRow_setCell_below HownO.out (by dsimp only; omega) _).alloc _).drew)
                      ⟨wr.heap.size, 0, none⟩ 1 1 [.int .i64 (51 + 24 * (P.thr.length : Int) + 24 * (j : Int))] (by rfl) (by rfl) (World.news_of_block (cs := #[.int .i64 (51 + 24 * (P.thr.length : Int) + 24 * (j : Int))]) (t := 3) (fr := (0, 0)) (heap_set_alloc_new _ _ _ _)) (by simp [Value.oneCell'])
                      (by omega) hl1 hl2 (by simp; omega) (wr.heap.size + 1) (by simp) ?_; intro gg cap w5 hown5 hgrow hat hlt5
                     have z1 : w5.cell? ⟨w2.heap.size, 10, none⟩ = some sO := by rw [hgrow.cell_far _ (by simp; omega) nT]; go_simp
                     have z2 : w5.frozen? ⟨w2.heap.size, 10, none⟩ = false := by rw [hgrow.frozen_far _ (by simp; omega) nT]; go_simp)
                  | (go_simp; go_at_call 132; refine (take_any _ w2.heap.size (51 + 24 * (P.thr.length : Int) + 24 * (j : Int)) 24 (by go_simp) (by go_simp) (by omega) (by omega)).mono ?_; rintro e w' ⟨rfl, rfl⟩))
              all_goals
                have Hown5 := Lib.hid hown5
                have Hgrow := Lib.hid hgrow
                have Hat := Lib.hid hat
                clear hown5 hgrow hat hlt5 z1 z2
                go_wp2
                go_roundw
                case rel => exact ⟨j + 1, by omega, by go_num, ObState.next Hc1.out Hown.out hTn Hdis.out Hbl.out hszr hs9 Hown5.out Hat.out Hgrow.out⟩
                case measure => simp [intOf]; omega
            · have hjn : j = P.obj.length := by omega
              subst hjn
              have d2' := cell_of_block (w := wr) (b := w.heap.size + 1) ((hbl.block _ hlt2).trans Hc2.out)
              have d3' := free_of_block (w := wr) (b := w.heap.size + 1) ((hbl.block _ hlt2).trans Hc2.out)
              have d4' := cell_of_block c1
              obtain ⟨A9, e9, rfl⟩ := own_form hown
              obtain ⟨A10, e10, rfl⟩ := own_form hownO
              have Hown := Lib.hid hown
              have HownO := Lib.hid hownO
              have Hbl := Lib.hid hbl
              clear c1 hown hownO hbl hdis k9 k11
              simp only [planArr] at d4'
              go_wp2
              have hkp : ∀ (b : Nat), w.heap.size + 2 ≤ b → ((((((((((((((wr.setCell ⟨w.heap.size + 1, 0, none⟩ (.int .i64 0)).setCell ⟨w.heap.size + 1, 1, none⟩ (.int .i64 2)).setCell ⟨w.heap.size + 1, 2, none⟩ (.int .i64 4)).setCell ⟨w.heap.size + 1, 3, none⟩ (.int .i64 3)).setCell ⟨w.heap.size + 1, 4, none⟩ (.int .i64 5)).setCell ⟨w.heap.size + 1, 5, none⟩ (.int .i64 6)).setCell ⟨w.heap.size + 1, 6, none⟩ (.int .i64 8)).setCell ⟨w.heap.size + 1, 7, none⟩ (.int .i64 41)).setCell ⟨w.heap.size + 1, 8, none⟩ (.int .i64 43)).setCell ⟨w.heap.size + 1, 9, none⟩ (.slice A9 P.thr.length e9)).setCell ⟨w.heap.size + 1, 10, none⟩ (.slice A10 P.obj.length e10)).setCell ⟨w.heap.size + 1, 11, none⟩ (.int .i64 (51 + 24 * (P.thr.length : Int) + 24 * (P.obj.length : Int)))).setCell ⟨w.heap.size + 1, 12, none⟩ (.slice B1 P.thr.length d1)).setCell ⟨w.heap.size + 1, 13, none⟩ (.slice B2 P.obj.length d2)).heap[b]? = wr.heap[b]? := by
                intro b hb
                iterate 14 rw [block_setCell_other _ _ _ (by omega)]
              have hwd : (51 + 24 * (P.thr.length : Int) + 24 * (P.obj.length : Int)) = ((planWords P : Nat) : Int) := by unfold planWords; omega
              have Hwd := Lib.hid hwd
              have Hkp := Lib.hid hkp
              clear hwd hkp
              refine bodyPost_ret (v := .tuple #[.agg (planArr (.slice A9 P.thr.length e9) (.slice A10 P.obj.length e10) (.slice B1 P.thr.length d1) (.slice B2 P.obj.length d2) (51 + 24 * (P.thr.length : Int) + 24 * (P.obj.length : Int))), .int .i64 0]) (by simp [results, Tryz.results70, go_sem, d2', planArr]) rfl ⟨_, rfl, ?_, ?_⟩
              · refine ⟨_, _, _, _, by rw [← Hwd.out], ?_, ?_, ?_⟩
                · have h := ownsRow_reads Hown.out
                  unfold IntsAt
                  rw [thAts_length]
                  refine Reads.wider (Reads.kept h (fun b _ hb => Hkp.out b (by omega))) (fun b hb => by omega)
                · have h := ownsRow_reads HownO.out
                  unfold IntsAt
                  rw [obAts_length]
                  refine Reads.wider (Reads.kept h (fun b _ hb => Hkp.out b (by omega))) (fun b hb => by omega)
                · refine PartAt.wider (PartAt.kept (w := wr) (fun b _ hb => Hkp.out b (by omega)) (PartAt.kept (w := w2) (fun b hb _ => Hbl.out.block b hb) HP.out)) (fun b hb => by omega)
              · iterate 14 refine Below.setCell ?_ (by dsimp only; omega) _
                exact (Hb1.out.trans (Hb2.out.mono (by omega))).trans (Hbl.out.mono (by omega))
end Go.Proofs.YtefbdcmodfbpbaaGreat
