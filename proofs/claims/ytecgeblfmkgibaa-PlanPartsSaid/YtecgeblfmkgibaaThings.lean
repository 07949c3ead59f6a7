/-
  septumlaw12.things: where all of a plan's things begin, and how many words each has.
-/
import Derived.Test.YtecgeblfmkgibaaOdd
import Derived.Maps.AppendAt
set_option linter.unusedVariables false
set_option linter.unusedSimpArgs false
namespace Go.Proofs.Ytecgeblfmkgibaa
open Go.RowKit

def atFirst : List Int := [0, 2, 4, 3, 5, 6, 8, 41, 43]
def manyFirst (m : Nat) : List Int := [2, 1, 1, 1, 1, 2, 33, 2, (m : Int)]

/-- The two lists being made. -/
structure Thg (w wr : World) (pb : Obj) (s1 s2 : Value) (k : Nat) (xs ys : List Int) : Prop where
  bl : Below (w.heap.size + 1) (w.alloc pb) wr
  o1 : wr.ownsRow (w.heap.size + 1) 3 1 s1 k (encInts xs)
  o2 : wr.ownsRow (w.heap.size + 1) 3 1 s2 k (encInts ys)
  ne : ∀ b, s1.ownBlock = some b → s2.ownBlock ≠ some b
theorem Thg.size {w wr : World} {pb : Obj} {s1 s2 : Value} {k : Nat} {xs ys : List Int} (h : Thg w wr pb s1 s2 k xs ys) : w.heap.size + 1 ≤ wr.heap.size := by
  have := h.bl.size; simpa using this
theorem Thg.mid {w wr w5 : World} {pb c1 : Obj} {s1 s2 : Value} {k : Nat} {xs ys : List Int} (h : Thg w wr pb s1 s2 k xs ys) (hg : (wr.alloc c1).grownBy w5 s1.ownBlock) (c2 : Obj) : (w5.alloc c2).ownsRow (w.heap.size + 1) 3 1 s2 k (encInts ys) := by
  refine World.ownsRow.alloc (ownsRow_kept h.o2 fun b hb => ?_) _
  have hl := h.o2.lt b hb
  rw [hg.block _ (by simp; omega) (fun e => h.ne b e.symm hb)]
  exact Below.heap_alloc _ _ _ hl.2
theorem below_cellsT {w W : World} {cs : Array Value} {t : TypeId} (h : Below (w.heap.size + 1) (w.alloc (.cells cs t)) W) : (∀ k, W.cell? ⟨w.heap.size, k, none⟩ = cs[k]?) ∧ (∀ k, W.frozen? ⟨w.heap.size, k, none⟩ = false) := by
  have h' : W.heap[w.heap.size]? = some (.cells cs t (0, 0)) := by rw [h.block _ (by omega)]; exact heap_alloc_new w _
  exact ⟨cell_of_block h', free_of_block h'⟩
theorem encInts_snoc (xs : List Int) (x : Int) : encInts (xs ++ [x]) = encInts xs ++ [.int .i64 x] := by simp [encInts]
theorem Thg.next {w wr w5 w6 : World} {pb c1 c2 : Obj} {s1 s2 v5 v6 : Value} {k : Nat} {xs ys : List Int} {x y : Int} (h : Thg w wr pb s1 s2 k xs ys)
    (hown5 : w5.ownsRow (w.heap.size + 1) 3 1 v5 (k + 1) (encInts xs ++ [.int .i64 x])) (hg5 : (wr.alloc c1).grownBy w5 s1.ownBlock) (hat5 : v5.ownBlock = s1.ownBlock ∨ v5.ownBlock = some (wr.alloc c1).heap.size)
    (hown6 : w6.ownsRow (w.heap.size + 1) 3 1 v6 (k + 1) (encInts ys ++ [.int .i64 y])) (hg6 : (w5.alloc c2).grownBy w6 s2.ownBlock) (hat6 : v6.ownBlock = s2.ownBlock ∨ v6.ownBlock = some (w5.alloc c2).heap.size) :
    Thg w w6 pb v5 v6 (k + 1) (xs ++ [x]) (ys ++ [y]) := by
  have hs := h.size
  have h5 := hg5.size
  simp only [World.size_alloc] at h5 hat5 hat6
  have hs1 : ∀ b, s1.ownBlock = some b → w.heap.size + 1 ≤ b ∧ b < wr.heap.size := h.o1.lt
  have hs2 : ∀ b, s2.ownBlock = some b → w.heap.size + 1 ≤ b ∧ b < wr.heap.size := h.o2.lt
  refine ⟨?_, ?_, ?_, ?_⟩
  · have a1 : Below (w.heap.size + 1) (w.alloc pb) w5 := (h.bl.alloc hs _).grown hg5 (by simp; omega) (fun b e => (hs1 b e).1)
    exact (a1.alloc (by omega) _).grown hg6 (by simp; omega) (fun b e => (hs2 b e).1)
  · rw [encInts_snoc]
    refine ownsRow_kept hown5 fun b hb => ?_
    have hl := hown5.lt b hb
    rw [hg6.block _ (by simp; omega) ?_, Below.heap_alloc _ _ _ hl.2]
    intro e
    rcases hat5 with a | a
    · exact h.ne b (a ▸ hb) e.symm
    · rw [a] at hb; injection hb with hb; have := hs2 b e.symm; omega
  · rw [encInts_snoc]; exact hown6
  · intro b hb hb'
    rcases hat6 with a | a
    · rw [a] at hb'
      rcases hat5 with c | c
      · exact h.ne b (c ▸ hb) hb'
      · rw [c] at hb; injection hb with hb; have := hs2 b hb'; omega
    · rw [a] at hb'; injection hb' with hb'
      have := (hown5.lt b hb).2; omega

set_option maxRecDepth 100000 in
set_option maxHeartbeats 1600000 in
theorem things_any (P : PartD) (hn : P.thr.length ≤ 6 ∧ P.obj.length ≤ 8) (pv : Value) (F : Nat → Prop) (w : World) (h : PlanVal w F pv P) :
    Calls Try.prog 19 #[pv] w fun e w' => ∃ v1 v2, e = .returned (.tuple #[v1, v2]) ∧ IntsAt w' (fun k => w.heap.size ≤ k) v1 (atFirst ++ thAts P.thr.length ++ obAts P.thr.length P.obj.length) ∧ IntsAt w' (fun k => w.heap.size ≤ k) v2 (manyFirst P.obj.length ++ List.replicate (P.thr.length + P.obj.length) 24) ∧ Below w.heap.size w w' := by
  obtain ⟨i0, hi0, hz0, hz1, hz2⟩ := info_parts Try.infoInt
  obtain ⟨sT, sO, v1, v2, rfl, h1, h2, h3⟩ := h
  obtain ⟨A1, c1, e1⟩ := h1.slice
  obtain ⟨A2, c2, e2⟩ := h2.slice
  obtain ⟨u1, u2, e0, h5, h6⟩ := h3
  cases e0
  obtain ⟨A3, c3, rfl⟩ := h5.slice
  obtain ⟨A4, c4, rfl⟩ := ObjsAt.slice h6
  rw [thAts_length] at e1
  rw [obAts_length] at e2
  subst e1 e2
  have H1 := Lib.hid h1
  have H2 := Lib.hid h2
  clear h1 h2 h5 h6
  obtain ⟨hn1, hn2⟩ := hn
  unfold planArr
  go_enter Try.func19, Try.ntmps19
  go_wp2
  have st0 : Thg w (((w.alloc (.cells #[.int .i64 0, .int .i64 2, .int .i64 4, .int .i64 3, .int .i64 5, .int .i64 6, .int .i64 8, .int .i64 41, .int .i64 43, .slice A1 P.thr.length c1, .slice A2 P.obj.length c2, .int .i64 (planWords P : Nat), .slice A3 P.thr.length c3, .slice A4 P.obj.length c4] 31)).alloc (.cells (encInts atFirst).toArray 3)).alloc (.cells (encInts (manyFirst P.obj.length)).toArray 3)) (.cells #[.int .i64 0, .int .i64 2, .int .i64 4, .int .i64 3, .int .i64 5, .int .i64 6, .int .i64 8, .int .i64 41, .int .i64 43, .slice A1 P.thr.length c1, .slice A2 P.obj.length c2, .int .i64 (planWords P : Nat), .slice A3 P.thr.length c3, .slice A4 P.obj.length c4] 31) (.slice (some ⟨w.heap.size + 1, 0, none⟩) 9 9) (.slice (some ⟨w.heap.size + 1 + 1, 0, none⟩) 9 9) 9 atFirst (manyFirst P.obj.length) := by
    refine ⟨(((Below.refl _ _).alloc (by simp) _).alloc (by simp) _), ⟨rfl, .inr ⟨_, 9, (encInts atFirst).toArray, rfl, by omega, ?_, by omega, by unfold maxLen; omega, rfl, rfl⟩⟩, ⟨rfl, .inr ⟨_, 9, (encInts (manyFirst P.obj.length)).toArray, rfl, by omega, ?_, by omega, by unfold maxLen; omega, rfl, rfl⟩⟩, ?_⟩
    · have := two_first (w.alloc (.cells #[.int .i64 0, .int .i64 2, .int .i64 4, .int .i64 3, .int .i64 5, .int .i64 6, .int .i64 8, .int .i64 41, .int .i64 43, .slice A1 P.thr.length c1, .slice A2 P.obj.length c2, .int .i64 (planWords P : Nat), .slice A3 P.thr.length c3, .slice A4 P.obj.length c4] 31)) (.cells (encInts atFirst).toArray 3) (.cells (encInts (manyFirst P.obj.length)).toArray 3)
      simpa using this
    · have := two_second (w.alloc (.cells #[.int .i64 0, .int .i64 2, .int .i64 4, .int .i64 3, .int .i64 5, .int .i64 6, .int .i64 8, .int .i64 41, .int .i64 43, .slice A1 P.thr.length c1, .slice A2 P.obj.length c2, .int .i64 (planWords P : Nat), .slice A3 P.thr.length c3, .slice A4 P.obj.length c4] 31)) (.cells (encInts atFirst).toArray 3) (.cells (encInts (manyFirst P.obj.length)).toArray 3)
      simpa using this
    · intro b e e'
      simp only [Value.ownBlock, Option.some.injEq] at e e'
      omega
  have St0 := Lib.hid st0
  clear st0
  go_loopw [4, 5, 6, 38] (fun s1 s2 _ i wr => ∃ k : Nat, k ≤ P.thr.length ∧ i = .int .i64 k ∧ Thg w wr (.cells #[.int .i64 0, .int .i64 2, .int .i64 4, .int .i64 3, .int .i64 5, .int .i64 6, .int .i64 8, .int .i64 41, .int .i64 43, .slice A1 P.thr.length c1, .slice A2 P.obj.length c2, .int .i64 (planWords P : Nat), .slice A3 P.thr.length c3, .slice A4 P.obj.length c4] 31) s1 s2 (9 + k) (atFirst ++ thAts k) (manyFirst P.obj.length ++ List.replicate k 24)) (fun _ _ _ i _ => P.thr.length - (intOf i).toNat)
  case atStart => exact ⟨0, Nat.zero_le _, rfl, St0.out⟩
  case round =>
    obtain ⟨k, hk, rfl, hst⟩ := hrel
    have hsz := hst.size
    have lw : w.heap.size < wr.heap.size := by omega
    obtain ⟨x1, x2⟩ := below_cellsT hst.bl
    by_cases hlt : k < P.thr.length
    · obtain ⟨b, o, c', e, hF, hcells⟩ := H1.out.cell (by rw [thAts_length]; omega)
      simp only [Value.slice.injEq] at e
      obtain ⟨rfl, hx9, rfl⟩ := e
      clear hx9
      have d0 := hcells k (thAt k) (by have := thAts_get P.thr.length k (by simp [hasB]; omega); simpa using this)
      have lb : b < w.heap.size := World.block_lt_of_cell? w _ d0
      have e0 : wr.cell? ⟨b, o + k, none⟩ = some (.int .i64 (thAt k)) := by
        rw [hst.bl.cell (p := ⟨b, o + k, none⟩) (by show b < _; omega), World.cell?_alloc_lt w _ ⟨b, o + k, none⟩ lb]
        exact d0
      have hlc : (k : Int) < (P.thr.length : Int) := by omega
      have HT := Lib.hid hst
      have HO1 := Lib.hid hst.o1
      clear hst hcells d0 St0
      generalize hy : thAt k = y at *
      have Hy := Lib.hid hy
      clear hy
      go_wp2_with (first
        | (at_builtin; refine wpList_append_own_at _ rfl _ _ 29 rfl (w.heap.size + 1) 3 i0 _ 1 8 Try.underlying29 hi0 hz0 hz1 hz2 rfl (by omega) u4 (9 + k) (encInts (atFirst ++ thAts k)) rfl (HO1.out.alloc _) ⟨wr.heap.size, 0, none⟩ 1 1 [.int .i64 y] rfl rfl (cell_one_new _ _ _) (by simp [Value.oneCell']) (by unfold maxLen; omega) (by omega) (by simp; omega) ?_; intro v5 w5 hown5 hg5 _ hat5; have Hown5 := Lib.hid hown5; have Hg5 := Lib.hid hg5; have Hat5 := Lib.hid hat5; clear hown5 hg5 hat5 HO1)
        | (at_builtin; refine wpList_append_own_at _ rfl _ _ 29 rfl (w.heap.size + 1) 3 i0 _ 1 8 Try.underlying29 hi0 hz0 hz1 hz2 rfl (by omega) u5 (9 + k) (encInts (manyFirst P.obj.length ++ List.replicate k 24)) rfl (HT.out.mid Hg5.out _) ⟨w5.heap.size, 0, none⟩ 1 1 [.int .i64 24] rfl rfl (cell_one_new _ _ _) (by simp [Value.oneCell']) (by unfold maxLen; omega) (by omega) (by have := Hg5.out.size; simp at this ⊢; omega) ?_; intro v6 w6 hown6 hg6 _ hat6; have Hown6 := Lib.hid hown6; have Hg6 := Lib.hid hg6; have Hat6 := Lib.hid hat6; clear hown6 hg6 hat6))
      go_roundw
      case rel =>
        refine ⟨k + 1, by omega, by go_num, ?_⟩
        have := HT.out.next Hown5.out Hg5.out Hat5.out Hown6.out Hg6.out Hat6.out
        rw [thAts_succ, List.replicate_succ', ← List.append_assoc, ← List.append_assoc, Hy.out]
        exact this
      case measure => simp [intOf]; omega
    · have hkn : k = P.thr.length := by omega
      subst hkn
      have St := Lib.hid hst
      obtain ⟨wo, rfl⟩ : ∃ wo : World, wo = wr := ⟨_, rfl⟩
      clear hst St0
      obtain ⟨y4, rfl⟩ : ∃ y4 : Value, y4 = u4 := ⟨_, rfl⟩
      obtain ⟨y5, rfl⟩ : ∃ y5 : Value, y5 = u5 := ⟨_, rfl⟩
      go_wp2
      clear x1 x2 lw hsz hlt
      go_loopw [4, 5, 7, 56] (fun s1 s2 _ i wr => ∃ k : Nat, k ≤ P.obj.length ∧ i = .int .i64 k ∧ Thg w wr (.cells #[.int .i64 0, .int .i64 2, .int .i64 4, .int .i64 3, .int .i64 5, .int .i64 6, .int .i64 8, .int .i64 41, .int .i64 43, .slice A1 P.thr.length c1, .slice A2 P.obj.length c2, .int .i64 (planWords P : Nat), .slice A3 P.thr.length c3, .slice A4 P.obj.length c4] 31) s1 s2 (9 + P.thr.length + k) (atFirst ++ thAts P.thr.length ++ obAts P.thr.length k) (manyFirst P.obj.length ++ List.replicate (P.thr.length + k) 24)) (fun _ _ _ i _ => P.obj.length - (intOf i).toNat)
      case atStart => exact ⟨0, Nat.zero_le _, rfl, by have := St.out; rw [← List.append_nil (atFirst ++ thAts P.thr.length)] at this; exact this⟩
      case round =>
        clear St
        obtain ⟨k, hk, rfl, hst⟩ := hrel
        have hsz := hst.size
        have lw : w.heap.size < wr.heap.size := by omega
        obtain ⟨x1, x2⟩ := below_cellsT hst.bl
        by_cases hlt : k < P.obj.length
        · obtain ⟨b, o, c', e, hF, hcells⟩ := H2.out.cell (by rw [obAts_length]; omega)
          simp only [Value.slice.injEq] at e
          obtain ⟨rfl, hx9, rfl⟩ := e
          clear hx9
          have d0 := hcells k (obAt P.thr.length k) (by simp [obAts, List.getElem?_map, List.getElem?_range hlt])
          have lb : b < w.heap.size := World.block_lt_of_cell? w _ d0
          have e0 : wr.cell? ⟨b, o + k, none⟩ = some (.int .i64 (obAt P.thr.length k)) := by
            rw [hst.bl.cell (p := ⟨b, o + k, none⟩) (by show b < _; omega), World.cell?_alloc_lt w _ ⟨b, o + k, none⟩ lb]
            exact d0
          have hlc : (k : Int) < (P.obj.length : Int) := by omega
          have HT := Lib.hid hst
          have HO1 := Lib.hid hst.o1
          clear hst hcells d0
          generalize hy : obAt P.thr.length k = y at *
          have Hy := Lib.hid hy
          clear hy
          go_wp2_with (first
            | (at_builtin; refine wpList_append_own_at _ rfl _ _ 29 rfl (w.heap.size + 1) 3 i0 _ 1 8 Try.underlying29 hi0 hz0 hz1 hz2 rfl (by omega) u4 (9 + P.thr.length + k) (encInts (atFirst ++ thAts P.thr.length ++ obAts P.thr.length k)) rfl (HO1.out.alloc _) ⟨wr.heap.size, 0, none⟩ 1 1 [.int .i64 y] rfl rfl (cell_one_new _ _ _) (by simp [Value.oneCell']) (by unfold maxLen; omega) (by omega) (by simp; omega) ?_; intro v5 w5 hown5 hg5 _ hat5; have Hown5 := Lib.hid hown5; have Hg5 := Lib.hid hg5; have Hat5 := Lib.hid hat5; clear hown5 hg5 hat5 HO1)
            | (at_builtin; refine wpList_append_own_at _ rfl _ _ 29 rfl (w.heap.size + 1) 3 i0 _ 1 8 Try.underlying29 hi0 hz0 hz1 hz2 rfl (by omega) u5 (9 + P.thr.length + k) (encInts (manyFirst P.obj.length ++ List.replicate (P.thr.length + k) 24)) rfl (HT.out.mid Hg5.out _) ⟨w5.heap.size, 0, none⟩ 1 1 [.int .i64 24] rfl rfl (cell_one_new _ _ _) (by simp [Value.oneCell']) (by unfold maxLen; omega) (by omega) (by have := Hg5.out.size; simp at this ⊢; omega) ?_; intro v6 w6 hown6 hg6 _ hat6; have Hown6 := Lib.hid hown6; have Hg6 := Lib.hid hg6; have Hat6 := Lib.hid hat6; clear hown6 hg6 hat6))
          go_roundw
          case rel =>
            refine ⟨k + 1, by omega, by go_num, ?_⟩
            have := HT.out.next Hown5.out Hg5.out Hat5.out Hown6.out Hg6.out Hat6.out
            rw [obAts_succ, ← Nat.add_assoc P.thr.length k 1, List.replicate_succ', ← List.append_assoc, ← List.append_assoc, Hy.out]
            exact this
          case measure => simp [intOf]; omega
        · have hkn : k = P.obj.length := by omega
          subst hkn
          have St := Lib.hid hst
          clear hst x1 x2
          go_wp2
          have st := St.out
          have hlen1 : (atFirst ++ thAts P.thr.length ++ obAts P.thr.length P.obj.length).length = 9 + P.thr.length + P.obj.length := by simp [atFirst, thAts_length, obAts_length]; omega
          have hlen2 : (manyFirst P.obj.length ++ List.replicate (P.thr.length + P.obj.length) 24).length = 9 + P.thr.length + P.obj.length := by simp [manyFirst]; omega
          refine bodyPost_ret (v := .tuple #[u4, u5]) (by simp [results, Try.results19, go_sem]) rfl ⟨_, _, rfl, ?_, ?_, ?_⟩
          · unfold IntsAt
            rw [hlen1]
            exact (ownsRow_reads st.o1).wider (fun k hk => by omega)
          · unfold IntsAt
            rw [hlen2]
            exact (ownsRow_reads st.o2).wider (fun k hk => by omega)
          · exact ((Below.refl _ _).alloc (Nat.le_refl _) _).trans (st.bl.mono (by omega))
end Go.Proofs.Ytecgeblfmkgibaa
