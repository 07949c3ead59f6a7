/-
  script.reader.window.
-/
import Derived.Test.YtpmafppcccbmaaaDoorSNumbers
import Derived.Test.YtpmafppcccbmaaaDoorConfD
set_option linter.unusedVariables false
set_option linter.unusedSimpArgs false
namespace Go.Proofs.YtpmafppcccbmaaaDoor
open Go.RowKit

/-- But block 'rb', the block 'own', and new ones all is as it was. -/
structure Chg (rb : Nat) (own : Option Nat) (w w' : World) : Prop where
  os : w'.os = w.os
  tape : w'.tape = w.tape
  output : w'.output = w.output
  size : w.heap.size ≤ w'.heap.size
  block : ∀ k, k < w.heap.size → k ≠ rb → own ≠ some k → w'.heap[k]? = w.heap[k]?
theorem set_block {w : World} {b : Nat} {cs : Array Value} {t : TypeId} {fr : Nat × Nat} (h : w.heap[b]? = some (.cells cs t fr)) (k : Nat) (v : Value) : (w.setCell ⟨b, k, none⟩ v).heap[b]? = some (.cells (cs.setIfInBounds k v) t fr) := by
  have hlt := (Array.getElem?_eq_some_iff.1 h).1
  have h' : w.heap[b] = .cells cs t fr := by simpa [Array.getElem?_eq_getElem hlt] using h
  show (w.heap.modify b _)[b]? = _
  rw [Array.getElem?_eq_getElem (by simpa using hlt), Array.getElem_modify_self, h']
  rfl
theorem own_same {w w' : World} {B e size n : Nat} {v : Value} {xs : List Value} (h : w.ownsRow B e size v n xs) (hk : ∀ k, v.ownBlock = some k → w'.heap[k]? = w.heap[k]?) : w'.ownsRow B e size v n xs := by
  refine ⟨h.1, ?_⟩
  rcases h.2 with hn | ⟨g, cap, cur, rfl, hb, hgg, rest⟩
  · exact .inl hn
  · exact .inr ⟨g, cap, cur, rfl, hb, by rw [hk g rfl]; exact hgg, rest⟩
theorem Tryd.info_win : (Tryd.prog.info? 61).map (fun i => (i.zero, i.size, i.bytes)) = some (some (.agg #[.int .i64 0, .int .i64 0]), 2, 16) := by kernel_rfl
theorem ownsRow_drew {w : World} {B e size n : Nat} {v : Value} {xs : List Value} (h : w.ownsRow B e size v n xs) : w.drew.ownsRow B e size v n xs := h
def WindowPost (w : World) (ls : List (List UInt8)) (rb : Nat) (v1 v2 v3 : Value) (B : Nat) (ws : List WinD) (e : Ending) (w' : World) : Prop :=
  (snums 2 ls = none ∧ e = .returned (.bool false) ∧ Below w.heap.size w w') ∨
  ∃ a b v2', snums 2 ls = some [a, b] ∧ e = .returned (.bool true) ∧ w'.heap[rb]? = some (.cells #[v1, v2', v3] 64 (0, 0)) ∧ w'.ownsRow B 61 2 v2' (ws.length + 1) (encWins ws ++ [.int .i64 a, .int .i64 b]) ∧
    (v2'.ownBlock = v2.ownBlock ∨ ∃ g, v2'.ownBlock = some g ∧ w.heap.size ≤ g) ∧ Chg rb v2.ownBlock w w'
theorem snums_len {n : Nat} {ls : List (List UInt8)} {vs : List Int} (h : snums n ls = some vs) : vs.length = n := by
  unfold snums at h
  split at h
  · rename_i e
    subst e
    have : ∀ (ls : List (List UInt8)) (vs : List Int), numsOf ls = some vs → vs.length = ls.length := by
      intro ls
      induction ls with
      | nil => intro vs h; simp [numsOf] at h; subst h; rfl
      | cons l ls ih =>
        intro vs h
        simp only [numsOf] at h
        cases h1 : numOf l with
        | none => rw [h1] at h; simp at h
        | some x =>
          cases h2 : numsOf ls with
          | none => rw [h1, h2] at h; simp at h
          | some xs =>
            rw [h1, h2] at h
            simp at h
            subst h
            simp [ih xs h2]
    exact this ls vs h
  · cases h

set_option maxRecDepth 100000 in
set_option maxHeartbeats 3200000 in
theorem window_any (ls : List (List UInt8)) (hl : ∀ l ∈ ls, l.length ≤ 1000000) (hn : ls.length ≤ 1000000) (F : Nat → Prop) (v : Value) (w : World) (hT : TabsP w) (h : StrsAt w F v ls) (rb : Nat) (v1 v2 v3 : Value) (B : Nat) (hB : B ≤ w.heap.size) (ws : List WinD)
    (hrd : w.heap[rb]? = some (.cells #[v1, v2, v3] 64 (0, 0))) (hown : w.ownsRow B 61 2 v2 ws.length (encWins ws)) (hne : v2.ownBlock ≠ some rb) (hws : ws.length ≤ 1000000) :
    Calls Tryd.prog 55 #[.pointer (some ⟨rb, 0, none⟩), v] w (WindowPost w ls rb v1 v2 v3 B ws) := by
  obtain ⟨i0, hi0, hz0, hz1, hz2⟩ := info_parts Tryd.info_win
  obtain ⟨Av, cv, ev⟩ := h.slice
  have HN := Lib.hid (snumbers_any 2 (by omega) ls hl hn F v w hT h)
  have Hown := Lib.hid hown
  have Hrd := Lib.hid hrd
  have lrb := (Array.getElem?_eq_some_iff.1 hrd).1
  obtain ⟨A2, c2, e2⟩ := own_form hown
  have hbl : ∀ k, v2.ownBlock = some k → k < w.heap.size := fun k hk => (hown.lt k hk).2
  have HBL := Lib.hid hbl
  have HNE := Lib.hid hne
  clear hl hT h hown hrd hbl
  subst ev
  go_enter Tryd.func55, Tryd.ntmps55
  go_wp2_with fail
  go_at_call 71
  refine HN.out.mono ?_
  rintro e w1 ⟨hb1, hcase⟩
  have HB1 := Lib.hid hb1
  clear HN
  rcases hcase with ⟨hnone, rfl⟩ | ⟨vs, nv, hsome, rfl, hnown⟩
  · have HNone := Lib.hid hnone
    clear hnone hb1
    go_wp2
    go_ret
    exact .inl ⟨HNone.out, rfl, HB1.out⟩
  · have h2 := snums_len hsome
    obtain ⟨a, b, rfl⟩ : ∃ a b, vs = [a, b] := by
      match vs, h2 with
      | [a, b], _ => exact ⟨a, b, rfl⟩
    obtain ⟨g, cap, rfl, hg1, hg2⟩ := hnown.form (by show 0 < 2; omega)
    have n0 : w1.cell? ⟨g, 0, none⟩ = some (.int .i64 a) := by
      have := hnown.cells (g := g) rfl 0 (.int .i64 a) rfl
      simpa [Addr.add] using this
    have n1 : w1.cell? ⟨g, 1, none⟩ = some (.int .i64 b) := by
      have := hnown.cells (g := g) rfl 1 (.int .i64 b) rfl
      simpa [Addr.add] using this
    have hrd1 : w1.heap[rb]? = some (.cells #[v1, v2, v3] 64 (0, 0)) := (hb1.block rb lrb).trans Hrd.out
    have r1 : w1.cell? ⟨rb, 1, none⟩ = some v2 := by rw [cell_of_row _ _ _ _ _ _ hrd1]; rfl
    have hrl : rb < w1.heap.size := Nat.lt_of_lt_of_le lrb hb1.size
    have hown1 := own_kept Hown.out hb1
    have HO1 := Lib.hid hown1
    have Hrd1 := Lib.hid hrd1
    have HS := Lib.hid hsome
    have i2 : (0 : Int) < 2 := by omega
    have i3 : (1 : Int) < 2 := by omega
    have hB1 : B ≤ w1.heap.size := Nat.le_trans hB hb1.size
    have hsz1 := hb1.size
    have hl1 : ws.length + 1 ≤ maxLen := by unfold maxLen; omega
    have hl2 : (ws.length + 1) * 16 ≤ 140737488355328 := by omega
    have ne2 : some rb ≠ v2.ownBlock := fun e => HNE.out e.symm
    have hfr1 : w1.frozen? ⟨rb, 1, none⟩ = false := frozen_of_row _ _ _ _ _ hrd1
    rw [e2] at r1
    clear hnown hrd1 hown1 hsome hb1
    go_wp2_with fail
    go_region_law
      ((refine step_append_lies _ (by rfl) _ _ _ (by rfl) B 61 i0 _ 2 16 Tryd.underlying38 hi0 hz0 hz1 hz2 rfl (by omega) v2 ws.length (encWins ws) (by rw [e2]; rfl) ((HO1.out.alloc _).drew)
          ⟨w1.heap.size, 0, none⟩ 1 1 [.int .i64 a, .int .i64 b] (by rfl) (by rfl) (World.news_of_block (cs := #[.int .i64 a, .int .i64 b]) (t := 61) (fr := (0, 0)) (heap_alloc_new _ _)) (by simp [Value.oneCell'])
          (by omega) hl1 hl2 (by simp; omega) (w1.heap.size + 1) (by simp) ?_; intro gg cap5 w5 hown5 hgrow hat hlt5
        have z1 : w5.cell? ⟨rb, 1, none⟩ = some v2 := by rw [hgrow.cell_far _ (by simp; omega) ne2]; rw [e2]; go_simp
        have z2 : w5.frozen? ⟨rb, 1, none⟩ = false := by rw [hgrow.frozen_far _ (by simp; omega) ne2]; go_simp))
    all_goals
      have Hown5 := Lib.hid hown5
      have Hgrow := Lib.hid hgrow
      have Hat := Lib.hid hat
      have Hlt5 := Lib.hid hlt5
      clear hown5 hgrow hat hlt5 z1 z2
      go_wp2
      go_ret
      have hgr := Hgrow.out
      have hrw : w5.heap[rb]? = some (.cells #[v1, v2, v3] 64 (0, 0)) := by
        rw [hgr.block rb (by simp; omega) ne2]
        exact (Below.heap_alloc w1 _ rb hrl).trans Hrd1.out
      have hgg : gg ≠ rb := by
        rcases Hat.out with e | e
        · intro e2; rw [e2] at e; exact HNE.out e
        · omega
      refine .inr ⟨a, b, _, HS.out, rfl, set_block hrw 1 _, own_same Hown5.out (fun k hk => ?_), ?_, ?_⟩
      · have : k = gg := by simpa [Value.ownBlock] using hk.symm
        rw [this]
        exact block_setCell_other _ _ _ hgg
      · rcases Hat.out with e | e
        · exact .inl e.symm
        · exact .inr ⟨gg, rfl, by omega⟩
      · refine ⟨?_, ?_, ?_, ?_, fun k hk h1 h2 => ?_⟩
        · show w5.os = _; rw [hgr.os]; exact HB1.out.os
        · show w5.tape = _; rw [hgr.tape]; exact HB1.out.tape
        · show w5.output = _; rw [hgr.output]; exact HB1.out.output
        · have := hgr.size; simp [World.setCell] at this ⊢; omega
        · rw [block_setCell_other _ _ _ h1, hgr.block k (by simp; omega) (fun e => h2 e.symm)]
          exact (Below.heap_alloc w1 _ k (by omega)).trans (HB1.out.block k hk)
end Go.Proofs.YtpmafppcccbmaaaDoor
