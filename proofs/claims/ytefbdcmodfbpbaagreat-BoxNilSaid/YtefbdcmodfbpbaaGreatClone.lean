/-
  slices.Clone, at each type of element: a new row of the same cells. (Printed by gen_clone.py.)
-/
import Derived.Test.YtefbdcmodfbpbaaGreatData
set_option linter.unusedVariables false
set_option linter.unusedSimpArgs false
namespace Go.Proofs.YtefbdcmodfbpbaaGreat
open Go.RowKit

/-- What is owned reads. -/
theorem ownsRow_reads {w : World} {base e size n : Nat} {v : Value} {xs : List Value} (h : w.ownsRow base e size v n xs) : Reads w (fun k => base ≤ k) v n size xs := by
  refine ⟨h.1, ?_⟩
  rcases h.2 with ⟨e, e0⟩ | ⟨g, cap, cur, e, hb, hg, _⟩
  · exact ⟨none, 0, by rw [e, e0], fun hn => by omega⟩
  · refine ⟨some ⟨g, 0, none⟩, cap, e, fun _ => ⟨g, 0, rfl, hb, fun j u hu => ?_⟩⟩
    have hc := h.cells (g := g) (by rw [e]; rfl) j u hu
    rwa [show ((⟨g, 0, none⟩ : Addr).add j) = ⟨g, 0 + j, none⟩ from by unfold Addr.add; split <;> simp_all] at hc

theorem Tryz.info_int64 : (Tryz.prog.info? 2).map (fun i => (i.zero, i.size, i.bytes)) = some (some (.int .i64 0), 1, 8) := by kernel_rfl
set_option maxHeartbeats 800000 in
theorem clone_int64 (w : World) (F : Nat → Prop) (v : Value) (n : Nat) (cells : List Value) (h1 : ∀ u ∈ cells, u.oneCell' = true) (hn : n ≤ 100000) (h : Reads w F v n 1 cells) :
    Calls Tryz.prog 65 #[v] w fun e w' => ∃ v', e = .returned v' ∧ w'.ownsRow w.heap.size 2 1 v' n cells ∧ Below w.heap.size w w' := by
  obtain ⟨i0, hi0, hz0, hz1, hz2⟩ := info_parts Tryz.info_int64
  obtain ⟨hl, A, c, rfl, hc⟩ := h
  have hq := fun w => Lib.run_eql_slice_nil (P := Tryz.prog) w 26 2 A n c 0 0 Tryz.underlying26
  cases A with
  | none =>
    have h0 : n = 0 := by
      rcases Nat.eq_zero_or_pos n with h | h
      · exact h
      · obtain ⟨_, _, e, _⟩ := hc h; cases e
    subst h0
    have hcl : cells = [] := List.eq_nil_of_length_eq_zero (by simpa using hl)
    subst hcl
    have fin : ∃ v' : Value, Ending.returned (.slice none 0 0) = .returned v' ∧ w.ownsRow w.heap.size 2 1 v' 0 [] ∧ Below w.heap.size w w := ⟨_, rfl, World.ownsRow_nil _ _ _ _, Below.refl _ _⟩
    have Fin := Lib.hid fin
    clear fin hc hl h1 hn
    go_enter Tryz.func65, Tryz.ntmps65
    go_wp2
    go_ret
    exact Fin.out
  | some ad =>
    have hnews : ∀ W : World, Below w.heap.size w W → ∀ j u, cells[j]? = some u → W.cell? (ad.add j) = some u := by
      intro W hb j u hu
      have hj := (List.getElem?_eq_some_iff.1 hu).1
      have hpos : 0 < n := by
        rcases Nat.eq_zero_or_pos n with h | h
        · subst h; omega
        · exact h
      obtain ⟨b, o, e, _, hcc⟩ := hc hpos
      cases e
      have g := hcc j u hu
      rw [show ((⟨b, o, none⟩ : Addr).add j) = ⟨b, o + j, none⟩ from by unfold Addr.add; split <;> simp_all]
      rw [hb.cell (p := ⟨b, o + j, none⟩) (World.block_lt_of_cell? w _ g)]
      exact g
    have Hnews := Lib.hid hnews
    have Hl := Lib.hid hl
    clear hnews hl hc
    go_enter Tryz.func65, Tryz.ntmps65
    go_wp2_with (at_builtin; refine wpList_append_own_at _ rfl _ _ 26 rfl w.heap.size 2 i0 _ 1 8 Tryz.underlying26 hi0 hz0 hz1 hz2 rfl (by omega) _ 0 [] rfl ?o1 ad n c cells rfl Hl.out ?o2 h1 ?o3 ?o4 ?o5 ?_)
    case o1 => exact World.ownsRow_made _ _ 0 (Nat.le_refl _) (by unfold maxLen; omega) (by simp)
    case o2 => exact Hnews.out _ ((Below.refl _ _).alloc (Nat.le_refl _) _)
    case o3 => unfold maxLen; omega
    case o4 => omega
    case o5 => simp
    intro v' w1 hown hg _ hat
    have hb : Below w.heap.size w w1 := ((Below.refl _ _).alloc (Nat.le_refl _) _).grown hg (by simp) (fun k hk => by simp [Value.ownBlock] at hk; omega)
    have Hown := Lib.hid hown
    have Hb := Lib.hid hb
    clear hown hb hg hat
    go_wp2
    go_ret
    exact ⟨_, rfl, by simpa using Hown.out, Hb.out⟩

theorem Tryz.info_calls : (Tryz.prog.info? 28).map (fun i => (i.zero, i.size, i.bytes)) = some (some (.agg #[.int .i64 0, .int .i64 0, .int .i64 0, .int .i64 0, .slice none 0 0, .int .i64 0]), 6, 64) := by kernel_rfl
set_option maxHeartbeats 800000 in
theorem clone_calls (w : World) (F : Nat → Prop) (v : Value) (n : Nat) (cells : List Value) (h1 : ∀ u ∈ cells, u.oneCell' = true) (hn : n ≤ 100000) (h : Reads w F v n 6 cells) :
    Calls Tryz.prog 127 #[v] w fun e w' => ∃ v', e = .returned v' ∧ w'.ownsRow w.heap.size 28 6 v' n cells ∧ Below w.heap.size w w' := by
  obtain ⟨i0, hi0, hz0, hz1, hz2⟩ := info_parts Tryz.info_calls
  obtain ⟨hl, A, c, rfl, hc⟩ := h
  have hq := fun w => Lib.run_eql_slice_nil (P := Tryz.prog) w 103 28 A n c 0 0 Tryz.underlying103
  cases A with
  | none =>
    have h0 : n = 0 := by
      rcases Nat.eq_zero_or_pos n with h | h
      · exact h
      · obtain ⟨_, _, e, _⟩ := hc h; cases e
    subst h0
    have hcl : cells = [] := List.eq_nil_of_length_eq_zero (by simpa using hl)
    subst hcl
    have fin : ∃ v' : Value, Ending.returned (.slice none 0 0) = .returned v' ∧ w.ownsRow w.heap.size 28 6 v' 0 [] ∧ Below w.heap.size w w := ⟨_, rfl, World.ownsRow_nil _ _ _ _, Below.refl _ _⟩
    have Fin := Lib.hid fin
    clear fin hc hl h1 hn
    go_enter Tryz.func127, Tryz.ntmps127
    go_wp2
    go_ret
    exact Fin.out
  | some ad =>
    have hnews : ∀ W : World, Below w.heap.size w W → ∀ j u, cells[j]? = some u → W.cell? (ad.add j) = some u := by
      intro W hb j u hu
      have hj := (List.getElem?_eq_some_iff.1 hu).1
      have hpos : 0 < n := by
        rcases Nat.eq_zero_or_pos n with h | h
        · subst h; omega
        · exact h
      obtain ⟨b, o, e, _, hcc⟩ := hc hpos
      cases e
      have g := hcc j u hu
      rw [show ((⟨b, o, none⟩ : Addr).add j) = ⟨b, o + j, none⟩ from by unfold Addr.add; split <;> simp_all]
      rw [hb.cell (p := ⟨b, o + j, none⟩) (World.block_lt_of_cell? w _ g)]
      exact g
    have Hnews := Lib.hid hnews
    have Hl := Lib.hid hl
    clear hnews hl hc
    go_enter Tryz.func127, Tryz.ntmps127
    go_wp2_with (at_builtin; refine wpList_append_own_at _ rfl _ _ 103 rfl w.heap.size 28 i0 _ 6 64 Tryz.underlying103 hi0 hz0 hz1 hz2 rfl (by omega) _ 0 [] rfl ?o1 ad n c cells rfl Hl.out ?o2 h1 ?o3 ?o4 ?o5 ?_)
    case o1 => exact World.ownsRow_made _ _ 0 (Nat.le_refl _) (by unfold maxLen; omega) (by simp)
    case o2 => exact Hnews.out _ ((Below.refl _ _).alloc (Nat.le_refl _) _)
    case o3 => unfold maxLen; omega
    case o4 => omega
    case o5 => simp
    intro v' w1 hown hg _ hat
    have hb : Below w.heap.size w w1 := ((Below.refl _ _).alloc (Nat.le_refl _) _).grown hg (by simp) (fun k hk => by simp [Value.ownBlock] at hk; omega)
    have Hown := Lib.hid hown
    have Hb := Lib.hid hb
    clear hown hb hg hat
    go_wp2
    go_ret
    exact ⟨_, rfl, by simpa using Hown.out, Hb.out⟩

theorem Tryz.info_threads : (Tryz.prog.info? 105).map (fun i => (i.zero, i.size, i.bytes)) = some (some (.agg #[.int .i64 0, .int .u32 0, .bool false, .slice none 0 0]), 4, 40) := by kernel_rfl
set_option maxHeartbeats 800000 in
theorem clone_threads (w : World) (F : Nat → Prop) (v : Value) (n : Nat) (cells : List Value) (h1 : ∀ u ∈ cells, u.oneCell' = true) (hn : n ≤ 100000) (h : Reads w F v n 4 cells) :
    Calls Tryz.prog 126 #[v] w fun e w' => ∃ v', e = .returned v' ∧ w'.ownsRow w.heap.size 105 4 v' n cells ∧ Below w.heap.size w w' := by
  obtain ⟨i0, hi0, hz0, hz1, hz2⟩ := info_parts Tryz.info_threads
  obtain ⟨hl, A, c, rfl, hc⟩ := h
  have hq := fun w => Lib.run_eql_slice_nil (P := Tryz.prog) w 22 105 A n c 0 0 Tryz.underlying22
  cases A with
  | none =>
    have h0 : n = 0 := by
      rcases Nat.eq_zero_or_pos n with h | h
      · exact h
      · obtain ⟨_, _, e, _⟩ := hc h; cases e
    subst h0
    have hcl : cells = [] := List.eq_nil_of_length_eq_zero (by simpa using hl)
    subst hcl
    have fin : ∃ v' : Value, Ending.returned (.slice none 0 0) = .returned v' ∧ w.ownsRow w.heap.size 105 4 v' 0 [] ∧ Below w.heap.size w w := ⟨_, rfl, World.ownsRow_nil _ _ _ _, Below.refl _ _⟩
    have Fin := Lib.hid fin
    clear fin hc hl h1 hn
    go_enter Tryz.func126, Tryz.ntmps126
    go_wp2
    go_ret
    exact Fin.out
  | some ad =>
    have hnews : ∀ W : World, Below w.heap.size w W → ∀ j u, cells[j]? = some u → W.cell? (ad.add j) = some u := by
      intro W hb j u hu
      have hj := (List.getElem?_eq_some_iff.1 hu).1
      have hpos : 0 < n := by
        rcases Nat.eq_zero_or_pos n with h | h
        · subst h; omega
        · exact h
      obtain ⟨b, o, e, _, hcc⟩ := hc hpos
      cases e
      have g := hcc j u hu
      rw [show ((⟨b, o, none⟩ : Addr).add j) = ⟨b, o + j, none⟩ from by unfold Addr.add; split <;> simp_all]
      rw [hb.cell (p := ⟨b, o + j, none⟩) (World.block_lt_of_cell? w _ g)]
      exact g
    have Hnews := Lib.hid hnews
    have Hl := Lib.hid hl
    clear hnews hl hc
    go_enter Tryz.func126, Tryz.ntmps126
    go_wp2_with (at_builtin; refine wpList_append_own_at _ rfl _ _ 22 rfl w.heap.size 105 i0 _ 4 40 Tryz.underlying22 hi0 hz0 hz1 hz2 rfl (by omega) _ 0 [] rfl ?o1 ad n c cells rfl Hl.out ?o2 h1 ?o3 ?o4 ?o5 ?_)
    case o1 => exact World.ownsRow_made _ _ 0 (Nat.le_refl _) (by unfold maxLen; omega) (by simp)
    case o2 => exact Hnews.out _ ((Below.refl _ _).alloc (Nat.le_refl _) _)
    case o3 => unfold maxLen; omega
    case o4 => omega
    case o5 => simp
    intro v' w1 hown hg _ hat
    have hb : Below w.heap.size w w1 := ((Below.refl _ _).alloc (Nat.le_refl _) _).grown hg (by simp) (fun k hk => by simp [Value.ownBlock] at hk; omega)
    have Hown := Lib.hid hown
    have Hb := Lib.hid hb
    clear hown hb hg hat
    go_wp2
    go_ret
    exact ⟨_, rfl, by simpa using Hown.out, Hb.out⟩

theorem Tryz.info_objs : (Tryz.prog.info? 129).map (fun i => (i.zero, i.size, i.bytes)) = some (some (.agg #[.int .i64 0, .int .i64 0, .bool false]), 3, 24) := by kernel_rfl
set_option maxHeartbeats 800000 in
theorem clone_objs (w : World) (F : Nat → Prop) (v : Value) (n : Nat) (cells : List Value) (h1 : ∀ u ∈ cells, u.oneCell' = true) (hn : n ≤ 100000) (h : Reads w F v n 3 cells) :
    Calls Tryz.prog 128 #[v] w fun e w' => ∃ v', e = .returned v' ∧ w'.ownsRow w.heap.size 129 3 v' n cells ∧ Below w.heap.size w w' := by
  obtain ⟨i0, hi0, hz0, hz1, hz2⟩ := info_parts Tryz.info_objs
  obtain ⟨hl, A, c, rfl, hc⟩ := h
  have hq := fun w => Lib.run_eql_slice_nil (P := Tryz.prog) w 23 129 A n c 0 0 Tryz.underlying23
  cases A with
  | none =>
    have h0 : n = 0 := by
      rcases Nat.eq_zero_or_pos n with h | h
      · exact h
      · obtain ⟨_, _, e, _⟩ := hc h; cases e
    subst h0
    have hcl : cells = [] := List.eq_nil_of_length_eq_zero (by simpa using hl)
    subst hcl
    have fin : ∃ v' : Value, Ending.returned (.slice none 0 0) = .returned v' ∧ w.ownsRow w.heap.size 129 3 v' 0 [] ∧ Below w.heap.size w w := ⟨_, rfl, World.ownsRow_nil _ _ _ _, Below.refl _ _⟩
    have Fin := Lib.hid fin
    clear fin hc hl h1 hn
    go_enter Tryz.func128, Tryz.ntmps128
    go_wp2
    go_ret
    exact Fin.out
  | some ad =>
    have hnews : ∀ W : World, Below w.heap.size w W → ∀ j u, cells[j]? = some u → W.cell? (ad.add j) = some u := by
      intro W hb j u hu
      have hj := (List.getElem?_eq_some_iff.1 hu).1
      have hpos : 0 < n := by
        rcases Nat.eq_zero_or_pos n with h | h
        · subst h; omega
        · exact h
      obtain ⟨b, o, e, _, hcc⟩ := hc hpos
      cases e
      have g := hcc j u hu
      rw [show ((⟨b, o, none⟩ : Addr).add j) = ⟨b, o + j, none⟩ from by unfold Addr.add; split <;> simp_all]
      rw [hb.cell (p := ⟨b, o + j, none⟩) (World.block_lt_of_cell? w _ g)]
      exact g
    have Hnews := Lib.hid hnews
    have Hl := Lib.hid hl
    clear hnews hl hc
    go_enter Tryz.func128, Tryz.ntmps128
    go_wp2_with (at_builtin; refine wpList_append_own_at _ rfl _ _ 23 rfl w.heap.size 129 i0 _ 3 24 Tryz.underlying23 hi0 hz0 hz1 hz2 rfl (by omega) _ 0 [] rfl ?o1 ad n c cells rfl Hl.out ?o2 h1 ?o3 ?o4 ?o5 ?_)
    case o1 => exact World.ownsRow_made _ _ 0 (Nat.le_refl _) (by unfold maxLen; omega) (by simp)
    case o2 => exact Hnews.out _ ((Below.refl _ _).alloc (Nat.le_refl _) _)
    case o3 => unfold maxLen; omega
    case o4 => omega
    case o5 => simp
    intro v' w1 hown hg _ hat
    have hb : Below w.heap.size w w1 := ((Below.refl _ _).alloc (Nat.le_refl _) _).grown hg (by simp) (fun k hk => by simp [Value.ownBlock] at hk; omega)
    have Hown := Lib.hid hown
    have Hb := Lib.hid hb
    clear hown hb hg hat
    go_wp2
    go_ret
    exact ⟨_, rfl, by simpa using Hown.out, Hb.out⟩

end Go.Proofs.YtefbdcmodfbpbaaGreat
