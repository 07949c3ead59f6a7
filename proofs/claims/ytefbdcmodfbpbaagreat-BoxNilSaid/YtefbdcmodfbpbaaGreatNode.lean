/-
  thread.Node, thread.Of; word.New, Words; frame.Steps; septumref01.Words, Ints.
-/
import Derived.Test.YtefbdcmodfbpbaaGreatThread
import Derived.Deep.OwnRows
set_option linter.unusedVariables false
set_option linter.unusedSimpArgs false
namespace Go.Proofs.YtefbdcmodfbpbaaGreat
open Go.RowKit Go.Deep

def nodeOf (n : Nat) (t : Int) : Int := if hasB n t then thAt t else -1

set_option maxRecDepth 100000 in
set_option maxHeartbeats 1600000 in
theorem node_any (P : PartD) (pv : Value) (F : Nat → Prop) (hn : P.thr.length ≤ 6) (t : Int) (w : World) (h : PlanVal w F pv P) :
    Calls Tryz.prog 316 #[pv, .int .i64 t] w fun e w' => e = .returned (.int .i64 (nodeOf P.thr.length t)) ∧ Below w.heap.size w w' := by
  obtain ⟨sT, sO, v1, v2, rfl, h1, h2, h3⟩ := h
  unfold nodeOf
  cases hq : hasB P.thr.length t with
  | false =>
    obtain ⟨A, c, e1⟩ := h1.slice
    rw [thAts_length] at e1
    subst e1
    have HH := fun w => has_any P.thr.length t A c sO v1 v2 (planWords P) w
    rw [hq] at HH
    have HH := Lib.hid HH
    have key : Below w.heap.size w (w.alloc (.cells (planArr (.slice A P.thr.length c) sO v1 v2 (planWords P)) 61)) := (Below.refl _ _).alloc (Nat.le_refl _) _
    have Key := Lib.hid key
    clear h1 h2 h3 key hq
    unfold planArr at HH Key ⊢
    go_enter Tryz.func316, Tryz.ntmps316
    go_wp2_with (go_at_call 311; refine (HH.out _).mono ?_; rintro e w1 ⟨rfl, hb1⟩; have Hb1 := Lib.hid hb1; clear hb1)
    go_ret
    exact ⟨by simp, Key.out.trans (Hb1.out.mono (by simp))⟩
  | true =>
    have hg := thAts_get _ _ hq
    have hq2 := hq
    simp only [hasB, Bool.and_eq_true, decide_eq_true_eq] at hq2
    obtain ⟨t0, t1⟩ := hq2
    obtain ⟨b, o, c, e1, hF, hcell⟩ := h1.cell (by rw [thAts_length]; omega)
    rw [thAts_length] at e1
    subst e1
    have hc := hcell _ _ hg
    have HH := fun w => has_any P.thr.length t (some ⟨b, o, none⟩) c sO v1 v2 (planWords P) w
    rw [hq] at HH
    have HH := Lib.hid HH
    have key : Below w.heap.size w (w.alloc (.cells (planArr (.slice (some ⟨b, o, none⟩) P.thr.length c) sO v1 v2 (planWords P)) 61)) := (Below.refl _ _).alloc (Nat.le_refl _) _
    have Key := Lib.hid key
    have lb := World.block_lt_of_cell? w _ hc
    clear key h1 h2 h3 hcell hq hg
    simp only [thAt, if_true] at hc ⊢
    unfold planArr at HH Key ⊢
    go_enter Tryz.func316, Tryz.ntmps316
    go_wp2_with fail
    go_at_call 311
    refine (HH.out _).mono ?_
    rintro e w1 ⟨rfl, hb1⟩
    obtain ⟨p1, p2⟩ := below_cells hb1 (b := w.heap.size) (by simp) (heap_alloc_new w _)
    have hc1 : w1.cell? ⟨b, o + t.toNat, none⟩ = some (.int .i64 (51 + 24 * t)) := by
      rw [hb1.cell (p := ⟨b, o + t.toNat, none⟩) (by simp; omega), World.cell?_alloc_past _ _ _ lb]; exact hc
    have Hb1 := Lib.hid hb1
    clear hb1 hc
    go_wp2
    go_ret
    exact ⟨by simp, Key.out.trans (Hb1.out.mono (by simp))⟩

/-- A new memory. -/
theorem wnew_any (n : Nat) (hn : n ≤ 4000) (w : World) :
    Calls Tryz.prog 134 #[.int .i64 n] w fun e w' => e = .returned (.pointer (some ⟨w.heap.size + 1, 0, none⟩)) ∧ MemAt w' (w.heap.size + 1) w.heap.size (List.replicate n 0) ∧ Below w.heap.size w w' ∧ w'.heap.size = w.heap.size + 2 := by
  have hmk := fun w => run_make_row' (P := Tryz.prog) 26 2 (.int .i64 0) 8 Tryz.underlying26 Tryz.info_int64 rfl .i64 .i64 n (by omega) (by omega) w
  have hml : madeCells #[Value.int .i64 0] n = (encInts (List.replicate n 0)).toArray := by
    apply Array.ext'
    apply List.ext_getElem
    · simp [madeCells, encInts]
    · intro i h1 h2
      simp [madeCells, encInts, Nat.mod_one]
  have fin : MemAt ((w.alloc (.cells (madeCells #[.int .i64 0] n) 2)).alloc (.cells #[.slice (some ⟨w.heap.size, 0, none⟩) n n] 140)) (w.heap.size + 1) w.heap.size (List.replicate n 0) := by
    refine ⟨?_, ?_, by omega, by simpa using hn, ?_⟩
    · rw [two_second]; simp
    · rw [two_first, hml]
    · intro v hv
      rw [List.eq_of_mem_replicate hv]
      exact i64_small (by omega) (by omega)
  have Fin := Lib.hid fin
  clear fin hml
  have h0 : ¬ ((0 : Int) > (n : Int)) := by omega
  have h1 : ¬ ((4000 : Int) < (n : Int)) := by omega
  go_enter Tryz.func134, Tryz.ntmps134
  go_wp2
  go_ret
  exact ⟨by simp, Fin.out, ((Below.refl _ _).alloc (Nat.le_refl _) _).alloc (by simp) _, by simp⟩

/-- All words, in new memory. -/
theorem mwords_any (mb wb : Nat) (m : Mem) (w : World) (h : MemAt w mb wb m) :
    Calls Tryz.prog 27 #[.pointer (some ⟨mb, 0, none⟩)] w fun e w' => ∃ v, e = .returned v ∧ IntsAt w' (fun k => w.heap.size ≤ k) v m ∧ Below w.heap.size w w' := by
  have hr : Reads w (fun _ => True) (.slice (some ⟨wb, 0, none⟩) m.length m.length) m.length 1 (encInts m) :=
    ⟨by simp [encInts], _, _, rfl, fun _ => ⟨wb, 0, rfl, trivial, fun j u hu => by rw [Nat.zero_add, cell_of_block h.ws]; simpa using hu⟩⟩
  have HC := Lib.hid (clone_int64 w _ _ m.length (encInts m) (by
    intro u hu
    simp only [encInts, List.mem_map] at hu
    obtain ⟨x, _, rfl⟩ := hu
    rfl) (by have := h.len; omega) hr)
  have h1 := h.cellS
  clear h hr
  go_enter Tryz.func27, Tryz.ntmps27
  go_wp2_with (go_at_call 65; refine HC.out.mono ?_; rintro e w1 ⟨v, rfl, hown, hb⟩; have Hown := Lib.hid hown; have Hb := Lib.hid hb; clear hown hb)
  go_ret
  exact ⟨_, rfl, ownsRow_reads Hown.out, Hb.out⟩

set_option maxRecDepth 100000 in
set_option maxHeartbeats 1600000 in
theorem words_any (xs ys : List Int) (a b : Value) (Fa Fb : Nat → Prop) (hl : xs.length ≤ 100000) (w : World) (ha : IntsAt w Fa a xs) (hb : IntsAt w Fb b ys) :
    Calls Tryz.prog 44 #[a, b] w fun e w' => e = .returned (.bool (decide (xs = ys))) ∧ ∃ n, w.drewN n = w' := by
  obtain ⟨A1, c1, e1⟩ := ha.slice
  obtain ⟨A2, c2, e2⟩ := hb.slice
  generalize hR : decide (xs = ys) = R at *
  have HR := Lib.hid hR
  have Ha := Lib.hid ha
  have Hb := Lib.hid hb
  clear hR ha hb
  subst e1 e2
  by_cases hle : xs.length = ys.length
  · have hne : (((xs.length : Int)) != ((ys.length : Int))) = false := by simp; omega
    have hne2 : (xs.length != ys.length) = false := by simp; omega
    have hR0 : decide (xs.drop 0 = ys.drop 0) = R := HR.out
    have HR0 := Lib.hid hR0
    have hle1 : xs.length ≤ ys.length := by omega
    have hle2 : ys.length ≤ xs.length := by omega
    clear hR0 hle
    go_enter Tryz.func44, Tryz.ntmps44
    go_wp2
    go_loopw [5, 13] (fun _ i wr => ∃ k n : Nat, k ≤ xs.length ∧ i = .int .i64 k ∧ decide (xs.drop k = ys.drop k) = R ∧ wr = w.drewN n) (fun _ i _ => xs.length - (intOf i).toNat)
    case atStart => exact ⟨0, 0, Nat.zero_le _, rfl, HR0.out, rfl⟩
    case round =>
      obtain ⟨k, n, hk, rfl, hr, rfl⟩ := hrel
      by_cases hlt : k < xs.length
      · have hlt2 : k < ys.length := by omega
        obtain ⟨b1, o1, d1, e1, _, g1⟩ := Ha.out.cell (by omega)
        obtain ⟨b2, o2, d2, e2, _, g2⟩ := Hb.out.cell (by omega)
        cases e1
        cases e2
        have k1 := g1 k xs[k] (List.getElem?_eq_getElem hlt)
        have k2 := g2 k ys[k] (List.getElem?_eq_getElem hlt2)
        rw [List.drop_eq_getElem_cons hlt, List.drop_eq_getElem_cons hlt2] at hr
        have i1 : (k : Int) < (xs.length : Int) := by omega
        have i2 : (k : Int) < (ys.length : Int) := by omega
        have i3 : (0 : Int) ≤ (k : Int) := by omega
        have Hr := Lib.hid hr
        clear hr g1 g2
        generalize xs[k] = x at *
        generalize ys[k] = y at *
        by_cases hxy : x = y
        · subst hxy
          have hb0 : (x != x) = false := by simp
          have hr' : decide (xs.drop (k + 1) = ys.drop (k + 1)) = R := by rw [← Hr.out]; simp
          have Hr' := Lib.hid hr'
          clear hr'
          go_wp2
          go_quiet (fail)
          go_wp2
          go_roundw
          case rel => exact ⟨k + 1, _, by omega, by go_num, Hr'.out, rfl⟩
          case measure => simp [intOf]; omega
        · have hb0 : (x != y) = true := by simpa using hxy
          have hr' : R = false := by rw [← Hr.out]; simp [hxy]
          have Hr' := Lib.hid hr'
          clear hr' hxy
          go_wp2
          go_quiet (fail)
          go_wp2
          go_ret
          exact ⟨by rw [Hr'.out]; rfl, _, (World.drewN_drewN _ _ _).symm⟩
      · have hr' : R = true := by rw [← hr, List.drop_eq_nil_of_le (by omega), List.drop_eq_nil_of_le (by omega)]; rfl
        have Hr' := Lib.hid hr'
        clear hr hr'
        go_wp2
        go_ret
        exact ⟨by rw [Hr'.out]; rfl, _, rfl⟩
  · have hr' : R = false := by
      rw [← HR.out]
      simp only [decide_eq_false_iff_not]
      intro e; exact hle (by rw [e])
    have hne : (((xs.length : Int)) != ((ys.length : Int))) = true := by simp; omega
    have hne2 : (xs.length != ys.length) = true := by simp; omega
    have Hr' := Lib.hid hr'
    clear hr' hle
    go_enter Tryz.func44, Tryz.ntmps44
    go_wp2
    go_ret
    exact ⟨by rw [Hr'.out]; rfl, 0, rfl⟩

set_option maxRecDepth 100000 in
set_option maxHeartbeats 1600000 in
theorem ints_any (xs ys : List Int) (a b : Value) (Fa Fb : Nat → Prop) (hl : xs.length ≤ 100000) (w : World) (ha : IntsAt w Fa a xs) (hb : IntsAt w Fb b ys) :
    Calls Tryz.prog 55 #[a, b] w fun e w' => e = .returned (.bool (decide (xs = ys))) ∧ ∃ n, w.drewN n = w' := by
  obtain ⟨A1, c1, e1⟩ := ha.slice
  obtain ⟨A2, c2, e2⟩ := hb.slice
  generalize hR : decide (xs = ys) = R at *
  have HR := Lib.hid hR
  have Ha := Lib.hid ha
  have Hb := Lib.hid hb
  clear hR ha hb
  subst e1 e2
  by_cases hle : xs.length = ys.length
  · have hne : (((xs.length : Int)) != ((ys.length : Int))) = false := by simp; omega
    have hne2 : (xs.length != ys.length) = false := by simp; omega
    have hR0 : decide (xs.drop 0 = ys.drop 0) = R := HR.out
    have HR0 := Lib.hid hR0
    have hle1 : xs.length ≤ ys.length := by omega
    have hle2 : ys.length ≤ xs.length := by omega
    clear hR0 hle
    go_enter Tryz.func55, Tryz.ntmps55
    go_wp2
    go_loopw [5, 13] (fun _ i wr => ∃ k n : Nat, k ≤ xs.length ∧ i = .int .i64 k ∧ decide (xs.drop k = ys.drop k) = R ∧ wr = w.drewN n) (fun _ i _ => xs.length - (intOf i).toNat)
    case atStart => exact ⟨0, 0, Nat.zero_le _, rfl, HR0.out, rfl⟩
    case round =>
      obtain ⟨k, n, hk, rfl, hr, rfl⟩ := hrel
      by_cases hlt : k < xs.length
      · have hlt2 : k < ys.length := by omega
        obtain ⟨b1, o1, d1, e1, _, g1⟩ := Ha.out.cell (by omega)
        obtain ⟨b2, o2, d2, e2, _, g2⟩ := Hb.out.cell (by omega)
        cases e1
        cases e2
        have k1 := g1 k xs[k] (List.getElem?_eq_getElem hlt)
        have k2 := g2 k ys[k] (List.getElem?_eq_getElem hlt2)
        rw [List.drop_eq_getElem_cons hlt, List.drop_eq_getElem_cons hlt2] at hr
        have i1 : (k : Int) < (xs.length : Int) := by omega
        have i2 : (k : Int) < (ys.length : Int) := by omega
        have i3 : (0 : Int) ≤ (k : Int) := by omega
        have Hr := Lib.hid hr
        clear hr g1 g2
        generalize xs[k] = x at *
        generalize ys[k] = y at *
        by_cases hxy : x = y
        · subst hxy
          have hb0 : (x != x) = false := by simp
          have hr' : decide (xs.drop (k + 1) = ys.drop (k + 1)) = R := by rw [← Hr.out]; simp
          have Hr' := Lib.hid hr'
          clear hr'
          go_wp2
          go_quiet (fail)
          go_wp2
          go_roundw
          case rel => exact ⟨k + 1, _, by omega, by go_num, Hr'.out, rfl⟩
          case measure => simp [intOf]; omega
        · have hb0 : (x != y) = true := by simpa using hxy
          have hr' : R = false := by rw [← Hr.out]; simp [hxy]
          have Hr' := Lib.hid hr'
          clear hr' hxy
          go_wp2
          go_quiet (fail)
          go_wp2
          go_ret
          exact ⟨by rw [Hr'.out]; rfl, _, (World.drewN_drewN _ _ _).symm⟩
      · have hr' : R = true := by rw [← hr, List.drop_eq_nil_of_le (by omega), List.drop_eq_nil_of_le (by omega)]; rfl
        have Hr' := Lib.hid hr'
        clear hr hr'
        go_wp2
        go_ret
        exact ⟨by rw [Hr'.out]; rfl, _, rfl⟩
  · have hr' : R = false := by
      rw [← HR.out]
      simp only [decide_eq_false_iff_not]
      intro e; exact hle (by rw [e])
    have hne : (((xs.length : Int)) != ((ys.length : Int))) = true := by simp; omega
    have hne2 : (xs.length != ys.length) = true := by simp; omega
    have Hr' := Lib.hid hr'
    clear hr' hle
    go_enter Tryz.func55, Tryz.ntmps55
    go_wp2
    go_ret
    exact ⟨by rw [Hr'.out]; rfl, 0, rfl⟩

end Go.Proofs.YtefbdcmodfbpbaaGreat
