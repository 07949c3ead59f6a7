/-
  report.Call, and the law's own text of a call.
-/
import Derived.Test.YtpmafppcccbmaaaDoorSpaced
set_option linter.unusedVariables false
set_option linter.unusedSimpArgs false
namespace Go.Proofs.YtpmafppcccbmaaaDoor
open Go.RowKit

structure CallOk (c : CallD) : Prop where
  kind : I64 c.kind
  handle : I64 c.handle
  a : I64 c.a
  b : I64 c.b
  timeout : I64 c.timeout
  words : ∀ x ∈ c.words, I64 x
def callV (c : CallD) (v : Value) : Value := .agg #[.int .i64 c.kind, .int .i64 c.handle, .int .i64 c.a, .int .i64 c.b, v, .int .i64 c.timeout]
def kindL (k : Int) : List UInt8 := if nameL k = [] then [63] else nameL k
def callL (c : CallD) : List UInt8 := kindL c.kind ++ (spacedL [c.handle, c.a, c.b, c.timeout] ++ spacedL c.words)

theorem kindL_len (k : Int) : (kindL k).length ≤ 8 := by
  have h : (nameL k).length ≤ 8 := by
    unfold nameL
    by_cases hk : 0 ≤ k ∧ k < 24
    · rw [if_pos hk]
      have : ∀ j, j < 24 → (kindNames.getD j []).length ≤ 8 := by decide
      exact this k.toNat (by omega)
    · rw [if_neg hk]; simp
  unfold kindL
  by_cases hn : nameL k = []
  · rw [if_pos hn]; simp
  · rw [if_neg hn]; exact h
theorem number_i64 (n : Int) (h : I64 n) (w : World) : Calls Tryd.prog 26 #[.int .i64 n] w fun e w' => e = .returned (.string (sb (Lib.itoa n))) ∧ Below w.heap.size w w' := number_any n h.1 h.2 w

set_option maxRecDepth 100000 in
set_option maxHeartbeats 3200000 in
theorem callsLaw_any (c : CallD) (hc : CallOk c) (F : Nat → Prop) (v : Value) (hlen : c.words.length ≤ 1000000) (w : World) (h : IntsAt w F v c.words) :
    Calls Tryd.prog 13 #[callV c v] w fun e w' => e = .returned (.string (sb (callL c))) ∧ Below w.heap.size w w' := by
  obtain ⟨A, n, rfl⟩ := h.slice
  have hN := fun W => refName_any c.kind W
  have h1 := hc.handle
  have h2 := hc.a
  have h3 := hc.b
  have h4 := hc.timeout
  unfold callV
  have hE := Lib.hid hc
  clear hc
  go_enter Tryd.func13, Tryd.ntmps13
  go_wp2_with (go_at_call 29; refine (hN _).mono ?_; rintro e w1 ⟨rfl, hb1⟩; refine Hid.out ?_)
  have c1 := keep_cell hb1 (b := w.heap.size) (j := 1) (by simp; rfl)
  have c2 := keep_cell hb1 (b := w.heap.size) (j := 2) (by simp; rfl)
  have c3 := keep_cell hb1 (b := w.heap.size) (j := 3) (by simp; rfl)
  have c4 := keep_cell hb1 (b := w.heap.size) (j := 4) (by simp; rfl)
  have c5 := keep_cell hb1 (b := w.heap.size) (j := 5) (by simp; rfl)
  have hbw : Below w.heap.size w w1 := ((Below.refl _ _).alloc (Nat.le_refl _) _).trans (hb1.mono (by simp))
  have HB := hbw
  have HK := Lib.hid h
  clear hb1 h hN
  refine Lib.hid ?_
  have hkl : kindL c.kind = if nameL c.kind = [] then [63] else nameL c.kind := rfl
  by_cases hk : nameL c.kind = []
  · have e0 : (sb ([] : List UInt8)).toList.isEmpty = true := sb_isEmpty []
    have k63 : ByteArray.mk #[63] = sb (kindL c.kind) := by rw [hkl, if_pos hk]; rfl
    have K63 := Lib.hid k63
    clear hkl k63
    have l0 : (kindL c.kind).length ≤ 8 := kindL_len _
    have l1 := itoa_len h1
    have l2 := itoa_len h2
    have l3 := itoa_len h3
    have l4 := itoa_len h4
    have hb1 : ([32] : List UInt8).length ≤ 1 := by simp
    obtain ⟨z1, E1, b1, s1, e1⟩ := catK (kindL c.kind) [32] (ByteArray.mk #[32]) 1 rfl rfl (by omega)
    obtain ⟨z2, E2, b2, s2, e2⟩ := cat z1 (Lib.itoa c.handle) (by omega)
    obtain ⟨z3, E3, b3, s3, e3⟩ := catK z2 [32] (ByteArray.mk #[32]) 1 rfl rfl (by omega)
    obtain ⟨z4, E4, b4, s4, e4⟩ := cat z3 (Lib.itoa c.a) (by omega)
    obtain ⟨z5, E5, b5, s5, e5⟩ := catK z4 [32] (ByteArray.mk #[32]) 1 rfl rfl (by omega)
    obtain ⟨z6, E6, b6, s6, e6⟩ := cat z5 (Lib.itoa c.b) (by omega)
    obtain ⟨z7, E7, b7, s7, e7⟩ := catK z6 [32] (ByteArray.mk #[32]) 1 rfl rfl (by omega)
    obtain ⟨z8, E8, b8, s8, e8⟩ := cat z7 (Lib.itoa c.timeout) (by omega)
    have EZ : Hid (z8 = kindL c.kind ++ spacedL [c.handle, c.a, c.b, c.timeout]) := by
      rw [E8.out, E7.out, E6.out, E5.out, E4.out, E3.out, E2.out, E1.out]
      exact Lib.hid (by simp [spacedL])
    clear E1 E2 E3 E4 E5 E6 E7 E8 l0 l1 l2 l3 l4 hb1 b1 b2 b3 b4 b5 b6 b7 b8
    go_upto_region 4 with (fail)
    rw [K63.out]
    go_cut [3] (fun s wx => s = .string (sb z8) ∧ Hid (Below w.heap.size w wx) ∧ wx.cell? ⟨w.heap.size, 4, none⟩ = some (.slice A c.words.length n))
    case first =>
      go_region_held3 (fun w' => Below w.heap.size w w' ∧ w'.cell? ⟨w.heap.size, 1, none⟩ = some (.int .i64 c.handle) ∧ w'.cell? ⟨w.heap.size, 2, none⟩ = some (.int .i64 c.a) ∧ w'.cell? ⟨w.heap.size, 3, none⟩ = some (.int .i64 c.b) ∧ w'.cell? ⟨w.heap.size, 5, none⟩ = some (.int .i64 c.timeout) ∧ w'.cell? ⟨w.heap.size, 4, none⟩ = some (.slice A c.words.length n))
        (((try dsimp only); (try go_split_ands); (with_reducible repeat' apply And.intro); all_goals (first | assumption | exact Below.drew (by assumption) | exact keep_cell (by assumption) (by assumption) | exact keep_below (by assumption) (Nat.le_refl _) (by assumption) | go_keep)))
        (first | (go_at_call 26; refine (number_i64 _ (by assumption) _).mono ?_; rintro e w' ⟨rfl, hb⟩))
      rename_i hH
      obtain ⟨q1, q2, q3, q4, q5, q6⟩ := hH
      go_wp2_with fail
      go_meet
      exact ⟨rfl, Lib.hid q1, q6⟩
    case rest =>
      obtain ⟨rfl, hw4, c4'⟩ := hcut
      clear s1 s2 s3 s4 s5 s6 s7 s8 e1 e2 e3 e4 e5 e6 e7 e8 c1 c2 c3 c4 c5 e0 K63 HB hbw
      have hz8 : z8.length ≤ 100 := by
        have := spacedL_len [c.handle, c.a, c.b, c.timeout] (by simp [h1, h2, h3, h4])
        rw [EZ.out, List.length_append]
        have := kindL_len c.kind
        simp only [List.length_cons, List.length_nil] at *
        omega
      go_wp2
      go_loopw [3, 4, 34] (fun s _ i wr => ∃ (k : Nat) (z : List UInt8), k ≤ c.words.length ∧ i = .int .i64 k ∧ s = .string (sb z) ∧ Hid (z = z8 ++ spacedL (c.words.take k)) ∧ Hid (Below w.heap.size w wr) ∧ wr.cell? ⟨w.heap.size, 4, none⟩ = some (.slice A c.words.length n)) (fun _ _ i _ => c.words.length - (intOf i).toNat)
      case atStart => exact ⟨0, z8, Nat.zero_le _, rfl, rfl, Lib.hid (by simp [spacedL]), hw4, c4'⟩
      case round =>
        obtain ⟨k, z, hk, rfl, rfl, EZk, hw, cw⟩ := hrel
        have hsz := hw.out.size
        have hzk : z.length ≤ 100 + 22 * c.words.length := by
          have := spacedL_len (c.words.take k) (fun y hy => hE.out.words y (List.mem_of_mem_take hy))
          rw [List.length_take] at this
          rw [EZk.out, List.length_append]
          omega
        by_cases hlt : k < c.words.length
        · obtain ⟨b, o, c', e, hF, hcells⟩ := HK.out.cells (by omega)
          cases e
          have d := hcells k c.words[k] (List.getElem?_eq_getElem hlt)
          have lb := World.block_lt_of_cell? w _ d
          rw [← hw.out.cell (p := ⟨b, o + k, none⟩) lb] at d
          have hxk := hE.out.words c.words[k] (List.getElem_mem hlt)
          have HS := Lib.hid (spacedL_snoc c.words k hlt)
          have hil := itoa_len hxk
          have hlc : (k : Int) < (c.words.length : Int) := by omega
          clear hcells
          generalize c.words[k] = x at *
          obtain ⟨y1, E1, b1, s1, e1⟩ := catK z [32] (ByteArray.mk #[32]) 1 rfl rfl (by omega)
          obtain ⟨y2, E2, b2, s2, e2⟩ := cat y1 (Lib.itoa x) (by omega)
          have EY : Hid (y2 = z8 ++ spacedL (c.words.take (k + 1))) := by
            rw [E2.out, E1.out, EZk.out, HS.out]
            exact Lib.hid (by simp)
          clear E1 E2 HS EZk
          go_wp2_with (go_at_call 26; refine (number_i64 _ hxk _).mono ?_; rintro e w2 ⟨rfl, hb2⟩; refine Hid.out ?_)
          have cw2 := keep_cell hb2 cw
          have hw2 := Lib.hid (keep_below hw.out (Nat.le_refl _) hb2)
          clear hb2 cw
          refine Lib.hid ?_
          go_wp2
          go_roundw
          case rel => exact ⟨k + 1, y2, by omega, by go_num, rfl, EY, hw2, cw2⟩
          case measure => simp [intOf]; omega
        · have e : c.words.take k = c.words := List.take_of_length_le (by omega)
          rw [e] at EZk
          clear e
          go_wp2
          go_ret
          refine ⟨ret_str ?_, hw.out⟩
          rw [EZk.out, EZ.out]
          simp [callL]
  · have e0 : (sb (nameL c.kind)).toList.isEmpty = false := by rw [sb_isEmpty]; simpa using hk
    have k63 : sb (nameL c.kind) = sb (kindL c.kind) := by rw [hkl, if_neg hk]
    have K63 := Lib.hid k63
    clear hkl k63 hk
    have l0 : (kindL c.kind).length ≤ 8 := kindL_len _
    have l1 := itoa_len h1
    have l2 := itoa_len h2
    have l3 := itoa_len h3
    have l4 := itoa_len h4
    have hb1 : ([32] : List UInt8).length ≤ 1 := by simp
    obtain ⟨z1, E1, b1, s1, e1⟩ := catK (kindL c.kind) [32] (ByteArray.mk #[32]) 1 rfl rfl (by omega)
    obtain ⟨z2, E2, b2, s2, e2⟩ := cat z1 (Lib.itoa c.handle) (by omega)
    obtain ⟨z3, E3, b3, s3, e3⟩ := catK z2 [32] (ByteArray.mk #[32]) 1 rfl rfl (by omega)
    obtain ⟨z4, E4, b4, s4, e4⟩ := cat z3 (Lib.itoa c.a) (by omega)
    obtain ⟨z5, E5, b5, s5, e5⟩ := catK z4 [32] (ByteArray.mk #[32]) 1 rfl rfl (by omega)
    obtain ⟨z6, E6, b6, s6, e6⟩ := cat z5 (Lib.itoa c.b) (by omega)
    obtain ⟨z7, E7, b7, s7, e7⟩ := catK z6 [32] (ByteArray.mk #[32]) 1 rfl rfl (by omega)
    obtain ⟨z8, E8, b8, s8, e8⟩ := cat z7 (Lib.itoa c.timeout) (by omega)
    have EZ : Hid (z8 = kindL c.kind ++ spacedL [c.handle, c.a, c.b, c.timeout]) := by
      rw [E8.out, E7.out, E6.out, E5.out, E4.out, E3.out, E2.out, E1.out]
      exact Lib.hid (by simp [spacedL])
    clear E1 E2 E3 E4 E5 E6 E7 E8 l0 l1 l2 l3 l4 hb1 b1 b2 b3 b4 b5 b6 b7 b8
    go_upto_region 4 with (fail)
    rw [K63.out]
    go_cut [3] (fun s wx => s = .string (sb z8) ∧ Hid (Below w.heap.size w wx) ∧ wx.cell? ⟨w.heap.size, 4, none⟩ = some (.slice A c.words.length n))
    case first =>
      go_region_held3 (fun w' => Below w.heap.size w w' ∧ w'.cell? ⟨w.heap.size, 1, none⟩ = some (.int .i64 c.handle) ∧ w'.cell? ⟨w.heap.size, 2, none⟩ = some (.int .i64 c.a) ∧ w'.cell? ⟨w.heap.size, 3, none⟩ = some (.int .i64 c.b) ∧ w'.cell? ⟨w.heap.size, 5, none⟩ = some (.int .i64 c.timeout) ∧ w'.cell? ⟨w.heap.size, 4, none⟩ = some (.slice A c.words.length n))
        (((try dsimp only); (try go_split_ands); (with_reducible repeat' apply And.intro); all_goals (first | assumption | exact Below.drew (by assumption) | exact keep_cell (by assumption) (by assumption) | exact keep_below (by assumption) (Nat.le_refl _) (by assumption) | go_keep)))
        (first | (go_at_call 26; refine (number_i64 _ (by assumption) _).mono ?_; rintro e w' ⟨rfl, hb⟩))
      rename_i hH
      obtain ⟨q1, q2, q3, q4, q5, q6⟩ := hH
      go_wp2_with fail
      go_meet
      exact ⟨rfl, Lib.hid q1, q6⟩
    case rest =>
      obtain ⟨rfl, hw4, c4'⟩ := hcut
      clear s1 s2 s3 s4 s5 s6 s7 s8 e1 e2 e3 e4 e5 e6 e7 e8 c1 c2 c3 c4 c5 e0 K63 HB hbw
      have hz8 : z8.length ≤ 100 := by
        have := spacedL_len [c.handle, c.a, c.b, c.timeout] (by simp [h1, h2, h3, h4])
        rw [EZ.out, List.length_append]
        have := kindL_len c.kind
        simp only [List.length_cons, List.length_nil] at *
        omega
      go_wp2
      go_loopw [3, 4, 34] (fun s _ i wr => ∃ (k : Nat) (z : List UInt8), k ≤ c.words.length ∧ i = .int .i64 k ∧ s = .string (sb z) ∧ Hid (z = z8 ++ spacedL (c.words.take k)) ∧ Hid (Below w.heap.size w wr) ∧ wr.cell? ⟨w.heap.size, 4, none⟩ = some (.slice A c.words.length n)) (fun _ _ i _ => c.words.length - (intOf i).toNat)
      case atStart => exact ⟨0, z8, Nat.zero_le _, rfl, rfl, Lib.hid (by simp [spacedL]), hw4, c4'⟩
      case round =>
        obtain ⟨k, z, hk, rfl, rfl, EZk, hw, cw⟩ := hrel
        have hsz := hw.out.size
        have hzk : z.length ≤ 100 + 22 * c.words.length := by
          have := spacedL_len (c.words.take k) (fun y hy => hE.out.words y (List.mem_of_mem_take hy))
          rw [List.length_take] at this
          rw [EZk.out, List.length_append]
          omega
        by_cases hlt : k < c.words.length
        · obtain ⟨b, o, c', e, hF, hcells⟩ := HK.out.cells (by omega)
          cases e
          have d := hcells k c.words[k] (List.getElem?_eq_getElem hlt)
          have lb := World.block_lt_of_cell? w _ d
          rw [← hw.out.cell (p := ⟨b, o + k, none⟩) lb] at d
          have hxk := hE.out.words c.words[k] (List.getElem_mem hlt)
          have HS := Lib.hid (spacedL_snoc c.words k hlt)
          have hil := itoa_len hxk
          have hlc : (k : Int) < (c.words.length : Int) := by omega
          clear hcells
          generalize c.words[k] = x at *
          obtain ⟨y1, E1, b1, s1, e1⟩ := catK z [32] (ByteArray.mk #[32]) 1 rfl rfl (by omega)
          obtain ⟨y2, E2, b2, s2, e2⟩ := cat y1 (Lib.itoa x) (by omega)
          have EY : Hid (y2 = z8 ++ spacedL (c.words.take (k + 1))) := by
            rw [E2.out, E1.out, EZk.out, HS.out]
            exact Lib.hid (by simp)
          clear E1 E2 HS EZk
          go_wp2_with (go_at_call 26; refine (number_i64 _ hxk _).mono ?_; rintro e w2 ⟨rfl, hb2⟩; refine Hid.out ?_)
          have cw2 := keep_cell hb2 cw
          have hw2 := Lib.hid (keep_below hw.out (Nat.le_refl _) hb2)
          clear hb2 cw
          refine Lib.hid ?_
          go_wp2
          go_roundw
          case rel => exact ⟨k + 1, y2, by omega, by go_num, rfl, EY, hw2, cw2⟩
          case measure => simp [intOf]; omega
        · have e : c.words.take k = c.words := List.take_of_length_le (by omega)
          rw [e] at EZk
          clear e
          go_wp2
          go_ret
          refine ⟨ret_str ?_, hw.out⟩
          rw [EZk.out, EZ.out]
          simp [callL]

theorem ints_built (W : World) (g : Nat) (a b c d : Int) (h : W.heap[g]? = some (.cells #[.int .i64 a, .int .i64 b, .int .i64 c, .int .i64 d] 2 (0, 0))) : IntsAt W (fun _ => True) (.slice (some ⟨g, 0, none⟩) 4 4) [a, b, c, d] := by
  refine ⟨by simp [encInts], _, _, rfl, fun _ => ⟨_, _, rfl, trivial, fun j u hu => ?_⟩⟩
  rw [Nat.zero_add]
  simp only [encInts, List.map_cons, List.map_nil] at hu
  rw [cell_of_row _ _ _ _ _ _ h]
  simpa using hu
theorem ints_one (W : World) (g : Nat) (a : Int) (h : W.heap[g]? = some (.cells #[.int .i64 a] 2 (0, 0))) : IntsAt W (fun _ => True) (.slice (some ⟨g, 0, none⟩) 1 1) [a] := by
  refine ⟨by simp [encInts], _, _, rfl, fun _ => ⟨_, _, rfl, trivial, fun j u hu => ?_⟩⟩
  rw [Nat.zero_add]
  simp only [encInts, List.map_cons, List.map_nil] at hu
  rw [cell_of_row _ _ _ _ _ _ h]
  simpa using hu
theorem name_below (k : Int) (w : World) (hT : Tabs w) :
    Calls Tryd.prog 27 #[.int .i64 k] w fun e w' => e = .returned (.string (sb (nameL k))) ∧ Below w.heap.size w w' :=
  (name_any k w hT).mono fun e w' ⟨he, hw⟩ => ⟨he, hw ▸ Below.refl _ _⟩

set_option maxRecDepth 100000 in
set_option maxHeartbeats 3200000 in
theorem callGo_any (c : CallD) (hc : CallOk c) (F : Nat → Prop) (v : Value) (hlen : c.words.length ≤ 1000000) (w : World) (hT : Tabs w) (h : IntsAt w F v c.words) :
    Calls Tryd.prog 12 #[callV c v] w fun e w' => e = .returned (.string (sb (callL c))) ∧ Below w.heap.size w w' := by
  obtain ⟨A, n, rfl⟩ := h.slice
  have hbw : Below w.heap.size w (w.alloc (.cells #[.int .i64 c.kind, .int .i64 c.handle, .int .i64 c.a, .int .i64 c.b, .slice A c.words.length n, .int .i64 c.timeout] 24)) := (Below.refl _ _).alloc (Nat.le_refl _) _
  have HN := Lib.hid (name_below c.kind _ (hT.on hbw))
  have hx4 : ∀ x ∈ [c.handle, c.a, c.b, c.timeout], I64 x := by simp [hc.handle, hc.a, hc.b, hc.timeout]
  have H4 := Lib.hid (fun (W : World) (hb : Below w.heap.size w W) (v4 : Value) (hi : IntsAt W (fun _ => True) v4 [c.handle, c.a, c.b, c.timeout]) => spaced_any _ hx4 _ v4 (by simp) W (hT.on hb) hi)
  have HW := Lib.hid (fun (W : World) (hb : Below w.heap.size w W) => spaced_any c.words hc.words F _ hlen W (hT.on hb) (IntsAt.kept (fun k hk _ => hb.block k hk) h))
  have l4 := spacedL_len _ hx4
  have lw := spacedL_len c.words hc.words
  have lk := kindL_len c.kind
  have hkl : kindL c.kind = if nameL c.kind = [] then [63] else nameL c.kind := rfl
  simp only [List.length_cons, List.length_nil] at l4
  have EC : Hid (callL c = kindL c.kind ++ (spacedL [c.handle, c.a, c.b, c.timeout] ++ spacedL c.words)) := Lib.hid rfl
  generalize spacedL [c.handle, c.a, c.b, c.timeout] = y4 at *
  generalize spacedL c.words = yw at *
  generalize kindL c.kind = x0 at *
  obtain ⟨z1, E1, b1, s1, e1⟩ := cat x0 y4 (by omega)
  obtain ⟨z2, E2, b2, s2, e2⟩ := cat z1 yw (by omega)
  have EZ : Hid (z2 = callL c) := by rw [E2.out, E1.out, EC.out]; exact Lib.hid (by simp)
  clear E1 E2 EC b1 b2 l4 lw lk hx4 hT h hc
  unfold callV
  have HB := Lib.hid hbw
  clear hbw
  by_cases hk : nameL c.kind = []
  · have e0 : (sb ([] : List UInt8)).toList.isEmpty = true := sb_isEmpty []
    have k63 : ByteArray.mk #[63] = sb x0 := by rw [hkl, if_pos hk]; rfl
    have K63 := Lib.hid k63
    clear hkl k63
    go_enter Tryd.func12, Tryd.ntmps12
    go_wp2_with (go_at_call 27; refine HN.out.mono ?_; rintro e w1 ⟨rfl, hb1⟩; refine Hid.out ?_)
    have c1 := keep_cell hb1 (b := w.heap.size) (j := 1) (by simp; rfl)
    have c2 := keep_cell hb1 (b := w.heap.size) (j := 2) (by simp; rfl)
    have c3 := keep_cell hb1 (b := w.heap.size) (j := 3) (by simp; rfl)
    have c4 := keep_cell hb1 (b := w.heap.size) (j := 4) (by simp; rfl)
    have c5 := keep_cell hb1 (b := w.heap.size) (j := 5) (by simp; rfl)
    have hbw := keep_below HB.out (Nat.le_refl _) hb1
    clear hb1 HN HB
    refine Lib.hid ?_
    go_upto_region 4 with (fail)
    rw [K63.out]
    go_region_held3 (fun w' => Below w.heap.size w w' ∧ w'.cell? ⟨w.heap.size, 1, none⟩ = some (.int .i64 c.handle) ∧ w'.cell? ⟨w.heap.size, 2, none⟩ = some (.int .i64 c.a) ∧ w'.cell? ⟨w.heap.size, 3, none⟩ = some (.int .i64 c.b) ∧ w'.cell? ⟨w.heap.size, 5, none⟩ = some (.int .i64 c.timeout) ∧ w'.cell? ⟨w.heap.size, 4, none⟩ = some (.slice A c.words.length n))
      (((try dsimp only); (try go_split_ands); (with_reducible repeat' apply And.intro); all_goals (first | assumption | exact Below.drew (by assumption) | exact keep_cell (by assumption) (by assumption) | exact keep_below (by assumption) (Nat.le_refl _) (by assumption) | exact keep_alloc (by assumption) (Nat.le_refl _) _ | go_keep)))
      (first
        | (go_at_call 28; (with_reducible refine (HW.out _ ?_).mono ?_); (first | assumption | exact (‹Below _ _ _ ∧ _›).1 | exact keep_alloc (by assumption) (Nat.le_refl _) _); rintro e w' ⟨rfl, hb⟩)
        | (go_at_call 28; (with_reducible refine (H4.out _ ?_ _ (ints_built _ _ _ _ _ _ ?_)).mono ?_); (first | assumption | exact (keep_alloc (by assumption) (Nat.le_refl _) _).drew | exact keep_alloc (by assumption) (Nat.le_refl _) _); (exact heap_alloc_new _ _); rintro e w' ⟨rfl, hb⟩))
    all_goals
      rename_i hH
      obtain ⟨q1, q2, q3, q4, q5, q6⟩ := hH
      go_wp2
      go_ret
      exact ⟨ret_str (by rw [EZ.out]), q1⟩
  · have e0 : (sb (nameL c.kind)).toList.isEmpty = false := by rw [sb_isEmpty]; simpa using hk
    have k63 : sb (nameL c.kind) = sb x0 := by rw [hkl, if_neg hk]
    have K63 := Lib.hid k63
    clear hkl k63 hk
    go_enter Tryd.func12, Tryd.ntmps12
    go_wp2_with (go_at_call 27; refine HN.out.mono ?_; rintro e w1 ⟨rfl, hb1⟩; refine Hid.out ?_)
    have c1 := keep_cell hb1 (b := w.heap.size) (j := 1) (by simp; rfl)
    have c2 := keep_cell hb1 (b := w.heap.size) (j := 2) (by simp; rfl)
    have c3 := keep_cell hb1 (b := w.heap.size) (j := 3) (by simp; rfl)
    have c4 := keep_cell hb1 (b := w.heap.size) (j := 4) (by simp; rfl)
    have c5 := keep_cell hb1 (b := w.heap.size) (j := 5) (by simp; rfl)
    have hbw := keep_below HB.out (Nat.le_refl _) hb1
    clear hb1 HN HB
    refine Lib.hid ?_
    go_upto_region 4 with (fail)
    rw [K63.out]
    go_region_held3 (fun w' => Below w.heap.size w w' ∧ w'.cell? ⟨w.heap.size, 1, none⟩ = some (.int .i64 c.handle) ∧ w'.cell? ⟨w.heap.size, 2, none⟩ = some (.int .i64 c.a) ∧ w'.cell? ⟨w.heap.size, 3, none⟩ = some (.int .i64 c.b) ∧ w'.cell? ⟨w.heap.size, 5, none⟩ = some (.int .i64 c.timeout) ∧ w'.cell? ⟨w.heap.size, 4, none⟩ = some (.slice A c.words.length n))
      (((try dsimp only); (try go_split_ands); (with_reducible repeat' apply And.intro); all_goals (first | assumption | exact Below.drew (by assumption) | exact keep_cell (by assumption) (by assumption) | exact keep_below (by assumption) (Nat.le_refl _) (by assumption) | exact keep_alloc (by assumption) (Nat.le_refl _) _ | go_keep)))
      (first
        | (go_at_call 28; (with_reducible refine (HW.out _ ?_).mono ?_); (first | assumption | exact (‹Below _ _ _ ∧ _›).1 | exact keep_alloc (by assumption) (Nat.le_refl _) _); rintro e w' ⟨rfl, hb⟩)
        | (go_at_call 28; (with_reducible refine (H4.out _ ?_ _ (ints_built _ _ _ _ _ _ ?_)).mono ?_); (first | assumption | exact (keep_alloc (by assumption) (Nat.le_refl _) _).drew | exact keep_alloc (by assumption) (Nat.le_refl _) _); (exact heap_alloc_new _ _); rintro e w' ⟨rfl, hb⟩))
    all_goals
      rename_i hH
      obtain ⟨q1, q2, q3, q4, q5, q6⟩ := hH
      go_wp2
      go_ret
      exact ⟨ret_str (by rw [EZ.out]), q1⟩
end Go.Proofs.YtpmafppcccbmaaaDoor
