/-
  septumref31.CallText.
-/
import Derived.Test.YtpmafppcccbmaaaDoorNum31
set_option linter.unusedVariables false
set_option linter.unusedSimpArgs false
namespace Go.Proofs.YtpmafppcccbmaaaDoor
open Go.RowKit

set_option maxRecDepth 100000 in
set_option maxHeartbeats 3200000 in
theorem callText_any (c : CallD) (hc : CallOk c) (F : Nat → Prop) (v : Value) (hlen : c.words.length ≤ 1000000) (w : World) (h : IntsAt w F v c.words) (hk : nameL c.kind ≠ []) :
    Calls Tryd.prog 44 #[callV c v] w fun e w' => e = .returned (.string (sb (callL c))) ∧ Below w.heap.size w w' := by
  obtain ⟨A, n, rfl⟩ := h.slice
  have h1 := hc.handle
  have h2 := hc.a
  have h3 := hc.b
  have h4 := hc.timeout
  have hE := Lib.hid hc
  have HK := Lib.hid h
  have hkl : kindL c.kind = if nameL c.kind = [] then [63] else nameL c.kind := rfl
  rw [if_neg hk] at hkl
  have hN := fun W => refName_any c.kind W
  rw [← hkl] at hN
  have HN := Lib.hid hN
  unfold callV
  clear hc h hk hkl hN
  have l0 : (kindL c.kind).length ≤ 8 := kindL_len _
  have l1 := itoa_len h1
  have l2 := itoa_len h2
  have l3 := itoa_len h3
  have l4 := itoa_len h4
  have hb1 : ([32] : List UInt8).length ≤ 1 := by simp
  obtain ⟨z1, E1, b1, s1, e1⟩ := catK (kindL c.kind) [32] (ByteArray.mk #[32]) 1 rfl rfl (by omega)
  obtain ⟨z2, E2, b2, s2, e2⟩ := cat z1 (Lib.itoa c.handle) (by omega)
  obtain ⟨z3, E3, b3, s3, e3⟩ := catK z2 [32] (ByteArray.mk #[32]) 1 rfl rfl (by omega)
  obtain ⟨z4, E4, b4, s4, e4⟩ := cat z3 (Lib.itoa c.a) (by omega)
  obtain ⟨z5, E5, b5, s5, e5⟩ := catK z4 [32] (ByteArray.mk #[32]) 1 rfl rfl (by omega)
  obtain ⟨z6, E6, b6, s6, e6⟩ := cat z5 (Lib.itoa c.b) (by omega)
  obtain ⟨z7, E7, b7, s7, e7⟩ := catK z6 [32] (ByteArray.mk #[32]) 1 rfl rfl (by omega)
  obtain ⟨z8, E8, b8, s8, e8⟩ := cat z7 (Lib.itoa c.timeout) (by omega)
  have EZ : Hid (z8 = kindL c.kind ++ spacedL [c.handle, c.a, c.b, c.timeout]) := by
    rw [E8.out, E7.out, E6.out, E5.out, E4.out, E3.out, E2.out, E1.out]
    exact Lib.hid (by simp [spacedL])
  clear E1 E2 E3 E4 E5 E6 E7 E8 l0 l1 l2 l3 l4 hb1 b1 b2 b3 b4 b5 b6 b7 b8
  go_enter Tryd.func44, Tryd.ntmps44
  go_upto_region 1 with (fail)
  go_cut [3] (fun s wx => s = .string (sb z8) ∧ Hid (Below w.heap.size w wx) ∧ wx.cell? ⟨w.heap.size, 4, none⟩ = some (.slice A c.words.length n))
  case first =>
    have HB : Below w.heap.size w (w.alloc (.cells #[.int .i64 c.kind, .int .i64 c.handle, .int .i64 c.a, .int .i64 c.b, .slice A c.words.length n, .int .i64 c.timeout] 24)) := (Below.refl _ _).alloc (Nat.le_refl _) _
    go_region_held3 (fun w' => Below w.heap.size w w' ∧ w'.cell? ⟨w.heap.size, 0, none⟩ = some (.int .i64 c.kind) ∧ w'.cell? ⟨w.heap.size, 1, none⟩ = some (.int .i64 c.handle) ∧ w'.cell? ⟨w.heap.size, 2, none⟩ = some (.int .i64 c.a) ∧ w'.cell? ⟨w.heap.size, 3, none⟩ = some (.int .i64 c.b) ∧ w'.cell? ⟨w.heap.size, 5, none⟩ = some (.int .i64 c.timeout) ∧ w'.cell? ⟨w.heap.size, 4, none⟩ = some (.slice A c.words.length n))
      (((try dsimp only); (try go_split_ands); (with_reducible repeat' apply And.intro); all_goals (first | assumption | exact Below.drew (by assumption) | exact keep_cell (by assumption) (by assumption) | exact keep_below (by assumption) (Nat.le_refl _) (by assumption) | (simp; done) | (simp; rfl) | go_keep)))
      (first | (go_at_call 42; refine (number31_i64 _ (by assumption) _).mono ?_; rintro e w' ⟨rfl, hb⟩) | (go_at_call 29; refine (HN.out _).mono ?_; rintro e w' ⟨rfl, hb⟩))
    rename_i hH
    obtain ⟨q1, q2, q3, q4, q5, q6, q7⟩ := hH
    go_wp2_with fail
    go_meet
    exact ⟨rfl, Lib.hid q1, q7⟩
  case rest =>
    obtain ⟨rfl, hw4, c4'⟩ := hcut
    clear s1 s2 s3 s4 s5 s6 s7 s8 e1 e2 e3 e4 e5 e6 e7 e8 HN
    have hz8 : z8.length ≤ 100 := by
      have := spacedL_len [c.handle, c.a, c.b, c.timeout] (by simp [h1, h2, h3, h4])
      rw [EZ.out, List.length_append]
      have := kindL_len c.kind
      simp only [List.length_cons, List.length_nil] at *
      omega
    go_wp2
    go_loopw [3, 4, 31] (fun s _ i wr => ∃ (k : Nat) (z : List UInt8), k ≤ c.words.length ∧ i = .int .i64 k ∧ s = .string (sb z) ∧ Hid (z = z8 ++ spacedL (c.words.take k)) ∧ Hid (Below w.heap.size w wr) ∧ wr.cell? ⟨w.heap.size, 4, none⟩ = some (.slice A c.words.length n)) (fun _ _ i _ => c.words.length - (intOf i).toNat)
    case atStart => exact ⟨0, z8, Nat.zero_le _, rfl, rfl, Lib.hid (by simp [spacedL]), hw4, c4'⟩
    case round =>
      obtain ⟨k, z, hk, rfl, rfl, EZk, hw, cw⟩ := hrel
      have hsz := hw.out.size
      have hzk : z.length ≤ 100 + 22 * c.words.length := by
        have := spacedL_len (c.words.take k) (fun y hy => hE.out.words y (List.mem_of_mem_take hy))
        rw [List.length_take] at this
        rw [EZk.out, List.length_append]
        omega
      by_cases hlt : k < c.words.length
      · obtain ⟨b, o, c', e, hF, hcells⟩ := HK.out.cells (by omega)
        cases e
        have d := hcells k c.words[k] (List.getElem?_eq_getElem hlt)
        have lb := World.block_lt_of_cell? w _ d
        rw [← hw.out.cell (p := ⟨b, o + k, none⟩) lb] at d
        have hxk := hE.out.words c.words[k] (List.getElem_mem hlt)
        have HS := Lib.hid (spacedL_snoc c.words k hlt)
        have hil := itoa_len hxk
        have hlc : (k : Int) < (c.words.length : Int) := by omega
        clear hcells
        generalize c.words[k] = x at *
        obtain ⟨y1, E1, b1, s1, e1⟩ := catK z [32] (ByteArray.mk #[32]) 1 rfl rfl (by omega)
        obtain ⟨y2, E2, b2, s2, e2⟩ := cat y1 (Lib.itoa x) (by omega)
        have EY : Hid (y2 = z8 ++ spacedL (c.words.take (k + 1))) := by
          rw [E2.out, E1.out, EZk.out, HS.out]
          exact Lib.hid (by simp)
        clear E1 E2 HS EZk
        go_wp2_with (go_at_call 42; refine (number31_i64 _ hxk _).mono ?_; rintro e w2 ⟨rfl, hb2⟩; refine Hid.out ?_)
        have cw2 := keep_cell hb2 cw
        have hw2 := Lib.hid (keep_below hw.out (Nat.le_refl _) hb2)
        clear hb2 cw
        refine Lib.hid ?_
        go_wp2
        go_roundw
        case rel => exact ⟨k + 1, y2, by omega, by go_num, rfl, EY, hw2, cw2⟩
        case measure => simp [intOf]; omega
      · have e : c.words.take k = c.words := List.take_of_length_le (by omega)
        rw [e] at EZk
        clear e
        go_wp2
        go_ret
        refine ⟨ret_str ?_, hw.out⟩
        rw [EZk.out, EZ.out]
        simp [callL]
end Go.Proofs.YtpmafppcccbmaaaDoor
