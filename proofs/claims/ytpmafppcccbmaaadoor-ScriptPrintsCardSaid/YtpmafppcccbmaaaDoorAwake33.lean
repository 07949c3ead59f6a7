/-
  What the statements of layer 33 ask first (awake): a text of two lines is parsed.
-/
import Derived.Test.YtpmafppcccbmaaaDoorWindow
set_option linter.unusedVariables false
set_option linter.unusedSimpArgs false
namespace Go.Proofs.YtpmafppcccbmaaaDoor
open Go.RowKit

theorem cut_any (l : List UInt8) (c : UInt8) (hl : l.length ≤ 100000000) (w : World) (hT : TabsP w) :
    Calls Tryd.prog 35 #[.string (sb l), .string (sb [c])] w fun e w' => e = .returned (.tuple #[.string (sb (Lib.cut l [c]).1), .string (sb (Lib.cut l [c]).2.1), .bool (Lib.cut l [c]).2.2]) ∧ ∃ n, w.drewN n = w' := by
  obtain ⟨m, hm⟩ := hT.most
  refine (Tryd.strings_Cut (sb l) (sb [c]) m w (by rw [sb_size]; omega) hm).mono ?_
  rintro e w' ⟨rfl, n, rfl⟩
  refine ⟨?_, n, rfl⟩
  rw [sb_toList, sb_toList]
  rfl
theorem Tryd.info_part : (Tryd.prog.info? 73).map (fun i => (i.zero, i.size, i.bytes)) = some (some (.agg #[.slice none 0 0, .slice none 0 0]), 2, 48) := by kernel_rfl

set_option maxRecDepth 100000 in
set_option maxHeartbeats 3200000 in
theorem line_part (w : World) (hT : TabsP w) (rb : Nat) (B : Nat) (hB : B ≤ w.heap.size) (hrd : w.heap[rb]? = some (.cells #[.slice none 0 0, .slice none 0 0, .slice none 0 0] 64 (0, 0))) :
    Calls Tryd.prog 36 #[.pointer (some ⟨rb, 0, none⟩), .string (sb [112, 97, 114, 116])] w fun e w' => e = .returned (.bool true) ∧ ∃ g cap, w'.heap[rb]? = some (.cells #[.slice (some ⟨g, 0, none⟩) 1 cap, .slice none 0 0, .slice none 0 0] 64 (0, 0)) ∧ w.heap.size ≤ g ∧ Chg rb none w w' := by
  obtain ⟨i0, hi0, hz0, hz1, hz2⟩ := info_parts Tryd.info_part
  have HC := Lib.hid (cut_any [112, 97, 114, 116] 32 (by simp) w hT)
  have HSp := Lib.hid (fun n => split_any [] (by simp) (w.drewN n) (hT.on (below_drewN (Below.refl _ _) n)))
  have Hrd := Lib.hid hrd
  have lrb := (Array.getElem?_eq_some_iff.1 hrd).1
  clear hT hrd
  go_enter Tryd.func36, Tryd.ntmps36
  go_wp2_with fail
  go_at_call 35
  refine HC.out.mono ?_
  rintro e w1 ⟨rfl, n, rfl⟩
  have k1 : Lib.cut [112, 97, 114, 116] [32] = ([112, 97, 114, 116], [], false) := by rfl
  rw [k1]
  have e32 : sb [32] = ByteArray.mk #[32] := rfl
  rw [e32] at HSp
  have q1 : (sb [112, 97, 114, 116]).toList = [112, 97, 114, 116] := by rw [ByteArray.toList_eq, sb_toList]
  clear e32 k1 HC
  go_wp2_with fail
  go_at_call 30
  refine (HSp.out n).mono ?_
  rintro e w2 ⟨rfl, hw2⟩
  have hbw : Below w.heap.size w w2 := by rw [hw2]; exact (below_drewN (Below.refl _ _) n).alloc (Nat.le_refl _) _
  have hs2 : w2.heap.size = w.heap.size + 1 := by rw [hw2]; simp
  have hrd2 : w2.heap[rb]? = some (.cells #[.slice none 0 0, .slice none 0 0, .slice none 0 0] 64 (0, 0)) := (hbw.block rb lrb).trans Hrd.out
  have r0 : w2.cell? ⟨rb, 0, none⟩ = some (.slice none 0 0) := by rw [cell_of_row _ _ _ _ _ _ hrd2]; rfl
  have f0 : w2.frozen? ⟨rb, 0, none⟩ = false := frozen_of_row _ _ _ _ _ hrd2
  have lrb2 : rb < w2.heap.size := by omega
  have Hbw := Lib.hid hbw
  have Hrd2 := Lib.hid hrd2
  have Hs2 := Lib.hid hs2
  clear hbw hs2 hrd2 hw2 HSp
  go_wp2_with (at_builtin; refine wpList_append_lies (P := Tryd.prog) _ rfl _ _ 37 rfl B 73 i0 _ 2 48 Tryd.underlying37 hi0 hz0 hz1 hz2 rfl (by omega) (.slice none 0 0) 0 [] rfl (World.ownsRow_nil _ _ _ _) ⟨w2.heap.size, 0, none⟩ 1 1 [.slice none 0 0, .slice none 0 0] rfl rfl (World.news_of_block (cs := #[.slice none 0 0, .slice none 0 0]) (t := 73) (fr := (0, 0)) (heap_alloc_new _ _)) (by simp [Value.oneCell']) (by omega) (by unfold maxLen; omega) (by omega) (by have := Hs2.out; simp; omega) (w2.heap.size + 1) (by simp) ?_; intro g cap w3 hown hgr hat hlt; refine Hid.out ?_)
  have hrd3 : w3.heap[rb]? = some (.cells #[.slice none 0 0, .slice none 0 0, .slice none 0 0] 64 (0, 0)) := by
    rw [hgr.block rb (by simp; omega) (by simp [Value.ownBlock])]
    exact (Below.heap_alloc w2 _ rb lrb2).trans Hrd2.out
  have f3 : w3.frozen? ⟨rb, 0, none⟩ = false := frozen_of_row _ _ _ _ _ hrd3
  have c3 : w3.cell? ⟨rb, 0, none⟩ = some (.slice none 0 0) := by rw [cell_of_row _ _ _ _ _ _ hrd3]; rfl
  have hg : g = w2.heap.size + 1 := by
    rcases hat with e | e
    · simp [Value.ownBlock] at e
    · exact e
  have HG := Lib.hid hg
  have Hrd3 := Lib.hid hrd3
  have HGr := Lib.hid hgr
  clear hown hgr hat hlt hrd3 hg r0 f0
  refine Lib.hid ?_
  go_wp2
  go_ret
  have hgr := HGr.out
  have hs2 := Hs2.out
  refine ⟨rfl, g, cap, set_block Hrd3.out 0 _, by have := HG.out; omega, ⟨?_, ?_, ?_, ?_, fun k hk h1 _ => ?_⟩⟩
  · show w3.os = _; rw [hgr.os]; exact Hbw.out.os
  · show w3.tape = _; rw [hgr.tape]; exact Hbw.out.tape
  · show w3.output = _; rw [hgr.output]; exact Hbw.out.output
  · have := hgr.size; simp [World.setCell] at this ⊢; omega
  · rw [block_setCell_other _ _ _ h1, hgr.block k (by simp; omega) (by simp [Value.ownBlock])]
    exact (Below.heap_alloc w2 _ k (by omega)).trans (Hbw.out.block k hk)

theorem num0 : numOf [48] = some 0 := numOf_some_of (by rfl) (by rw [itoa_nat, if_neg (by decide), show (0 : Int).natAbs = 0 from rfl, decDigits_small 0 (by decide)]; rfl)
theorem num2 : numOf [50] = some 2 := numOf_some_of (by rfl) (by rw [itoa_nat, if_neg (by decide), show (2 : Int).natAbs = 2 from rfl, decDigits_small 2 (by decide)]; rfl)
theorem snums02 : snums 2 [[48], [50]] = some [0, 2] := by simp [snums, numsOf, num0, num2]

set_option maxRecDepth 100000 in
set_option maxHeartbeats 3200000 in
theorem line_window (w : World) (hT : TabsP w) (rb : Nat) (v1 v3 : Value) (hv1 : ∃ A n c, v1 = .slice A n c) (hv3 : ∃ A n c, v3 = .slice A n c) (hrd : w.heap[rb]? = some (.cells #[v1, .slice none 0 0, v3] 64 (0, 0))) :
    Calls Tryd.prog 36 #[.pointer (some ⟨rb, 0, none⟩), .string (sb [119, 105, 110, 100, 111, 119, 32, 48, 32, 50])] w fun e w' => e = .returned (.bool true) ∧ ∃ g cap, w'.heap[rb]? = some (.cells #[v1, .slice (some ⟨g, 0, none⟩) 1 cap, v3] 64 (0, 0)) ∧ w'.cell? ⟨g, 1, none⟩ = some (.int .i64 2) ∧ Chg rb none w w' := by
  have HC := Lib.hid (cut_any [119, 105, 110, 100, 111, 119, 32, 48, 32, 50] 32 (by simp) w hT)
  have HSp := Lib.hid (fun n => split_any [48, 32, 50] (by simp) (w.drewN n) (hT.on (below_drewN (Below.refl _ _) n)))
  have HT := Lib.hid hT
  have Hrd := Lib.hid hrd
  have lrb := (Array.getElem?_eq_some_iff.1 hrd).1
  have e32 : sb [32] = ByteArray.mk #[32] := rfl
  rw [e32] at HSp
  have q1 : (sb [119, 105, 110, 100, 111, 119]).toList = [119, 105, 110, 100, 111, 119] := by rw [ByteArray.toList_eq, sb_toList]
  have k2 : pieces 32 [48, 32, 50] = [[48], [50]] := by rfl
  rw [k2] at HSp
  clear hT hrd e32 k2
  go_enter Tryd.func36, Tryd.ntmps36
  go_wp2_with fail
  go_at_call 35
  refine HC.out.mono ?_
  rintro e w1 ⟨rfl, n, rfl⟩
  have k1 : Lib.cut [119, 105, 110, 100, 111, 119, 32, 48, 32, 50] [32] = ([119, 105, 110, 100, 111, 119], [48, 32, 50], true) := by rfl
  rw [k1]
  clear k1 HC
  go_wp2_with fail
  go_at_call 30
  refine (HSp.out n).mono ?_
  rintro e w2 ⟨rfl, hw2⟩
  have hbw : Below w.heap.size w w2 := by rw [hw2]; exact (below_drewN (Below.refl _ _) n).alloc (Nat.le_refl _) _
  have hst : StrsAt w2 (fun _ => True) (.slice (some ⟨w.heap.size, 0, none⟩) 2 2) [[48], [50]] := by
    refine ⟨rfl, _, _, rfl, fun _ => ⟨_, _, rfl, trivial, fun j u hu => ?_⟩⟩
    have hz : w2.heap[w.heap.size]? = some (.cells (strCells [[48], [50]]).toArray 9 (0, 0)) := by
      rw [hw2]; exact heap_alloc_new (w.drewN n) _
    rw [cell_of_row _ _ _ _ _ _ hz, Nat.zero_add]
    simpa using hu
  have hrd2 := (hbw.block rb lrb).trans Hrd.out
  have HW := Lib.hid (window_any [[48], [50]] (by simp) (by simp) _ _ w2 (HT.out.on hbw) hst rb v1 (.slice none 0 0) v3 0 (Nat.zero_le _) [] hrd2 (World.ownsRow_nil _ _ _ _) (by simp [Value.ownBlock]) (by simp))
  have Hbw := Lib.hid hbw
  clear hbw hst hrd2 hw2 HSp
  go_wp2_with fail
  go_at_call 55
  refine HW.out.mono ?_
  rintro e w3 hpost
  have hp : ∃ v2', e = .returned (.bool true) ∧ w3.heap[rb]? = some (.cells #[v1, v2', v3] 64 (0, 0)) ∧ w3.ownsRow 0 61 2 v2' 1 [.int .i64 0, .int .i64 2] ∧ Chg rb none w2 w3 := by
    rcases hpost with ⟨h, _⟩ | ⟨a, b, v2', h1, h2, h3, h4, _, h6⟩
    · rw [snums02] at h; cases h
    · rw [snums02] at h1
      obtain ⟨rfl, rfl⟩ : (0 : Int) = a ∧ (2 : Int) = b := by simpa using h1
      exact ⟨v2', h2, h3, h4, h6⟩
  obtain ⟨v2', rfl, h3, h4, h6⟩ := hp
  obtain ⟨g, cap, rfl, _, _⟩ := h4.form (by omega)
  have hc : w3.cell? ⟨g, 1, none⟩ = some (.int .i64 2) := by
    have := h4.cells (g := g) rfl 1 (.int .i64 2) rfl
    simpa [Addr.add] using this
  have Hc := Lib.hid hc
  have H3 := Lib.hid h3
  have H6 := Lib.hid h6
  clear hc h3 h4 h6 hpost HW
  go_wp2
  go_ret
  have h6 := H6.out
  exact ⟨rfl, g, cap, H3.out, Hc.out, ⟨h6.os.trans Hbw.out.os, h6.tape.trans Hbw.out.tape, h6.output.trans Hbw.out.output, Nat.le_trans Hbw.out.size h6.size, fun k hk h1 h2 => (h6.block k (by have := Hbw.out.size; omega) h1 h2).trans (Hbw.out.block k hk)⟩⟩
end Go.Proofs.YtpmafppcccbmaaaDoor
