/-
  script.Parse at the closed text of layer 33, and awake.
-/
import Derived.Test.YtpmafppcccbmaaaDoorAwake33
set_option linter.unusedVariables false
set_option linter.unusedSimpArgs false
namespace Go.Proofs.YtpmafppcccbmaaaDoor
open Go.RowKit

def awA : List UInt8 := [112, 97, 114, 116, 10, 119, 105, 110, 100, 111, 119, 32, 48, 32, 50, 10]
def awB : List UInt8 := [119, 105, 110, 100, 111, 119, 32, 48, 32, 50, 10]

theorem Chg.keeps {n rb : Nat} {w0 w w' : World} (h : Chg rb none w w') (hb : Below n w0 w) (hn : n ≤ rb) (hs : n ≤ w0.heap.size) : Below n w0 w' :=
  ⟨h.os.trans hb.os, h.tape.trans hb.tape, h.output.trans hb.output, Nat.le_trans hb.size h.size, fun k hk => (h.block k (by have := hb.size; omega) (by omega) (by simp)).trans (hb.block k hk)⟩

def AwSt (w : World) (s i : Value) (wr : World) : Prop :=
  (s = .string (sb awA) ∧ i = .int .i64 1 ∧ wr = (w.alloc (.cells #[.slice none 0 0, .slice none 0 0, .slice none 0 0] 41 (0, 0))).alloc (.cells #[.slice none 0 0, .slice none 0 0, .slice none 0 0] 64 (0, 0))) ∨
  (s = .string (sb awB) ∧ i = .int .i64 2 ∧ Hid (Below w.heap.size w wr) ∧ Hid (wr.heap[w.heap.size]? = some (.cells #[.slice none 0 0, .slice none 0 0, .slice none 0 0] 41 (0, 0))) ∧
    ∃ g cap, Hid (wr.heap[w.heap.size + 1]? = some (.cells #[.slice (some ⟨g, 0, none⟩) 1 cap, .slice none 0 0, .slice none 0 0] 64 (0, 0)))) ∨
  (s = .string (sb []) ∧ i = .int .i64 3 ∧ Hid (Below w.heap.size w wr) ∧ Hid (wr.heap[w.heap.size]? = some (.cells #[.slice none 0 0, .slice none 0 0, .slice none 0 0] 41 (0, 0))) ∧
    ∃ g cap g' cap', Hid (wr.heap[w.heap.size + 1]? = some (.cells #[.slice (some ⟨g, 0, none⟩) 1 cap, .slice (some ⟨g', 0, none⟩) 1 cap', .slice none 0 0] 64 (0, 0))) ∧ Hid (wr.cell? ⟨g', 1, none⟩ = some (.int .i64 2)))

set_option maxRecDepth 100000 in
set_option maxHeartbeats 3200000 in
theorem parse_aw (w : World) (hT : TabsP w) :
    Calls Tryd.prog 18 #[.string (sb awA)] w fun e w' => Below w.heap.size w w' ∧ ∃ g cap g' cap', e = .returned (.tuple #[.agg #[.slice (some ⟨g, 0, none⟩) 1 cap, .slice (some ⟨g', 0, none⟩) 1 cap', .slice none 0 0], .int .i64 0, .int .i64 0]) ∧ w'.cell? ⟨g', 1, none⟩ = some (.int .i64 2) := by
  have HT := Lib.hid hT
  clear hT
  go_enter Tryd.func18, Tryd.ntmps18
  go_wp2
  go_loopw [0, 6] (fun s i wr => AwSt w s i wr) (fun _ i _ => 3 - (intOf i).toNat)
  case atStart => exact .inl ⟨rfl, rfl, rfl⟩
  case round =>
    rcases hrel with ⟨rfl, rfl, rfl⟩ | ⟨rfl, rfl, hb, hc0, g, cap, hc1⟩ | ⟨rfl, rfl, hb, hc0, g, cap, g', cap', hc1, hcell⟩
    · have HC := Lib.hid (cut_any awA 10 (by simp [awA]) _ (HT.out.on (((Below.refl w.heap.size w).alloc (Nat.le_refl _) (.cells #[.slice none 0 0, .slice none 0 0, .slice none 0 0] 41 (0, 0))).alloc (by simp) (.cells #[.slice none 0 0, .slice none 0 0, .slice none 0 0] 64 (0, 0)))))
      have e10 : sb [10] = ByteArray.mk #[10] := rfl
      rw [e10] at HC
      have q1 : (sb awA).toList = awA := by rw [ByteArray.toList_eq, sb_toList]
      have q2 : (sb [112, 97, 114, 116]).toList = [112, 97, 114, 116] := by rw [ByteArray.toList_eq, sb_toList]
      clear e10
      go_wp2_with fail
      go_at_call 35
      refine HC.out.mono ?_
      rintro e w1 ⟨rfl, n, rfl⟩
      have k1 : Lib.cut awA [10] = ([112, 97, 114, 116], awB, true) := by rfl
      rw [k1]
      have hb0 : Below w.heap.size w ((((w.alloc (.cells #[.slice none 0 0, .slice none 0 0, .slice none 0 0] 41 (0, 0))).alloc (.cells #[.slice none 0 0, .slice none 0 0, .slice none 0 0] 64 (0, 0)))).drewN n) := below_drewN (((Below.refl w.heap.size w).alloc (Nat.le_refl _) _).alloc (by simp) _) n
      have hz1 : ((((w.alloc (.cells #[.slice none 0 0, .slice none 0 0, .slice none 0 0] 41 (0, 0))).alloc (.cells #[.slice none 0 0, .slice none 0 0, .slice none 0 0] 64 (0, 0)))).drewN n).heap[w.heap.size + 1]? = some (.cells #[.slice none 0 0, .slice none 0 0, .slice none 0 0] 64 (0, 0)) := by
        rw [show w.heap.size + 1 = (w.alloc (.cells #[.slice none 0 0, .slice none 0 0, .slice none 0 0] 41 (0, 0))).heap.size by simp]
        exact heap_alloc_new _ _
      have hz0 : ((((w.alloc (.cells #[.slice none 0 0, .slice none 0 0, .slice none 0 0] 41 (0, 0))).alloc (.cells #[.slice none 0 0, .slice none 0 0, .slice none 0 0] 64 (0, 0)))).drewN n).heap[w.heap.size]? = some (.cells #[.slice none 0 0, .slice none 0 0, .slice none 0 0] 41 (0, 0)) :=
        (Below.heap_alloc _ _ _ (by simp)).trans (heap_alloc_new w _)
      have hsz : ((((w.alloc (.cells #[.slice none 0 0, .slice none 0 0, .slice none 0 0] 41 (0, 0))).alloc (.cells #[.slice none 0 0, .slice none 0 0, .slice none 0 0] 64 (0, 0)))).drewN n).heap.size = w.heap.size + 2 := by simp
      have hs0 : 0 < (sb [112, 97, 114, 116]).size := by rw [sb_size]; decide
      have hg0 : ((sb [112, 97, 114, 116])[0]'hs0).toNat = 112 := rfl
      have hs1 : (0 : Int) < ((sb [112, 97, 114, 116]).size : Int) := by rw [sb_size]; decide
      generalize (((w.alloc (.cells #[.slice none 0 0, .slice none 0 0, .slice none 0 0] 41 (0, 0))).alloc (.cells #[.slice none 0 0, .slice none 0 0, .slice none 0 0] 64 (0, 0)))).drewN n = w1 at *
      have Hb0 := Lib.hid hb0
      have Hz0 := Lib.hid hz0
      have Hz1 := Lib.hid hz1
      have Hsz := Lib.hid hsz
      clear k1 HC hb0 hz0 hz1 hsz
      go_wp2_with fail
      refine (line_part w1 (HT.out.on Hb0.out) (w.heap.size + 1) 0 (Nat.zero_le _) Hz1.out).mono ?_
      rintro e w2 ⟨rfl, g, cap, h1, _, hch⟩
      have Hb2 := Lib.hid (hch.keeps Hb0.out (Nat.le_succ _) (Nat.le_refl _))
      have Hz2 := Lib.hid ((hch.block w.heap.size (by have := Hsz.out; omega) (by omega) (by simp)).trans Hz0.out)
      have H1 := Lib.hid h1
      clear h1 hch
      go_wp2
      go_roundw
      case rel => exact .inr (.inl ⟨rfl, rfl, Hb2, Hz2, g, cap, H1⟩)
      case measure => simp [intOf]
    · have HC := Lib.hid (cut_any awB 10 (by simp [awB]) wr (HT.out.on hb.out))
      have e10 : sb [10] = ByteArray.mk #[10] := rfl
      rw [e10] at HC
      have q1 : (sb awB).toList = awB := by rw [ByteArray.toList_eq, sb_toList]
      have q2 : (sb [119, 105, 110, 100, 111, 119, 32, 48, 32, 50]).toList = [119, 105, 110, 100, 111, 119, 32, 48, 32, 50] := by rw [ByteArray.toList_eq, sb_toList]
      clear e10
      go_wp2_with fail
      go_at_call 35
      refine HC.out.mono ?_
      rintro e w1 ⟨rfl, n, rfl⟩
      have k1 : Lib.cut awB [10] = ([119, 105, 110, 100, 111, 119, 32, 48, 32, 50], [], true) := by rfl
      rw [k1]
      have hb0 : Below w.heap.size w (wr.drewN n) := below_drewN hb.out n
      have hz1 : (wr.drewN n).heap[w.heap.size + 1]? = some (.cells #[.slice (some ⟨g, 0, none⟩) 1 cap, .slice none 0 0, .slice none 0 0] 64 (0, 0)) := hc1.out
      have hz0 : (wr.drewN n).heap[w.heap.size]? = some (.cells #[.slice none 0 0, .slice none 0 0, .slice none 0 0] 41 (0, 0)) := hc0.out
      have hs0 : 0 < (sb [119, 105, 110, 100, 111, 119, 32, 48, 32, 50]).size := by rw [sb_size]; decide
      have hg0 : ((sb [119, 105, 110, 100, 111, 119, 32, 48, 32, 50])[0]'hs0).toNat = 119 := rfl
      have hs1 : (0 : Int) < ((sb [119, 105, 110, 100, 111, 119, 32, 48, 32, 50]).size : Int) := by rw [sb_size]; decide
      generalize wr.drewN n = w1 at *
      have Hb0 := Lib.hid hb0
      have Hz0 := Lib.hid hz0
      have Hz1 := Lib.hid hz1
      clear k1 HC hb0 hz0 hz1
      go_wp2_with fail
      refine (line_window w1 (HT.out.on Hb0.out) (w.heap.size + 1) _ _ ⟨_, _, _, rfl⟩ ⟨_, _, _, rfl⟩ Hz1.out).mono ?_
      rintro e w2 ⟨rfl, g', cap', h1, h2, hch⟩
      have lw0 := (Array.getElem?_eq_some_iff.1 Hz0.out).1
      have Hb2 := Lib.hid (hch.keeps Hb0.out (Nat.le_succ _) (Nat.le_refl _))
      have Hz2 := Lib.hid ((hch.block w.heap.size lw0 (by omega) (by simp)).trans Hz0.out)
      have H1 := Lib.hid h1
      have H2 := Lib.hid h2
      clear h1 h2 hch
      go_wp2
      go_roundw
      case rel => exact .inr (.inr ⟨rfl, rfl, Hb2, Hz2, g, cap, g', cap', H1, H2⟩)
      case measure => simp [intOf]
    · have q1 : (sb []).toList = [] := by rw [ByteArray.toList_eq, sb_toList]
      have lw0 := (Array.getElem?_eq_some_iff.1 hc0.out).1
      have lw1 := (Array.getElem?_eq_some_iff.1 hc1.out).1
      have c0 := cell_of_row wr _ 0 _ _ _ hc0.out
      have c01 := cell_of_row wr _ 1 _ _ _ hc0.out
      have c02 := cell_of_row wr _ 2 _ _ _ hc0.out
      have f01 := frozen_of_row wr _ 1 _ _ hc0.out
      have f02 := frozen_of_row wr _ 2 _ _ hc0.out
      have f0 := frozen_of_row wr _ 0 _ _ hc0.out
      have c1 := cell_of_row wr _ 0 _ _ _ hc1.out
      have c2 := cell_of_row wr _ 1 _ _ _ hc1.out
      have c3 := cell_of_row wr _ 2 _ _ _ hc1.out
      simp only [List.getElem?_toArray, List.getElem?_cons_succ, List.getElem?_cons_zero] at c0 c01 c02 c1 c2 c3
      have Hc0 := hc0
      have Hc1 := hc1
      go_wp2
      refine bodyPost_ret (v := .tuple #[.agg #[.slice (some ⟨g, 0, none⟩) 1 cap, .slice (some ⟨g', 0, none⟩) 1 cap', .slice none 0 0], .int .i64 0, .int .i64 0]) (by simp [results, Tryd.results18, go_sem, c0, c01, c02]) rfl ⟨?_, g, cap, g', cap', rfl, ?_⟩
      · iterate 3 refine Below.setCell ?_ (Nat.le_refl w.heap.size) _
        exact hb.out
      · have hc := hcell.out
        have hn : g' ≠ w.heap.size := fun e => by
          have h := cell_of_row wr _ 1 _ _ _ hc0.out
          rw [← e] at h
          have := h.symm.trans hc
          simp at this
        rw [World.cell?_setCell_far _ _ _ _ (fun e => hn e.symm), World.cell?_setCell_far _ _ _ _ (fun e => hn e.symm), World.cell?_setCell_far _ _ _ _ (fun e => hn e.symm)]
        exact hc

theorem Tryd.strA : sb awA = ByteArray.mk #[112, 97, 114, 116, 10, 119, 105, 110, 100, 111, 119, 32, 48, 32, 50, 10] := rfl
set_option maxRecDepth 100000 in
set_option maxHeartbeats 3200000 in
theorem awake33_any (w : World) (hT : TabsP w) :
    Calls Tryd.prog 17 #[] w fun e w' => e = .returned (.bool true) ∧ Below w.heap.size w w' := by
  have HP := Lib.hid (parse_aw w hT)
  rw [Tryd.strA] at HP
  go_enter Tryd.func17, Tryd.ntmps17
  go_wp2_with fail
  go_at_call 18
  refine HP.out.mono ?_
  rintro e w1 ⟨hb, g, cap, g', cap', rfl, hc⟩
  have hg' := World.block_lt_of_cell? w1 _ hc
  have hgl : g' < w1.heap.size := hg'
  have Hb := Lib.hid hb
  clear hb HP hg'
  go_wp2
  go_ret
  exact ⟨rfl, by first | exact (Hb.out.alloc Hb.out.size _) | skip⟩
end Go.Proofs.YtpmafppcccbmaaaDoor
