/-
  The walk of ReportBack.
-/
import Derived.Test.YtpmafppcccbmaaaDoorSame
set_option linter.unusedVariables false
set_option linter.unusedSimpArgs false
namespace Go.Proofs.YtpmafppcccbmaaaDoor
open Go.RowKit

def GotCall (w : World) (c : CallD) (e : Ending) (w' : World) : Prop := ∃ v, e = .returned (.tuple #[callV c v, .int .i64 0]) ∧ IntsAt w' (fun k => w.heap.size ≤ k) v c.words ∧ Below w.heap.size w w'
theorem read_back (c : CallD) (hc : CallOk c) (hl : c.words.length ≤ 1000) (h0 : 0 ≤ c.kind) (h1 : c.kind < 24) (w : World) (hT : TabsP w) :
    Calls Tryd.prog 14 #[.string (sb (callL c))] w (GotCall w c) := by
  have hlen := callL_len hc
  refine (parse_any (callL c) (by omega) w hT).mono ?_
  rintro e w' ⟨hb, hx⟩
  rcases hx with ⟨hn, _⟩ | ⟨c', v, hs, he, hi⟩
  · rw [parse_back c hc h0 h1] at hn; cases hn
  · rw [parse_back c hc h0 h1] at hs
    obtain rfl := Option.some.inj hs
    exact ⟨v, he, hi, hb⟩
theorem read_bad (c : CallD) (hc : CallOk c) (hl : c.words.length ≤ 1000) (h : ¬ (0 ≤ c.kind ∧ c.kind < 24)) (w : World) (hT : TabsP w) :
    Calls Tryd.prog 14 #[.string (sb (callL c))] w fun e w' => e = .returned (.tuple #[callV zeroCall (.slice none 0 0), .int .i64 15]) ∧ Below w.heap.size w w' := by
  have hlen := callL_len hc
  refine (parse_any (callL c) (by omega) w hT).mono ?_
  rintro e w' ⟨hb, hx⟩
  rcases hx with ⟨hn, he⟩ | ⟨c', v, hs, he, hi⟩
  · exact ⟨he, hb⟩
  · rw [parse_bad c hc h] at hs; cases hs

set_option maxRecDepth 100000 in
set_option maxHeartbeats 3200000 in
theorem back_any (c : CallD) (hc : CallOk c) (F : Nat → Prop) (cv : Value) (w : World) (hT : TabsP w) (h : IntsAt w F cv c.words) :
    Calls Tryd.prog 4 #[callV c cv] w fun r w' => r = .returned (.bool true) ∧ Below w.heap.size w w' := by
  obtain ⟨A, n, rfl⟩ := h.slice
  have HA := Lib.hid (fun (W : World) (hb : Below w.heap.size w W) => awake30_any W (hT.on hb).tabs)
  have HC := Lib.hid (fun (l1 : c.words.length ≤ 1000000) (W : World) (hb : Below w.heap.size w W) => callGo_any c hc F _ l1 W (hT.on hb).tabs (IntsAt.kept (fun k hk _ => hb.block k hk) h))
  have HT := Lib.hid hT
  have HK := Lib.hid hc
  have HI := Lib.hid h
  clear h hT hc
  unfold callV at HC ⊢
  by_cases g1 : c.words.length ≤ 50
  · have l1 : c.words.length ≤ 1000000 := by omega
    have d1 : decide ((50 : Int) < (c.words.length : Int)) = false := by simp; omega
    have d2 : ¬ (50 : Int) < (c.words.length : Int) := by omega
    go_enter Tryd.func4, Tryd.ntmps4
    go_wp2_with (go_at_call 9; refine (HA.out _ ((Below.refl _ _).alloc (Nat.le_refl _) _)).mono ?_; rintro r w1 ⟨rfl, hb1⟩; refine Hid.out ?_)
    have hbw := keep_below ((Below.refl _ _).alloc (Nat.le_refl w.heap.size) _) (Nat.le_refl _) hb1
    have c0 := keep_cell hb1 (b := w.heap.size) (j := 0) (by simp; rfl)
    have c1 := keep_cell hb1 (b := w.heap.size) (j := 1) (by simp; rfl)
    have c2 := keep_cell hb1 (b := w.heap.size) (j := 2) (by simp; rfl)
    have c3 := keep_cell hb1 (b := w.heap.size) (j := 3) (by simp; rfl)
    have c4 := keep_cell hb1 (b := w.heap.size) (j := 4) (by simp; rfl)
    have c5 := keep_cell hb1 (b := w.heap.size) (j := 5) (by simp; rfl)
    clear hb1
    refine Lib.hid ?_
    go_wp2_with (go_at_call 12; refine (HC.out l1 _ hbw).mono ?_; rintro r w2 ⟨rfl, hb2⟩; refine Hid.out ?_)
    have c0 := keep_cell hb2 c0
    have c1 := keep_cell hb2 c1
    have c2 := keep_cell hb2 c2
    have c3 := keep_cell hb2 c3
    have c4 := keep_cell hb2 c4
    have c5 := keep_cell hb2 c5
    have hbw2 := keep_below hbw (Nat.le_refl _) hb2
    clear hb2 hbw
    refine Lib.hid ?_
    by_cases hk : 0 ≤ c.kind ∧ c.kind < 24
    · obtain ⟨k0, k1⟩ := hk
      have k2 : ¬ c.kind < 0 := by omega
      have k3 : ¬ 23 < c.kind := by omega
      have HR := Lib.hid (read_back c HK.out (by omega) k0 k1 w2 (HT.out.on hbw2))
      go_wp2_with (go_at_call 14; refine HR.out.mono ?_; rintro r w3 ⟨v, rfl, hi, hb3⟩; refine Hid.out ?_)
      obtain ⟨A2, n2, rfl⟩ := IntsAt.slice hi
      have c0 := keep_cell hb3 c0
      have c1 := keep_cell hb3 c1
      have c2 := keep_cell hb3 c2
      have c3 := keep_cell hb3 c3
      have c4 := keep_cell hb3 c4
      have c5 := keep_cell hb3 c5
      have hbw3 := keep_below hbw2 (Nat.le_refl _) hb3
      have hz3 := hbw3.size
      have hbl : w.heap.size < w3.heap.size := World.block_lt_of_cell? w3 _ c0
      have HI3 := Lib.hid hi
      have H1 := Lib.hid (IntsAt.kept (fun k hk _ => hbw3.block k hk) HI.out)
      have HS := Lib.hid (fun (o : Obj) => same_any c F _ _ _ l1 (w3.alloc o) (IntsAt.kept (fun k hk _ => Below.heap_alloc _ _ _ hk) H1.out) (IntsAt.kept (fun k hk _ => Below.heap_alloc _ _ _ hk) HI3.out))
      unfold callV at HS
      have H3 := Lib.hid hbw3
      clear hb3 hi hbw2 hbw3
      unfold callV
      refine Lib.hid ?_
      go_wp2_with (go_at_call 15; refine (HS.out _).mono ?_; rintro r w4 ⟨rfl, hb4⟩)
      go_ret
      exact ⟨rfl, (H3.out.alloc hz3 _).trans (hb4.mono (by simp; omega))⟩
    · have HR := Lib.hid (read_bad c HK.out (by omega) hk w2 (HT.out.on hbw2))
      unfold callV zeroCall at HR
      have hk' : c.kind < 0 ∨ 23 < c.kind := by omega
      clear hk
      rcases hk' with hk' | hk'
      all_goals
        go_wp2_with (go_at_call 14; refine HR.out.mono ?_; rintro r w3 ⟨rfl, hb3⟩; refine Hid.out ?_)
        have c0 := keep_cell hb3 c0
        have hbl : w.heap.size < w3.heap.size := World.block_lt_of_cell? w3 _ c0
        have H3 := Lib.hid (keep_below hbw2 (Nat.le_refl _) hb3)
        have k0 : c.kind < 0 ∨ ¬ c.kind < 0 := by omega
        clear hb3
        refine Lib.hid ?_
        go_wp2
        go_ret
        exact ⟨rfl, H3.out.alloc H3.out.size _⟩
  · have d1 : decide ((50 : Int) < (c.words.length : Int)) = true := by simp; omega
    have d2 : (50 : Int) < (c.words.length : Int) := by omega
    go_enter Tryd.func4, Tryd.ntmps4
    go_wp2_with (go_at_call 9; refine (HA.out _ ((Below.refl _ _).alloc (Nat.le_refl _) _)).mono ?_; rintro r w1 ⟨rfl, hb1⟩; refine Hid.out ?_)
    have hbw := keep_below ((Below.refl _ _).alloc (Nat.le_refl w.heap.size) _) (Nat.le_refl _) hb1
    have c4 := keep_cell hb1 (b := w.heap.size) (j := 4) (by simp; rfl)
    clear hb1
    refine Lib.hid ?_
    go_wp2_with (go_at_call 9; refine (HA.out _ hbw).mono ?_; rintro r w2 ⟨rfl, hb2⟩)
    go_ret
    exact ⟨rfl, keep_below hbw (Nat.le_refl _) hb2⟩
end Go.Proofs.YtpmafppcccbmaaaDoor
