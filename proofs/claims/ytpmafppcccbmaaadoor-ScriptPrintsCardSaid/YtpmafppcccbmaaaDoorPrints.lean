/-
  Few over a configuration, and the walk of ScriptPrints.
-/
import Derived.Test.YtpmafppcccbmaaaDoorConfOpen
import Derived.Test.YtpmafppcccbmaaaDoorAwakeP
set_option linter.unusedVariables false
set_option linter.unusedSimpArgs false
namespace Go.Proofs.YtpmafppcccbmaaaDoor
open Go.RowKit

def fewC (c : ConfD) : Bool := decide (c.parts.length ≤ 20) && decide (c.wins.length ≤ 100) && decide (c.chans.length ≤ 40) && c.parts.all fewB

theorem fewC_ok {c : ConfD} (hi : ConfI c) (h : fewC c = true) : ConfOk c := by
  simp only [fewC, Bool.and_eq_true, decide_eq_true_eq, List.all_eq_true] at h
  obtain ⟨⟨⟨h1, h2⟩, h3⟩, h4⟩ := h
  refine ⟨fun p hp => ?_, by omega, hi.wins, by omega, hi.chans, by omega⟩
  obtain ⟨a, b, d⟩ := fewB_ok (h4 p hp)
  obtain ⟨e, f⟩ := hi.parts p hp
  refine ⟨f, by omega, fun t ht => ?_, by omega⟩
  obtain ⟨g1, g2⟩ := d t ht
  obtain ⟨k1, k2, k3, k4⟩ := e t ht
  exact ⟨k1, k2, k3, fun c hc => ⟨k4 c hc, by have := g2 c hc; omega⟩, by omega⟩

set_option maxRecDepth 100000 in
set_option maxHeartbeats 1600000 in
theorem few_any (c : ConfD) (v : Value) (w : World) (hC : ConfAt w (fun k => k < w.heap.size) v c) :
    Calls Tryd.prog 21 #[v] w fun e w' => e = .returned (.bool (fewC c)) ∧ Below w.heap.size w w' := by
  obtain ⟨v1, v2, v3, rfl, h1, h2, h3⟩ := hC
  obtain ⟨A1, c1, rfl⟩ : ∃ A c', v1 = .slice A c.parts.length c' := by obtain ⟨_, _, ⟨_, A, c', e, _⟩, _⟩ := h1; exact ⟨A, c', e⟩
  obtain ⟨A2, c2, rfl⟩ : ∃ A c', v2 = .slice A c.wins.length c' := by obtain ⟨_, A, c', e, _⟩ := h2; exact ⟨A, c', e⟩
  obtain ⟨A3, c3, rfl⟩ : ∃ A c', v3 = .slice A c.chans.length c' := by obtain ⟨_, A, c', e, _⟩ := h3; exact ⟨A, c', e⟩
  have HP := Lib.hid h1
  clear h1 h2 h3
  generalize hR : fewC c = R at *
  have HR := Lib.hid hR
  clear hR
  have hbw : Below w.heap.size w (w.alloc (.cells #[.slice A1 c.parts.length c1, .slice A2 c.wins.length c2, .slice A3 c.chans.length c3] 41)) := (Below.refl _ _).alloc (Nat.le_refl _) _
  have Hbw := Lib.hid hbw
  clear hbw
  by_cases g : c.parts.length ≤ 20 ∧ c.wins.length ≤ 100 ∧ c.chans.length ≤ 40
  · obtain ⟨g1, g2, g3⟩ := g
    have hR : (c.parts.drop 0).all fewB = R := by rw [← HR.out]; simp [fewC, g1, g2, g3]
    have HR := Lib.hid hR
    have k1 : ¬ (20 : Int) < (c.parts.length : Int) := by omega
    have k2 : ¬ (100 : Int) < (c.wins.length : Int) := by omega
    have k3 : ¬ (40 : Int) < (c.chans.length : Int) := by omega
    clear hR
    go_enter Tryd.func21, Tryd.ntmps21
    go_wp2
    go_loopw [23] (fun i wr => ∃ k : Nat, k ≤ c.parts.length ∧ i = .int .i64 k ∧ Hid (Below (w.heap.size + 1) (w.alloc (.cells #[.slice A1 c.parts.length c1, .slice A2 c.wins.length c2, .slice A3 c.chans.length c3] 41)) wr) ∧ Hid ((c.parts.drop k).all fewB = R)) (fun i _ => c.parts.length - (intOf i).toNat)
    case atStart => exact ⟨0, Nat.zero_le _, rfl, Lib.hid (Below.refl _ _), HR⟩
    case round =>
      obtain ⟨k, hk, rfl, hw, hr⟩ := hrel
      have hsz := box_size hw.out
      have hbw := box_below hw.out
      have r0 := box_row hw.out 0
      by_cases hlt : k < c.parts.length
      · have hlc : (k : Int) < (c.parts.length : Int) := by omega
        obtain ⟨g, o, c', e, hg, hcells⟩ := HP.out.cells (by omega)
        cases e
        obtain ⟨pv1, pv2, d0, d1, hpa⟩ := hcells k c.parts[k] (List.getElem?_eq_getElem hlt)
        have hgB : g < w.heap.size := hg
        rw [← hbw.cell (p := ⟨g, o + k * 2, none⟩) hgB] at d0
        rw [← hbw.cell (p := ⟨g, o + k * 2 + 1, none⟩) hgB] at d1
        have hpa' : PartAt wr (fun k => k < w.heap.size) (.agg #[pv1, pv2]) c.parts[k] := hpa.kept (fun k _ hF => hbw.block k hF)
        obtain ⟨x1, x2, ex, hx1, hx2⟩ := hpa'
        cases ex
        obtain ⟨X1, n1, rfl⟩ : ∃ A c', pv1 = .slice A c.parts[k].thr.length c' := by obtain ⟨_, _, ⟨_, A, c', e, _⟩, _⟩ := hx1; exact ⟨A, c', e⟩
        obtain ⟨X2, n2, rfl⟩ : ∃ A c', pv2 = .slice A c.parts[k].obj.length c' := by obtain ⟨_, A, c', e, _⟩ := hx2; exact ⟨A, c', e⟩
        have HF := Lib.hid (fewPart_any c.parts[k] _ _ wr ⟨_, _, rfl, hx1, hx2⟩)
        have hr1 := hr.out
        rw [all_drop fewB _ _ hlt] at hr1
        have Hr1 := Lib.hid hr1
        have r0' : wr.cell? ⟨w.heap.size, 0, none⟩ = some (.slice (some ⟨g, o, none⟩) c.parts.length c1) := r0
        clear hcells hpa hx1 hx2 hr1 r0 hr
        generalize c.parts[k] = p at *
        by_cases hf : fewB p = true
        · rw [hf] at HF Hr1
          go_wp2_with (go_at_call 38; refine HF.out.mono ?_; rintro e w1 ⟨rfl, hb1⟩; have Hb1 := Lib.hid (box_next hw.out hb1); clear hb1)
          go_roundw
          case rel => exact ⟨k + 1, by omega, by go_num, Hb1, Lib.hid (by simpa using Hr1.out)⟩
          case measure => simp [intOf]; omega
        · have hf' : fewB p = false := by simpa using hf
          rw [hf'] at HF Hr1
          go_wp2_with (go_at_call 38; refine HF.out.mono ?_; rintro e w1 ⟨rfl, hb1⟩; have Hb1 := Lib.hid (box_next hw.out hb1); clear hb1)
          go_ret
          exact ⟨by rw [← Hr1.out]; rfl, box_below Hb1.out⟩
      · have hr' : R = true := by rw [← hr.out, List.drop_eq_nil_of_le (by omega)]; rfl
        have Hr' := Lib.hid hr'
        have Hbw := Lib.hid hbw
        clear hr hr' hbw
        go_wp2
        go_ret
        exact ⟨by rw [Hr'.out]; rfl, Hbw.out⟩
  · have hR : R = false := by
      rw [← HR.out]
      unfold fewC
      by_cases a : c.parts.length ≤ 20 <;> by_cases b : c.wins.length ≤ 100 <;> by_cases d : c.chans.length ≤ 40 <;> first | (simp [a, b, d]; done) | exact absurd ⟨a, b, d⟩ g
    have HR := Lib.hid hR
    clear hR
    have k : (20 : Int) < (c.parts.length : Int) ∨ (¬ (20 : Int) < (c.parts.length : Int) ∧ ((100 : Int) < (c.wins.length : Int) ∨ (¬ (100 : Int) < (c.wins.length : Int) ∧ (40 : Int) < (c.chans.length : Int)))) := by omega
    clear g HP
    rcases k with k | ⟨k, k' | ⟨k', k''⟩⟩
    all_goals
      go_enter Tryd.func21, Tryd.ntmps21
      go_wp2
      go_ret
      exact ⟨by rw [HR.out]; rfl, Hbw.out⟩

theorem ConfAt.on {w w' : World} {F : Nat → Prop} {v : Value} {c : ConfD} (h : ConfAt w F v c) (hk : ∀ k, k < w.heap.size → F k → w'.heap[k]? = w.heap[k]?) : ConfAt w' F v c := by
  obtain ⟨v1, v2, v3, e, ⟨us, l, h1, hp⟩, h2, h3⟩ := h
  exact ⟨v1, v2, v3, e, ⟨us, l, h1.kept hk, fun i p u a b => ⟨(hp i p u a b).1.kept hk, Reads.kept (hp i p u a b).2 hk⟩⟩, Reads.kept h2 hk, Reads.kept h3 hk⟩
theorem ConfAt.wider {w : World} {F F' : Nat → Prop} {v : Value} {c : ConfD} (h : ConfAt w F v c) (hF : ∀ k, F k → F' k) : ConfAt w F' v c := by
  obtain ⟨v1, v2, v3, e, ⟨us, l, h1, hp⟩, h2, h3⟩ := h
  exact ⟨v1, v2, v3, e, ⟨us, l, h1.wider hF, fun i p u a b => ⟨(hp i p u a b).1.wider hF, Reads.wider (hp i p u a b).2 hF⟩⟩, Reads.wider h2 hF, Reads.wider h3 hF⟩
theorem ConfAt.later {w w' : World} {v : Value} {c : ConfD} (h : ConfAt w (fun k => k < w.heap.size) v c) (hb : Below w.heap.size w w') : ConfAt w' (fun k => k < w'.heap.size) v c :=
  (h.on (fun k _ hF => hb.block k hF)).wider (fun k hk => by have := hb.size; omega)

set_option maxRecDepth 100000 in
set_option maxHeartbeats 1600000 in
theorem prints_any (c : ConfD) (hi : ConfI c) (v : Value) (w : World) (hT : TabsP w) (hC : ConfAt w (fun k => k < w.heap.size) v c) :
    Calls Tryd.prog 7 #[v] w fun e w' => e = .returned (.bool true) ∧ Below w.heap.size w w' := by
  have HC := Lib.hid (fun W (hb : Below w.heap.size w W) => hC.later hb)
  have HA := Lib.hid (fun W (hb : Below w.heap.size w W) => awake33_any W (hT.on hb))
  have HF := Lib.hid (fun W (hb : Below w.heap.size w W) => few_any c v W (hC.later hb))
  have HP := Lib.hid (fun (ho : ConfOk c) W (hb : Below w.heap.size w W) => print_any c ho v W (fun W' h => (hT.on (hb.trans (h.mono hb.size))).tabs) (hC.later hb))
  have HR := Lib.hid (fun (ho : ConfOk c) W (hb : Below w.heap.size w W) => refPrint_any c ho v W (hC.later hb))
  have HO := Lib.hid (fun (h : fewC c = true) => fewC_ok hi h)
  have HT := Lib.hid (fun W (hb : Below w.heap.size w W) => hT.on hb)
  obtain ⟨v1, v2, v3, rfl, h1, h2, h3⟩ := hC
  obtain ⟨A1, c1, rfl⟩ : ∃ A c', v1 = .slice A c.parts.length c' := by obtain ⟨_, _, ⟨_, A, c', e, _⟩, _⟩ := h1; exact ⟨A, c', e⟩
  obtain ⟨A2, c2, rfl⟩ : ∃ A c', v2 = .slice A c.wins.length c' := by obtain ⟨_, A, c', e, _⟩ := h2; exact ⟨A, c', e⟩
  obtain ⟨A3, c3, rfl⟩ : ∃ A c', v3 = .slice A c.chans.length c' := by obtain ⟨_, A, c', e, _⟩ := h3; exact ⟨A, c', e⟩
  have hb0 : Below (w.heap.size + 1) (w.alloc (.cells #[.slice A1 c.parts.length c1, .slice A2 c.wins.length c2, .slice A3 c.chans.length c3] 41)) (w.alloc (.cells #[.slice A1 c.parts.length c1, .slice A2 c.wins.length c2, .slice A3 c.chans.length c3] 41)) := Below.refl _ _
  have Hb0 := Lib.hid hb0
  clear h1 h2 h3 hT hi hb0
  go_enter Tryd.func7, Tryd.ntmps7
  go_wp2_with fail
  go_at_call 17
  refine (HA.out _ (box_below Hb0.out)).mono ?_
  rintro e w1 ⟨rfl, hb1⟩
  have Hb1 := Lib.hid (box_next Hb0.out hb1)
  have r0 := box_row Hb1.out 0
  have r1 := box_row Hb1.out 1
  have r2 := box_row Hb1.out 2
  simp only [List.getElem?_toArray, List.getElem?_cons_succ, List.getElem?_cons_zero] at r0 r1 r2
  clear hb1
  go_wp2_with fail
  go_at_call 21
  refine (HF.out _ (box_below Hb1.out)).mono ?_
  rintro e w2 ⟨rfl, hb2⟩
  have Hb2 := Lib.hid (box_next Hb1.out hb2)
  clear hb2 r0 r1 r2 HF
  by_cases hf : fewC c = true
  · have ho := HO.out hf
    have HP := Lib.hid (HP.out ho)
    have HR := Lib.hid (HR.out ho)
    rw [hf]
    have r0 := box_row Hb2.out 0
    have r1 := box_row Hb2.out 1
    have r2 := box_row Hb2.out 2
    simp only [List.getElem?_toArray, List.getElem?_cons_succ, List.getElem?_cons_zero] at r0 r1 r2
    obtain ⟨y, k, hy⟩ : ∃ y k, printV c = .tuple #[.string (sb y), .int .i64 k] := ⟨_, _, rfl⟩
    clear ho
    rw [hy] at HP HR
    go_wp2_with fail
    go_at_call 22
    refine (HP.out _ (box_below Hb2.out)).mono ?_
    rintro e w3 ⟨rfl, hb3⟩
    have Hb3 := Lib.hid (box_next Hb2.out hb3)
    clear hb3 r0 r1 r2
    have r0 := box_row Hb3.out 0
    have r1 := box_row Hb3.out 1
    have r2 := box_row Hb3.out 2
    simp only [List.getElem?_toArray, List.getElem?_cons_succ, List.getElem?_cons_zero] at r0 r1 r2
    go_wp2_with fail
    go_at_call 23
    refine (HR.out _ (box_below Hb3.out)).mono ?_
    rintro e w4 ⟨rfl, hb4⟩
    have Hb4 := Lib.hid (box_next Hb3.out hb4)
    clear hb4 r0 r1 r2
    go_wp2
    go_ret
    exact ⟨rfl, box_below Hb4.out⟩
  · have hf' : fewC c = false := by simpa using hf
    rw [hf']
    go_wp2_with fail
    go_at_call 17
    refine (HA.out _ (box_below Hb2.out)).mono ?_
    rintro e w3 ⟨rfl, hb3⟩
    have Hb3 := Lib.hid (box_next Hb2.out hb3)
    clear hb3
    go_wp2
    go_ret
    exact ⟨rfl, box_below Hb3.out⟩
end Go.Proofs.YtpmafppcccbmaaaDoor
