/-
  A configuration among a claim's arguments, opened.
-/
import Derived.Test.YtpmafppcccbmaaaDoorOpen
import Derived.Test.YtpmafppcccbmaaaDoorFew
set_option linter.unusedVariables false
set_option linter.unusedSimpArgs false
namespace Go.Proofs.YtpmafppcccbmaaaDoor
open Go.RowKit

def ThrI (t : ThreadD) : Prop := I64 t.prio ∧ 0 ≤ t.caps ∧ t.caps ≤ 4294967295 ∧ ∀ c ∈ t.prog, CallOk c
def PartI (P : PartD) : Prop := (∀ t ∈ P.thr, ThrI t) ∧ ∀ o ∈ P.obj, ObjOk o
structure ConfI (c : ConfD) : Prop where
  parts : ∀ p ∈ c.parts, PartI p
  wins : ∀ x ∈ c.wins, WinOk x
  chans : ∀ x ∈ c.chans, ChanOk x

theorem Reads.inside {w : World} {v : Value} {n stride : Nat} {cells : List Value} (hs : 0 < stride) (h : Reads w (fun _ => True) v n stride cells) : Reads w (fun k => k < w.heap.size) v n stride cells := by
  obtain ⟨h1, A, c, h2, h3⟩ := h
  refine ⟨h1, A, c, h2, fun hn => ?_⟩
  obtain ⟨b, o, e, _, hc⟩ := h3 hn
  have hl : 0 < cells.length := by rw [h1]; exact Nat.mul_pos hn hs
  have := World.block_lt_of_cell? w _ (hc 0 _ (List.getElem?_eq_getElem hl))
  exact ⟨b, o, e, this, hc⟩
theorem mem_row {α : Type} {Q : List Value → α → Prop} {L : List (List Value)} {xs : List α} (hl : L.length = xs.length) (h : ∀ (i : Nat) (l : List Value) (a : α), L[i]? = some l → xs[i]? = some a → Q l a) (a : α) (ha : a ∈ xs) : ∃ l, Q l a := by
  obtain ⟨i, hi⟩ := List.mem_iff_getElem?.1 ha
  have hlt := (List.getElem?_eq_some_iff.1 hi).1
  exact ⟨_, h i _ a (List.getElem?_eq_getElem (by omega)) hi⟩
theorem flat_row {α : Type} (f : α → List Value) : ∀ (L : List (List Value)) (xs : List α), L.length = xs.length → (∀ (i : Nat) (l : List Value) (a : α), L[i]? = some l → xs[i]? = some a → l = f a) → L.flatten = xs.flatMap f
  | [], [], _, _ => rfl
  | [], _ :: _, h, _ => by simp at h
  | _ :: _, [], h, _ => by simp at h
  | l :: L, c :: cs, h, hq => by
    rw [List.flatten_cons, List.flatMap_cons, flat_row f L cs (by simpa using h) (fun i l c h1 h2 => hq (i + 1) l c (by simpa using h1) (by simpa using h2)), hq 0 l c rfl rfl]
theorem CallsAt.inside {w : World} {v : Value} {cs : List CallD} (h : CallsAt w (fun _ => True) v cs) : CallsAt w (fun k => k < w.heap.size) v cs := by
  obtain ⟨ws, h1, h2, h3⟩ := h
  exact ⟨ws, h1, h2.inside (by omega), fun i c u hc hu => Reads.inside (by omega) (h3 i c u hc hu)⟩
theorem ThreadsAt.inside {w : World} {v : Value} {cs : List ThreadD} (h : ThreadsAt w (fun _ => True) v cs) : ThreadsAt w (fun k => k < w.heap.size) v cs := by
  obtain ⟨ws, h1, h2, h3⟩ := h
  exact ⟨ws, h1, h2.inside (by omega), fun i c u hc hu => CallsAt.inside (h3 i c u hc hu)⟩
section
variable {H : Type} {enc : TypeId × Value → H} {w : World} {base : Nat} {spare : Nat → Bool} {held : Bool}

theorem open_calls {fuel : Nat} {cs : List Value} {x : DataW H × List MemPlace} (h : DataW.trod enc Tryd.prog w base spare held fuel 89 cs = some x) :
    ∃ (v : Value) (xs : List CallD), cs = [v] ∧ CallsAt w (fun _ => True) v xs ∧ ∀ c ∈ xs, CallOk c := by
  obtain ⟨v, xs, L, rfl, hL, hR, hq⟩ := open_row (α := CallD) (fun l c => ∃ u, l = callCells c u ∧ IntsAt w (fun _ => True) u c.words ∧ CallOk c) 6 (by omega) Tryd.underlying89 (by kernel_rfl) (fun n cs' y hl hy => open_call hl hy) h
  obtain ⟨ws, e1, e2, e3⟩ := flat_calls L xs hL (fun i l c h1 h2 => by obtain ⟨u, a, b, _⟩ := hq i l c h1 h2; exact ⟨u, a, b⟩)
  exact ⟨v, xs, rfl, ⟨ws, e1, by rw [← e2]; exact hR, e3⟩, fun c hc => by obtain ⟨l, u, _, _, h⟩ := mem_row hL hq c hc; exact h⟩
theorem four {α : Type} {xs : List α} (h : xs.length = 4) : ∃ a0 a1 a2 a3, xs = [a0, a1, a2, a3] := by
  match xs, h with
  | [a0, a1, a2, a3], _ => exact ⟨a0, a1, a2, a3, rfl⟩
theorem three {α : Type} {xs : List α} (h : xs.length = 3) : ∃ a0 a1 a2, xs = [a0, a1, a2] := by
  match xs, h with
  | [a0, a1, a2], _ => exact ⟨a0, a1, a2, rfl⟩
theorem two {α : Type} {xs : List α} (h : xs.length = 2) : ∃ a0 a1, xs = [a0, a1] := by
  match xs, h with
  | [a0, a1], _ => exact ⟨a0, a1, rfl⟩
set_option maxRecDepth 100000 in
theorem open_thread {fuel : Nat} {cs : List Value} {x : DataW H × List MemPlace} (hl : cs.length = 4) (h : DataW.trod enc Tryd.prog w base spare held fuel 91 cs = some x) :
    ∃ (c : ThreadD) (u : Value), cs = threadCells c u ∧ CallsAt w (fun _ => True) u c.prog ∧ ThrI c := by
  obtain ⟨a0, a1, a2, a3, rfl⟩ := four hl
  obtain ⟨xs, n, _, _, _, hlen, hf⟩ := DataW.trod_struct Tryd.underlying91 h
  have hc1 : Tryd.prog.cellsOf 3 = 1 := by kernel_rfl
  have hc3 : Tryd.prog.cellsOf 89 = 1 := by kernel_rfl
  have hc4 : Tryd.prog.cellsOf 4 = 1 := by kernel_rfl
  have hc5 : Tryd.prog.cellsOf 88 = 1 := by kernel_rfl
  obtain ⟨x0, x1, x2, x3, rfl⟩ := four (xs := xs) hlen
  have h0 := hf 0 _ rfl
  have h1 := hf 1 _ rfl
  have h2 := hf 2 _ rfl
  have h3 := hf 3 _ rfl
  clear hf h
  simp [hc1, hc3, hc4, hc5] at h0 h1 h2 h3
  obtain ⟨k0, e0, _, w0⟩ := DataW.trod_int Tryd.underlying3 h0
  obtain ⟨k1, e1, _, hw⟩ := DataW.trod_int Tryd.underlying88 h1
  obtain ⟨k2, e2, _⟩ := DataW.trod_bool Tryd.underlying4 h2
  obtain ⟨v, ws, e3, hc, hok⟩ := open_calls h3
  simp only [List.cons.injEq, and_true] at e0 e1 e2 e3
  subst e0 e1 e2 e3
  have hb := bounds_u32 hw
  exact ⟨⟨k0, k1, k2, ws⟩, _, rfl, hc, bounds_i64 w0, hb.1, hb.2, hok⟩
theorem open_threads {fuel : Nat} {cs : List Value} {x : DataW H × List MemPlace} (h : DataW.trod enc Tryd.prog w base spare held fuel 70 cs = some x) :
    ∃ (v : Value) (xs : List ThreadD), cs = [v] ∧ ThreadsAt w (fun _ => True) v xs ∧ ∀ t ∈ xs, ThrI t := by
  obtain ⟨v, xs, L, rfl, hL, hR, hq⟩ := open_row (α := ThreadD) (fun l c => ∃ u, l = threadCells c u ∧ CallsAt w (fun _ => True) u c.prog ∧ ThrI c) 4 (by omega) Tryd.underlying70 (by kernel_rfl) (fun n cs' y hl hy => open_thread hl hy) h
  obtain ⟨ws, e1, e2, e3⟩ := flat_threads L xs hL (fun i l c h1 h2 => by
    obtain ⟨u, a, b, _⟩ := hq i l c h1 h2
    exact ⟨u, a, b⟩)
  exact ⟨v, xs, rfl, ⟨ws, e1, by rw [← e2]; exact hR, e3⟩, fun c hc => by obtain ⟨l, u, _, _, h⟩ := mem_row hL hq c hc; exact h⟩
set_option maxRecDepth 100000 in
theorem open_obj {fuel : Nat} {cs : List Value} {x : DataW H × List MemPlace} (hl : cs.length = 3) (h : DataW.trod enc Tryd.prog w base spare held fuel 86 cs = some x) :
    ∃ (c : ObjD), cs = [.int .i64 c.kind, .int .i64 c.size, .bool c.prio] ∧ ObjOk c := by
  obtain ⟨a0, a1, a2, rfl⟩ := three hl
  obtain ⟨xs, n, _, _, _, hlen, hf⟩ := DataW.trod_struct Tryd.underlying86 h
  have hc1 : Tryd.prog.cellsOf 3 = 1 := by kernel_rfl
  have hc4 : Tryd.prog.cellsOf 4 = 1 := by kernel_rfl
  obtain ⟨x0, x1, x2, rfl⟩ := three (xs := xs) hlen
  have h0 := hf 0 _ rfl
  have h1 := hf 1 _ rfl
  have h2 := hf 2 _ rfl
  clear hf h
  simp [hc1, hc4] at h0 h1 h2
  obtain ⟨k0, e0, _, w0⟩ := DataW.trod_int Tryd.underlying3 h0
  obtain ⟨k1, e1, _, w1⟩ := DataW.trod_int Tryd.underlying3 h1
  obtain ⟨k2, e2, _⟩ := DataW.trod_bool Tryd.underlying4 h2
  simp only [List.cons.injEq, and_true] at e0 e1 e2
  subst e0 e1 e2
  exact ⟨⟨k0, k1, k2⟩, rfl, bounds_i64 w0, bounds_i64 w1⟩
theorem open_objs {fuel : Nat} {cs : List Value} {x : DataW H × List MemPlace} (h : DataW.trod enc Tryd.prog w base spare held fuel 71 cs = some x) :
    ∃ (v : Value) (xs : List ObjD), cs = [v] ∧ ObjsAt w (fun _ => True) v xs ∧ ∀ o ∈ xs, ObjOk o := by
  obtain ⟨v, xs, L, rfl, hL, hR, hq⟩ := open_row (α := ObjD) (fun l c => l = [.int .i64 c.kind, .int .i64 c.size, .bool c.prio] ∧ ObjOk c) 3 (by omega) Tryd.underlying71 (by kernel_rfl) (fun n cs' y hl hy => open_obj hl hy) h
  refine ⟨v, xs, rfl, ?_, fun c hc => by obtain ⟨l, _, h⟩ := mem_row hL hq c hc; exact h⟩
  rw [flat_row (fun c : ObjD => [.int .i64 c.kind, .int .i64 c.size, .bool c.prio]) L xs hL (fun i l c h1 h2 => (hq i l c h1 h2).1)] at hR
  exact hR
set_option maxRecDepth 100000 in
theorem open_win {fuel : Nat} {cs : List Value} {x : DataW H × List MemPlace} (hl : cs.length = 2) (h : DataW.trod enc Tryd.prog w base spare held fuel 61 cs = some x) :
    ∃ (c : WinD), cs = [.int .i64 c.part, .int .i64 c.ticks] ∧ WinOk c := by
  obtain ⟨a0, a1, rfl⟩ := two hl
  obtain ⟨xs, n, _, _, _, hlen, hf⟩ := DataW.trod_struct Tryd.underlying61 h
  have hc1 : Tryd.prog.cellsOf 3 = 1 := by kernel_rfl
  obtain ⟨x0, x1, rfl⟩ := two (xs := xs) hlen
  have h0 := hf 0 _ rfl
  have h1 := hf 1 _ rfl
  clear hf h
  simp [hc1] at h0 h1
  obtain ⟨k0, e0, _, w0⟩ := DataW.trod_int Tryd.underlying3 h0
  obtain ⟨k1, e1, _, w1⟩ := DataW.trod_int Tryd.underlying3 h1
  simp only [List.cons.injEq, and_true] at e0 e1
  subst e0 e1
  exact ⟨⟨k0, k1⟩, rfl, bounds_i64 w0, bounds_i64 w1⟩
set_option maxRecDepth 100000 in
theorem open_chan {fuel : Nat} {cs : List Value} {x : DataW H × List MemPlace} (hl : cs.length = 4) (h : DataW.trod enc Tryd.prog w base spare held fuel 83 cs = some x) :
    ∃ (c : ChanD), cs = [.int .i64 c.frm, .int .i64 c.out, .int .i64 c.tgt, .int .i64 c.inn] ∧ ChanOk c := by
  obtain ⟨a0, a1, a2, a3, rfl⟩ := four hl
  obtain ⟨xs, n, _, _, _, hlen, hf⟩ := DataW.trod_struct Tryd.underlying83 h
  have hc1 : Tryd.prog.cellsOf 3 = 1 := by kernel_rfl
  obtain ⟨x0, x1, x2, x3, rfl⟩ := four (xs := xs) hlen
  have h0 := hf 0 _ rfl
  have h1 := hf 1 _ rfl
  have h2 := hf 2 _ rfl
  have h3 := hf 3 _ rfl
  clear hf h
  simp [hc1] at h0 h1 h2 h3
  obtain ⟨k0, e0, _, w0⟩ := DataW.trod_int Tryd.underlying3 h0
  obtain ⟨k1, e1, _, w1⟩ := DataW.trod_int Tryd.underlying3 h1
  obtain ⟨k2, e2, _, w2⟩ := DataW.trod_int Tryd.underlying3 h2
  obtain ⟨k3, e3, _, w3⟩ := DataW.trod_int Tryd.underlying3 h3
  simp only [List.cons.injEq, and_true] at e0 e1 e2 e3
  subst e0 e1 e2 e3
  exact ⟨⟨k0, k1, k2, k3⟩, rfl, bounds_i64 w0, bounds_i64 w1, bounds_i64 w2, bounds_i64 w3⟩
set_option maxRecDepth 100000 in
theorem open_partc {fuel : Nat} {cs : List Value} {x : DataW H × List MemPlace} (hl : cs.length = 2) (h : DataW.trod enc Tryd.prog w base spare held fuel 73 cs = some x) :
    ∃ (p : PartD), (∃ u : Value × Value, cs = [u.1, u.2] ∧ ThreadsAt w (fun _ => True) u.1 p.thr ∧ ObjsAt w (fun _ => True) u.2 p.obj) ∧ PartI p := by
  obtain ⟨a0, a1, rfl⟩ := two hl
  obtain ⟨xs, n, _, _, _, hlen, hf⟩ := DataW.trod_struct Tryd.underlying73 h
  have hc1 : Tryd.prog.cellsOf 70 = 1 := by kernel_rfl
  have hc2 : Tryd.prog.cellsOf 71 = 1 := by kernel_rfl
  obtain ⟨x0, x1, rfl⟩ := two (xs := xs) hlen
  have h0 := hf 0 _ rfl
  have h1 := hf 1 _ rfl
  clear hf h
  simp [hc1, hc2] at h0 h1
  obtain ⟨u0, ts, e0, ht, hto⟩ := open_threads h0
  obtain ⟨u1, os, e1, ho, hoo⟩ := open_objs h1
  simp only [List.cons.injEq, and_true] at e0 e1
  subst e0 e1
  exact ⟨⟨ts, os⟩, ⟨(_, _), rfl, ht, ho⟩, hto, hoo⟩
theorem flat_parts : ∀ (L : List (List Value)) (cs : List PartD), L.length = cs.length → (∀ (i : Nat) (l : List Value) (p : PartD), L[i]? = some l → cs[i]? = some p → ∃ u : Value × Value, l = [u.1, u.2] ∧ ThreadsAt w (fun _ => True) u.1 p.thr ∧ ObjsAt w (fun _ => True) u.2 p.obj) →
    ∃ us : List (Value × Value), us.length = cs.length ∧ L.flatten = us.flatMap (fun u => [u.1, u.2]) ∧ ∀ (i : Nat) (p : PartD) (u : Value × Value), cs[i]? = some p → us[i]? = some u → ThreadsAt w (fun _ => True) u.1 p.thr ∧ ObjsAt w (fun _ => True) u.2 p.obj
  | [], [], _, _ => ⟨[], rfl, rfl, fun i c u h => by simp at h⟩
  | [], _ :: _, h, _ => by simp at h
  | _ :: _, [], h, _ => by simp at h
  | l :: L, c :: cs, h, hq => by
    obtain ⟨ws, e1, e2, e3⟩ := flat_parts L cs (by simpa using h) (fun i l c h1 h2 => hq (i + 1) l c (by simpa using h1) (by simpa using h2))
    obtain ⟨u, rfl, hu⟩ := hq 0 l c rfl rfl
    refine ⟨u :: ws, by simp [e1], by simp [e2], fun i c' u' h1 h2 => ?_⟩
    cases i with
    | zero => simp at h1 h2; subst h1; subst h2; exact hu
    | succ i => exact e3 i c' u' (by simpa using h1) (by simpa using h2)

set_option maxRecDepth 100000 in
/-- A configuration among the arguments. -/
theorem open_conf {r : Reach} {b0 : Nat} {v : Value} {d : DataW H} {ps : List MemPlace} (hv : Value.okWide Tryd.prog w r b0 41 v) (h : DataW.Trod enc Tryd.prog w base spare held 41 v d ps) :
    ∃ c : ConfD, ConfI c ∧ ConfAt w (fun k => k < w.heap.size) v c := by
  obtain ⟨v0, v1, v2, y0, y1, y2, n, rfl, _, _, h0, h1, h2⟩ := Go.Joins.open_agg3 Tryd.underlying41 (by kernel_rfl) (by kernel_rfl) hv h
  obtain ⟨u0, xs0, L0, e0, hL0, hR0, hq0⟩ := open_row (α := PartD) (fun l p => (∃ u : Value × Value, l = [u.1, u.2] ∧ ThreadsAt w (fun _ => True) u.1 p.thr ∧ ObjsAt w (fun _ => True) u.2 p.obj) ∧ PartI p) 2 (by omega) Tryd.underlying37 (by kernel_rfl) (fun n cs' y hl hy => open_partc hl hy) h0
  obtain ⟨u1, xs1, L1, e1, hL1, hR1, hq1⟩ := open_row (α := WinD) (fun l c => l = [.int .i64 c.part, .int .i64 c.ticks] ∧ WinOk c) 2 (by omega) Tryd.underlying38 (by kernel_rfl) (fun n cs' y hl hy => open_win hl hy) h1
  obtain ⟨u2, xs2, L2, e2, hL2, hR2, hq2⟩ := open_row (α := ChanD) (fun l c => l = [.int .i64 c.frm, .int .i64 c.out, .int .i64 c.tgt, .int .i64 c.inn] ∧ ChanOk c) 4 (by omega) Tryd.underlying39 (by kernel_rfl) (fun n cs' y hl hy => open_chan hl hy) h2
  simp only [List.cons.injEq, and_true] at e0 e1 e2
  subst e0 e1 e2
  obtain ⟨us, f1, f2, f3⟩ := flat_parts L0 xs0 hL0 (fun i l p a b => (hq0 i l p a b).1)
  rw [f2] at hR0
  rw [flat_row (fun c : WinD => [.int .i64 c.part, .int .i64 c.ticks]) L1 xs1 hL1 (fun i l c h1 h2 => (hq1 i l c h1 h2).1)] at hR1
  rw [flat_row (fun c : ChanD => [.int .i64 c.frm, .int .i64 c.out, .int .i64 c.tgt, .int .i64 c.inn]) L2 xs2 hL2 (fun i l c h1 h2 => (hq2 i l c h1 h2).1)] at hR2
  refine ⟨⟨xs0, xs1, xs2⟩, ⟨fun c hc => ?_, fun c hc => ?_, fun c hc => ?_⟩, _, _, _, rfl, ⟨us, f1, hR0.inside (by omega), fun i p u hp hu => ?_⟩, hR1.inside (by omega), hR2.inside (by omega)⟩
  · obtain ⟨l, _, h⟩ := mem_row hL0 hq0 c hc; exact h
  · obtain ⟨l, _, h⟩ := mem_row hL1 hq1 c hc; exact h
  · obtain ⟨l, _, h⟩ := mem_row hL2 hq2 c hc; exact h
  · obtain ⟨a, b⟩ := f3 i p u hp hu
    exact ⟨a.inside, Reads.inside (by omega) b⟩
end
end Go.Proofs.YtpmafppcccbmaaaDoor
