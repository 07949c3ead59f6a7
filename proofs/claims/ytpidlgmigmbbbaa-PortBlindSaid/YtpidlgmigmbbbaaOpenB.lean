/-
  Among a claim's arguments, opened: an array of three small numbers; a slice of ops.
-/
import Derived.Test.YtpidlgmigmbbbaaOpen
import Derived.Test.YtpidlgmigmbbbaaThread
import Derived.OpenShut
import Derived.Lib.SmallJoins
set_option linter.unusedVariables false
set_option linter.unusedSimpArgs false
namespace Go.Proofs.Ytpidlgmigmbbbaa
open Go.ChangeShapes Go.WideShapes Go.ChangeAt Go.RowKit

/-- An op of layer 23. -/
structure Op23 where
  kind : Int
  sec : Bool
  o : Int
  inn : Int
  v : Int
def op23Cells (c : Op23) : List Value := [.int .u8 c.kind, .bool c.sec, .int .i64 c.o, .int .i64 c.inn, .int .i64 c.v]
def encOp23s (l : List Op23) : List Value := l.flatMap op23Cells
def Op23sAt (w : World) (F : Nat → Prop) (v : Value) (l : List Op23) : Prop := Reads w F v l.length 5 (encOp23s l)
structure Op23.ok (c : Op23) : Prop where
  kind : 0 ≤ c.kind ∧ c.kind ≤ 255
  o : I64 c.o
  inn : I64 c.inn
  v : I64 c.v
section
variable {H : Type} {enc : TypeId × Value → H} {w : World} {base : Nat} {spare : Nat → Bool} {held : Bool}
theorem fiveC {α : Type} {xs : List α} (h : xs.length = 5) : ∃ a0 a1 a2 a3 a4, xs = [a0, a1, a2, a3, a4] := by
  match xs, h with
  | [a0, a1, a2, a3, a4], _ => exact ⟨a0, a1, a2, a3, a4, rfl⟩
set_option maxRecDepth 100000 in
theorem open_op23 {fuel : Nat} {cs : List Value} {x : DataW H × List MemPlace} (hl : cs.length = 5) (h : DataW.trod enc Try.prog w base spare held fuel 46 cs = some x) :
    ∃ (c : Op23), cs = op23Cells c ∧ c.ok := by
  obtain ⟨a0, a1, a2, a3, a4, rfl⟩ := fiveC hl
  obtain ⟨xs, n, _, _, _, hlen, hf⟩ := DataW.trod_struct Try.underlying46 h
  have hc1 : Try.prog.cellsOf 3 = 1 := by kernel_rfl
  have hc2 : Try.prog.cellsOf 2 = 1 := by kernel_rfl
  have hc4 : Try.prog.cellsOf 4 = 1 := by kernel_rfl
  have hc5 : Try.prog.cellsOf 5 = 1 := by kernel_rfl
  obtain ⟨x0, x1, x2, x3, x4, rfl⟩ := fiveC (xs := xs) hlen
  have h0 := hf 0 _ rfl
  have h1 := hf 1 _ rfl
  have h2 := hf 2 _ rfl
  have h3 := hf 3 _ rfl
  have h4 := hf 4 _ rfl
  clear hf h
  simp [hc1, hc2, hc4, hc5] at h0 h1 h2 h3 h4
  obtain ⟨k0, e0, _, w0⟩ := DataW.trod_int Try.underlying5 h0
  obtain ⟨k1, e1, _⟩ := DataW.trod_bool Try.underlying4 h1
  obtain ⟨k2, e2, _, w2⟩ := DataW.trod_int Try.underlying3 h2
  obtain ⟨k3, e3, _, w3⟩ := DataW.trod_int Try.underlying3 h3
  obtain ⟨k4, e4, _, w4⟩ := DataW.trod_int Try.underlying2 h4
  simp only [List.cons.injEq, and_true] at e0 e1 e2 e3 e4
  subst e0 e1 e2 e3 e4
  exact ⟨⟨k0, k1, k2, k3, k4⟩, rfl, ⟨(bounds_u8 w0).1, by have := (bounds_u8 w0).2; omega⟩, bounds_i64 w2, bounds_i64 w3, bounds_i64 w4⟩
theorem flat_op23s : ∀ (L : List (List Value)) (os : List Op23), L.length = os.length → (∀ (i : Nat) (l : List Value) (c : Op23), L[i]? = some l → os[i]? = some c → l = op23Cells c ∧ c.ok) → L.flatten = encOp23s os
  | [], [], _, _ => rfl
  | [], _ :: _, h, _ => by simp at h
  | _ :: _, [], h, _ => by simp at h
  | l :: L, c :: cs, h, hq => by
    have e := flat_op23s L cs (by simpa using h) (fun i l c h1 h2 => hq (i + 1) l c (by simpa using h1) (by simpa using h2))
    have h0 := (hq 0 l c rfl rfl).1
    simp only [encOp23s, List.flatMap_cons] at e ⊢
    rw [List.flatten_cons, e, h0]
set_option maxRecDepth 100000 in
theorem open_op23s {r : Reach} {b0 : Nat} {v : Value} {d : DataW H} {ps : List MemPlace} (hval : Value.okWide Try.prog w r b0 56 v) (h : DataW.Trod enc Try.prog w base spare held 56 v d ps) :
    ∃ xs : List Op23, Op23sAt w (fun _ => True) v xs ∧ ∀ x ∈ xs, x.ok := by
  obtain ⟨A, ln, cp, rfl⟩ := okWide_slice Try.underlying56 hval
  obtain ⟨n, hn⟩ := h
  obtain ⟨v', xs, L, e0, hL, hR, hq⟩ := open_row (α := Op23) (fun l c => l = op23Cells c ∧ c.ok) 5 (by omega) Try.underlying56 (by kernel_rfl) (fun n cs' y hl hy => open_op23 hl hy) hn
  have hv : Value.slice A ln cp = v' := by simpa [Value.cells] using e0
  subst hv
  rw [flat_op23s L xs hL hq] at hR
  refine ⟨xs, hR, fun x hx => ?_⟩
  obtain ⟨i, hi, rfl⟩ := List.getElem_of_mem hx
  exact (hq i L[i] xs[i] (List.getElem?_eq_getElem (by omega)) (List.getElem?_eq_getElem hi)).2
set_option maxRecDepth 100000 in
theorem open_u8x3 {r : Reach} {b0 : Nat} {v : Value} {d : DataW H} {ps : List MemPlace} (hv : Value.okWide Try.prog w r b0 55 v) (h : DataW.Trod enc Try.prog w base spare held 55 v d ps) :
    ∃ a b c : Int, v = .agg #[.int .u8 a, .int .u8 b, .int .u8 c] ∧ (0 ≤ a ∧ a ≤ 255) ∧ (0 ≤ b ∧ b ≤ 255) ∧ (0 ≤ c ∧ c ≤ 255) := by
  have hsz : Try.prog.cellsOf 55 = 3 := by kernel_rfl
  have hc5 : Try.prog.cellsOf 5 = 1 := by kernel_rfl
  simp only [Value.okWide, Try.underlying55] at hv
  obtain ⟨cs, rfl, h2, _⟩ := hv
  obtain ⟨c0, c1, c2, rfl⟩ := Go.Joins.array3 (h2.trans hsz)
  obtain ⟨fuel, hf⟩ := h
  cases fuel with
  | zero => simp [DataW.trod] at hf
  | succ m =>
    rw [DataW.trod_step] at hf
    unfold DataW.trodStep at hf
    simp only [Try.underlying55, Value.cells, hsz, hc5] at hf
    rw [if_pos (by rfl)] at hf
    simp only [Option.map_eq_some_iff] at hf
    obtain ⟨ys, hy, _⟩ := hf
    rw [show List.range 3 = [0, 1, 2] by rfl] at hy
    simp only [List.mapM_cons, List.mapM_nil, bind, Option.bind_eq_some_iff, pure, Option.some.injEq] at hy
    obtain ⟨y0, hy0, _, ⟨y1, hy1, _, ⟨y2, hy2, _⟩, _⟩, _⟩ := hy
    obtain ⟨a, ea, _, wa⟩ := DataW.trod_int Try.underlying5 hy0
    obtain ⟨b, eb, _, wb⟩ := DataW.trod_int Try.underlying5 hy1
    obtain ⟨c, ec, _, wc⟩ := DataW.trod_int Try.underlying5 hy2
    simp at ea eb ec
    subst ea eb ec
    exact ⟨a, b, c, rfl, ⟨(bounds_u8 wa).1, by have := (bounds_u8 wa).2; omega⟩, ⟨(bounds_u8 wb).1, by have := (bounds_u8 wb).2; omega⟩, ⟨(bounds_u8 wc).1, by have := (bounds_u8 wc).2; omega⟩⟩
end
end Go.Proofs.Ytpidlgmigmbbbaa
