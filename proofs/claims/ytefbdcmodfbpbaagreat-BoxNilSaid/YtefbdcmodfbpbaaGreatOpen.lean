/-
  A partition among a claim's arguments, opened: what its reading says of memory.
-/
import Derived.Test.YtefbdcmodfbpbaaGreatConfig
import Derived.Deep.Slices
import Derived.Deep.Strs
import Derived.Lib.SmallJoins
import Derived.ProofKit
import Derived.OpenShut
set_option linter.unusedVariables false
set_option linter.unusedSimpArgs false
namespace Go.Proofs.YtefbdcmodfbpbaaGreat
open Go.RowKit
section
variable {H : Type} {enc : TypeId × Value → H} {w : World} {base : Nat} {spare : Nat → Bool} {held : Bool}

theorem cell_add {a : Addr} {j : Nat} {u : Value} (h : w.cell? a = some u) : a = ⟨a.block, a.off, none⟩ := by
  obtain ⟨b, o, s⟩ := a
  cases s with
  | none => rfl
  | some s =>
    unfold World.cell? at h
    simp at h
    split at h <;> simp_all
theorem flat_get {S : Nat} : ∀ (L : List (List Value)), (∀ l ∈ L, l.length = S) → L.flatten.length = L.length * S ∧ ∀ (j : Nat) (u : Value), L.flatten[j]? = some u → ∃ i k l, j = i * S + k ∧ k < S ∧ L[i]? = some l ∧ l[k]? = some u
  | [], _ => ⟨by simp, fun j u h => by simp at h⟩
  | x :: L, h => by
    obtain ⟨h1, h2⟩ := flat_get (S := S) L (fun l hl => h l (by simp [hl]))
    have hx := h x (by simp)
    refine ⟨by simp only [List.flatten_cons, List.length_append, h1, hx, List.length_cons]; rw [Nat.add_mul]; omega, fun j u hj => ?_⟩
    simp only [List.flatten_cons] at hj
    rcases Nat.lt_or_ge j S with hlt | hge
    · rw [List.getElem?_append_left (by omega)] at hj
      exact ⟨0, j, x, by omega, hlt, rfl, hj⟩
    · rw [List.getElem?_append_right (by omega), hx] at hj
      obtain ⟨i, k, l, e1, e2, e3, e4⟩ := h2 _ _ hj
      exact ⟨i + 1, k, l, by rw [Nat.add_mul]; omega, e2, by simpa using e3, e4⟩

/-- A slice's reading: its elements, each as its reading says ('Q'). -/
theorem open_row {α : Type} (Q : List Value → α → Prop) {t e : TypeId} (S : Nat) (hS : 0 < S) (ht : Tryz.prog.underlying t = some (.slice e)) (hc : Tryz.prog.cellsOf e = S)
    (hq : ∀ n cs' y, cs'.length = S → DataW.trod enc Tryz.prog w base spare held n e cs' = some y → ∃ a, Q cs' a)
    {fuel : Nat} {cs : List Value} {x : DataW H × List MemPlace} (h : DataW.trod enc Tryz.prog w base spare held fuel t cs = some x) :
    ∃ (v : Value) (xs : List α) (L : List (List Value)), cs = [v] ∧ L.length = xs.length ∧ Reads w (fun _ => True) v xs.length S L.flatten ∧ ∀ (i : Nat) (l : List Value) (a : α), L[i]? = some l → xs[i]? = some a → Q l a := by
  rcases Go.Deep.open_slice ht h with ⟨rfl, _⟩ | ⟨a, len, cap, m, n, D, Pl, rfl, _, hl, _, hm, _, hx⟩
  · exact ⟨_, [], [], rfl, rfl, ⟨by simp, none, 0, rfl, fun h => absurd h (by simp)⟩, fun i l a hh => by simp at hh⟩
  · have hlm : len ≤ m := by rw [hm]; split <;> omega
    have key : ∀ k, k ≤ len → ∃ (xs : List α) (L : List (List Value)), xs.length = k ∧ L.length = k ∧ (∀ (i : Nat) (l : List Value), L[i]? = some l → w.cells? base (a.add (i * S)) S = some l) ∧ ∀ (i : Nat) (l : List Value) (a : α), L[i]? = some l → xs[i]? = some a → Q l a := by
      intro k
      induction k with
      | zero => intro _; exact ⟨[], [], rfl, rfl, fun i l hh => by simp at hh, fun i l a hh => by simp at hh⟩
      | succ k ih =>
        intro hk
        obtain ⟨xs, L, e1, e2, e3, e4⟩ := ih (by omega)
        obtain ⟨cs', h1, h2⟩ := hx k (by omega)
        rw [hc] at h1
        obtain ⟨z, hz⟩ := hq n cs' _ (World.cells?_some h1).2.1 h2
        refine ⟨xs ++ [z], L ++ [cs'], by simp [e1], by simp [e2], fun i l hh => ?_, fun i l b hh hb => ?_⟩
        · rcases Nat.lt_or_ge i k with hi | hi
          · rw [List.getElem?_append_left (by omega)] at hh
            exact e3 i l hh
          · rw [List.getElem?_append_right (by omega), e2] at hh
            obtain ⟨rfl, rfl⟩ : i = k ∧ cs' = l := by
              rcases Nat.lt_or_ge k i with hki | hki
              · rw [List.getElem?_eq_none (by simp; omega)] at hh; cases hh
              · have : i = k := by omega
                subst this
                simp at hh
                exact ⟨rfl, hh⟩
            exact h1
        · rcases Nat.lt_or_ge i k with hi | hi
          · rw [List.getElem?_append_left (by omega)] at hh hb
            exact e4 i l b hh hb
          · rw [List.getElem?_append_right (by omega), e2] at hh
            rw [List.getElem?_append_right (by omega), e1] at hb
            obtain ⟨rfl, rfl⟩ : i = k ∧ cs' = l := by
              rcases Nat.lt_or_ge k i with hki | hki
              · rw [List.getElem?_eq_none (by simp; omega)] at hh; cases hh
              · have : i = k := by omega
                subst this
                simp at hh
                exact ⟨rfl, hh⟩
            simp at hb
            subst hb
            exact hz
    obtain ⟨xs, L, e1, e2, e3, e4⟩ := key len (Nat.le_refl _)
    have hL : ∀ l ∈ L, l.length = S := by
      intro l hl'
      obtain ⟨i, hi⟩ := List.mem_iff_getElem?.1 hl'
      exact (World.cells?_some (e3 i l hi)).2.1
    obtain ⟨g1, g2⟩ := flat_get L hL
    refine ⟨_, xs, L, rfl, by omega, ⟨by rw [g1, e1, e2], some a, cap, by rw [e1], fun hp => ?_⟩, e4⟩
    rw [e1] at hp
    have h0 : L[0]? = some (L[0]'(by omega)) := List.getElem?_eq_getElem (by omega)
    have hlen0 := hL _ (List.mem_of_getElem? h0)
    have hc0 := (World.cells?_some (e3 0 _ h0)).2.2 0 hS
    rw [Nat.zero_mul] at hc0
    have hz : (a.add 0).add 0 = a := by simp [Addr.add]
    rw [hz, List.getElem?_eq_getElem (by omega)] at hc0
    have ha := cell_add (j := 0) hc0
    refine ⟨a.block, a.off, by rw [← ha], trivial, fun j u hu => ?_⟩
    obtain ⟨i, k, l, rfl, q2, q3, q4⟩ := g2 j u hu
    have hck := (World.cells?_some (e3 i l q3)).2.2 k q2
    rw [q4, ha, Go.WideShapes.add_plain, Go.WideShapes.add_plain, Nat.add_assoc] at hck
    exact hck
/-- Words. -/
theorem open_words {fuel : Nat} {cs : List Value} {x : DataW H × List MemPlace} (h : DataW.trod enc Tryz.prog w base spare held fuel 26 cs = some x) :
    ∃ (v : Value) (xs : List Int), cs = [v] ∧ IntsAt w (fun _ => True) v xs := by
  obtain ⟨v, xs, L, rfl, hL, hR, hq⟩ := open_row (α := Int) (fun l a => l = [.int .i64 a]) 1 (by omega) Tryz.underlying26 (by kernel_rfl) (fun n cs' y hl hy => by
    obtain ⟨k, rfl, _, _⟩ := DataW.trod_int Tryz.underlying2 hy
    exact ⟨k, rfl⟩) h
  refine ⟨v, xs, rfl, ?_⟩
  have e : L.flatten = encInts xs := by
    clear hR h
    induction L generalizing xs with
    | nil => cases xs with | nil => rfl | cons a b => simp at hL
    | cons l L ih =>
      cases xs with
      | nil => simp at hL
      | cons a xs =>
        have h0 := hq 0 l a rfl rfl
        have := ih xs (by simpa using hL) (fun i l a h1 h2 => hq (i + 1) l a (by simpa using h1) (by simpa using h2))
        simp only [List.flatten_cons, this, h0, encInts, List.map_cons]
        rfl
  rw [e] at hR
  exact hR
theorem flat_calls : ∀ (L : List (List Value)) (cs : List CallD), L.length = cs.length → (∀ (i : Nat) (l : List Value) (c : CallD), L[i]? = some l → cs[i]? = some c → ∃ u, l = callCells c u ∧ IntsAt w (fun _ => True) u c.words) →
    ∃ ws : List Value, ws.length = cs.length ∧ L.flatten = encCalls cs ws ∧ ∀ (i : Nat) (c : CallD) (u : Value), cs[i]? = some c → ws[i]? = some u → IntsAt w (fun _ => True) u c.words
  | [], [], _, _ => ⟨[], rfl, rfl, fun i c u h => by simp at h⟩
  | [], _ :: _, h, _ => by simp at h
  | _ :: _, [], h, _ => by simp at h
  | l :: L, c :: cs, h, hq => by
    obtain ⟨ws, e1, e2, e3⟩ := flat_calls L cs (by simpa using h) (fun i l c h1 h2 => hq (i + 1) l c (by simpa using h1) (by simpa using h2))
    obtain ⟨u, rfl, hu⟩ := hq 0 l c rfl rfl
    refine ⟨u :: ws, by simp [e1], by simp [encCalls, e2], fun i c' u' h1 h2 => ?_⟩
    cases i with
    | zero => simp at h1 h2; subst h1; subst h2; exact hu
    | succ i => exact e3 i c' u' (by simpa using h1) (by simpa using h2)
theorem flat_threads : ∀ (L : List (List Value)) (cs : List ThreadD), L.length = cs.length → (∀ (i : Nat) (l : List Value) (c : ThreadD), L[i]? = some l → cs[i]? = some c → ∃ u, l = threadCells c u ∧ CallsAt w (fun _ => True) u c.prog) →
    ∃ ws : List Value, ws.length = cs.length ∧ L.flatten = encThreads cs ws ∧ ∀ (i : Nat) (c : ThreadD) (u : Value), cs[i]? = some c → ws[i]? = some u → CallsAt w (fun _ => True) u c.prog
  | [], [], _, _ => ⟨[], rfl, rfl, fun i c u h => by simp at h⟩
  | [], _ :: _, h, _ => by simp at h
  | _ :: _, [], h, _ => by simp at h
  | l :: L, c :: cs, h, hq => by
    obtain ⟨ws, e1, e2, e3⟩ := flat_threads L cs (by simpa using h) (fun i l c h1 h2 => hq (i + 1) l c (by simpa using h1) (by simpa using h2))
    obtain ⟨u, rfl, hu⟩ := hq 0 l c rfl rfl
    refine ⟨u :: ws, by simp [e1], by simp [encThreads, e2], fun i c' u' h1 h2 => ?_⟩
    cases i with
    | zero => simp at h1 h2; subst h1; subst h2; exact hu
    | succ i => exact e3 i c' u' (by simpa using h1) (by simpa using h2)

theorem six {α : Type} {xs : List α} (h : xs.length = 6) : ∃ a0 a1 a2 a3 a4 a5, xs = [a0, a1, a2, a3, a4, a5] := by
  match xs, h with
  | [a0, a1, a2, a3, a4, a5], _ => exact ⟨a0, a1, a2, a3, a4, a5, rfl⟩
set_option maxRecDepth 100000 in
theorem open_call {fuel : Nat} {cs : List Value} {x : DataW H × List MemPlace} (hl : cs.length = 6) (h : DataW.trod enc Tryz.prog w base spare held fuel 28 cs = some x) :
    ∃ (c : CallD) (u : Value), cs = callCells c u ∧ IntsAt w (fun _ => True) u c.words := by
  obtain ⟨a0, a1, a2, a3, a4, a5, rfl⟩ := six hl
  obtain ⟨xs, n, _, _, _, hlen, hf⟩ := DataW.trod_struct Tryz.underlying28 h
  have hc1 : Tryz.prog.cellsOf 3 = 1 := by kernel_rfl
  have hc2 : Tryz.prog.cellsOf 2 = 1 := by kernel_rfl
  have hc3 : Tryz.prog.cellsOf 26 = 1 := by kernel_rfl
  obtain ⟨x0, x1, x2, x3, x4, x5, rfl⟩ := six (xs := xs) hlen
  have h0 := hf 0 _ rfl
  have h1 := hf 1 _ rfl
  have h2 := hf 2 _ rfl
  have h3 := hf 3 _ rfl
  have h4 := hf 4 _ rfl
  have h5 := hf 5 _ rfl
  clear hf h
  simp [hc1, hc2, hc3] at h0 h1 h2 h3 h4 h5
  obtain ⟨k0, e0, _, _⟩ := DataW.trod_int Tryz.underlying3 h0
  obtain ⟨k1, e1, _, _⟩ := DataW.trod_int Tryz.underlying3 h1
  obtain ⟨k2, e2, _, _⟩ := DataW.trod_int Tryz.underlying2 h2
  obtain ⟨k3, e3, _, _⟩ := DataW.trod_int Tryz.underlying2 h3
  obtain ⟨v, ws, e4, hw⟩ := open_words h4
  obtain ⟨k5, e5, _, _⟩ := DataW.trod_int Tryz.underlying3 h5
  simp only [List.cons.injEq, and_true] at e0 e1 e2 e3 e4 e5
  subst e0 e1 e2 e3 e4 e5
  exact ⟨⟨k0, k1, k2, k3, ws, k5⟩, _, rfl, hw⟩
theorem open_calls {fuel : Nat} {cs : List Value} {x : DataW H × List MemPlace} (h : DataW.trod enc Tryz.prog w base spare held fuel 103 cs = some x) :
    ∃ (v : Value) (xs : List CallD), cs = [v] ∧ CallsAt w (fun _ => True) v xs := by
  obtain ⟨v, xs, L, rfl, hL, hR, hq⟩ := open_row (α := CallD) (fun l c => ∃ u, l = callCells c u ∧ IntsAt w (fun _ => True) u c.words) 6 (by omega) Tryz.underlying103 (by kernel_rfl) (fun n cs' y hl hy => open_call hl hy) h
  obtain ⟨ws, e1, e2, e3⟩ := flat_calls L xs hL (fun i l c h1 h2 => hq i l c h1 h2)
  exact ⟨v, xs, rfl, ws, e1, by rw [← e2]; exact hR, e3⟩
theorem four {α : Type} {xs : List α} (h : xs.length = 4) : ∃ a0 a1 a2 a3, xs = [a0, a1, a2, a3] := by
  match xs, h with
  | [a0, a1, a2, a3], _ => exact ⟨a0, a1, a2, a3, rfl⟩
theorem three {α : Type} {xs : List α} (h : xs.length = 3) : ∃ a0 a1 a2, xs = [a0, a1, a2] := by
  match xs, h with
  | [a0, a1, a2], _ => exact ⟨a0, a1, a2, rfl⟩
theorem two {α : Type} {xs : List α} (h : xs.length = 2) : ∃ a0 a1, xs = [a0, a1] := by
  match xs, h with
  | [a0, a1], _ => exact ⟨a0, a1, rfl⟩
set_option maxRecDepth 100000 in
theorem open_thread {fuel : Nat} {cs : List Value} {x : DataW H × List MemPlace} (hl : cs.length = 4) (h : DataW.trod enc Tryz.prog w base spare held fuel 105 cs = some x) :
    ∃ (c : ThreadD) (u : Value), cs = threadCells c u ∧ CallsAt w (fun _ => True) u c.prog ∧ 0 ≤ c.caps ∧ c.caps < 4294967296 := by
  obtain ⟨a0, a1, a2, a3, rfl⟩ := four hl
  obtain ⟨xs, n, _, _, _, hlen, hf⟩ := DataW.trod_struct Tryz.underlying105 h
  have hc1 : Tryz.prog.cellsOf 3 = 1 := by kernel_rfl
  have hc3 : Tryz.prog.cellsOf 103 = 1 := by kernel_rfl
  have hc4 : Tryz.prog.cellsOf 4 = 1 := by kernel_rfl
  have hc5 : Tryz.prog.cellsOf 102 = 1 := by kernel_rfl
  obtain ⟨x0, x1, x2, x3, rfl⟩ := four (xs := xs) hlen
  have h0 := hf 0 _ rfl
  have h1 := hf 1 _ rfl
  have h2 := hf 2 _ rfl
  have h3 := hf 3 _ rfl
  clear hf h
  simp [hc1, hc3, hc4, hc5] at h0 h1 h2 h3
  obtain ⟨k0, e0, _, _⟩ := DataW.trod_int Tryz.underlying3 h0
  obtain ⟨k1, e1, _, hw⟩ := DataW.trod_int Tryz.underlying102 h1
  obtain ⟨k2, e2, _⟩ := DataW.trod_bool Tryz.underlying4 h2
  obtain ⟨v, ws, e3, hc⟩ := open_calls h3
  simp only [List.cons.injEq, and_true] at e0 e1 e2 e3
  subst e0 e1 e2 e3
  have hb := bounds_u32 hw
  exact ⟨⟨k0, k1, k2, ws⟩, _, rfl, hc, hb.1, by show k1 < 4294967296; omega⟩
theorem open_threads {fuel : Nat} {cs : List Value} {x : DataW H × List MemPlace} (h : DataW.trod enc Tryz.prog w base spare held fuel 22 cs = some x) :
    ∃ (v : Value) (xs : List ThreadD), cs = [v] ∧ ThreadsAt w (fun _ => True) v xs ∧ CapsOk xs := by
  obtain ⟨v, xs, L, rfl, hL, hR, hq⟩ := open_row (α := ThreadD) (fun l c => ∃ u, l = threadCells c u ∧ CallsAt w (fun _ => True) u c.prog ∧ 0 ≤ c.caps ∧ c.caps < 4294967296) 4 (by omega) Tryz.underlying22 (by kernel_rfl) (fun n cs' y hl hy => open_thread hl hy) h
  obtain ⟨ws, e1, e2, e3⟩ := flat_threads L xs hL (fun i l c h1 h2 => by
    obtain ⟨u, a, b, _⟩ := hq i l c h1 h2
    exact ⟨u, a, b⟩)
  refine ⟨v, xs, rfl, ⟨ws, e1, by rw [← e2]; exact hR, e3⟩, fun t ht => ?_⟩
  obtain ⟨i, hi⟩ := List.mem_iff_getElem?.1 ht
  have hlt : i < xs.length := by
    rcases Nat.lt_or_ge i xs.length with h' | h'
    · exact h'
    · rw [List.getElem?_eq_none h'] at hi; cases hi
  obtain ⟨u, _, _, c⟩ := hq i _ t (List.getElem?_eq_getElem (by omega)) hi
  exact c
set_option maxRecDepth 100000 in
theorem open_obj {fuel : Nat} {cs : List Value} {x : DataW H × List MemPlace} (hl : cs.length = 3) (h : DataW.trod enc Tryz.prog w base spare held fuel 129 cs = some x) :
    ∃ (c : ObjD), cs = [.int .i64 c.kind, .int .i64 c.size, .bool c.prio] := by
  obtain ⟨a0, a1, a2, rfl⟩ := three hl
  obtain ⟨xs, n, _, _, _, hlen, hf⟩ := DataW.trod_struct Tryz.underlying129 h
  have hc1 : Tryz.prog.cellsOf 3 = 1 := by kernel_rfl
  have hc4 : Tryz.prog.cellsOf 4 = 1 := by kernel_rfl
  obtain ⟨x0, x1, x2, rfl⟩ := three (xs := xs) hlen
  have h0 := hf 0 _ rfl
  have h1 := hf 1 _ rfl
  have h2 := hf 2 _ rfl
  clear hf h
  simp [hc1, hc4] at h0 h1 h2
  obtain ⟨k0, e0, _, _⟩ := DataW.trod_int Tryz.underlying3 h0
  obtain ⟨k1, e1, _, _⟩ := DataW.trod_int Tryz.underlying3 h1
  obtain ⟨k2, e2, _⟩ := DataW.trod_bool Tryz.underlying4 h2
  simp only [List.cons.injEq, and_true] at e0 e1 e2
  subst e0 e1 e2
  exact ⟨⟨k0, k1, k2⟩, rfl⟩
theorem flat_objs : ∀ (L : List (List Value)) (os : List ObjD), L.length = os.length → (∀ (i : Nat) (l : List Value) (c : ObjD), L[i]? = some l → os[i]? = some c → l = [.int .i64 c.kind, .int .i64 c.size, .bool c.prio]) → L.flatten = encObjs os
  | [], [], _, _ => rfl
  | [], _ :: _, h, _ => by simp at h
  | _ :: _, [], h, _ => by simp at h
  | l :: L, c :: cs, h, hq => by
    have e := flat_objs L cs (by simpa using h) (fun i l c h1 h2 => hq (i + 1) l c (by simpa using h1) (by simpa using h2))
    have h0 := hq 0 l c rfl rfl
    simp only [encObjs, List.flatMap_cons] at e ⊢
    rw [List.flatten_cons, e, h0]
theorem open_objs {fuel : Nat} {cs : List Value} {x : DataW H × List MemPlace} (h : DataW.trod enc Tryz.prog w base spare held fuel 23 cs = some x) :
    ∃ (v : Value) (xs : List ObjD), cs = [v] ∧ ObjsAt w (fun _ => True) v xs := by
  obtain ⟨v, xs, L, rfl, hL, hR, hq⟩ := open_row (α := ObjD) (fun l c => l = [.int .i64 c.kind, .int .i64 c.size, .bool c.prio]) 3 (by omega) Tryz.underlying23 (by kernel_rfl) (fun n cs' y hl hy => open_obj hl hy) h
  refine ⟨v, xs, rfl, ?_⟩
  rw [flat_objs L xs hL hq] at hR
  exact hR

set_option maxRecDepth 100000 in
/-- A partition among the arguments. -/
theorem open_part {r : Reach} {b0 : Nat} {v : Value} {d : DataW H} {ps : List MemPlace} (hv : Value.okWide Tryz.prog w r b0 25 v) (h : DataW.Trod enc Tryz.prog w base spare held 25 v d ps) :
    ∃ P : PartD, CapsOk P.thr ∧ PartAt w (fun _ => True) v P := by
  obtain ⟨v0, v1, y0, y1, n, rfl, _, _, h0, h1⟩ := Go.Joins.open_agg2 Tryz.underlying25 (by kernel_rfl) (by kernel_rfl) hv h
  obtain ⟨u0, ts, e0, ht, hc⟩ := open_threads h0
  obtain ⟨u1, os, e1, ho⟩ := open_objs h1
  simp only [List.cons.injEq, and_true] at e0 e1
  subst e0 e1
  exact ⟨⟨ts, os⟩, hc, _, _, rfl, ht, ho⟩
end
end Go.Proofs.YtefbdcmodfbpbaaGreat
