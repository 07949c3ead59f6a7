/-
  A slice copied by append onto an empty one, as one step of a region that draws its order.
  Plain facts for the walk of PlanKeeps: the own partition, the loop that writes its priorities.
  Cells that are kept, for regions that draw their order.
-/
import Derived.Test.YtefbdcmodfbpbaaGreatBootLaw3
import Derived.Deep.RegionLawGrows
import Derived.Deep.Upon
set_option linter.unusedVariables false
set_option linter.unusedSimpArgs false
namespace Go.Proofs.YtefbdcmodfbpbaaGreat
open Go.RowKit

/-- A copy: nothing, or a row of one's own. -/
def CopyAt (w : World) (B : Nat) (e : TypeId) (size : Nat) (v : Value) (m : Nat) (news : List Value) : Prop :=
  ∃ A c, v = .slice A m c ∧ (0 < m → w.ownsRow B e size v m news)
theorem ownsRow_below {w w' : World} {B : Nat} {e size n : Nat} {v : Value} {xs : List Value} (h : w.ownsRow B e size v n xs) (hb : Below w.heap.size w w') : w'.ownsRow B e size v n xs := by
  obtain ⟨hl, h⟩ := h
  refine ⟨hl, ?_⟩
  rcases h with h | ⟨g, cap, cur, h1, h2, h3, h4⟩
  · exact .inl h
  · exact .inr ⟨g, cap, cur, h1, h2, (hb.block g (Array.getElem?_eq_some_iff.1 h3).1).trans h3, h4⟩
theorem CopyAt.later {w w' : World} {B : Nat} {e : TypeId} {size : Nat} {v : Value} {m : Nat} {news : List Value} (h : CopyAt w B e size v m news) (hb : Below w.heap.size w w') : CopyAt w' B e size v m news := by
  obtain ⟨A, c, e, h⟩ := h
  exact ⟨A, c, e, fun hm => ownsRow_below (h hm) hb⟩

theorem step_append_copy {P : Program} {ops : Array Oper} {o : Oper} {a : Act} {w : World} {K : Act → World → Prop} {Q : Exit → Act → World → Prop} {E : Prop}
    (hg : o.guard = none) (s x : Operand) (t : TypeId) (hop : o.op = Op.call { callee := Callee.builtin Builtin.append, args := #[s, x], argTypes := #[t, t] })
    (e : TypeId) (i : TypeInfo) (z : Value) (size bytes : Nat) (h1 : P.underlying t = some (.slice e)) (h2 : P.info? e = some i) (h3 : i.zero = some z) (h4 : i.size = size) (h5 : i.bytes = bytes) (h6 : z.cells.size = size) (h7 : 0 < size)
    (b : Addr) (hs : a.eval s = .slice (some b) 0 0) (A : Option Addr) (m c : Nat) (F : Nat → Prop) (news : List Value) (hx : a.eval x = .slice A m c) (hr : Reads w F (.slice A m c) m size news) (h1c : ∀ u ∈ news, u.oneCell' = true)
    (b1 : m ≤ maxLen) (b2 : m * bytes ≤ 140737488355328)
    (hK : ∀ A' c' w', CopyAt w' w.heap.size e size (.slice A' m c') m news → Below w.heap.size w w' → K (a.put o.dst (.slice A' m c')) w') :
    if Region.wanted o (yielded ops a.tmps) = true then Oper.wp P o a w K Q else E := by
  obtain ⟨hl, A1, c1, e1, hc⟩ := hr
  obtain ⟨rfl, _, rfl⟩ : A = A1 ∧ m = m ∧ c = c1 := by simpa using e1
  by_cases hm : 0 < m
  · obtain ⟨g, o', rfl, _, hcells⟩ := hc hm
    refine step_append_grows hg s x t hop e i z size bytes h1 h2 h3 h4 h5 h6 h7 (some b) 0 0 [] hs (fun h => by cases h) (by simp) (fun b' _ j u hu => by simp at hu) ⟨g, o', none⟩ m c news hx hl (fun j u hu => by rw [Go.WideShapes.add_plain]; exact hcells j u hu) h1c (by omega) (by omega) (by rw [Nat.zero_add]; exact b2) ?_
    intro v' w' hown hgr
    rw [Nat.zero_add, List.nil_append] at hown
    obtain ⟨g', cap', rfl, hg1, hg2⟩ := hown.form hm
    exact hK _ _ w' ⟨_, _, rfl, fun _ => hown⟩ ⟨hgr.os, hgr.tape, hgr.output, hgr.size, fun k hk => hgr.block k hk (by simp)⟩
  · obtain rfl : m = 0 := by omega
    obtain rfl : news = [] := List.eq_nil_of_length_eq_zero (by simpa using hl)
    have hsrc : Src P i.size t (.slice A 0 c) 0 [] w := by
      cases A with
      | none => exact Src.ofNil w h1 c
      | some ad => exact Src.ofSlice w h1 ad 0 c [] (by simp) (fun j u hu => by simp at hu) (fun u hu => by simp at hu)
    have hrun := run_append_nothing (P := P) w t t o.type e i h1 h2 (some b) 0 0 (Nat.le_refl _) _ hsrc
    have hw : Region.wanted o (yielded ops a.tmps) = true := by simp [Region.wanted, hg]
    rw [if_pos hw]
    unfold Oper.wp
    simp [execOp, hop, resolve, invoke, builtin, hs, hx, hrun, Result.andThen]
    exact hK _ _ w ⟨_, _, rfl, fun h => absurd h (by omega)⟩ (Below.refl _ _)
theorem at_new {w : World} {o : Obj} {b : Nat} (h : b = w.heap.size) : (w.alloc o).heap[b]? = some o := by subst h; exact heap_alloc_new w o
theorem at_old {w : World} {o : Obj} {b : Nat} {x : Option Obj} (h : b < w.heap.size) (h' : w.heap[b]? = x) : (w.alloc o).heap[b]? = x := (Below.heap_alloc w o b h).trans h'
theorem at_drew {w : World} {b : Nat} {x : Option Obj} (h' : w.heap[b]? = x) : w.drew.heap[b]? = x := h'
theorem part_in {W w' : World} {G : Prop} {b : Nat} {x y : Value} {t : TypeId} (hb : Below W.heap.size W w') (h : W.heap[b]? = some (.cells #[x, y] t (0, 0)))
    (k : b < w'.heap.size → w'.heap[b]? = some (.cells #[x, y] t (0, 0)) → w'.cell? ⟨b, 0, none⟩ = some x → w'.cell? ⟨b, 1, none⟩ = some y → w'.frozen? ⟨b, 0, none⟩ = false → w'.frozen? ⟨b, 1, none⟩ = false → G) : G := by
  have hlt := (Array.getElem?_eq_some_iff.1 h).1
  have h' := (hb.block b hlt).trans h
  exact k (Nat.lt_of_lt_of_le hlt hb.size) h' (by rw [cell_of_row _ _ _ _ _ _ h']; rfl) (by rw [cell_of_row _ _ _ _ _ _ h']; rfl) (frozen_of_row _ _ _ _ _ h') (frozen_of_row _ _ _ _ _ h')
theorem CopyAt.lower {w : World} {B B' : Nat} {e : TypeId} {size : Nat} {v : Value} {m : Nat} {news : List Value} (h : CopyAt w B e size v m news) (hB : B' ≤ B) : CopyAt w B' e size v m news := by
  obtain ⟨A, c, e1, h⟩ := h
  refine ⟨A, c, e1, fun hm => ?_⟩
  obtain ⟨hl, h⟩ := h hm
  refine ⟨hl, ?_⟩
  rcases h with h | ⟨g, cap, cur, h1, h2, h3⟩
  · exact .inl h
  · exact .inr ⟨g, cap, cur, h1, Nat.le_trans hB h2, h3⟩
theorem set_blockK {w : World} {b : Nat} {cs : Array Value} {t : TypeId} {fr : Nat × Nat} (h : w.heap[b]? = some (.cells cs t fr)) (k : Nat) (v : Value) : (w.setCell ⟨b, k, none⟩ v).heap[b]? = some (.cells (cs.setIfInBounds k v) t fr) := by
  have hlt := (Array.getElem?_eq_some_iff.1 h).1
  have h' : w.heap[b] = .cells cs t fr := by simpa [Array.getElem?_eq_getElem hlt] using h
  show (w.heap.modify b _)[b]? = _
  rw [Array.getElem?_eq_getElem (by simpa using hlt), Array.getElem_modify_self, h']
  rfl
theorem set2 {w : World} {b : Nat} {x y u v : Value} {t : TypeId} {fr : Nat × Nat} (h : w.heap[b]? = some (.cells #[x, y] t fr)) : ((w.setCell ⟨b, 0, none⟩ u).setCell ⟨b, 1, none⟩ v).heap[b]? = some (.cells #[u, v] t fr) :=
  set_blockK (set_blockK h 0 u) 1 v
theorem CopyAt.set2 {w : World} {B : Nat} {e : TypeId} {size : Nat} {v : Value} {m : Nat} {news : List Value} {b i j : Nat} {cs : Array Value} {t : TypeId} {fr : Nat × Nat} {x y : Value} (h : CopyAt w B e size v m news) (hb : w.heap[b]? = some (.cells cs t fr)) (hne : t ≠ e) : CopyAt ((w.setCell ⟨b, i, none⟩ x).setCell ⟨b, j, none⟩ y) B e size v m news := by
  obtain ⟨A, c, e1, h⟩ := h
  refine ⟨A, c, e1, fun hm => ?_⟩
  obtain ⟨hl, h⟩ := h hm
  refine ⟨hl, ?_⟩
  rcases h with h | ⟨g, cap, cur, h1, h2, h3, h4⟩
  · exact .inl h
  · have hg : g ≠ b := by
      rintro rfl
      rw [hb] at h3
      simp only [Option.some.injEq, Obj.cells.injEq] at h3
      exact hne h3.2.1
    exact .inr ⟨g, cap, cur, h1, h2, by rw [block_setCell_other _ _ _ hg, block_setCell_other _ _ _ hg]; exact h3, h4⟩
end Go.Proofs.YtefbdcmodfbpbaaGreat
namespace Go.Proofs.YtefbdcmodfbpbaaGreat
open Go.RowKit

theorem IntsAt.cells {w : World} {F : Nat → Prop} {v : Value} {xs : List Int} (h : IntsAt w F v xs) (hn : 0 < xs.length) :
    ∃ b o c, v = .slice (some ⟨b, o, none⟩) xs.length c ∧ F b ∧ ∀ i x, xs[i]? = some x → w.cell? ⟨b, o + i, none⟩ = some (.int .i64 x) := by
  obtain ⟨_, A, c, e, h3⟩ := h
  obtain ⟨b, o, rfl, hF, hc⟩ := h3 hn
  exact ⟨b, o, c, e, hF, fun i x hx => hc i _ (by simp [encInts, hx])⟩
theorem Reads.len {w : World} {F : Nat → Prop} {v : Value} {n s : Nat} {cells : List Value} (h : Reads w F v n s cells) : cells.length = n * s := h.1
theorem CopyAt.reads {w : World} {B : Nat} {e : TypeId} {size : Nat} {v : Value} {m : Nat} {news : List Value} (h : CopyAt w B e size v m news) (hl : news.length = m * size) : Reads w (fun k => B ≤ k) v m size news := by
  obtain ⟨A, c, rfl, h⟩ := h
  by_cases hm : 0 < m
  · exact ownsRow_reads (h hm)
  · exact ⟨hl, A, c, rfl, fun h0 => absurd h0 hm⟩
theorem own_part {w : World} {F : Nat → Prop} {B : Nat} {P : PartD} {ps : List Value} {v3 v4 : Value} {e3 e4 : TypeId} (hl : ps.length = P.thr.length) (hc : ∀ (i : Nat) (t : ThreadD) (u : Value), P.thr[i]? = some t → ps[i]? = some u → CallsAt w F u t.prog)
    (l3 : (encThreads P.thr ps).length = P.thr.length * 4) (l4 : (encObjs P.obj).length = P.obj.length * 3) (k3 : CopyAt w B e3 4 v3 P.thr.length (encThreads P.thr ps)) (k4 : CopyAt w B e4 3 v4 P.obj.length (encObjs P.obj)) :
    PartAt w (fun k => F k ∨ B ≤ k) (.agg #[v3, v4]) P :=
  ⟨v3, v4, rfl, ⟨ps, hl, (k3.reads l3).wider (fun _ h => .inr h), fun i t u a b => (hc i t u a b).wider (fun _ h => .inl h)⟩, Reads.wider (k4.reads l4) (fun _ h => .inr h)⟩

structure ChgO (own : Option Nat) (w w' : World) : Prop where
  os : w'.os = w.os
  tape : w'.tape = w.tape
  output : w'.output = w.output
  size : w.heap.size ≤ w'.heap.size
  block : ∀ k, k < w.heap.size → own ≠ some k → w'.heap[k]? = w.heap[k]?
theorem ChgO.at_row {own : Option Nat} {w w' : World} (h : ChgO own w w') {b : Nat} {cs : Array Value} {t : TypeId} (hb : w.heap[b]? = some (.cells cs t (0, 0))) (hne : own ≠ some b) : (∀ k, w'.cell? ⟨b, k, none⟩ = cs[k]?) ∧ (∀ k, w'.frozen? ⟨b, k, none⟩ = false) := by
  have h' := (h.block b (Array.getElem?_eq_some_iff.1 hb).1 hne).trans hb
  exact ⟨cell_of_block h', free_of_block h'⟩
theorem ChgO.refl (own : Option Nat) (w : World) : ChgO own w w := ⟨rfl, rfl, rfl, Nat.le_refl _, fun _ _ _ => rfl⟩
theorem ChgO.set {own : Option Nat} {w w' : World} (h : ChgO own w w') {g k : Nat} (hg : own = some g) (v : Value) : ChgO own w (w'.setCell ⟨g, k, none⟩ v) :=
  ⟨h.os, h.tape, h.output, by simp only [World.size_setCell]; exact h.size, fun j hj hne => by
    have : j ≠ g := fun e => hne (by rw [hg, e])
    rw [block_setCell_other _ _ _ this]; exact h.block j hj hne⟩
theorem ChgO.drew {own : Option Nat} {w w' : World} (h : ChgO own w w') : ChgO own w w'.drew := ⟨h.os, h.tape, h.output, h.size, h.block⟩

def LoopSt (own : Option Nat) (A : Option Addr) (n : Nat) (w wr : World) : Prop :=
  ChgO own w wr ∧ (0 < n → ∃ g, A = some ⟨g, 0, none⟩ ∧ own = some g ∧ (∀ j, j < n → ∃ z : Int, wr.cell? ⟨g, j * 4, none⟩ = some (.int .i64 z)) ∧ ∀ j, wr.frozen? ⟨g, j, none⟩ = false)
theorem encThreads_prio : ∀ (ts : List ThreadD) (ps : List Value), ps.length = ts.length → ∀ j, j < ts.length → ∃ z : Int, (encThreads ts ps)[j * 4]? = some (.int .i64 z)
  | [], _, _, j, h => by simp at h
  | t :: ts, [], h, _, _ => by simp at h
  | t :: ts, p :: ps, h, j, hj => by
    cases j with
    | zero => exact ⟨t.prio, by simp [encThreads, threadCells]⟩
    | succ j =>
      obtain ⟨z, hz⟩ := encThreads_prio ts ps (by simpa using h) j (by simpa using hj)
      refine ⟨z, ?_⟩
      have e : (j + 1) * 4 = j * 4 + 4 := by omega
      rw [e]
      simpa [encThreads, threadCells, List.getElem?_append] using hz
theorem LoopSt.start {w : World} {B : Nat} {e : TypeId} {A : Option Addr} {c n : Nat} {ts : List ThreadD} {ps : List Value} (hn : ts.length = n) (hl : ps.length = ts.length) (h : CopyAt w B e 4 (.slice A n c) n (encThreads ts ps)) :
    ∃ own, LoopSt own A n w w ∧ ∀ g, own = some g → (B ≤ g ∧ g < w.heap.size) ∧ ∃ cur, w.heap[g]? = some (.cells cur e (0, 0)) := by
  obtain ⟨A', c', e1, h⟩ := h
  obtain ⟨rfl, _, rfl⟩ : A = A' ∧ n = n ∧ c = c' := by simpa using e1
  by_cases hm : 0 < n
  · obtain ⟨hlen, h'⟩ := id (h hm)
    rcases h' with ⟨_, h0⟩ | ⟨g, cap, cur, h1, h2, h3, h4, h5, h6, h7⟩
    · omega
    · obtain ⟨rfl, _, rfl⟩ : A = some ⟨g, 0, none⟩ ∧ n = n ∧ c = cap := by simpa using h1
      have hg := (Array.getElem?_eq_some_iff.1 h3).1
      refine ⟨some g, ⟨ChgO.refl _ _, fun _ => ⟨g, rfl, rfl, fun j hj => ?_, fun j => free_of_block h3 j⟩⟩, fun g' e' => ?_⟩
      · obtain ⟨z, hz⟩ := encThreads_prio ts ps hl j (by omega)
        refine ⟨z, ?_⟩
        rw [cell_of_block h3]
        rw [← h7, List.getElem?_take] at hz
        split at hz
        · simpa using hz
        · cases hz
      · cases e'; exact ⟨⟨h2, hg⟩, cur, h3⟩
  · exact ⟨none, ⟨ChgO.refl _ _, fun h0 => absurd h0 hm⟩, fun g e' => by cases e'⟩
theorem LoopSt.later {own : Option Nat} {A : Option Addr} {n : Nat} {w w' : World} (h : LoopSt own A n w w) (hb : Below w.heap.size w w') : LoopSt own A n w' w' := by
  refine ⟨ChgO.refl _ _, fun hn => ?_⟩
  obtain ⟨g, e1, e2, h3, h4⟩ := h.2 hn
  have hg : g < w.heap.size := by
    obtain ⟨z, hz⟩ := h3 0 hn
    exact World.block_lt_of_cell? w _ hz
  exact ⟨g, e1, e2, fun j hj => by obtain ⟨z, hz⟩ := h3 j hj; exact ⟨z, (hb.cell (p := ⟨g, j * 4, none⟩) hg).trans hz⟩, fun j => (hb.frozen (p := ⟨g, j, none⟩) hg).trans (h4 j)⟩
theorem LoopSt.drew {own : Option Nat} {A : Option Addr} {n : Nat} {w wr : World} (h : LoopSt own A n w wr) : LoopSt own A n w wr.drew := ⟨h.1.drew, h.2⟩
theorem LoopSt.step {own : Option Nat} {A : Option Addr} {n k g : Nat} {w wr : World} (h : LoopSt own A n w wr) (hk : k < n) (eo : own = some g) (v : Int) : LoopSt own A n w (wr.setCell ⟨g, k * 4, none⟩ (.int .i64 v)) := by
  refine ⟨h.1.set eo _, fun hn => ?_⟩
  obtain ⟨g', e1, e2, h3, h4⟩ := h.2 hn
  obtain rfl : g' = g := by rw [eo] at e2; exact (Option.some.inj e2).symm
  refine ⟨g', e1, e2, fun j hj => ?_, fun j => ?_⟩
  · by_cases hjk : j = k
    · subst hjk
      obtain ⟨z, hz⟩ := h3 j hj
      exact ⟨v, by rw [World.cell?_setCell_same _ _ _ hz]⟩
    · obtain ⟨z, hz⟩ := h3 j hj
      refine ⟨z, ?_⟩
      refine Eq.trans (World.cell?_setCell_other _ _ _ _ ?_) hz
      (try simp) <;> omega
  · rw [World.frozen?_setCell]; exact h4 j
theorem hwb_all {w w2 wc w6 : World} {o : Obj} (h2 : Below (w.heap.size + 1) (w.alloc o) w2) (h3 : Below w2.heap.size w2 wc) (hc : Below wc.heap.size wc w6) : Below w.heap.size w w6 :=
  ((below_box h2).trans (h3.mono (below_box h2).size)).trans (hc.mono (Nat.le_trans (below_box h2).size h3.size))
theorem keepR {w w' : World} {b : Nat} {cs : Array Value} (hb : Below w.heap.size w w') (h : ∀ k, w.cell? ⟨b, k, none⟩ = cs[k]?) (h0 : (cs[0]?).isSome = true) : ∀ k, w'.cell? ⟨b, k, none⟩ = cs[k]? := by
  obtain ⟨u, hu⟩ := Option.isSome_iff_exists.1 h0
  have hlt : b < w.heap.size := World.block_lt_of_cell? w _ ((h 0).trans hu)
  exact fun k => (hb.cell (p := ⟨b, k, none⟩) hlt).trans (h k)
theorem hbr_all {own : Option Nat} {w w6 wr : World} (h : Below w.heap.size w w6) (hc : ChgO own w6 wr) (ho : ∀ g, own = some g → w.heap.size ≤ g) : Below w.heap.size w wr :=
  ⟨hc.os.trans h.os, hc.tape.trans h.tape, hc.output.trans h.output, Nat.le_trans h.size hc.size, fun k hk => (hc.block k (Nat.lt_of_lt_of_le hk h.size) (fun e => by have := ho k e; omega)).trans (h.block k hk)⟩
end Go.Proofs.YtefbdcmodfbpbaaGreat
namespace Go.Proofs.YtefbdcmodfbpbaaGreat
open Go.RowKit

theorem keepc {w w' : World} {p : Addr} {u : Value} (hb : Below w.heap.size w w') (h : w.cell? p = some u) : w'.cell? p = some u := (hb.cell (World.block_lt_of_cell? w _ h)).trans h
theorem keepa {w : World} {o : Obj} {p : Addr} {u : Value} (h : w.cell? p = some u) : (w.alloc o).cell? p = some u := keepc ((Below.refl w.heap.size w).alloc (Nat.le_refl _) o) h
theorem keeps2 {w : World} {p q r : Addr} {x y u : Value} (h : w.cell? r = some u) (hp : p.block ≠ r.block) (hq : q.block ≠ r.block) : ((w.setCell p x).setCell q y).cell? r = some u := by
  rw [World.cell?_setCell_far _ _ _ _ hq, World.cell?_setCell_far _ _ _ _ hp]; exact h
theorem keepfa {w : World} {o : Obj} {p : Addr} (h : w.frozen? p = false) (hl : p.block < w.heap.size) : (w.alloc o).frozen? p = false := (World.frozen?_of_block (w := w) (Below.heap_alloc w o p.block hl)).trans h
theorem keeps1 {w : World} {p r : Addr} {x u : Value} (h : w.cell? r = some u) (hp : p.block ≠ r.block) : (w.setCell p x).cell? r = some u := by
  rw [World.cell?_setCell_far _ _ _ _ hp]; exact h
theorem belowS {B : Nat} {w0 w : World} {p q : Addr} {x y : Value} (h : Below B w0 w) (hp : B ≤ p.block) (hq : B ≤ q.block) : Below B w0 ((w.setCell p x).setCell q y) := (h.setCell hp x).setCell hq y
theorem belowDA {B : Nat} {w W : World} {o : Obj} (h : Below B w W.drew) (hB : B ≤ w.heap.size) : Below B w (W.alloc o).drew := Below.drew ((show Below B w W from ⟨h.os, h.tape, h.output, h.size, h.block⟩).alloc (Nat.le_trans hB h.size) o)
theorem belowDS {B : Nat} {w0 w : World} {p q : Addr} {x y : Value} (h : Below B w0 w.drew) (hp : B ≤ p.block) (hq : B ≤ q.block) : Below B w0 ((w.setCell p x).setCell q y).drew := Below.drew (belowS (show Below B w0 w from ⟨h.os, h.tape, h.output, h.size, h.block⟩) hp hq)
theorem keepDA {w : World} {o : Obj} {p : Addr} {u : Value} (h : w.drew.cell? p = some u) : (w.alloc o).drew.cell? p = some u := keepa (w := w) h
theorem belowAA {B : Nat} {w W : World} {o o' : Obj} (h : Below B w (W.alloc o)) (hW : B ≤ W.heap.size) (hw : w.heap.size ≤ W.heap.size) : Below B w (W.alloc o') :=
  ⟨h.os, h.tape, h.output, by simp; omega, fun k hk => by rw [Below.heap_alloc W o' k (by omega), ← Below.heap_alloc W o k (by omega)]; exact h.block k hk⟩
theorem keepaa {W : World} {o o' : Obj} {r : Addr} {u : Value} (h : (W.alloc o).cell? r = some u) (hr : r.block < W.heap.size) : (W.alloc o').cell? r = some u := by
  rw [World.cell?_of_block (w := W.alloc o) (w' := W.alloc o') (by rw [Below.heap_alloc W o' _ hr, Below.heap_alloc W o _ hr])]; exact h
theorem belowA {B : Nat} {w W : World} {o : Obj} (h : Below B w W) (hB : B ≤ w.heap.size) : Below B w (W.alloc o) := h.alloc (Nat.le_trans hB h.size) o
theorem belowN {B : Nat} {w W W' : World} (h' : Below W.heap.size W W') (h : Below B w W) (hB : B ≤ w.heap.size) : Below B w W' := h.trans (h'.mono (Nat.le_trans hB h.size))
theorem belowD {B : Nat} {w W : World} (h : Below B w W) : Below B w W.drew := h.drew

end Go.Proofs.YtefbdcmodfbpbaaGreat
