/-
  Plain facts for the walk of PlanKeeps: the own partition, the loop that writes its priorities.
-/
import Derived.Test.YtpflejobkjdhdaaKeep1
set_option linter.unusedVariables false
set_option linter.unusedSimpArgs false
namespace Go.Proofs.Ytpflejobkjdhdaa
open Go.RowKit

theorem IntsAt.cells {w : World} {F : Nat → Prop} {v : Value} {xs : List Int} (h : IntsAt w F v xs) (hn : 0 < xs.length) :
    ∃ b o c, v = .slice (some ⟨b, o, none⟩) xs.length c ∧ F b ∧ ∀ i x, xs[i]? = some x → w.cell? ⟨b, o + i, none⟩ = some (.int .i64 x) := by
  obtain ⟨_, A, c, e, h3⟩ := h
  obtain ⟨b, o, rfl, hF, hc⟩ := h3 hn
  exact ⟨b, o, c, e, hF, fun i x hx => hc i _ (by simp [encInts, hx])⟩
theorem Reads.len {w : World} {F : Nat → Prop} {v : Value} {n s : Nat} {cells : List Value} (h : Reads w F v n s cells) : cells.length = n * s := h.1
theorem CopyAt.reads {w : World} {B : Nat} {e : TypeId} {size : Nat} {v : Value} {m : Nat} {news : List Value} (h : CopyAt w B e size v m news) (hl : news.length = m * size) : Reads w (fun k => B ≤ k) v m size news := by
  obtain ⟨A, c, rfl, h⟩ := h
  by_cases hm : 0 < m
  · exact ownsRow_reads (h hm)
  · exact ⟨hl, A, c, rfl, fun h0 => absurd h0 hm⟩
theorem own_part {w : World} {F : Nat → Prop} {B : Nat} {P : PartD} {ps : List Value} {v3 v4 : Value} {e3 e4 : TypeId} (hl : ps.length = P.thr.length) (hc : ∀ (i : Nat) (t : ThreadD) (u : Value), P.thr[i]? = some t → ps[i]? = some u → CallsAt w F u t.prog)
    (l3 : (encThreads P.thr ps).length = P.thr.length * 4) (l4 : (encObjs P.obj).length = P.obj.length * 3) (k3 : CopyAt w B e3 4 v3 P.thr.length (encThreads P.thr ps)) (k4 : CopyAt w B e4 3 v4 P.obj.length (encObjs P.obj)) :
    PartAt w (fun k => F k ∨ B ≤ k) (.agg #[v3, v4]) P :=
  ⟨v3, v4, rfl, ⟨ps, hl, (k3.reads l3).wider (fun _ h => .inr h), fun i t u a b => (hc i t u a b).wider (fun _ h => .inl h)⟩, Reads.wider (k4.reads l4) (fun _ h => .inr h)⟩

structure ChgO (own : Option Nat) (w w' : World) : Prop where
  os : w'.os = w.os
  tape : w'.tape = w.tape
  output : w'.output = w.output
  size : w.heap.size ≤ w'.heap.size
  block : ∀ k, k < w.heap.size → own ≠ some k → w'.heap[k]? = w.heap[k]?
theorem ChgO.at_row {own : Option Nat} {w w' : World} (h : ChgO own w w') {b : Nat} {cs : Array Value} {t : TypeId} (hb : w.heap[b]? = some (.cells cs t (0, 0))) (hne : own ≠ some b) : (∀ k, w'.cell? ⟨b, k, none⟩ = cs[k]?) ∧ (∀ k, w'.frozen? ⟨b, k, none⟩ = false) := by
  have h' := (h.block b (Array.getElem?_eq_some_iff.1 hb).1 hne).trans hb
  exact ⟨cell_of_block h', free_of_block h'⟩
theorem ChgO.refl (own : Option Nat) (w : World) : ChgO own w w := ⟨rfl, rfl, rfl, Nat.le_refl _, fun _ _ _ => rfl⟩
theorem ChgO.set {own : Option Nat} {w w' : World} (h : ChgO own w w') {g k : Nat} (hg : own = some g) (v : Value) : ChgO own w (w'.setCell ⟨g, k, none⟩ v) :=
  ⟨h.os, h.tape, h.output, by simp only [World.size_setCell]; exact h.size, fun j hj hne => by
    have : j ≠ g := fun e => hne (by rw [hg, e])
    rw [block_setCell_other _ _ _ this]; exact h.block j hj hne⟩
theorem ChgO.drew {own : Option Nat} {w w' : World} (h : ChgO own w w') : ChgO own w w'.drew := ⟨h.os, h.tape, h.output, h.size, h.block⟩

def LoopSt (own : Option Nat) (A : Option Addr) (n : Nat) (w wr : World) : Prop :=
  ChgO own w wr ∧ (0 < n → ∃ g, A = some ⟨g, 0, none⟩ ∧ own = some g ∧ (∀ j, j < n → ∃ z : Int, wr.cell? ⟨g, j * 4, none⟩ = some (.int .i64 z)) ∧ ∀ j, wr.frozen? ⟨g, j, none⟩ = false)
theorem encThreads_prio : ∀ (ts : List ThreadD) (ps : List Value), ps.length = ts.length → ∀ j, j < ts.length → ∃ z : Int, (encThreads ts ps)[j * 4]? = some (.int .i64 z)
  | [], _, _, j, h => by simp at h
  | t :: ts, [], h, _, _ => by simp at h
  | t :: ts, p :: ps, h, j, hj => by
    cases j with
    | zero => exact ⟨t.prio, by simp [encThreads, threadCells]⟩
    | succ j =>
      obtain ⟨z, hz⟩ := encThreads_prio ts ps (by simpa using h) j (by simpa using hj)
      refine ⟨z, ?_⟩
      have e : (j + 1) * 4 = j * 4 + 4 := by omega
      rw [e]
      simpa [encThreads, threadCells, List.getElem?_append] using hz
theorem LoopSt.start {w : World} {B : Nat} {e : TypeId} {A : Option Addr} {c n : Nat} {ts : List ThreadD} {ps : List Value} (hn : ts.length = n) (hl : ps.length = ts.length) (h : CopyAt w B e 4 (.slice A n c) n (encThreads ts ps)) :
    ∃ own, LoopSt own A n w w ∧ ∀ g, own = some g → (B ≤ g ∧ g < w.heap.size) ∧ ∃ cur, w.heap[g]? = some (.cells cur e (0, 0)) := by
  obtain ⟨A', c', e1, h⟩ := h
  obtain ⟨rfl, _, rfl⟩ : A = A' ∧ n = n ∧ c = c' := by simpa using e1
  by_cases hm : 0 < n
  · obtain ⟨hlen, h'⟩ := id (h hm)
    rcases h' with ⟨_, h0⟩ | ⟨g, cap, cur, h1, h2, h3, h4, h5, h6, h7⟩
    · omega
    · obtain ⟨rfl, _, rfl⟩ : A = some ⟨g, 0, none⟩ ∧ n = n ∧ c = cap := by simpa using h1
      have hg := (Array.getElem?_eq_some_iff.1 h3).1
      refine ⟨some g, ⟨ChgO.refl _ _, fun _ => ⟨g, rfl, rfl, fun j hj => ?_, fun j => free_of_block h3 j⟩⟩, fun g' e' => ?_⟩
      · obtain ⟨z, hz⟩ := encThreads_prio ts ps hl j (by omega)
        refine ⟨z, ?_⟩
        rw [cell_of_block h3]
        rw [← h7, List.getElem?_take] at hz
        split at hz
        · simpa using hz
        · cases hz
      · cases e'; exact ⟨⟨h2, hg⟩, cur, h3⟩
  · exact ⟨none, ⟨ChgO.refl _ _, fun h0 => absurd h0 hm⟩, fun g e' => by cases e'⟩
theorem LoopSt.later {own : Option Nat} {A : Option Addr} {n : Nat} {w w' : World} (h : LoopSt own A n w w) (hb : Below w.heap.size w w') : LoopSt own A n w' w' := by
  refine ⟨ChgO.refl _ _, fun hn => ?_⟩
  obtain ⟨g, e1, e2, h3, h4⟩ := h.2 hn
  have hg : g < w.heap.size := by
    obtain ⟨z, hz⟩ := h3 0 hn
    exact World.block_lt_of_cell? w _ hz
  exact ⟨g, e1, e2, fun j hj => by obtain ⟨z, hz⟩ := h3 j hj; exact ⟨z, (hb.cell (p := ⟨g, j * 4, none⟩) hg).trans hz⟩, fun j => (hb.frozen (p := ⟨g, j, none⟩) hg).trans (h4 j)⟩
theorem LoopSt.drew {own : Option Nat} {A : Option Addr} {n : Nat} {w wr : World} (h : LoopSt own A n w wr) : LoopSt own A n w wr.drew := ⟨h.1.drew, h.2⟩
theorem LoopSt.step {own : Option Nat} {A : Option Addr} {n k g : Nat} {w wr : World} (h : LoopSt own A n w wr) (hk : k < n) (eo : own = some g) (v : Int) : LoopSt own A n w (wr.setCell ⟨g, k * 4, none⟩ (.int .i64 v)) := by
  refine ⟨h.1.set eo _, fun hn => ?_⟩
  obtain ⟨g', e1, e2, h3, h4⟩ := h.2 hn
  obtain rfl : g' = g := by rw [eo] at e2; exact (Option.some.inj e2).symm
  refine ⟨g', e1, e2, fun j hj => ?_, fun j => ?_⟩
  · by_cases hjk : j = k
    · subst hjk
      obtain ⟨z, hz⟩ := h3 j hj
      exact ⟨v, by rw [World.cell?_setCell_same _ _ _ hz]⟩
    · obtain ⟨z, hz⟩ := h3 j hj
      refine ⟨z, ?_⟩
      refine Eq.trans (World.cell?_setCell_other _ _ _ _ ?_) hz
      (try simp) <;> omega
  · rw [World.frozen?_setCell]; exact h4 j
theorem hwb_all {w w2 wc w6 : World} {o : Obj} (h2 : Below (w.heap.size + 1) (w.alloc o) w2) (h3 : Below w2.heap.size w2 wc) (hc : Below wc.heap.size wc w6) : Below w.heap.size w w6 :=
  ((below_box h2).trans (h3.mono (below_box h2).size)).trans (hc.mono (Nat.le_trans (below_box h2).size h3.size))
theorem keepR {w w' : World} {b : Nat} {cs : Array Value} (hb : Below w.heap.size w w') (h : ∀ k, w.cell? ⟨b, k, none⟩ = cs[k]?) (h0 : (cs[0]?).isSome = true) : ∀ k, w'.cell? ⟨b, k, none⟩ = cs[k]? := by
  obtain ⟨u, hu⟩ := Option.isSome_iff_exists.1 h0
  have hlt : b < w.heap.size := World.block_lt_of_cell? w _ ((h 0).trans hu)
  exact fun k => (hb.cell (p := ⟨b, k, none⟩) hlt).trans (h k)
theorem hbr_all {own : Option Nat} {w w6 wr : World} (h : Below w.heap.size w w6) (hc : ChgO own w6 wr) (ho : ∀ g, own = some g → w.heap.size ≤ g) : Below w.heap.size w wr :=
  ⟨hc.os.trans h.os, hc.tape.trans h.tape, hc.output.trans h.output, Nat.le_trans h.size hc.size, fun k hk => (hc.block k (Nat.lt_of_lt_of_le hk h.size) (fun e => by have := ho k e; omega)).trans (h.block k hk)⟩
end Go.Proofs.Ytpflejobkjdhdaa
