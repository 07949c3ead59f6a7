/-
  append of a slice that is read (nothing included) onto a row of one's own.
  The reference's queue (septumref01.Queue): Has, Order.
-/
import Derived.Test.YtefbdcmodfbpbaaGreatKeep2
import Derived.Deep.AppendLies
set_option linter.unusedVariables false
set_option linter.unusedSimpArgs false
namespace Go.Proofs.YtefbdcmodfbpbaaGreat
open Go.RowKit
section
variable {P : Program} (w : World)

theorem run_append_reads (t ty : TypeId) (base : Nat) (e : TypeId) (i : TypeInfo) (z : Value) (size bytes : Nat) (ht : P.underlying t = some (.slice e)) (hi : P.info? e = some i) (hz : i.zero = some z) (hsize : i.size = size) (hby : i.bytes = bytes) (hzs : z.cells.size = size) (hsz : 0 < size)
    (v : Value) (n : Nat) (xs : List Value) (hown : w.ownsRow base e size v n xs) (A : Option Addr) (m c : Nat) (F : Nat → Prop) (news : List Value) (hr : Reads w F (.slice A m c) m size news) (h1 : ∀ u ∈ news, u.oneCell' = true)
    (h63 : n + m ≤ maxLen) (hbytes : (n + m) * bytes ≤ 140737488355328) (hbase : base ≤ w.heap.size) :
    ∃ A' c' w', (Builtin.append_ #[t, t] ty #[v, .slice A m c]).run P w = .ok (.slice A' (n + m) c') w' ∧ w'.ownsRow base e size (.slice A' (n + m) c') (n + m) (xs ++ news) ∧ w.grownBy w' v.ownBlock := by
  obtain ⟨hl, A1, c1, e1, hc⟩ := hr
  obtain ⟨rfl, _, rfl⟩ : A = A1 ∧ m = m ∧ c = c1 := by simpa using e1
  by_cases hm : 0 < m
  · obtain ⟨g, o', rfl, _, hcells⟩ := hc hm
    obtain ⟨g', cap, w', hr', h2, h3, _, _⟩ := run_append_lies (P := P) w t ty base e i z size bytes ht hi hz hsize hby hzs hsz v n xs hown ⟨g, o', none⟩ m c news hl (fun j u hu => by rw [Go.WideShapes.add_plain]; exact hcells j u hu) h1 hm h63 hbytes hbase _ rfl
    exact ⟨_, _, w', hr', h2, h3⟩
  · obtain rfl : m = 0 := by omega
    obtain rfl : news = [] := List.eq_nil_of_length_eq_zero (by simpa using hl)
    have hsrc : Src P i.size t (.slice A 0 c) 0 [] w := by
      cases A with
      | none => exact Src.ofNil w ht c
      | some ad => exact Src.ofSlice w ht ad 0 c [] (by simp) (fun j u hu => by simp at hu) (fun u hu => by simp at hu)
    have hv : ∃ b cap, v = .slice b n cap ∧ n ≤ cap := by
      rcases hown.2 with ⟨rfl, rfl⟩ | ⟨g, cap, cur, rfl, _, _, h, _⟩
      · exact ⟨_, _, rfl, Nat.le_refl _⟩
      · exact ⟨_, _, rfl, h⟩
    obtain ⟨b, cap, rfl, hle⟩ := hv
    have hrun := run_append_nothing (P := P) w t t ty e i ht hi b n cap hle _ hsrc
    exact ⟨b, cap, w, hrun, by simpa using hown, ⟨rfl, rfl, rfl, Nat.le_refl _, fun _ _ _ => rfl⟩⟩

theorem wp_append_reads {ops : Array Oper} {o : Oper} {a : Act} {K : Act → World → Prop} {Q : Exit → Act → World → Prop} (s x : Operand) (t : TypeId)
    (ho : o.op = .call { callee := .builtin .append, args := #[s, x], argTypes := #[t, t] })
    (base : Nat) (e : TypeId) (i : TypeInfo) (z : Value) (size bytes : Nat) (ht : P.underlying t = some (.slice e)) (hi : P.info? e = some i) (hz : i.zero = some z)
    (hsize : i.size = size) (hby : i.bytes = bytes) (hzs : z.cells.size = size) (hsz : 0 < size)
    (v : Value) (n : Nat) (xs : List Value) (hs : a.eval s = v) (hown : w.ownsRow base e size v n xs)
    (A : Option Addr) (m c : Nat) (F : Nat → Prop) (news : List Value) (hx : a.eval x = .slice A m c) (hr : Reads w F (.slice A m c) m size news) (h1 : ∀ u ∈ news, u.oneCell' = true)
    (h63 : n + m ≤ maxLen) (hbytes : (n + m) * bytes ≤ 140737488355328) (hbase : base ≤ w.heap.size)
    (h : ∀ A' c' w', w'.ownsRow base e size (.slice A' (n + m) c') (n + m) (xs ++ news) → w.grownBy w' v.ownBlock → K (a.put o.dst (.slice A' (n + m) c')) w') : Oper.wp P o a w K Q := by
  obtain ⟨A', c', w', hrun, h2, h3⟩ := run_append_reads (P := P) w t o.type base e i z size bytes ht hi hz hsize hby hzs hsz v n xs hown A m c F news hr h1 h63 hbytes hbase
  unfold Oper.wp execOp
  simp only [ho, resolve, invoke, builtin, Sem.run_bind, Sem.run_pure, Result.andThen_ok, List.map_toArray, List.map_cons, List.map_nil, hs, hx, hrun]
  exact h A' c' w' h2 h3

theorem wpList_append_reads {ops : Array Oper} {rest : List Oper} {o : Oper} {a : Act} {Q : Exit → Act → World → Prop} (hgd : o.guard = none) (s x : Operand) (t : TypeId)
    (ho : o.op = .call { callee := .builtin .append, args := #[s, x], argTypes := #[t, t] })
    (base : Nat) (e : TypeId) (i : TypeInfo) (z : Value) (size bytes : Nat) (ht : P.underlying t = some (.slice e)) (hi : P.info? e = some i) (hz : i.zero = some z)
    (hsize : i.size = size) (hby : i.bytes = bytes) (hzs : z.cells.size = size) (hsz : 0 < size)
    (v : Value) (n : Nat) (xs : List Value) (hs : a.eval s = v) (hown : w.ownsRow base e size v n xs)
    (A : Option Addr) (m c : Nat) (F : Nat → Prop) (news : List Value) (hx : a.eval x = .slice A m c) (hr : Reads w F (.slice A m c) m size news) (h1 : ∀ u ∈ news, u.oneCell' = true)
    (h63 : n + m ≤ maxLen) (hbytes : (n + m) * bytes ≤ 140737488355328) (hbase : base ≤ w.heap.size)
    (h : ∀ A' c' w', w'.ownsRow base e size (.slice A' (n + m) c') (n + m) (xs ++ news) → w.grownBy w' v.ownBlock → wpList P ops Q rest (a.put o.dst (.slice A' (n + m) c')) w') : wpList P ops Q (o :: rest) a w :=
  wpList_plain hgd fun _ hK => wp_append_reads (ops := ops) w s x t ho base e i z size bytes ht hi hz hsize hby hzs hsz v n xs hs hown A m c F news hx hr h1 h63 hbytes hbase fun A' c' w' h2 h3 => hK _ _ (h A' c' w' h2 h3)

theorem step_append_reads {ops : Array Oper} {o : Oper} {a : Act} {K : Act → World → Prop} {Q : Exit → Act → World → Prop} {E : Prop} (hgd : o.guard = none) (s x : Operand) (t : TypeId)
    (ho : o.op = .call { callee := .builtin .append, args := #[s, x], argTypes := #[t, t] })
    (base : Nat) (e : TypeId) (i : TypeInfo) (z : Value) (size bytes : Nat) (ht : P.underlying t = some (.slice e)) (hi : P.info? e = some i) (hz : i.zero = some z)
    (hsize : i.size = size) (hby : i.bytes = bytes) (hzs : z.cells.size = size) (hsz : 0 < size)
    (v : Value) (n : Nat) (xs : List Value) (hs : a.eval s = v) (hown : w.ownsRow base e size v n xs)
    (A : Option Addr) (m c : Nat) (F : Nat → Prop) (news : List Value) (hx : a.eval x = .slice A m c) (hr : Reads w F (.slice A m c) m size news) (h1 : ∀ u ∈ news, u.oneCell' = true)
    (h63 : n + m ≤ maxLen) (hbytes : (n + m) * bytes ≤ 140737488355328) (hbase : base ≤ w.heap.size)
    (h : ∀ A' c' w', w'.ownsRow base e size (.slice A' (n + m) c') (n + m) (xs ++ news) → w.grownBy w' v.ownBlock → K (a.put o.dst (.slice A' (n + m) c')) w') :
    if Region.wanted o (yielded ops a.tmps) = true then Oper.wp P o a w K Q else E := by
  have hw : Region.wanted o (yielded ops a.tmps) = true := by simp [Region.wanted, hgd]
  rw [if_pos hw]
  exact wp_append_reads (ops := ops) w s x t ho base e i z size bytes ht hi hz hsize hby hzs hsz v n xs hs hown A m c F news hx hr h1 h63 hbytes hbase h
end
end Go.Proofs.YtefbdcmodfbpbaaGreat
namespace Go.Proofs.YtefbdcmodfbpbaaGreat
open Go.RowKit

/-- Sixteen lists, that lie as slices side by side. -/
def QRef (w : World) (F : Nat → Prop) (b o : Nat) (ls : Nat → List Int) : Prop :=
  ∀ p, p < 16 → ∃ v, w.cell? ⟨b, o + p, none⟩ = some v ∧ IntsAt w F v (ls p)
/-- All, the most urgent first, of priorities under 'k' left out. -/
def orderFrom (ls : Nat → List Int) : Nat → List Int
  | 0 => []
  | k + 1 => orderFrom (fun p => ls p) k ++ ls (15 - k)
/-- All, the most urgent first. -/
def orderR (ls : Nat → List Int) : List Int := orderFrom ls 16
theorem encInts_app (xs ys : List Int) : encInts (xs ++ ys) = encInts xs ++ encInts ys := by simp [encInts]
theorem QRef.kept {w w' : World} {F : Nat → Prop} {b o : Nat} {ls : Nat → List Int} (h : QRef w F b o ls) (hb : w'.heap[b]? = w.heap[b]?) (hk : ∀ k, k < w.heap.size → F k → w'.heap[k]? = w.heap[k]?) : QRef w' F b o ls := fun p hp => by
  obtain ⟨v, h1, h2⟩ := h p hp
  exact ⟨v, (World.cell?_of_block (a := ⟨b, o + p, none⟩) (w := w) (w' := w') hb).trans h1, Reads.kept h2 hk⟩

theorem ownsRow_lower {w : World} {B B' : Nat} {e : TypeId} {size n : Nat} {v : Value} {xs : List Value} (h : w.ownsRow B e size v n xs) (hB : B' ≤ B) : w.ownsRow B' e size v n xs := by
  obtain ⟨hl, h⟩ := h
  refine ⟨hl, ?_⟩
  rcases h with h | ⟨g, cap, cur, h1, h2, h3⟩
  · exact .inl h
  · exact .inr ⟨g, cap, cur, h1, Nat.le_trans hB h2, h3⟩
theorem ownsRow_ints {w : World} {B : Nat} {v : Value} {xs : List Int} {e : TypeId} (h : w.ownsRow B e 1 v xs.length (encInts xs)) : IntsAt w (fun k => B ≤ k) v xs := ownsRow_reads h

theorem orderFrom_succ (ls : Nat → List Int) (k : Nat) : orderFrom ls (k + 1) = orderFrom ls k ++ ls (15 - k) := rfl
theorem orderFrom_len (ls : Nat → List Int) (m : Nat) (hm : ∀ p, p < 16 → (ls p).length ≤ m) : ∀ k, k ≤ 16 → (orderFrom ls k).length ≤ k * m
  | 0, _ => by simp [orderFrom]
  | k + 1, h => by
    have := orderFrom_len ls m hm k (by omega)
    have := hm (15 - k) (by omega)
    rw [orderFrom_succ, List.length_append, Nat.succ_mul]; omega
end Go.Proofs.YtefbdcmodfbpbaaGreat
