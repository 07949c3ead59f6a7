/-
  A frame and its memory of words as they lie in Go's memory; what each access of a frame does there.
-/
import Derived.Test.YtefbdcmodfbpbaaGreatStep
import Derived.Lib.Hide
import Derived.Test.YtefbdcmodfbpbaaGreatProg
import Derived.WalkKit
import Derived.WalkSpells
import Derived.WalkLawsBesides
import Derived.KernelRfl
import Derived.Deep.QuietTactic
import Derived.BigQuiet
import Derived.Deep.RegionHeld3
import Derived.Deep.AppendLies
import Derived.Deep.RegionLaw
import Derived.BigRegion
set_option linter.unusedVariables false
set_option linter.unusedSimpArgs false
namespace Go.Proofs.YtefbdcmodfbpbaaGreat
open Go.RowKit

def I64 (x : Int) : Prop := -9223372036854775808 ≤ x ∧ x ≤ 9223372036854775807
theorem wrap64_i64 {x : Int} (h : I64 x) : wrap64 x = x := by unfold I64 at h; unfold wrap64; omega
theorem i64_wrap64 (x : Int) : I64 (wrap64 x) := by unfold I64 wrap64; omega
theorem i64_small {x : Int} (h0 : -1000000000000 ≤ x) (h1 : x ≤ 1000000000000) : I64 x := by unfold I64; omega

/-- Where a frame's parts lie: its own block, the memory's struct, its words. (The log's slice value stands beside: 'sl'.) -/
structure FG where
  fb : Nat
  mb : Nat
  wb : Nat

def encLog (l : List (Int × Int)) : List Value := l.flatMap fun p => [.int .i64 p.1, .int .i64 p.2]
theorem encLog_length (l : List (Int × Int)) : (encLog l).length = l.length * 2 := by
  induction l with
  | nil => rfl
  | cons x l ih => simp only [encLog, List.flatMap_cons, List.length_append, List.length_cons, List.length_nil] at *; omega
theorem encLog_append (l : List (Int × Int)) (p : Int × Int) : encLog (l ++ [p]) = encLog l ++ [.int .i64 p.1, .int .i64 p.2] := by simp [encLog]
theorem encLog_get (l : List (Int × Int)) : ∀ (i : Nat), i < l.length → (encLog l)[2 * i]? = some (.int .i64 (l.getD i (0, 0)).1) := by
  induction l with
  | nil => intro i hi; simp at hi
  | cons x l ih =>
    intro i hi
    cases i with
    | zero => rfl
    | succ i =>
      have := ih i (by simpa using hi)
      simp only [encLog, List.flatMap_cons] at this ⊢
      rw [show 2 * (i + 1) = 2 * i + 1 + 1 by omega]
      simpa using this

def encInts (l : List Int) : List Value := l.map (Value.int .i64)

/-- A memory of words. -/
structure MemAt (w : World) (mb wb : Nat) (m : Mem) : Prop where
  st : w.heap[mb]? = some (.cells #[.slice (some ⟨wb, 0, none⟩) m.length m.length] 140 (0, 0))
  ws : w.heap[wb]? = some (.cells (encInts m).toArray 2 (0, 0))
  ne : mb ≠ wb
  len : m.length ≤ 4000
  i64 : ∀ v ∈ m, I64 v

/-- A frame in the state 's'. -/
structure Fr (w : World) (g : FG) (sl : Value) (s : FS) : Prop where
  fr : w.heap[g.fb]? = some (.cells #[.pointer (some ⟨g.mb, 0, none⟩), sl, .int .i64 s.at_, .bool s.fresh, .bool s.off, .int .i64 s.now, .int .i64 s.mark, .bool s.marked, .bool s.over] 267 (0, 0))
  mem : MemAt w g.mb g.wb s.mem
  lg : w.ownsRow 0 269 2 sl s.log.length (encLog s.log)
  ne1 : g.fb ≠ g.mb
  ne2 : g.fb ≠ g.wb
  nf : sl.ownBlock ≠ some g.fb
  nm : sl.ownBlock ≠ some g.mb
  nw : sl.ownBlock ≠ some g.wb
  room : s.log.length + (if s.fresh then 1 else 0) ≤ 1000000
  at_le : s.at_ ≤ s.log.length
  li64 : ∀ p ∈ s.log, I64 p.1

/-- From one state of a frame to another: what isn't the frame's own is as it was. -/
structure Ev (g : FG) (sl sl' : Value) (w w' : World) : Prop where
  os : w'.os = w.os
  tape : w'.tape = w.tape
  output : w'.output = w.output
  size : w.heap.size ≤ w'.heap.size
  block : ∀ k, k < w.heap.size → k ≠ g.fb → k ≠ g.wb → sl.ownBlock ≠ some k → w'.heap[k]? = w.heap[k]?
  own : sl'.ownBlock = sl.ownBlock ∨ ∃ b, sl'.ownBlock = some b ∧ w.heap.size ≤ b

theorem Ev.refl (g : FG) (sl : Value) (w : World) : Ev g sl sl w w := ⟨rfl, rfl, rfl, Nat.le_refl _, fun _ _ _ _ _ => rfl, .inl rfl⟩
theorem Ev.trans {g : FG} {s1 s2 s3 : Value} {a b c : World} (h : Ev g s1 s2 a b) (k : Ev g s2 s3 b c) : Ev g s1 s3 a c := by
  refine ⟨k.os.trans h.os, k.tape.trans h.tape, k.output.trans h.output, Nat.le_trans h.size k.size, ?_, ?_⟩
  · intro i hi h1 h2 h3
    rw [k.block i (Nat.lt_of_lt_of_le hi h.size) h1 h2 ?_, h.block i hi h1 h2 h3]
    rcases h.own with e | ⟨b, e, hb⟩
    · rw [e]; exact h3
    · rw [e]; intro e'; injection e' with e'; omega
  · rcases k.own with e | ⟨b, e, hb⟩
    · rcases h.own with e' | ⟨b', e', hb'⟩
      · exact .inl (e.trans e')
      · exact .inr ⟨b', e.trans e', hb'⟩
    · exact .inr ⟨b, e, Nat.le_trans h.size hb⟩
theorem Ev.drewN (g : FG) (sl : Value) (w : World) (n : Nat) : Ev g sl sl w (w.drewN n) := ⟨rfl, rfl, rfl, Nat.le_refl _, fun _ _ _ _ _ => rfl, .inl rfl⟩
theorem Ev.drew (g : FG) (sl : Value) (w : World) : Ev g sl sl w w.drew := ⟨rfl, rfl, rfl, Nat.le_refl _, fun _ _ _ _ _ => rfl, .inl rfl⟩
theorem Ev.alloc (g : FG) (sl : Value) (w : World) (o : Obj) : Ev g sl sl w (w.alloc o) :=
  ⟨rfl, rfl, rfl, by simp, fun k hk _ _ _ => Below.heap_alloc w o k hk, .inl rfl⟩

/-- What the frame's state needs of memory: its own blocks. -/
theorem MemAt.kept {w w' : World} {mb wb : Nat} {m : Mem} (h : MemAt w mb wb m) (h1 : w'.heap[mb]? = w.heap[mb]?) (h2 : w'.heap[wb]? = w.heap[wb]?) : MemAt w' mb wb m :=
  ⟨by rw [h1]; exact h.st, by rw [h2]; exact h.ws, h.ne, h.len, h.i64⟩
theorem ownsRow_kept {w w' : World} {base e size n : Nat} {v : Value} {xs : List Value} (h : w.ownsRow base e size v n xs) (hk : ∀ k, v.ownBlock = some k → w'.heap[k]? = w.heap[k]?) : w'.ownsRow base e size v n xs := by
  refine ⟨h.1, ?_⟩
  rcases h.2 with hn | ⟨g, cap, cur, rfl, hb, hgg, rest⟩
  · exact .inl hn
  · exact .inr ⟨g, cap, cur, rfl, hb, by rw [hk g rfl]; exact hgg, rest⟩
theorem Fr.kept {w w' : World} {g : FG} {sl : Value} {s : FS} (h : Fr w g sl s) (h1 : w'.heap[g.fb]? = w.heap[g.fb]?) (h2 : w'.heap[g.mb]? = w.heap[g.mb]?) (h3 : w'.heap[g.wb]? = w.heap[g.wb]?)
    (h4 : ∀ k, sl.ownBlock = some k → w'.heap[k]? = w.heap[k]?) : Fr w' g sl s :=
  ⟨by rw [h1]; exact h.fr, h.mem.kept h2 h3, ownsRow_kept h.lg h4, h.ne1, h.ne2, h.nf, h.nm, h.nw, h.room, h.at_le, h.li64⟩
theorem Fr.lts {w : World} {g : FG} {sl : Value} {s : FS} (h : Fr w g sl s) : g.fb < w.heap.size ∧ g.mb < w.heap.size ∧ g.wb < w.heap.size ∧ ∀ k, sl.ownBlock = some k → k < w.heap.size :=
  ⟨lt_of_block h.fr, lt_of_block h.mem.st, lt_of_block h.mem.ws, fun k hk => (h.lg.lt k hk).2⟩
theorem Fr.alloc {w : World} {g : FG} {sl : Value} {s : FS} (h : Fr w g sl s) (o : Obj) : Fr (w.alloc o) g sl s := by
  obtain ⟨l1, l2, l3, l4⟩ := h.lts
  exact h.kept (Below.heap_alloc _ _ _ l1) (Below.heap_alloc _ _ _ l2) (Below.heap_alloc _ _ _ l3) (fun k hk => Below.heap_alloc _ _ _ (l4 k hk))
theorem Fr.drewN {w : World} {g : FG} {sl : Value} {s : FS} (h : Fr w g sl s) (n : Nat) : Fr (w.drewN n) g sl s := h.kept rfl rfl rfl (fun _ _ => rfl)
theorem Fr.drew {w : World} {g : FG} {sl : Value} {s : FS} (h : Fr w g sl s) : Fr w.drew g sl s := h.kept rfl rfl rfl (fun _ _ => rfl)

/-- A cell of a block that is known whole. -/
theorem cell_of_block {w : World} {b : Nat} {cs : Array Value} {t : TypeId} {fr : Nat × Nat} (h : w.heap[b]? = some (.cells cs t fr)) (k : Nat) : w.cell? ⟨b, k, none⟩ = cs[k]? := by simp [World.cell?, h]
theorem free_of_block {w : World} {b : Nat} {cs : Array Value} {t : TypeId} (h : w.heap[b]? = some (.cells cs t (0, 0))) (k : Nat) : w.frozen? ⟨b, k, none⟩ = false := by simp [World.frozen?, h]
theorem block_setCell {w : World} {b : Nat} {cs : Array Value} {t : TypeId} {fr : Nat × Nat} (h : w.heap[b]? = some (.cells cs t fr)) (k : Nat) (v : Value) : (w.setCell ⟨b, k, none⟩ v).heap[b]? = some (.cells (cs.setIfInBounds k v) t fr) := by
  have hlt := lt_of_block h
  have h' : w.heap[b] = .cells cs t fr := by simpa [Array.getElem?_eq_getElem hlt] using h
  show (w.heap.modify b _)[b]? = _
  rw [Array.getElem?_eq_getElem (by simpa using hlt), Array.getElem_modify_self, h']
  rfl
theorem block_setCell_other {w : World} {b : Nat} (c k : Nat) (v : Value) (h : b ≠ c) : (w.setCell ⟨c, k, none⟩ v).heap[b]? = w.heap[b]? := Below.heap_setCell _ _ _ _ h

/-- A frame's cells, as the walk reads them. -/
structure FrCells (w : World) (g : FG) (sl : Value) (s : FS) : Prop where
  c0 : w.cell? ⟨g.fb, 0, none⟩ = some (.pointer (some ⟨g.mb, 0, none⟩))
  c1 : w.cell? ⟨g.fb, 1, none⟩ = some sl
  c2 : w.cell? ⟨g.fb, 2, none⟩ = some (.int .i64 s.at_)
  c3 : w.cell? ⟨g.fb, 3, none⟩ = some (.bool s.fresh)
  c4 : w.cell? ⟨g.fb, 4, none⟩ = some (.bool s.off)
  c5 : w.cell? ⟨g.fb, 5, none⟩ = some (.int .i64 s.now)
  c6 : w.cell? ⟨g.fb, 6, none⟩ = some (.int .i64 s.mark)
  c7 : w.cell? ⟨g.fb, 7, none⟩ = some (.bool s.marked)
  c8 : w.cell? ⟨g.fb, 8, none⟩ = some (.bool s.over)
theorem Fr.cells {w : World} {g : FG} {sl : Value} {s : FS} (h : Fr w g sl s) : FrCells w g sl s := by
  constructor <;> (rw [cell_of_block h.fr]; rfl)
theorem Fr.free {w : World} {g : FG} {sl : Value} {s : FS} (h : Fr w g sl s) (k : Nat) : w.frozen? ⟨g.fb, k, none⟩ = false := free_of_block h.fr k

/-- The frame's own cells written: its state but the log and the memory. -/
theorem Fr.set {w : World} {g : FG} {sl : Value} {s : FS} (h : Fr w g sl s) (k : Nat) (v : Value) (s' : FS)
    (hc : (#[.pointer (some ⟨g.mb, 0, none⟩), sl, .int .i64 s.at_, .bool s.fresh, .bool s.off, .int .i64 s.now, .int .i64 s.mark, .bool s.marked, .bool s.over] : Array Value).setIfInBounds k v =
      #[.pointer (some ⟨g.mb, 0, none⟩), sl, .int .i64 s'.at_, .bool s'.fresh, .bool s'.off, .int .i64 s'.now, .int .i64 s'.mark, .bool s'.marked, .bool s'.over])
    (hl : s'.log = s.log) (hm : s'.mem = s.mem) (hr : s'.log.length + (if s'.fresh then 1 else 0) ≤ 1000000) (ha : s'.at_ ≤ s.log.length) : Fr (w.setCell ⟨g.fb, k, none⟩ v) g sl s' := by
  have o1 := block_setCell_other (w := w) g.fb k v (Ne.symm h.ne1)
  have o2 := block_setCell_other (w := w) g.fb k v (Ne.symm h.ne2)
  refine ⟨by rw [block_setCell h.fr, hc], ?_, ?_, h.ne1, h.ne2, h.nf, h.nm, h.nw, hr, by rw [hl]; exact ha, by rw [hl]; exact h.li64⟩
  · rw [hm]; exact h.mem.kept o1 o2
  · rw [hl]; exact ownsRow_kept h.lg (fun b hb => block_setCell_other _ _ _ (fun e => h.nf (by rw [hb, e])))
theorem Ev.set (g : FG) (sl : Value) (w : World) (k : Nat) (v : Value) : Ev g sl sl w (w.setCell ⟨g.fb, k, none⟩ v) :=
  ⟨rfl, rfl, rfl, by simp [World.setCell], fun i _ h1 _ _ => block_setCell_other _ _ _ h1, .inl rfl⟩

/-! ### word.Mem -/
theorem MemAt.cellS {w : World} {mb wb : Nat} {m : Mem} (h : MemAt w mb wb m) : w.cell? ⟨mb, 0, none⟩ = some (.slice (some ⟨wb, 0, none⟩) m.length m.length) := by rw [cell_of_block h.st]; rfl
theorem MemAt.cellW {w : World} {mb wb : Nat} {m : Mem} (h : MemAt w mb wb m) (a : Int) (h0 : 0 ≤ a) (h1 : a < m.length) : w.cell? ⟨wb, a.toNat, none⟩ = some (.int .i64 (rdM m a)) := by
  have h2 : a.toNat < m.length := by omega
  rw [cell_of_block h.ws, rdM, if_pos ⟨h0, h1⟩]
  simp [encInts, List.getElem?_map, List.getElem?_eq_getElem h2, List.getD_eq_getElem?_getD]

set_option maxHeartbeats 400000 in
theorem len_any (mb wb : Nat) (m : Mem) (w : World) (h : MemAt w mb wb m) :
    Calls Tryz.prog 252 #[.pointer (some ⟨mb, 0, none⟩)] w fun e w' => e = .returned (.int .i64 m.length) ∧ w = w' := by
  have h1 := h.cellS
  clear h
  go_enter Tryz.func252, Tryz.ntmps252
  go_wp2
  go_ret
  exact ⟨rfl, rfl⟩

set_option maxHeartbeats 400000 in
theorem at_in (mb wb : Nat) (m : Mem) (a : Int) (w : World) (h : MemAt w mb wb m) (h0 : 0 ≤ a) (h1 : a < m.length) :
    Calls Tryz.prog 167 #[.pointer (some ⟨mb, 0, none⟩), .int .i64 a] w fun e w' => e = .returned (.pointer (some ⟨wb, a.toNat, none⟩)) ∧ w = w' := by
  have hc := h.cellS
  go_enter Tryz.func167, Tryz.ntmps167
  go_wp2_with (go_at_call 252; refine (len_any mb wb m _ h).mono ?_; rintro e w' ⟨rfl, rfl⟩)
  go_ret
  exact ⟨rfl, rfl⟩

set_option maxHeartbeats 400000 in
theorem at_out (mb wb : Nat) (m : Mem) (a : Int) (w : World) (h : MemAt w mb wb m) (h1 : ¬ (0 ≤ a ∧ a < m.length)) :
    Calls Tryz.prog 167 #[.pointer (some ⟨mb, 0, none⟩), .int .i64 a] w fun e w' => e = .returned (.pointer none) ∧ w = w' := by
  have hc := h.cellS
  by_cases h2 : a < 0
  · go_enter Tryz.func167, Tryz.ntmps167
    go_wp2_with (go_at_call 252; refine (len_any mb wb m _ h).mono ?_; rintro e w' ⟨rfl, rfl⟩)
    go_ret
    exact ⟨rfl, rfl⟩
  · have h3 : (m.length : Int) ≤ a := by omega
    have h4 : ¬ a < (m.length : Int) := by omega
    go_enter Tryz.func167, Tryz.ntmps167
    go_wp2_with (go_at_call 252; refine (len_any mb wb m _ h).mono ?_; rintro e w' ⟨rfl, rfl⟩)
    go_ret
    exact ⟨rfl, rfl⟩

/-- A word's load: what it is, and whether there was one. -/
theorem load_any (mb wb : Nat) (m : Mem) (a : Int) (w : World) (h : MemAt w mb wb m) :
    Calls Tryz.prog 90 #[.pointer (some ⟨mb, 0, none⟩), .int .i64 a] w fun e w' => (∃ c, e = .returned (.tuple #[.int .i64 (rdM m a), .int .i64 c])) ∧ w = w' := by
  by_cases h1 : 0 ≤ a ∧ a < m.length
  · have hc := h.cellW a h1.1 h1.2
    go_enter Tryz.func90, Tryz.ntmps90
    go_wp2_with (go_at_call 167; refine (at_in mb wb m a _ h h1.1 h1.2).mono ?_; rintro e w' ⟨rfl, rfl⟩)
    go_ret2
    exact ⟨⟨_, rfl⟩, rfl⟩
  · have hz : rdM m a = 0 := by unfold rdM; rw [if_neg h1]
    rw [hz]
    clear hz
    go_enter Tryz.func90, Tryz.ntmps90
    go_wp2_with (go_at_call 167; refine (at_out mb wb m a _ h h1).mono ?_; rintro e w' ⟨rfl, rfl⟩)
    go_ret2
    exact ⟨⟨_, rfl⟩, rfl⟩

theorem wrM_length (m : Mem) (a v : Int) : (wrM m a v).length = m.length := by unfold wrM; split <;> simp
theorem wrM_i64 {m : Mem} (h : ∀ v ∈ m, I64 v) (a : Int) {v : Int} (hv : I64 v) : ∀ u ∈ wrM m a v, I64 u := by
  unfold wrM
  split
  · intro u hu
    rcases List.mem_or_eq_of_mem_set hu with h1 | h1
    · exact h u h1
    · exact h1 ▸ hv
  · exact h
theorem rdM_i64 {m : Mem} (h : ∀ v ∈ m, I64 v) (a : Int) : I64 (rdM m a) := by
  unfold rdM
  split
  · rename_i hc
    have h2 : a.toNat < m.length := by omega
    rw [List.getD_eq_getElem?_getD, List.getElem?_eq_getElem h2]
    exact h _ (List.getElem_mem h2)
  · exact ⟨by omega, by omega⟩

/-- The memory behind a store into a word. -/
theorem MemAt.put {w : World} {mb wb : Nat} {m : Mem} (h : MemAt w mb wb m) (a v : Int) (h0 : 0 ≤ a) (h1 : a < m.length) (hv : I64 v) : MemAt (w.setCell ⟨wb, a.toNat, none⟩ (.int .i64 v)) mb wb (wrM m a v) := by
  refine ⟨?_, ?_, h.ne, by rw [wrM_length]; exact h.len, wrM_i64 h.i64 a hv⟩
  · rw [block_setCell_other _ _ _ h.ne, wrM_length]; exact h.st
  · rw [block_setCell h.ws]
    unfold wrM encInts
    rw [if_pos ⟨h0, h1⟩]
    simp

/-- Only the words' block has been written. -/
def OnlyBlock (b : Nat) (w w' : World) : Prop := w'.os = w.os ∧ w'.tape = w.tape ∧ w'.output = w.output ∧ w'.heap.size = w.heap.size ∧ ∀ k, k ≠ b → w'.heap[k]? = w.heap[k]?
theorem OnlyBlock.refl (b : Nat) (w : World) : OnlyBlock b w w := ⟨rfl, rfl, rfl, rfl, fun _ _ => rfl⟩
theorem OnlyBlock.set (b k : Nat) (v : Value) (w : World) : OnlyBlock b w (w.setCell ⟨b, k, none⟩ v) := ⟨rfl, rfl, rfl, by simp [World.setCell], fun _ hk => block_setCell_other _ _ _ hk⟩

theorem store_any (mb wb : Nat) (m : Mem) (a v : Int) (w : World) (h : MemAt w mb wb m) (hv : I64 v) :
    Calls Tryz.prog 280 #[.pointer (some ⟨mb, 0, none⟩), .int .i64 a, .int .i64 v] w fun e w' => (∃ c, e = .returned (.int .i64 c)) ∧ MemAt w' mb wb (wrM m a v) ∧ OnlyBlock wb w w' := by
  by_cases h1 : 0 ≤ a ∧ a < m.length
  · have hc := h.cellW a h1.1 h1.2
    have hf := free_of_block h.ws a.toNat
    go_enter Tryz.func280, Tryz.ntmps280
    go_wp2_with (go_at_call 167; refine (at_in mb wb m a _ h h1.1 h1.2).mono ?_; rintro e w' ⟨rfl, rfl⟩)
    go_ret
    exact ⟨⟨_, rfl⟩, h.put a v h1.1 h1.2 hv, OnlyBlock.set _ _ _ _⟩
  · have hz : wrM m a v = m := by unfold wrM; rw [if_neg h1]
    rw [hz]
    clear hz
    go_enter Tryz.func280, Tryz.ntmps280
    go_wp2_with (go_at_call 167; refine (at_out mb wb m a _ h h1).mono ?_; rintro e w' ⟨rfl, rfl⟩)
    go_ret
    exact ⟨⟨_, rfl⟩, h, OnlyBlock.refl _ _⟩

theorem add_any (mb wb : Nat) (m : Mem) (a d : Int) (w : World) (h : MemAt w mb wb m) :
    Calls Tryz.prog 392 #[.pointer (some ⟨mb, 0, none⟩), .int .i64 a, .int .i64 d] w fun e w' => (∃ c, e = .returned (.tuple #[.int .i64 (rdM m a), .int .i64 c])) ∧ MemAt w' mb wb (wrM m a (wrap64 (rdM m a + d))) ∧ OnlyBlock wb w w' := by
  by_cases h1 : 0 ≤ a ∧ a < m.length
  · have hc := h.cellW a h1.1 h1.2
    have hf := free_of_block h.ws a.toNat
    go_enter Tryz.func392, Tryz.ntmps392
    go_wp2_with (go_at_call 167; refine (at_in mb wb m a _ h h1.1 h1.2).mono ?_; rintro e w' ⟨rfl, rfl⟩)
    go_ret2
    exact ⟨⟨_, rfl⟩, h.put a _ h1.1 h1.2 (i64_wrap64 _), OnlyBlock.set _ _ _ _⟩
  · have hz : rdM m a = 0 := by unfold rdM; rw [if_neg h1]
    have hz' : wrM m a (wrap64 (rdM m a + d)) = m := by unfold wrM; rw [if_neg h1]
    rw [hz', hz]
    clear hz hz'
    go_enter Tryz.func392, Tryz.ntmps392
    go_wp2_with (go_at_call 167; refine (at_out mb wb m a _ h h1).mono ?_; rintro e w' ⟨rfl, rfl⟩)
    go_ret2
    exact ⟨⟨_, rfl⟩, h, OnlyBlock.refl _ _⟩
end Go.Proofs.YtefbdcmodfbpbaaGreat
