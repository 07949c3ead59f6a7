/-
  Partitions as data, and how they lie in Go's memory. Plain Lean over the model's worlds.
-/
import Derived.Test.YtefbdcmodfbpbaaGreatFrame
set_option linter.unusedVariables false
set_option linter.unusedSimpArgs false
namespace Go.Proofs.YtefbdcmodfbpbaaGreat
open Go.RowKit

structure CallD where
  kind : Int
  handle : Int
  a : Int
  b : Int
  words : List Int
  timeout : Int
structure ThreadD where
  prio : Int
  caps : Int
  control : Bool
  prog : List CallD
structure ObjD where
  kind : Int
  size : Int
  prio : Bool
structure PartD where
  thr : List ThreadD
  obj : List ObjD

/-- A slice value that reads as 'n' elements of 'stride' cells; its block is one of 'F'. -/
def Reads (w : World) (F : Nat → Prop) (v : Value) (n stride : Nat) (cells : List Value) : Prop :=
  cells.length = n * stride ∧ ∃ A c, v = .slice A n c ∧ (0 < n → ∃ b o, A = some ⟨b, o, none⟩ ∧ F b ∧ ∀ j u, cells[j]? = some u → w.cell? ⟨b, o + j, none⟩ = some u)
theorem Reads.kept {w w' : World} {F : Nat → Prop} {v : Value} {n stride : Nat} {cells : List Value} (h : Reads w F v n stride cells) (hk : ∀ k, k < w.heap.size → F k → w'.heap[k]? = w.heap[k]?) : Reads w' F v n stride cells := by
  obtain ⟨h1, A, c, h2, h3⟩ := h
  refine ⟨h1, A, c, h2, fun hn => ?_⟩
  obtain ⟨b, o, e, hF, hc⟩ := h3 hn
  refine ⟨b, o, e, hF, fun j u hu => ?_⟩
  have hc1 := hc j u hu
  have hlt := World.block_lt_of_cell? w _ hc1
  rw [World.cell?_of_block (w := w) (hk b hlt hF)]
  exact hc1
theorem Reads.wider {w : World} {F F' : Nat → Prop} {v : Value} {n stride : Nat} {cells : List Value} (h : Reads w F v n stride cells) (hF : ∀ k, F k → F' k) : Reads w F' v n stride cells := by
  obtain ⟨h1, A, c, h2, h3⟩ := h
  refine ⟨h1, A, c, h2, fun hn => ?_⟩
  obtain ⟨b, o, e, hb, hc⟩ := h3 hn
  exact ⟨b, o, e, hF b hb, hc⟩

def IntsAt (w : World) (F : Nat → Prop) (v : Value) (xs : List Int) : Prop := Reads w F v xs.length 1 (encInts xs)
def callCells (c : CallD) (wv : Value) : List Value := [.int .i64 c.kind, .int .i64 c.handle, .int .i64 c.a, .int .i64 c.b, wv, .int .i64 c.timeout]
def encCalls : List CallD → List Value → List Value
  | c :: cs, v :: vs => callCells c v ++ encCalls cs vs
  | _, _ => []
def CallsAt (w : World) (F : Nat → Prop) (v : Value) (cs : List CallD) : Prop :=
  ∃ ws : List Value, ws.length = cs.length ∧ Reads w F v cs.length 6 (encCalls cs ws) ∧ ∀ (i : Nat) (c : CallD) (u : Value), cs[i]? = some c → ws[i]? = some u → IntsAt w F u c.words
def threadCells (t : ThreadD) (pv : Value) : List Value := [.int .i64 t.prio, .int .u32 t.caps, .bool t.control, pv]
def encThreads : List ThreadD → List Value → List Value
  | t :: ts, v :: vs => threadCells t v ++ encThreads ts vs
  | _, _ => []
def ThreadsAt (w : World) (F : Nat → Prop) (v : Value) (ts : List ThreadD) : Prop :=
  ∃ ps : List Value, ps.length = ts.length ∧ Reads w F v ts.length 4 (encThreads ts ps) ∧ ∀ (i : Nat) (t : ThreadD) (u : Value), ts[i]? = some t → ps[i]? = some u → CallsAt w F u t.prog
def encObjs (os : List ObjD) : List Value := os.flatMap fun o => [.int .i64 o.kind, .int .i64 o.size, .bool o.prio]
def ObjsAt (w : World) (F : Nat → Prop) (v : Value) (os : List ObjD) : Prop := Reads w F v os.length 3 (encObjs os)
def PartAt (w : World) (F : Nat → Prop) (v : Value) (P : PartD) : Prop := ∃ v1 v2, v = .agg #[v1, v2] ∧ ThreadsAt w F v1 P.thr ∧ ObjsAt w F v2 P.obj

theorem CallsAt.wider {w : World} {F F' : Nat → Prop} {v : Value} {cs : List CallD} (h : CallsAt w F v cs) (hF : ∀ k, F k → F' k) : CallsAt w F' v cs := by
  obtain ⟨ws, h1, h2, h3⟩ := h
  exact ⟨ws, h1, h2.wider hF, fun i c u hc hu => Reads.wider (h3 i c u hc hu) hF⟩
theorem ThreadsAt.wider {w : World} {F F' : Nat → Prop} {v : Value} {cs : List ThreadD} (h : ThreadsAt w F v cs) (hF : ∀ k, F k → F' k) : ThreadsAt w F' v cs := by
  obtain ⟨ws, h1, h2, h3⟩ := h
  exact ⟨ws, h1, h2.wider hF, fun i c u hc hu => CallsAt.wider (h3 i c u hc hu) hF⟩
theorem PartAt.wider {w : World} {F F' : Nat → Prop} {v : Value} {P : PartD} (h : PartAt w F v P) (hF : ∀ k, F k → F' k) : PartAt w F' v P := by
  obtain ⟨v1, v2, e, h1, h2⟩ := h
  exact ⟨v1, v2, e, h1.wider hF, Reads.wider h2 hF⟩

section
variable {w w' : World} {F : Nat → Prop} {v : Value} (hk : ∀ k, k < w.heap.size → F k → w'.heap[k]? = w.heap[k]?)
include hk
theorem IntsAt.kept {xs : List Int} (h : IntsAt w F v xs) : IntsAt w' F v xs := Reads.kept h hk
theorem CallsAt.kept {cs : List CallD} (h : CallsAt w F v cs) : CallsAt w' F v cs := by
  obtain ⟨ws, h1, h2, h3⟩ := h
  exact ⟨ws, h1, h2.kept hk, fun i c u hc hu => IntsAt.kept hk (h3 i c u hc hu)⟩
theorem ThreadsAt.kept {ts : List ThreadD} (h : ThreadsAt w F v ts) : ThreadsAt w' F v ts := by
  obtain ⟨ws, h1, h2, h3⟩ := h
  exact ⟨ws, h1, h2.kept hk, fun i c u hc hu => CallsAt.kept hk (h3 i c u hc hu)⟩
theorem ObjsAt.kept {os : List ObjD} (h : ObjsAt w F v os) : ObjsAt w' F v os := Reads.kept h hk
theorem PartAt.kept {P : PartD} (h : PartAt w F v P) : PartAt w' F v P := by
  obtain ⟨v1, v2, e, h1, h2⟩ := h
  exact ⟨v1, v2, e, h1.kept hk, h2.kept hk⟩
end

theorem encThreads_length : ∀ (ts : List ThreadD) (ps : List Value), ps.length = ts.length → (encThreads ts ps).length = ts.length * 4
  | [], _, _ => rfl
  | _ :: _, [], h => by simp at h
  | t :: ts, v :: vs, h => by
    have := encThreads_length ts vs (by simpa using h)
    simp only [encThreads, threadCells, List.length_append, List.length_cons, List.length_nil, this]; omega
theorem encThreads_get : ∀ (ts : List ThreadD) (ps : List Value) (i : Nat) (t : ThreadD) (u : Value), ts[i]? = some t → ps[i]? = some u → ∀ k, k < 4 → (encThreads ts ps)[i * 4 + k]? = (threadCells t u)[k]?
  | [], _, i, t, u, h, _, _, _ => by simp at h
  | _ :: _, [], i, t, u, _, h, _, _ => by simp at h
  | t0 :: ts, v :: vs, 0, t, u, h, h', k, hk => by
    simp at h h'; subst h; subst h'
    simp only [encThreads, Nat.zero_mul, Nat.zero_add]
    rw [List.getElem?_append_left (by simpa [threadCells] using hk)]
  | t0 :: ts, v :: vs, i + 1, t, u, h, h', k, hk => by
    have := encThreads_get ts vs i t u (by simpa using h) (by simpa using h') k hk
    simp only [encThreads]
    rw [List.getElem?_append_right (by simp [threadCells]; omega), show (i + 1) * 4 + k - (threadCells t0 v).length = i * 4 + k by simp [threadCells]; omega]
    exact this
theorem encCalls_length : ∀ (ts : List CallD) (ps : List Value), ps.length = ts.length → (encCalls ts ps).length = ts.length * 6
  | [], _, _ => rfl
  | _ :: _, [], h => by simp at h
  | t :: ts, v :: vs, h => by
    have := encCalls_length ts vs (by simpa using h)
    simp only [encCalls, callCells, List.length_append, List.length_cons, List.length_nil, this]; omega
theorem encCalls_get : ∀ (ts : List CallD) (ps : List Value) (i : Nat) (t : CallD) (u : Value), ts[i]? = some t → ps[i]? = some u → ∀ k, k < 6 → (encCalls ts ps)[i * 6 + k]? = (callCells t u)[k]?
  | [], _, i, t, u, h, _, _, _ => by simp at h
  | _ :: _, [], i, t, u, _, h, _, _ => by simp at h
  | t0 :: ts, v :: vs, 0, t, u, h, h', k, hk => by
    simp at h h'; subst h; subst h'
    simp only [encCalls, Nat.zero_mul, Nat.zero_add]
    rw [List.getElem?_append_left (by simpa [callCells] using hk)]
  | t0 :: ts, v :: vs, i + 1, t, u, h, h', k, hk => by
    have := encCalls_get ts vs i t u (by simpa using h) (by simpa using h') k hk
    simp only [encCalls]
    rw [List.getElem?_append_right (by simp [callCells]; omega), show (i + 1) * 6 + k - (callCells t0 v).length = i * 6 + k by simp [callCells]; omega]
    exact this
theorem encObjs_length (os : List ObjD) : (encObjs os).length = os.length * 3 := by
  induction os with
  | nil => rfl
  | cons o os ih => simp only [encObjs, List.flatMap_cons, List.length_append, List.length_cons, List.length_nil] at *; omega
theorem encObjs_get : ∀ (os : List ObjD) (i : Nat) (o : ObjD), os[i]? = some o → ∀ k, k < 3 → (encObjs os)[i * 3 + k]? = ([.int .i64 o.kind, .int .i64 o.size, .bool o.prio] : List Value)[k]?
  | [], i, o, h, _, _ => by simp at h
  | o0 :: os, 0, o, h, k, hk => by
    simp at h; subst h
    simp only [encObjs, List.flatMap_cons, Nat.zero_mul, Nat.zero_add]
    rw [List.getElem?_append_left (by simpa using hk)]
  | o0 :: os, i + 1, o, h, k, hk => by
    have := encObjs_get os i o (by simpa using h) k hk
    simp only [encObjs, List.flatMap_cons] at this ⊢
    rw [List.getElem?_append_right (by simp; omega), show (i + 1) * 3 + k - ([Value.int .i64 o0.kind, .int .i64 o0.size, .bool o0.prio] : List Value).length = i * 3 + k by simp; omega]
    exact this

/-- Thread 'i' of a slice of threads: where it lies, and its four cells. -/
theorem ThreadsAt.cells {w : World} {F : Nat → Prop} {v : Value} {ts : List ThreadD} (h : ThreadsAt w F v ts) (hn : 0 < ts.length) :
    ∃ b o c, v = .slice (some ⟨b, o, none⟩) ts.length c ∧ F b ∧ ∀ i t, ts[i]? = some t → ∃ pv, CallsAt w F pv t.prog ∧ w.cell? ⟨b, o + i * 4, none⟩ = some (.int .i64 t.prio) ∧ w.cell? ⟨b, o + i * 4 + 1, none⟩ = some (.int .u32 t.caps) ∧
      w.cell? ⟨b, o + i * 4 + 2, none⟩ = some (.bool t.control) ∧ w.cell? ⟨b, o + i * 4 + 3, none⟩ = some pv := by
  obtain ⟨ps, h1, ⟨_, A, c, e, h3⟩, h4⟩ := h
  obtain ⟨b, o, rfl, hF, hc⟩ := h3 hn
  refine ⟨b, o, c, e, hF, fun i t ht => ?_⟩
  have hi : i < ps.length := by rw [h1]; exact (List.getElem?_eq_some_iff.1 ht).1
  have hu : ps[i]? = some ps[i] := List.getElem?_eq_getElem hi
  have g := encThreads_get ts ps i t _ ht hu
  refine ⟨ps[i], h4 i t _ ht hu, hc (i * 4) _ ?_, hc (i * 4 + 1) _ ?_, hc (i * 4 + 2) _ ?_, hc (i * 4 + 3) _ ?_⟩
  · have := g 0 (by omega); simpa [threadCells] using this
  · have := g 1 (by omega); simpa [threadCells] using this
  · have := g 2 (by omega); simpa [threadCells] using this
  · have := g 3 (by omega); simpa [threadCells] using this
theorem ObjsAt.cells {w : World} {F : Nat → Prop} {v : Value} {os : List ObjD} (h : ObjsAt w F v os) (hn : 0 < os.length) :
    ∃ b o c, v = .slice (some ⟨b, o, none⟩) os.length c ∧ F b ∧ ∀ i x, os[i]? = some x → w.cell? ⟨b, o + i * 3, none⟩ = some (.int .i64 x.kind) ∧ w.cell? ⟨b, o + i * 3 + 1, none⟩ = some (.int .i64 x.size) ∧ w.cell? ⟨b, o + i * 3 + 2, none⟩ = some (.bool x.prio) := by
  obtain ⟨_, A, c, e, h3⟩ := h
  obtain ⟨b, o, rfl, hF, hc⟩ := h3 hn
  refine ⟨b, o, c, e, hF, fun i x hx => ?_⟩
  have g := encObjs_get os i x hx
  refine ⟨hc (i * 3) _ ?_, hc (i * 3 + 1) _ ?_, hc (i * 3 + 2) _ ?_⟩
  · have := g 0 (by omega); simpa using this
  · have := g 1 (by omega); simpa using this
  · have := g 2 (by omega); simpa using this
theorem CallsAt.slice {w : World} {F : Nat → Prop} {v : Value} {cs : List CallD} (h : CallsAt w F v cs) : ∃ A c, v = .slice A cs.length c := by
  obtain ⟨_, _, ⟨_, A, c, e, _⟩, _⟩ := h; exact ⟨A, c, e⟩
theorem ThreadsAt.slice {w : World} {F : Nat → Prop} {v : Value} {cs : List ThreadD} (h : ThreadsAt w F v cs) : ∃ A c, v = .slice A cs.length c := by
  obtain ⟨_, _, ⟨_, A, c, e, _⟩, _⟩ := h; exact ⟨A, c, e⟩
theorem ObjsAt.slice {w : World} {F : Nat → Prop} {v : Value} {cs : List ObjD} (h : ObjsAt w F v cs) : ∃ A c, v = .slice A cs.length c := by
  obtain ⟨_, A, c, e, _⟩ := h; exact ⟨A, c, e⟩

/-! ### what is right -/
def withinB (n lo hi : Int) : Bool := decide (lo ≤ n) && decide (n ≤ hi)
def rightThreadB (t : ThreadD) (objects : Nat) : Bool := withinB t.prio 0 15 && decide (t.caps / 2 ^ objects = 0) && decide (t.prog.length ≤ 40)
def rightObjectB (o : ObjD) : Bool :=
  if o.kind = 0 then withinB o.size 0 15 && !o.prio
  else if o.kind = 1 then decide (o.size = 0) && !o.prio
  else if o.kind = 3 then decide (o.size = 0)
  else if o.kind = 2 ∨ o.kind = 4 ∨ o.kind = 5 then withinB o.size 1 16
  else if o.kind = 6 ∨ o.kind = 7 then withinB o.size 1 16 && !o.prio
  else false
def partWrong (P : PartD) : Int :=
  if ¬ (1 ≤ P.thr.length ∧ P.thr.length ≤ 6) then 2
  else if 8 < P.obj.length then 3
  else if P.thr.any (fun t => !rightThreadB t P.obj.length) then 4
  else if P.obj.any (fun o => !rightObjectB o) then 5
  else 0
end Go.Proofs.YtefbdcmodfbpbaaGreat
