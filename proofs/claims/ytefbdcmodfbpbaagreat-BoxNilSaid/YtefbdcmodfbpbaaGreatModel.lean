/-
  The reference's model (septumref13.Model) as it lies in memory.
-/
import Derived.Test.YtefbdcmodfbpbaaGreatFree
import Derived.Test.YtefbdcmodfbpbaaGreatQLaw
set_option linter.unusedVariables false
set_option linter.unusedSimpArgs false
namespace Go.Proofs.YtefbdcmodfbpbaaGreat
open Go.RowKit

/-- A thread of the model. -/
structure MT where
  state : Int
  base : Int
  prio : Int
  object : Int
  side : Int
  a : Int
  b : Int
  words : List Int
  code : Int
  count : Int
  data : List Int
  held : List Int
  nest : List (Int × Int)
  woken : Int
/-- An object of the model. -/
structure MO where
  gen : Int
  w0 : List Int
  w1 : List Int
  ring : List Int
  bits : Int
  blocks : Option (Int × List Int)
  owner : Int
  next : Int
  serving : Int
/-- A model. -/
structure MD where
  P : PartD
  T : List MT
  O : List MO
  q : Nat → List Int
  tm : List (Int × Int)
  clock : Int

def MT.row (t : MT) (vw vd vh vn : Value) : List Value :=
  [.int .i64 t.state, .int .i64 t.base, .int .i64 t.prio, .int .i64 t.object, .int .i64 t.side, .int .i64 t.a, .int .i64 t.b, vw, .int .i64 t.code, .int .i64 t.count, vd, vh, vn, .int .i64 t.woken]
def MO.row (o : MO) (v0 v1 vr vb : Value) : List Value :=
  [.int .i64 o.gen, v0, v1, vr, .int .i64 o.bits, vb, .int .i64 o.owner, .int .i64 o.next, .int .i64 o.serving]
def PairsAt (w : World) (F : Nat → Prop) (v : Value) (l : List (Int × Int)) : Prop := Reads w F v l.length 2 (encLog l)
def BlocksAt (w : World) (F : Nat → Prop) (v : Value) : Option (Int × List Int) → Prop
  | none => v = .pointer none
  | some (n, l) => ∃ b u, v = .pointer (some ⟨b, 0, none⟩) ∧ F b ∧ w.heap[b]? = some (.cells #[.int .i64 n, u] 260 (0, 0)) ∧ IntsAt w F u l
def ThrRow (w : World) (F : Nat → Prop) (t : MT) (l : List Value) : Prop :=
  ∃ vw vd vh vn, l = t.row vw vd vh vn ∧ IntsAt w F vw t.words ∧ IntsAt w F vd t.data ∧ IntsAt w F vh t.held ∧ PairsAt w F vn t.nest
def ObjRow (w : World) (F : Nat → Prop) (o : MO) (l : List Value) : Prop :=
  ∃ v0 v1 vr vb, l = o.row v0 v1 vr vb ∧ IntsAt w F v0 o.w0 ∧ IntsAt w F v1 o.w1 ∧ IntsAt w F vr o.ring ∧ BlocksAt w F vb o.blocks

section
variable {w w' : World} {F : Nat → Prop} (hk : ∀ k, k < w.heap.size → F k → w'.heap[k]? = w.heap[k]?)
include hk
theorem BlocksAt.kept {v : Value} {o : Option (Int × List Int)} (h : BlocksAt w F v o) : BlocksAt w' F v o := by
  cases o with
  | none => exact h
  | some p =>
    obtain ⟨b, u, h1, h2, h3, h4⟩ := h
    exact ⟨b, u, h1, h2, (hk b (Array.getElem?_eq_some_iff.1 h3).1 h2).trans h3, Reads.kept h4 hk⟩
theorem ThrRow.kept {t : MT} {l : List Value} (h : ThrRow w F t l) : ThrRow w' F t l := by
  obtain ⟨vw, vd, vh, vn, h1, h2, h3, h4, h5⟩ := h
  exact ⟨vw, vd, vh, vn, h1, Reads.kept h2 hk, Reads.kept h3 hk, Reads.kept h4 hk, Reads.kept h5 hk⟩
theorem ObjRow.kept {t : MO} {l : List Value} (h : ObjRow w F t l) : ObjRow w' F t l := by
  obtain ⟨vw, vd, vh, vn, h1, h2, h3, h4, h5⟩ := h
  exact ⟨vw, vd, vh, vn, h1, Reads.kept h2 hk, Reads.kept h3 hk, Reads.kept h4 hk, h5.kept hk⟩
end
section
variable {w : World} {F F' : Nat → Prop} (hF : ∀ k, F k → F' k)
include hF
theorem BlocksAt.wider {v : Value} {o : Option (Int × List Int)} (h : BlocksAt w F v o) : BlocksAt w F' v o := by
  cases o with
  | none => exact h
  | some p =>
    obtain ⟨b, u, h1, h2, h3, h4⟩ := h
    exact ⟨b, u, h1, hF _ h2, h3, Reads.wider h4 hF⟩
theorem ThrRow.wider {t : MT} {l : List Value} (h : ThrRow w F t l) : ThrRow w F' t l := by
  obtain ⟨vw, vd, vh, vn, h1, h2, h3, h4, h5⟩ := h
  exact ⟨vw, vd, vh, vn, h1, h2.wider hF, h3.wider hF, h4.wider hF, h5.wider hF⟩
theorem ObjRow.wider {t : MO} {l : List Value} (h : ObjRow w F t l) : ObjRow w F' t l := by
  obtain ⟨vw, vd, vh, vn, h1, h2, h3, h4, h5⟩ := h
  exact ⟨vw, vd, vh, vn, h1, h2.wider hF, h3.wider hF, h4.wider hF, h5.wider hF⟩
end

/-- Rows of 'S' cells each, as they lie behind each other. -/
theorem rows_at {S : Nat} : ∀ (L : List (List Value)), (∀ l ∈ L, l.length = S) → ∀ (i k : Nat) (l : List Value), L[i]? = some l → k < S → L.flatten[i * S + k]? = l[k]?
  | [], _, i, k, l, h, _ => by simp at h
  | x :: L, hL, i, k, l, h, hk => by
    have hx := hL x (List.mem_cons_self ..)
    cases i with
    | zero =>
      simp only [List.getElem?_cons_zero, Option.some.injEq] at h
      subst h
      rw [List.flatten_cons, Nat.zero_mul, Nat.zero_add, List.getElem?_append_left (by omega)]
    | succ i =>
      rw [List.getElem?_cons_succ] at h
      rw [List.flatten_cons, List.getElem?_append_right (by rw [hx, Nat.succ_mul]; omega), show (i + 1) * S + k - x.length = i * S + k by rw [hx, Nat.succ_mul]; omega]
      exact rows_at L (fun l hl => hL l (List.mem_cons_of_mem _ hl)) i k l h hk
theorem rows_len {S : Nat} : ∀ (L : List (List Value)), (∀ l ∈ L, l.length = S) → L.flatten.length = L.length * S
  | [], _ => by simp
  | x :: L, hL => by
    rw [List.flatten_cons, List.length_append, rows_len L (fun l hl => hL l (List.mem_cons_of_mem _ hl)), hL x (List.mem_cons_self ..), List.length_cons, Nat.succ_mul]; omega
theorem rows_set {S : Nat} : ∀ (L : List (List Value)), (∀ l ∈ L, l.length = S) → ∀ (i k : Nat) (l : List Value) (v : Value), L[i]? = some l → k < S → L.flatten.set (i * S + k) v = (L.set i (l.set k v)).flatten
  | [], _, i, k, l, v, h, _ => by simp at h
  | x :: L, hL, i, k, l, v, h, hk => by
    have hx := hL x (List.mem_cons_self ..)
    cases i with
    | zero =>
      simp only [List.getElem?_cons_zero, Option.some.injEq] at h
      subst h
      rw [List.flatten_cons, Nat.zero_mul, Nat.zero_add, List.set_append_left _ _ (by omega)]; rfl
    | succ i =>
      rw [List.getElem?_cons_succ] at h
      rw [List.flatten_cons, List.set_append_right _ _ (by rw [hx, Nat.succ_mul]; omega), show (i + 1) * S + k - x.length = i * S + k by rw [hx, Nat.succ_mul]; omega, List.set_cons_succ, List.flatten_cons]
      rw [rows_set L (fun l hl => hL l (List.mem_cons_of_mem _ hl)) i k l v h hk]

/-- Structs of 'S' cells each in a row of one's own: each one's cells are told by 'R'. -/
def StructsAt {α : Type} (w : World) (B : Nat) (e : TypeId) (S : Nat) (R : α → List Value → Prop) (v : Value) (xs : List α) : Prop :=
  ∃ L : List (List Value), L.length = xs.length ∧ (∀ l ∈ L, l.length = S) ∧ (∀ (i : Nat) x, xs[i]? = some x → ∃ l, L[i]? = some l ∧ R x l) ∧ w.ownsRow B e S v xs.length L.flatten

/-- The cells of a model. -/
def modelCells (sT sO vT vO : Value) (q : Nat → Value) (vm : Value) (clock : Int) : Array Value :=
  #[sT, sO, vT, vO, q 0, q 1, q 2, q 3, q 4, q 5, q 6, q 7, q 8, q 9, q 10, q 11, q 12, q 13, q 14, q 15, vm, .int .i64 clock]

/-- A model in memory: at the block 'mb'; 'S' holds all blocks of it, and what it reads. -/
structure ModelIn (w : World) (B : Nat) (S F : Nat → Prop) (mb : Nat) (M : MD) (sT sO vT vO : Value) (q : Nat → Value) (vm : Value) : Prop where
  blk : w.heap[mb]? = some (.cells (modelCells sT sO vT vO q vm M.clock) 193 (0, 0))
  part : PartAt w F (.agg #[sT, sO]) M.P
  thr : StructsAt w B 200 14 (ThrRow w F) vT M.T
  obj : StructsAt w B 196 9 (ObjRow w F) vO M.O
  que : ∀ p, p < 16 → IntsAt w F (q p) (M.q p)
  tim : PairsAt w F vm M.tm
  inS : ∀ k, F k → S k
  low : ∀ k, F k → k < w.heap.size ∧ k ≠ mb ∧ vT.ownBlock ≠ some k ∧ vO.ownBlock ≠ some k
  mbS : S mb ∧ B ≤ mb
  tbS : ∀ k, vT.ownBlock = some k → S k ∧ k ≠ mb
  obS : ∀ k, vO.ownBlock = some k → S k ∧ k ≠ mb ∧ vT.ownBlock ≠ some k
def ModelAt (w : World) (B : Nat) (S : Nat → Prop) (mb : Nat) (M : MD) : Prop := ∃ F sT sO vT vO q vm, ModelIn w B S F mb M sT sO vT vO q vm

theorem StructsAt.kept {α : Type} {w w' : World} {B : Nat} {e : TypeId} {S : Nat} {R R' : α → List Value → Prop} {v : Value} {xs : List α} (h : StructsAt w B e S R v xs) (hk : ∀ k, v.ownBlock = some k → w'.heap[k]? = w.heap[k]?) (hR : ∀ x l, R x l → R' x l) : StructsAt w' B e S R' v xs := by
  obtain ⟨L, h1, h2, h3, h4⟩ := h
  exact ⟨L, h1, h2, fun i x hx => by obtain ⟨l, h5, h6⟩ := h3 i x hx; exact ⟨l, h5, hR _ _ h6⟩, ownsRow_same h4 hk⟩
theorem ModelAt.kept {w w' : World} {B : Nat} {S : Nat → Prop} {mb : Nat} {M : MD} (h : ModelAt w B S mb M) (hk : ∀ k, k < w.heap.size → S k → w'.heap[k]? = w.heap[k]?) (hs : w.heap.size ≤ w'.heap.size) : ModelAt w' B S mb M := by
  obtain ⟨F, sT, sO, vT, vO, q, vm, h⟩ := h
  have hF : ∀ k, k < w.heap.size → F k → w'.heap[k]? = w.heap[k]? := fun k h1 h2 => hk k h1 (h.inS k h2)
  have hT : ∀ k, vT.ownBlock = some k → w'.heap[k]? = w.heap[k]? := fun k h1 => by
    obtain ⟨L, _, _, _, h4⟩ := h.thr
    exact hk k (h4.lt k h1).2 (h.tbS k h1).1
  have hO : ∀ k, vO.ownBlock = some k → w'.heap[k]? = w.heap[k]? := fun k h1 => by
    obtain ⟨L, _, _, _, h4⟩ := h.obj
    exact hk k (h4.lt k h1).2 (h.obS k h1).1
  exact ⟨F, sT, sO, vT, vO, q, vm, (hk mb (Array.getElem?_eq_some_iff.1 h.blk).1 h.mbS.1).trans h.blk, h.part.kept hF, h.thr.kept hT (fun _ _ => ThrRow.kept hF), h.obj.kept hO (fun _ _ => ObjRow.kept hF),
    fun p hp => Reads.kept (h.que p hp) hF, Reads.kept h.tim hF, h.inS, fun k hF => ⟨Nat.lt_of_lt_of_le (h.low k hF).1 hs, (h.low k hF).2⟩, h.mbS, h.tbS, h.obS⟩

/-- Structs in a row of one's own, with what they lead to; all of it from block 'B' on. -/
def RowsSt {α : Type} (R : World → (Nat → Prop) → α → List Value → Prop) (w : World) (B : Nat) (e : TypeId) (S : Nat) (v : Value) (xs : List α) : Prop :=
  ∃ F, StructsAt w B e S (R w F) v xs ∧ ∀ j, F j → B ≤ j ∧ j < w.heap.size ∧ v.ownBlock ≠ some j
section
variable {α : Type} {R : World → (Nat → Prop) → α → List Value → Prop}
theorem RowsSt.nil (w : World) (B : Nat) (e : TypeId) (S : Nat) : RowsSt R w B e S (.slice none 0 0) [] :=
  ⟨fun _ => False, ⟨[], rfl, by simp, by simp, World.ownsRow_nil _ _ _ _⟩, fun _ h => h.elim⟩
theorem RowsSt.form {w : World} {B : Nat} {e : TypeId} {S : Nat} {v : Value} {xs : List α} (h : RowsSt R w B e S v xs) : ∃ A c, v = .slice A xs.length c := by
  obtain ⟨F, ⟨L, _, _, _, h⟩, _⟩ := h
  obtain ⟨_, A, c, e, _⟩ := ownsRow_reads h
  exact ⟨A, c, e⟩
theorem RowsSt.own {w : World} {B : Nat} {e : TypeId} {S : Nat} {v : Value} {xs : List α} (h : RowsSt R w B e S v xs) : ∀ k, v.ownBlock = some k → B ≤ k ∧ k < w.heap.size := by
  obtain ⟨F, ⟨L, _, _, _, h⟩, _⟩ := h
  exact fun k hk => h.lt k hk
theorem RowsSt.row {w : World} {B : Nat} {e : TypeId} {S : Nat} {v : Value} {xs : List α} (h : RowsSt R w B e S v xs) : ∃ cells, w.ownsRow B e S v xs.length cells := by
  obtain ⟨F, ⟨L, _, _, _, h⟩, _⟩ := h
  exact ⟨_, h⟩
variable (hk : ∀ (w w' : World) (F : Nat → Prop) (x : α) (l : List Value), (∀ k, k < w.heap.size → F k → w'.heap[k]? = w.heap[k]?) → R w F x l → R w' F x l)
include hk
theorem RowsSt.kept {w w' : World} {B : Nat} {e : TypeId} {S : Nat} {v : Value} {xs : List α} (h : RowsSt R w B e S v xs) (h' : ∀ j, B ≤ j → j < w.heap.size → w'.heap[j]? = w.heap[j]?) (hs : w.heap.size ≤ w'.heap.size) : RowsSt R w' B e S v xs := by
  obtain ⟨F, ⟨L, l1, l2, l3, l4⟩, hF⟩ := h
  refine ⟨F, ⟨L, l1, l2, fun i x hx => ?_, ownsRow_same l4 (fun k hv => h' k (l4.lt k hv).1 (l4.lt k hv).2)⟩, fun j hj => ⟨(hF j hj).1, Nat.lt_of_lt_of_le (hF j hj).2.1 hs, (hF j hj).2.2⟩⟩
  obtain ⟨l, h1, h2⟩ := l3 i x hx
  exact ⟨l, h1, hk _ _ _ _ _ (fun k h1 h2 => h' k (hF k h2).1 h1) h2⟩
variable (hw : ∀ (w : World) (F F' : Nat → Prop) (x : α) (l : List Value), (∀ k, F k → F' k) → R w F x l → R w F' x l)
include hw
/-- One more behind the others: 'w4' is the world ahead of the append, 'w5' behind it. -/
theorem rows_push {w w4 w5 : World} {B : Nat} {e : TypeId} {S : Nat} {v : Value} {xs : List α} (hS : 0 < S) (h : RowsSt R w B e S v xs) (h4 : ∀ j, B ≤ j → j < w.heap.size → w4.heap[j]? = w.heap[j]?) (hs4 : w.heap.size ≤ w4.heap.size) (hB : B ≤ w.heap.size)
    (cells : List Value) (hc : w.ownsRow B e S v xs.length cells) (x : α) (news : List Value) (hn : news.length = S) (F4 : Nat → Prop) (hx : R w4 F4 x news) (hF4 : ∀ j, F4 j → B ≤ j ∧ j < w4.heap.size ∧ v.ownBlock ≠ some j)
    {gg cap : Nat} (hown : w5.ownsRow B e S (.slice (some ⟨gg, 0, none⟩) (xs.length + 1) cap) (xs.length + 1) (cells ++ news)) (hg : w4.grownBy w5 v.ownBlock) (hat : v.ownBlock = some gg ∨ gg = w4.heap.size) :
    RowsSt R w5 B e S (.slice (some ⟨gg, 0, none⟩) (xs.length + 1) cap) (xs ++ [x]) := by
  obtain ⟨F, ⟨L, l1, l2, l3, l4⟩, hF⟩ := h
  have hcL : cells = L.flatten := by
    rcases l4 with ⟨_, h | ⟨g, cp, cur, rfl, _, h1, _, _, _, h2⟩⟩
    · rcases hc with ⟨hl, _⟩
      have : xs.length = 0 := h.2
      rw [this] at hl
      have e1 : L = [] := List.eq_nil_of_length_eq_zero (by rw [l1]; exact this)
      have e2 : cells = [] := List.eq_nil_of_length_eq_zero (by rw [hl]; omega)
      rw [e1, e2]; rfl
    · rcases hc with ⟨_, h | ⟨g', cp', cur', e', _, h1', _, _, _, h2'⟩⟩
      · cases h.1
      · cases e'
        rw [h1] at h1'
        cases h1'
        rw [← h2, ← h2']
  subst hcL
  have hne : ∀ j, j < w4.heap.size → v.ownBlock ≠ some j → gg ≠ j := fun j h1 h2 e => by
    rcases hat with h | h
    · exact h2 (by rw [h, e])
    · omega
  have hs5 := hg.size
  refine ⟨fun j => F j ∨ F4 j, ⟨L ++ [news], by simp [l1], ?_, ?_, ?_⟩, ?_⟩
  · intro l hl
    rcases List.mem_append.1 hl with h | h
    · exact l2 l h
    · rw [List.mem_singleton.1 h]; exact hn
  · intro i y hy
    rcases Nat.lt_or_ge i xs.length with hi | hi
    · rw [List.getElem?_append_left hi] at hy
      obtain ⟨l, h1, h2⟩ := l3 i y hy
      refine ⟨l, by rw [List.getElem?_append_left (by rw [l1]; exact hi)]; exact h1, hw _ _ _ _ _ (fun k hk => .inl hk) (hk _ _ _ _ _ (fun k h3 h4' => ?_) h2)⟩
      rw [hg.block k (by omega) (hF k h4').2.2.symm]
      exact h4 k (hF k h4').1 h3
    · rw [List.getElem?_append_right hi] at hy
      have : i - xs.length = 0 := by
        rcases Nat.eq_zero_or_pos (i - xs.length) with h | h
        · exact h
        · rw [List.getElem?_eq_none (by simp; omega)] at hy; cases hy
      rw [this] at hy
      simp only [List.getElem?_cons_zero, Option.some.injEq] at hy
      subst hy
      refine ⟨news, by rw [List.getElem?_append_right (by rw [l1]; exact hi), l1, this]; rfl, hw _ _ _ _ _ (fun k hk => .inr hk) (hk _ _ _ _ _ (fun k h3 h4' => ?_) hx)⟩
      exact hg.block k h3 (hF4 k h4').2.2.symm
  · rw [List.length_append, List.flatten_append]
    simpa using hown
  · intro j hj
    have key : B ≤ j ∧ j < w4.heap.size ∧ v.ownBlock ≠ some j := by
      rcases hj with h | h
      · exact ⟨(hF j h).1, Nat.lt_of_lt_of_le (hF j h).2.1 hs4, (hF j h).2.2⟩
      · exact hF4 j h
    exact ⟨key.1, Nat.lt_of_lt_of_le key.2.1 hs5, fun e => hne j key.2.1 key.2.2 (Option.some.inj e)⟩
end

/-- The model at first. -/
def mt0 (p : Int) : MT := ⟨0, p, p, -1, 0, 0, 0, [], 0, 0, [], [], [], 0⟩
def mo0 (o : ObjD) : MO := ⟨0, [], [], [], 0, if o.kind = 4 then some (o.size, natsI o.size.toNat) else none, -1, 0, 0⟩
/-- Who is ready, by priority. -/
def qlist : List ThreadD → Nat → (Nat → List Int) → (Nat → List Int)
  | [], _, L => L
  | t :: ts, i, L => qlist ts (i + 1) (addL L t.prio.toNat i)
theorem qlist_snoc : ∀ (ts : List ThreadD) (t : ThreadD) (i : Nat) (L : Nat → List Int), qlist (ts ++ [t]) i L = addL (qlist ts i L) t.prio.toNat ((i + ts.length : Nat) : Int)
  | [], t, i, L => rfl
  | u :: ts, t, i, L => by
    show qlist (ts ++ [t]) (i + 1) _ = addL (qlist ts (i + 1) _) t.prio.toNat _
    rw [qlist_snoc ts t (i + 1)]
    congr 2
    simp only [List.length_cons]; omega
theorem qlist_len : ∀ (ts : List ThreadD) (i : Nat) (L : Nat → List Int) (p m : Nat), (L p).length ≤ m → (qlist ts i L p).length ≤ m + ts.length
  | [], i, L, p, m, h => by simpa [qlist] using h
  | t :: ts, i, L, p, m, h => by
    have h1 : (addL L t.prio.toNat i p).length ≤ m + 1 := by
      unfold addL
      split
      · rename_i e; subst e; simp; exact h
      · omega
    have := qlist_len ts (i + 1) (addL L t.prio.toNat i) p (m + 1) h1
    show (qlist ts (i + 1) (addL L t.prio.toNat i) p).length ≤ _
    simp only [List.length_cons]; omega
def model0 (P : PartD) : MD := ⟨P, P.thr.map fun t => mt0 t.prio, P.obj.map mo0, qlist P.thr 0 fun _ => [], [], 0⟩
end Go.Proofs.YtefbdcmodfbpbaaGreat
