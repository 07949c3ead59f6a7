/-
  config.CloneCall, config.ClonePart: the same, in new memory.
-/
import Derived.Test.YtefbdcmodfbpbaaGreatClone
set_option linter.unusedVariables false
set_option linter.unusedSimpArgs false
namespace Go.Proofs.YtefbdcmodfbpbaaGreat
open Go.RowKit

theorem own_form {w : World} {base n : Nat} {e : TypeId} {size : Nat} {v : Value} {xs : List Value} (h : w.ownsRow base e size v n xs) : ∃ A c, v = .slice A n c := by
  rcases h.2 with ⟨rfl, rfl⟩ | ⟨g, cap, cur, rfl, _⟩
  · exact ⟨none, 0, rfl⟩
  · exact ⟨_, cap, rfl⟩
/-- A block's cells, and that they may be written, as rules for the walk. -/
theorem below_cells {w w' : World} {B b : Nat} {cs : Array Value} {t : TypeId} (hb : Below B w w') (hlt : b < B) (h : w.heap[b]? = some (.cells cs t (0, 0))) :
    (∀ k, w'.cell? ⟨b, k, none⟩ = cs[k]?) ∧ (∀ k, w'.frozen? ⟨b, k, none⟩ = false) := by
  have h' : w'.heap[b]? = some (.cells cs t (0, 0)) := by rw [hb.block b hlt]; exact h
  exact ⟨cell_of_block h', free_of_block h'⟩

theorem two_first (w : World) (o1 o2 : Obj) : ((w.alloc o1).alloc o2).heap[w.heap.size]? = some o1 := by
  rw [Below.heap_alloc _ _ _ (by simp)]; exact heap_alloc_new w _
theorem two_second (w : World) (o1 o2 : Obj) : ((w.alloc o1).alloc o2).heap[w.heap.size + 1]? = some o2 := by
  have h := heap_alloc_new (w.alloc o1) o2
  simpa using h

/-- What is asked of calls that come in: few words. -/
def CallOk (c : CallD) : Prop := c.words.length ≤ 1000

theorem encInts_one (xs : List Int) : ∀ u ∈ encInts xs, u.oneCell' = true := by
  intro u hu
  simp only [encInts, List.mem_map] at hu
  obtain ⟨x, _, rfl⟩ := hu
  rfl

set_option maxHeartbeats 800000 in
theorem cloneCall_any (c : CallD) (wv : Value) (F : Nat → Prop) (hc : CallOk c) (w : World) (h : IntsAt w F wv c.words) :
    Calls Tryz.prog 77 #[.agg (callCells c wv).toArray] w fun e w' => ∃ wv', e = .returned (.agg (callCells c wv').toArray) ∧ IntsAt w' (fun k => w.heap.size ≤ k) wv' c.words ∧ Below w.heap.size w w' := by
  unfold CallOk at hc
  have HC := fun W (hb : Below w.heap.size w W) => clone_int64 W F wv c.words.length (encInts c.words) (encInts_one _) (by omega) (Reads.kept h (fun k hk _ => hb.block k hk))
  have HC' := Lib.hid HC
  clear HC h
  simp only [callCells]
  go_enter Tryz.func77, Tryz.ntmps77
  go_wp2_with fail
  go_at_call 65
  refine (HC'.out _ (((Below.refl _ _).alloc (Nat.le_refl _) _).alloc (by simp) _)).mono ?_
  rintro e w1 ⟨wv', rfl, hown, hb⟩
  obtain ⟨A', c', rfl⟩ := own_form hown
  obtain ⟨p1, p2⟩ := below_cells hb (b := w.heap.size) (by simp <;> omega) (two_first _ _ _)
  obtain ⟨q1, q2⟩ := below_cells hb (b := w.heap.size + 1) (by simp) (two_second _ _ _)
  have Hown := Lib.hid hown
  have Hb := Lib.hid hb
  clear hown hb
  go_wp2
  refine bodyPost_ret (v := .agg #[.int .i64 c.kind, .int .i64 c.handle, .int .i64 c.a, .int .i64 c.b, .slice A' c.words.length c', .int .i64 c.timeout]) (by simp [results, Tryz.results77, go_sem, p1, q1]) rfl ⟨_, rfl, ?_, ?_⟩
  · have hr := ownsRow_reads Hown.out
    refine Reads.wider (Reads.kept hr (fun k _ hk => ?_)) (fun k hk => ?_)
    · simp only [World.size_alloc] at hk
      iterate 7 rw [block_setCell_other _ _ _ (by omega)]
    · simp only [World.size_alloc] at hk
      omega
  · have h0 : Below w.heap.size w w1 := (((Below.refl _ _).alloc (Nat.le_refl _) _).alloc (by simp) _).trans (Hb.out.mono (by simp <;> omega))
    iterate 7 refine Below.setCell ?_ (by dsimp only; omega) _
    exact h0

theorem encCalls_one (cs : List CallD) : ∀ (ws : List Value), (∀ u ∈ ws, u.oneCell' = true) → ∀ u ∈ encCalls cs ws, u.oneCell' = true := by
  induction cs with
  | nil => intro ws _ u hu; simp [encCalls] at hu
  | cons c cs ih =>
    intro ws hw u hu
    cases ws with
    | nil => simp [encCalls] at hu
    | cons v ws =>
      simp only [encCalls, List.mem_append] at hu
      rcases hu with hu | hu
      · simp only [callCells, List.mem_cons, List.not_mem_nil, or_false] at hu
        rcases hu with rfl | rfl | rfl | rfl | rfl | rfl <;> first | rfl | exact hw _ (by simp)
      · exact ih ws (fun u hu => hw u (by simp [hu])) u hu
theorem encThreads_one (cs : List ThreadD) : ∀ (ws : List Value), (∀ u ∈ ws, u.oneCell' = true) → ∀ u ∈ encThreads cs ws, u.oneCell' = true := by
  induction cs with
  | nil => intro ws _ u hu; simp [encThreads] at hu
  | cons c cs ih =>
    intro ws hw u hu
    cases ws with
    | nil => simp [encThreads] at hu
    | cons v ws =>
      simp only [encThreads, List.mem_append] at hu
      rcases hu with hu | hu
      · simp only [threadCells, List.mem_cons, List.not_mem_nil, or_false] at hu
        rcases hu with rfl | rfl | rfl | rfl <;> first | rfl | exact hw _ (by simp)
      · exact ih ws (fun u hu => hw u (by simp [hu])) u hu
theorem encObjs_one (os : List ObjD) : ∀ u ∈ encObjs os, u.oneCell' = true := by
  intro u hu
  simp only [encObjs, List.mem_flatMap, List.mem_cons, List.not_mem_nil, or_false] at hu
  obtain ⟨o, _, rfl | rfl | rfl⟩ := hu <;> rfl
theorem slice_one {v : Value} (h : ∃ A n c, v = .slice A n c) : v.oneCell' = true := by obtain ⟨A, n, c, rfl⟩ := h; rfl

theorem set_same {α : Type} {xs : List α} {i : Nat} {v : α} (h : xs[i]? = some v) : xs.set i v = xs := by
  apply List.ext_getElem?
  intro j
  rw [List.getElem?_set]
  split
  · rename_i e; subst e
    split
    · exact h.symm
    · rename_i hl; rw [List.getElem?_eq_none (by omega)] at h; cases h
  · rfl
theorem encCalls_set : ∀ (cs : List CallD) (ws : List Value) (i : Nat) (v : Value), ws.length = cs.length → (encCalls cs ws).set (i * 6 + 4) v = encCalls cs (ws.set i v)
  | [], ws, i, v, h => by simp [encCalls]
  | c :: cs, [], i, v, h => by simp at h
  | c :: cs, u :: ws, 0, v, h => by simp [encCalls, callCells]
  | c :: cs, u :: ws, i + 1, v, h => by
    have := encCalls_set cs ws i v (by simpa using h)
    simp only [encCalls, List.set_cons_succ]
    rw [List.set_append_right _ _ (by simp [callCells]; omega), show (i + 1) * 6 + 4 - (callCells c u).length = i * 6 + 4 by simp [callCells]; omega, this]
theorem encThreads_set : ∀ (cs : List ThreadD) (ws : List Value) (i : Nat) (v : Value), ws.length = cs.length → (encThreads cs ws).set (i * 4 + 3) v = encThreads cs (ws.set i v)
  | [], ws, i, v, h => by simp [encThreads]
  | c :: cs, [], i, v, h => by simp at h
  | c :: cs, u :: ws, 0, v, h => by simp [encThreads, threadCells]
  | c :: cs, u :: ws, i + 1, v, h => by
    have := encThreads_set cs ws i v (by simpa using h)
    simp only [encThreads, List.set_cons_succ]
    rw [List.set_append_right _ _ (by simp [threadCells]; omega), show (i + 1) * 4 + 3 - (threadCells c u).length = i * 4 + 3 by simp [threadCells]; omega, this]

/-- Calls 0 .. k-1 have new words, the others their old ones. -/
def CallsMade (w : World) (B : Nat) (v : Value) (cs : List CallD) (ws : List Value) (k : Nat) : Prop :=
  ∃ wk : List Value, wk.length = cs.length ∧ w.ownsRow B 28 6 v cs.length (encCalls cs wk) ∧ (∀ (j : Nat) (c : CallD) (u : Value), j < k → cs[j]? = some c → wk[j]? = some u → IntsAt w (fun b => B ≤ b ∧ v.ownBlock ≠ some b) u c.words) ∧ ∀ j, k ≤ j → wk[j]? = ws[j]?
/-- Threads 0 .. k-1 have new programs, the others their old ones. -/
def ThreadsMade (w : World) (B : Nat) (v : Value) (ts : List ThreadD) (ps : List Value) (k : Nat) : Prop :=
  ∃ wk : List Value, wk.length = ts.length ∧ w.ownsRow B 105 4 v ts.length (encThreads ts wk) ∧ (∀ (j : Nat) (t : ThreadD) (u : Value), j < k → ts[j]? = some t → wk[j]? = some u → CallsAt w (fun b => B ≤ b ∧ v.ownBlock ≠ some b) u t.prog) ∧ ∀ j, k ≤ j → wk[j]? = ps[j]?


theorem own_free {w : World} {base n g cap : Nat} {e : TypeId} {size : Nat} {xs : List Value} (h : w.ownsRow base e size (.slice (some ⟨g, 0, none⟩) n cap) n xs) : ∀ j, w.frozen? ⟨g, j, none⟩ = false := by
  rcases h.2 with ⟨h', _⟩ | ⟨g', cap', cur', h', _, hh, _⟩
  · cases h'
  · cases h'; exact free_of_block hh
theorem own_cell {w : World} {base n g cap : Nat} {e : TypeId} {size : Nat} {xs : List Value} (h : w.ownsRow base e size (.slice (some ⟨g, 0, none⟩) n cap) n xs) {j : Nat} {u : Value} (hu : xs[j]? = some u) : w.cell? ⟨g, j, none⟩ = some u := by
  have hc := h.cells (g := g) rfl j u hu
  rwa [show ((⟨g, 0, none⟩ : Addr).add j) = ⟨g, j, none⟩ from by unfold Addr.add; split <;> simp_all] at hc
/-- The cells of call 'k', whose words are the old ones. -/
theorem CallsMade.cells {w : World} {B g cap k : Nat} {cs : List CallD} {ws : List Value} {c : CallD} {wv : Value} (h : CallsMade w B (.slice (some ⟨g, 0, none⟩) cs.length cap) cs ws k) (hk : cs[k]? = some c) (hw : ws[k]? = some wv) :
    w.cell? ⟨g, k * 6, none⟩ = some (.int .i64 c.kind) ∧ w.cell? ⟨g, k * 6 + 1, none⟩ = some (.int .i64 c.handle) ∧ w.cell? ⟨g, k * 6 + 2, none⟩ = some (.int .i64 c.a) ∧ w.cell? ⟨g, k * 6 + 3, none⟩ = some (.int .i64 c.b) ∧
      w.cell? ⟨g, k * 6 + 4, none⟩ = some wv ∧ w.cell? ⟨g, k * 6 + 5, none⟩ = some (.int .i64 c.timeout) ∧ (∀ j, w.frozen? ⟨g, j, none⟩ = false) ∧ g < w.heap.size ∧ B ≤ g := by
  obtain ⟨wk, h1, h2, h3, h4⟩ := h
  have hget := fun i hi => encCalls_get cs wk k c wv hk (by rw [h4 k (Nat.le_refl _)]; exact hw) i hi
  refine ⟨own_cell h2 ?_, own_cell h2 ?_, own_cell h2 ?_, own_cell h2 ?_, own_cell h2 ?_, own_cell h2 ?_, own_free h2, (h2.lt g rfl).2, (h2.lt g rfl).1⟩
  · have := hget 0 (by omega); simpa [callCells] using this
  · have := hget 1 (by omega); simpa [callCells] using this
  · have := hget 2 (by omega); simpa [callCells] using this
  · have := hget 3 (by omega); simpa [callCells] using this
  · have := hget 4 (by omega); simpa [callCells] using this
  · have := hget 5 (by omega); simpa [callCells] using this

/-- A call stored into element 'k' of a row. -/
def putCall (w : World) (g k : Nat) (c : CallD) (wv : Value) : World :=
  (((((w.setCell ⟨g, k * 6, none⟩ (.int .i64 c.kind)).setCell ⟨g, k * 6 + 1, none⟩ (.int .i64 c.handle)).setCell ⟨g, k * 6 + 2, none⟩ (.int .i64 c.a)).setCell ⟨g, k * 6 + 3, none⟩ (.int .i64 c.b)).setCell ⟨g, k * 6 + 4, none⟩ wv).setCell ⟨g, k * 6 + 5, none⟩ (.int .i64 c.timeout)
theorem putCall_other (w : World) (g k : Nat) (c : CallD) (wv : Value) (b : Nat) (h : b ≠ g) : (putCall w g k c wv).heap[b]? = w.heap[b]? := by
  unfold putCall
  iterate 6 rw [block_setCell_other _ _ _ h]
theorem putCall_size (w : World) (g k : Nat) (c : CallD) (wv : Value) : (putCall w g k c wv).heap.size = w.heap.size := by simp [putCall]
theorem putCall_below {B : Nat} {w0 w : World} {g k : Nat} {c : CallD} {wv : Value} (h : Below B w0 w) (hg : B ≤ g) : Below B w0 (putCall w g k c wv) := by
  unfold putCall
  iterate 6 refine Below.setCell ?_ (by dsimp only; exact hg) _
  exact h

theorem CallsMade.start {w : World} {B : Nat} {v : Value} {cs : List CallD} {ws : List Value} (hl : ws.length = cs.length) (h : w.ownsRow B 28 6 v cs.length (encCalls cs ws)) : CallsMade w B v cs ws 0 :=
  ⟨ws, hl, h, fun j _ _ hj => absurd hj (by omega), fun _ _ => rfl⟩
theorem CallsMade.step {w w2 : World} {B g cap k : Nat} {cs : List CallD} {ws : List Value} {c : CallD} {wv : Value} (h : CallsMade w B (.slice (some ⟨g, 0, none⟩) cs.length cap) cs ws k) (hB : B ≤ w.heap.size) (hk : cs[k]? = some c)
    (hb : Below w.heap.size w w2) (hw : IntsAt w2 (fun b => w.heap.size ≤ b) wv c.words) : CallsMade (putCall w2 g k c wv) B (.slice (some ⟨g, 0, none⟩) cs.length cap) cs ws (k + 1) := by
  obtain ⟨wk, h1, h2, h3, h4⟩ := h
  have hkl : k < wk.length := by rw [h1]; exact (List.getElem?_eq_some_iff.1 hk).1
  have hg : g < w.heap.size := (h2.lt g rfl).2
  have hown : w2.ownsRow B 28 6 (.slice (some ⟨g, 0, none⟩) cs.length cap) cs.length (encCalls cs wk) := ownsRow_kept h2 (fun b hb' => hb.block b (h2.lt b hb').2)
  have hget := fun i hi => encCalls_get cs wk k c _ hk (List.getElem?_eq_getElem hkl) i hi
  have e0 : (encCalls cs wk).set (k * 6) (.int .i64 c.kind) = encCalls cs wk := set_same (by have := hget 0 (by omega); simpa [callCells] using this)
  have e1 : (encCalls cs wk).set (k * 6 + 1) (.int .i64 c.handle) = encCalls cs wk := set_same (by have := hget 1 (by omega); simpa [callCells] using this)
  have e2 : (encCalls cs wk).set (k * 6 + 2) (.int .i64 c.a) = encCalls cs wk := set_same (by have := hget 2 (by omega); simpa [callCells] using this)
  have e3 : (encCalls cs wk).set (k * 6 + 3) (.int .i64 c.b) = encCalls cs wk := set_same (by have := hget 3 (by omega); simpa [callCells] using this)
  have e4 := encCalls_set cs wk k wv h1
  have hget' := fun i hi => encCalls_get cs (wk.set k wv) k c wv hk (by simp [List.getElem?_set, hkl]) i hi
  have e5 : (encCalls cs (wk.set k wv)).set (k * 6 + 5) (.int .i64 c.timeout) = encCalls cs (wk.set k wv) := set_same (by have := hget' 5 (by omega); simpa [callCells] using this)
  have s0 := (hown.stored (k * 6) (.int .i64 c.kind)).1
  rw [e0] at s0
  have s1 := (s0.stored (k * 6 + 1) (.int .i64 c.handle)).1
  rw [e1] at s1
  have s2 := (s1.stored (k * 6 + 2) (.int .i64 c.a)).1
  rw [e2] at s2
  have s3 := (s2.stored (k * 6 + 3) (.int .i64 c.b)).1
  rw [e3] at s3
  have s4 := (s3.stored (k * 6 + 4) wv).1
  rw [e4] at s4
  have s5 := (s4.stored (k * 6 + 5) (.int .i64 c.timeout)).1
  rw [e5] at s5
  have hkeep : ∀ b, b < w2.heap.size → (B ≤ b ∧ (Value.slice (some ⟨g, 0, none⟩) cs.length cap).ownBlock ≠ some b) → (putCall w2 g k c wv).heap[b]? = w2.heap[b]? := fun b _ hF => putCall_other _ _ _ _ _ _ (fun e => hF.2 (by rw [e]; rfl))
  refine ⟨wk.set k wv, by simpa using h1, s5, ?_, ?_⟩
  · intro j c' u hj hc' hu
    rcases Nat.lt_or_ge j k with hjk | hjk
    · rw [List.getElem?_set, if_neg (by omega)] at hu
      have h5 := h3 j c' u hjk hc' hu
      refine IntsAt.kept (w := w2) hkeep (IntsAt.kept (w := w) (fun b hbl _ => hb.block b hbl) h5)
    · have : j = k := by omega
      subst this
      rw [hk] at hc'; cases hc'
      simp [List.getElem?_set, hkl] at hu
      subst hu
      refine IntsAt.kept (w := w2) hkeep (Reads.wider hw (fun b hb' => ⟨by omega, fun e => ?_⟩))
      simp [Value.ownBlock] at e
      omega
  · intro j hj
    rw [List.getElem?_set, if_neg (by omega)]
    exact h4 j (by omega)
theorem CallsMade.done {w : World} {B : Nat} {cs : List CallD} {ws : List Value} {v : Value} (h : CallsMade w B v cs ws cs.length) : CallsAt w (fun b => B ≤ b) v cs := by
  obtain ⟨wk, h1, h2, h3, _⟩ := h
  exact ⟨wk, h1, ownsRow_reads h2, fun i c u hc hu => Reads.wider (h3 i c u (List.getElem?_eq_some_iff.1 hc).1 hc hu) (fun _ h => h.1)⟩

theorem ThreadsMade.start {w : World} {B : Nat} {v : Value} {cs : List ThreadD} {ws : List Value} (hl : ws.length = cs.length) (h : w.ownsRow B 105 4 v cs.length (encThreads cs ws)) : ThreadsMade w B v cs ws 0 :=
  ⟨ws, hl, h, fun j _ _ hj => absurd hj (by omega), fun _ _ => rfl⟩
theorem ThreadsMade.step {w w2 : World} {B g cap k : Nat} {cs : List ThreadD} {ws : List Value} {c : ThreadD} {wv : Value} (h : ThreadsMade w B (.slice (some ⟨g, 0, none⟩) cs.length cap) cs ws k) (hB : B ≤ w.heap.size) (hk : cs[k]? = some c)
    (hb : Below w.heap.size w w2) (hw : CallsAt w2 (fun b => w.heap.size ≤ b) wv c.prog) : ThreadsMade (w2.setCell ⟨g, k * 4 + 3, none⟩ wv) B (.slice (some ⟨g, 0, none⟩) cs.length cap) cs ws (k + 1) := by
  obtain ⟨wk, h1, h2, h3, h4⟩ := h
  have hkl : k < wk.length := by rw [h1]; exact (List.getElem?_eq_some_iff.1 hk).1
  have hg : g < w.heap.size := (h2.lt g rfl).2
  have hown : w2.ownsRow B 105 4 (.slice (some ⟨g, 0, none⟩) cs.length cap) cs.length (encThreads cs wk) := ownsRow_kept h2 (fun b hb' => hb.block b (h2.lt b hb').2)
  have s4 := (hown.stored (k * 4 + 3) wv).1
  rw [encThreads_set cs wk k wv h1] at s4
  have hkeep : ∀ b, b < w2.heap.size → (B ≤ b ∧ (Value.slice (some ⟨g, 0, none⟩) cs.length cap).ownBlock ≠ some b) → (w2.setCell ⟨g, k * 4 + 3, none⟩ wv).heap[b]? = w2.heap[b]? := fun b _ hF => block_setCell_other _ _ _ (fun e => hF.2 (by rw [e]; rfl))
  refine ⟨wk.set k wv, by simpa using h1, s4, ?_, ?_⟩
  · intro j c' u hj hc' hu
    rcases Nat.lt_or_ge j k with hjk | hjk
    · rw [List.getElem?_set, if_neg (by omega)] at hu
      have h5 := h3 j c' u hjk hc' hu
      exact CallsAt.kept (w := w2) hkeep (CallsAt.kept (w := w) (fun b hbl _ => hb.block b hbl) h5)
    · have : j = k := by omega
      subst this
      rw [hk] at hc'; cases hc'
      simp [List.getElem?_set, hkl] at hu
      subst hu
      refine CallsAt.kept (w := w2) hkeep (CallsAt.wider hw (fun b hb' => ⟨by omega, fun e => ?_⟩))
      simp [Value.ownBlock] at e
      omega
  · intro j hj
    rw [List.getElem?_set, if_neg (by omega)]
    exact h4 j (by omega)
theorem ThreadsMade.done {w : World} {B : Nat} {cs : List ThreadD} {ws : List Value} {v : Value} (h : ThreadsMade w B v cs ws cs.length) : ThreadsAt w (fun b => B ≤ b) v cs := by
  obtain ⟨wk, h1, h2, h3, _⟩ := h
  exact ⟨wk, h1, ownsRow_reads h2, fun i c u hc hu => CallsAt.wider (h3 i c u (List.getElem?_eq_some_iff.1 hc).1 hc hu) (fun _ h => h.1)⟩
/-- Blocks other than those that are read may turn. -/
theorem ThreadsMade.kept {w w' : World} {B k : Nat} {v : Value} {cs : List ThreadD} {ws : List Value} (h : ThreadsMade w B v cs ws k) (hb : ∀ b, b < w.heap.size → B ≤ b → w'.heap[b]? = w.heap[b]?) : ThreadsMade w' B v cs ws k := by
  obtain ⟨wk, h1, h2, h3, h4⟩ := h
  exact ⟨wk, h1, ownsRow_kept h2 (fun b hb' => hb b (h2.lt b hb').2 (h2.lt b hb').1), fun j t u hj ht hu => CallsAt.kept (fun b hl hF => hb b hl hF.1) (h3 j t u hj ht hu), h4⟩
set_option maxRecDepth 100000 in
set_option maxHeartbeats 1600000 in
theorem clonePart_any (P : PartD) (v : Value) (F : Nat → Prop) (hs : P.thr.length ≤ 100 ∧ P.obj.length ≤ 100 ∧ ∀ t ∈ P.thr, t.prog.length ≤ 100 ∧ ∀ c ∈ t.prog, CallOk c) (w : World) (h : PartAt w F v P) :
    Calls Tryz.prog 67 #[v] w fun e w' => ∃ v', e = .returned v' ∧ PartAt w' (fun k => w.heap.size ≤ k) v' P ∧ Below w.heap.size w w' := by
  obtain ⟨v1, v2, rfl, ⟨ps, hp1, hp2, hp3⟩, h2⟩ := h
  obtain ⟨n1, n2, n3⟩ := hs
  have hone : ∀ u ∈ encThreads P.thr ps, u.oneCell' = true := by
    refine encThreads_one _ _ (fun u hu => ?_)
    obtain ⟨i, hi, rfl⟩ := List.mem_iff_getElem.1 hu
    have hi' : i < P.thr.length := by omega
    obtain ⟨A, c, e⟩ := (hp3 i P.thr[i] ps[i] (List.getElem?_eq_getElem hi') (List.getElem?_eq_getElem hi)).slice
    rw [e]; rfl
  have HC1 := Lib.hid (fun (W : World) (hb : Below w.heap.size w W) => clone_threads W F v1 P.thr.length (encThreads P.thr ps) hone (by omega) (hp2.kept (fun k hk _ => hb.block k hk)))
  have HC3 := Lib.hid (fun (W : World) (hb : Below w.heap.size w W) => clone_objs W F v2 P.obj.length (encObjs P.obj) (encObjs_one _) (by omega) (Reads.kept h2 (fun k hk _ => hb.block k hk)))
  have Hp3 := Lib.hid hp3
  have N3 := Lib.hid n3
  obtain ⟨_, A1, c1, e1, _⟩ := hp2
  obtain ⟨A2, c2, e2⟩ := ObjsAt.slice h2
  subst e1 e2
  clear hp3 n3 h2 hone
  go_enter Tryz.func67, Tryz.ntmps67
  go_wp2_with fail
  go_at_call 126
  refine (HC1.out _ (((Below.refl _ _).alloc (Nat.le_refl _) _).alloc (by simp) _)).mono ?_
  rintro e w1 ⟨vT, rfl, hown, hb⟩
  obtain ⟨AT, cT, rfl⟩ := own_form hown
  obtain ⟨p1, p2⟩ := below_cells hb (b := w.heap.size) (by simp <;> omega) (two_first _ _ _)
  simp only [World.size_alloc] at hown hb
  have hsz := hb.size
  simp only [World.size_alloc] at hsz
  have start : ThreadsMade (w1.setCell ⟨w.heap.size, 0, none⟩ (.slice AT P.thr.length cT)) (w.heap.size + 1 + 1) (.slice AT P.thr.length cT) P.thr ps 0 :=
    (ThreadsMade.start hp1 hown).kept (fun b _ hb' => block_setCell_other _ _ _ (by omega))
  have hblk : (w1.setCell ⟨w.heap.size, 0, none⟩ (.slice AT P.thr.length cT)).heap[w.heap.size]? = some (.cells #[.slice AT P.thr.length cT, .slice A2 P.obj.length c2] 25 (0, 0)) := by
    rw [block_setCell (cs := #[.slice A1 P.thr.length c1, .slice A2 P.obj.length c2]) (t := 25) (fr := (0, 0)) (by rw [hb.block _ (by omega)]; exact two_first _ _ _)]; rfl
  have hblk2 : (w1.setCell ⟨w.heap.size, 0, none⟩ (.slice AT P.thr.length cT)).heap[w.heap.size + 1]? = some (.cells #[.slice none 0 0, .slice none 0 0] 25 (0, 0)) := by
    rw [block_setCell_other _ _ _ (by omega), hb.block _ (by omega)]; exact two_second _ _ _
  have hbw : Below w.heap.size w (w1.setCell ⟨w.heap.size, 0, none⟩ (.slice AT P.thr.length cT)) :=
    ((((Below.refl _ _).alloc (Nat.le_refl _) _).alloc (by simp) _).trans (hb.mono (by omega))).setCell (by dsimp only; omega) _
  have Start := Lib.hid start
  have Hblk := Lib.hid hblk
  have Hblk2 := Lib.hid hblk2
  have Hbw := Lib.hid hbw
  clear start hblk hblk2 hbw hown hb
  go_wp2
  go_loopw [3, 4, 5, 13] (fun _ _ _ i wr => ∃ k : Nat, k ≤ P.thr.length ∧ i = .int .i64 k ∧ ThreadsMade wr (w.heap.size + 1 + 1) (.slice AT P.thr.length cT) P.thr ps k ∧
      wr.heap[w.heap.size]? = some (.cells #[.slice AT P.thr.length cT, .slice A2 P.obj.length c2] 25 (0, 0)) ∧ wr.heap[w.heap.size + 1]? = some (.cells #[.slice none 0 0, .slice none 0 0] 25 (0, 0)) ∧
      Below w.heap.size w wr ∧ w.heap.size + 1 + 1 ≤ wr.heap.size) (fun _ _ _ i _ => P.thr.length - (intOf i).toNat)
  case atStart => exact ⟨0, Nat.zero_le _, rfl, Start.out, Hblk.out, Hblk2.out, Hbw.out, by simpa using hsz⟩
  case round =>
    obtain ⟨k, hk, rfl, hT, hk1, hk2, hbel, hsz1⟩ := hrel
    obtain ⟨wo, rfl⟩ : ∃ wo : World, wo = wr := ⟨_, rfl⟩
    by_cases hlt : k < P.thr.length
    · have r1 := cell_of_block hk1
      have r2 := free_of_block hk1
      have hT' := hT
      obtain ⟨wk, t1, t2, t3, t4⟩ := hT'
      obtain ⟨g, cap, et, hgB, hgl⟩ := t2.form (by omega)
      cases et
      have hkl : k < wk.length := by omega
      have hpk : ps[k]? = some wk[k] := by rw [← t4 k (Nat.le_refl _)]; exact List.getElem?_eq_getElem hkl
      have hca := Hp3.out k P.thr[k] wk[k] (List.getElem?_eq_getElem hlt) hpk
      obtain ⟨ws, w1', w2', w3'⟩ := hca
      obtain ⟨Ap, cp, ep, _⟩ := w2'.2
      have hwone : ∀ u ∈ encCalls P.thr[k].prog ws, u.oneCell' = true := by
        refine encCalls_one _ _ (fun u hu => ?_)
        obtain ⟨i, hi, rfl⟩ := List.mem_iff_getElem.1 hu
        have hi' : i < P.thr[k].prog.length := by omega
        obtain ⟨_, A, c, e, _⟩ := w3' i P.thr[k].prog[i] ws[i] (List.getElem?_eq_getElem hi') (List.getElem?_eq_getElem hi)
        rw [e]; rfl
      obtain ⟨m1, m2⟩ := N3.out P.thr[k] (List.getElem_mem hlt)
      have HC2 := clone_calls wo F wk[k] P.thr[k].prog.length (encCalls P.thr[k].prog ws) hwone (by omega) (w2'.kept (fun b hb _ => hbel.block b hb))
      have c3 : wo.cell? ⟨g, k * 4 + 3, none⟩ = some wk[k] := own_cell t2 (by have := encThreads_get P.thr wk k P.thr[k] wk[k] (List.getElem?_eq_getElem hlt) (List.getElem?_eq_getElem hkl) 3 (by omega); simpa [threadCells] using this)
      have hfr := own_free t2
      have hTk : P.thr[k]? = some P.thr[k] := List.getElem?_eq_getElem hlt
      have hlc : (k : Int) < (P.thr.length : Int) := by omega
      generalize P.thr[k] = t at *
      rw [ep] at HC2 c3
      have HC2' := Lib.hid HC2
      have HT := Lib.hid hT
      have HTk := Lib.hid hTk
      have W3 := Lib.hid w3'
      have M2 := Lib.hid m2
      have Hk1 := Lib.hid hk1
      have Hk2 := Lib.hid hk2
      have Hbel := Lib.hid hbel
      clear HC2 hT hTk w3' m2 w2' hwone t1 t2 t3 t4 ep hpk hk1 hk2 hbel
      go_wp2_with fail
      go_at_call 127
      refine HC2'.out.mono ?_
      rintro e w2 ⟨vL, rfl, hownL, hbL⟩
      obtain ⟨AL, cL, rfl⟩ := own_form hownL
      have hmade := CallsMade.start w1' hownL
      have Hmade := Lib.hid hmade
      have HbL := Lib.hid hbL
      clear hmade hownL hbL
      go_wp2
      go_loopw [5, 25] (fun _ i wx => ∃ kk : Nat, kk ≤ t.prog.length ∧ i = .int .i64 kk ∧ CallsMade wx wo.heap.size (.slice AL t.prog.length cL) t.prog ws kk ∧ Below wo.heap.size wo wx) (fun _ i _ => t.prog.length - (intOf i).toNat)
      case atStart => exact ⟨0, Nat.zero_le _, rfl, Hmade.out, HbL.out⟩
      case round =>
        obtain ⟨kk, hkk, rfl, hM, hbx⟩ := hrel
        by_cases hlt2 : kk < t.prog.length
        · have hM' := hM
          obtain ⟨wj, j1, j2, j3, j4⟩ := hM'
          obtain ⟨gL, capL, eL, hgL1, hgL2⟩ := j2.form (by omega)
          cases eL
          have hwk : ws[kk]? = some ws[kk] := List.getElem?_eq_getElem (by omega)
          have hck : t.prog[kk]? = some t.prog[kk] := List.getElem?_eq_getElem hlt2
          obtain ⟨x0, x1, x2, x3, x4, x5, x6, x7, x8⟩ := hM.cells hck hwk
          have hia := W3.out kk _ _ hck hwk
          have hok := M2.out t.prog[kk] (List.getElem_mem hlt2)
          have HCC := cloneCall_any t.prog[kk] ws[kk] F hok wr (IntsAt.kept (w := w) (fun b hb _ => by rw [hbx.block b (by have := Hbel.out.size; omega)]; exact Hbel.out.block b hb) hia)
          have hlc2 : (kk : Int) < (t.prog.length : Int) := by omega
          generalize t.prog[kk] = c at *
          generalize ws[kk] = wv at *
          obtain ⟨Aw, cw, ew⟩ : ∃ A n, wv = .slice A c.words.length n := by obtain ⟨_, A, n, e, _⟩ := hia; exact ⟨A, n, e⟩
          subst ew
          simp only [callCells] at HCC
          have HCC' := Lib.hid HCC
          have HM := Lib.hid hM
          have Hck := Lib.hid hck
          have Hbx := Lib.hid hbx
          clear HCC hM hck hbx hia hok hwk j1 j2 j3 j4
          go_wp2_with fail
          go_at_call 77
          refine HCC'.out.mono ?_
          rintro e w4 ⟨wv', rfl, hI, hb4⟩
          obtain ⟨Av, cv, ev⟩ : ∃ A n, wv' = .slice A c.words.length n := by obtain ⟨_, A, n, e, _⟩ := hI; exact ⟨A, n, e⟩
          subst ev
          have y0 : w4.cell? ⟨gL, kk * 6, none⟩ = some (.int .i64 c.kind) := by rw [hb4.cell (p := ⟨gL, kk * 6, none⟩) x7]; exact x0
          have y1 : w4.cell? ⟨gL, kk * 6 + 1, none⟩ = some (.int .i64 c.handle) := by rw [hb4.cell (p := ⟨gL, kk * 6 + 1, none⟩) x7]; exact x1
          have y2 : w4.cell? ⟨gL, kk * 6 + 2, none⟩ = some (.int .i64 c.a) := by rw [hb4.cell (p := ⟨gL, kk * 6 + 2, none⟩) x7]; exact x2
          have y3 : w4.cell? ⟨gL, kk * 6 + 3, none⟩ = some (.int .i64 c.b) := by rw [hb4.cell (p := ⟨gL, kk * 6 + 3, none⟩) x7]; exact x3
          have y4 : w4.cell? ⟨gL, kk * 6 + 4, none⟩ = some (.slice Aw c.words.length cw) := by rw [hb4.cell (p := ⟨gL, kk * 6 + 4, none⟩) x7]; exact x4
          have y5 : w4.cell? ⟨gL, kk * 6 + 5, none⟩ = some (.int .i64 c.timeout) := by rw [hb4.cell (p := ⟨gL, kk * 6 + 5, none⟩) x7]; exact x5
          have y6 : ∀ j, w4.frozen? ⟨gL, j, none⟩ = false := fun j => by rw [hb4.frozen (p := ⟨gL, j, none⟩) x7]; exact x6 j
          have HI := Lib.hid hI
          have Hb4 := Lib.hid hb4
          clear hI hb4 x0 x1 x2 x3 x4 x5 x6
          go_wp2
          go_roundw
          case rel =>
            refine ⟨kk + 1, by omega, by go_num, ?_, ?_⟩
            · exact CallsMade.step HM.out Hbx.out.size Hck.out Hb4.out HI.out
            · exact putCall_below (c := c) (Hbx.out.trans (Hb4.out.mono Hbx.out.size)) hgL1
          case measure => simp [intOf]; omega
        · have hkk' : kk = t.prog.length := by omega
          subst hkk'
          have hdn := CallsMade.done hM
          have e1 := cell_of_block (w := wr) (b := w.heap.size) (by rw [hbx.block _ (by omega)]; exact Hk1.out)
          have e2 := free_of_block (w := wr) (b := w.heap.size) (by rw [hbx.block _ (by omega)]; exact Hk1.out)
          have e3 : wr.cell? ⟨g, k * 4 + 3, none⟩ = some (.slice Ap t.prog.length cp) := by rw [hbx.cell (p := ⟨g, k * 4 + 3, none⟩) hgl]; exact c3
          have e4 : ∀ j, wr.frozen? ⟨g, j, none⟩ = false := fun j => by rw [hbx.frozen (p := ⟨g, j, none⟩) hgl]; exact hfr j
          have Hdn := Lib.hid hdn
          have Hbx := Lib.hid hbx
          clear hdn hbx hM c3 hfr r1 r2
          go_wp2
          go_roundw
          case rel =>
            refine ⟨k + 1, by omega, by go_num, ThreadsMade.step HT.out hsz1 HTk.out Hbx.out Hdn.out, ?_, ?_, ?_, ?_⟩
            · rw [block_setCell_other _ _ _ (by omega), Hbx.out.block _ (by omega)]; exact Hk1.out
            · rw [block_setCell_other _ _ _ (by omega), Hbx.out.block _ (by omega)]; exact Hk2.out
            · exact (Hbel.out.trans (Hbx.out.mono Hbel.out.size)).setCell (by dsimp only; omega) _
            · have := Hbx.out.size; simp; omega
          case measure => simp [intOf]; omega
    · have hkk' : k = P.thr.length := by omega
      subst hkk'
      have hdn := ThreadsMade.done hT
      have r1 := cell_of_block hk1
      have r2 := free_of_block hk1
      have HC3' := Lib.hid (HC3.out wo hbel)
      have Hdn := Lib.hid hdn
      have Hk1 := Lib.hid hk1
      have Hk2 := Lib.hid hk2
      have Hbel := Lib.hid hbel
      clear hdn hT hk1 hk2 hbel
      go_wp2_with fail
      go_at_call 128
      refine HC3'.out.mono ?_
      rintro e w2 ⟨vO, rfl, hownO, hbO⟩
      obtain ⟨AO, cO, rfl⟩ := own_form hownO
      have s1 := cell_of_block (w := w2) (b := w.heap.size) (by rw [hbO.block _ (by omega)]; exact Hk1.out)
      have s2 := free_of_block (w := w2) (b := w.heap.size) (by rw [hbO.block _ (by omega)]; exact Hk1.out)
      have s3 := cell_of_block (w := w2) (b := w.heap.size + 1) (by rw [hbO.block _ (by omega)]; exact Hk2.out)
      have s4 := free_of_block (w := w2) (b := w.heap.size + 1) (by rw [hbO.block _ (by omega)]; exact Hk2.out)
      have HownO := Lib.hid hownO
      have HbO := Lib.hid hbO
      clear hownO hbO r1 r2
      go_wp2
      refine bodyPost_ret (v := .agg #[.slice AT P.thr.length cT, .slice AO P.obj.length cO]) (by simp [results, Tryz.results67, go_sem, s1, s3]) rfl ⟨_, rfl, ⟨_, _, rfl, ?_, ?_⟩, ?_⟩
      · refine ThreadsAt.wider (ThreadsAt.kept (w := w2) (fun b hb hF => ?_) (ThreadsAt.kept (w := wo) (fun b hb _ => HbO.out.block b hb) Hdn.out)) (fun b hb => by omega)
        iterate 3 rw [block_setCell_other _ _ _ (by omega)]
      · refine Reads.wider (Reads.kept (ownsRow_reads HownO.out) (fun b hb hF => ?_)) (fun b hb => by omega)
        iterate 3 rw [block_setCell_other _ _ _ (by omega)]
      · iterate 3 refine Below.setCell ?_ (by dsimp only; omega) _
        exact Hbel.out.trans (HbO.out.mono Hbel.out.size)
end Go.Proofs.YtefbdcmodfbpbaaGreat
