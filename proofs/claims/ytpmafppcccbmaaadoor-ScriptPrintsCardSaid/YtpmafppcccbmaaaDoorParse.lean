/-
  Plain: a call out of its text.
-/
import Derived.Test.YtpmafppcccbmaaaDoorPlain
import Derived.Test.YtpmafppcccbmaaaDoorCall
import Derived.Lib.ParseIntBTie
set_option linter.unusedVariables false
set_option linter.unusedSimpArgs false
namespace Go.Proofs.YtpmafppcccbmaaaDoor

theorem parseIntB64_bounds {l : List UInt8} {v : Int} (h : Lib.parseIntB 64 l = .ok v) : I64 v := by
  have := Lib.parseIntB_bounds h
  unfold I64
  omega
theorem numOf_i64 {l : List UInt8} {v : Int} (h : numOf l = some v) : I64 v := parseIntB64_bounds (numOf_some h).1

def numsOf : List (List UInt8) → Option (List Int)
  | [] => some []
  | l :: ls => match numOf l, numsOf ls with
    | some v, some vs => some (v :: vs)
    | _, _ => none
theorem numsOf_itoa (xs : List Int) (h : ∀ x ∈ xs, I64 x) : numsOf (xs.map Lib.itoa) = some xs := by
  induction xs with
  | nil => rfl
  | cons x xs ih =>
    have hx := h x (by simp)
    simp only [List.map_cons, numsOf, numOf_itoa x hx.1 hx.2, ih (fun y hy => h y (by simp [hy]))]
theorem numsOf_some : ∀ (ls : List (List UInt8)) (vs : List Int), numsOf ls = some vs → ls = vs.map Lib.itoa ∧ ∀ v ∈ vs, I64 v
  | [], vs, h => by simp [numsOf] at h; subst h; simp
  | l :: ls, vs, h => by
    unfold numsOf at h
    split at h
    · rename_i v ws h1 h2
      obtain rfl := Option.some.inj h
      obtain ⟨a, b⟩ := numsOf_some ls ws h2
      refine ⟨by rw [List.map_cons, ← a, (numOf_some h1).2], fun y hy => ?_⟩
      rcases List.mem_cons.1 hy with rfl | hy
      · exact numOf_i64 h1
      · exact b y hy
    · cases h
theorem numsOf_right (ls : List (List UInt8)) (h : ∀ l ∈ ls, rightL l = true) : ∃ vs, numsOf ls = some vs ∧ vs.length = ls.length := by
  induction ls with
  | nil => exact ⟨[], rfl, rfl⟩
  | cons l ls ih =>
    obtain ⟨v, hv⟩ := right_num l (h l (by simp))
    obtain ⟨vs, h1, h2⟩ := ih (fun y hy => h y (by simp [hy]))
    exact ⟨v :: vs, by simp only [numsOf, hv, h1], by simp [h2]⟩

/-- The kind of a name; -1: there is none. -/
def kindIx (l : List UInt8) : Int := match (List.range 24).find? (fun k => kindNames.getD k [] == l) with | some k => k | none => -1
theorem kindIx_hit (l : List UInt8) (k : Nat) (hk : k < 24) (h : kindNames.getD k [] = l) (hn : ∀ j, j < k → kindNames.getD j [] ≠ l) : kindIx l = k := by
  unfold kindIx
  have : (List.range 24).find? (fun k => kindNames.getD k [] == l) = some k := by
    rw [List.find?_range_eq_some]
    refine ⟨by simpa using h, List.mem_range.2 hk, fun j hj => by simpa using hn j hj⟩
  rw [this]
theorem kindIx_none (l : List UInt8) (hn : ∀ j, j < 24 → kindNames.getD j [] ≠ l) : kindIx l = -1 := by
  unfold kindIx
  have : (List.range 24).find? (fun k => kindNames.getD k [] == l) = none := by
    rw [List.find?_eq_none]
    intro j hj
    simpa using hn j (List.mem_range.1 hj)
  rw [this]
theorem kindIx_cases (l : List UInt8) : (∃ k : Nat, k < 24 ∧ kindIx l = k ∧ kindNames.getD k [] = l) ∨ (kindIx l = -1 ∧ ∀ j, j < 24 → kindNames.getD j [] ≠ l) := by
  by_cases h : ∃ k, k < 24 ∧ kindNames.getD k [] = l
  · obtain ⟨k, hk, he⟩ := h
    cases hf : (List.range 24).find? (fun k => kindNames.getD k [] == l) with
    | none =>
      rw [List.find?_eq_none] at hf
      exact absurd he (by simpa using hf k (List.mem_range.2 hk))
    | some j =>
      have h1 := List.find?_some hf
      have h2 := List.mem_of_find?_eq_some hf
      exact .inl ⟨j, List.mem_range.1 h2, by unfold kindIx; rw [hf], by simpa using h1⟩
  · exact .inr ⟨kindIx_none l (fun j hj he => h ⟨j, hj, he⟩), fun j hj he => h ⟨j, hj, he⟩⟩
theorem kindIx_name : ∀ k : Nat, k < 24 → kindIx (kindNames.getD k []) = k := by decide
theorem kindNames_blank : ∀ k : Nat, k < 24 → (32 : UInt8) ∉ kindNames.getD k [] ∧ kindNames.getD k [] ≠ [] := by decide

def parseL (s : List UInt8) : Option CallD :=
  match pieces 32 s with
  | n :: ws => match numsOf ws with
    | some (h :: a :: b :: t :: r) => if 0 ≤ kindIx n then some ⟨kindIx n, h, a, b, r, t⟩ else none
    | _ => none
  | [] => none

theorem itoa_blank (x : Int) : (32 : UInt8) ∉ Lib.itoa x := by
  rw [itoa_nat]
  have hd := (decDigits_digits x.natAbs).1
  have h : (32 : UInt8) ∉ Lib.decDigits x.natAbs := fun h => by
    have := hd _ h
    simp [isDigit] at this
  split
  · simp [h]
  · exact h
theorem pieces_spaced (p : List UInt8) (hp : (32 : UInt8) ∉ p) (xs : List Int) : pieces 32 (p ++ spacedL xs) = p :: xs.map Lib.itoa := by
  induction xs generalizing p with
  | nil => simp [spacedL, pieces_none 32 p hp]
  | cons x xs ih =>
    have e : p ++ spacedL (x :: xs) = p ++ 32 :: (Lib.itoa x ++ spacedL xs) := by simp [spacedL]
    rw [e, pieces_append 32 p _ hp, ih _ (itoa_blank x)]
    rfl
theorem callL_eq (c : CallD) : callL c = kindL c.kind ++ spacedL (c.handle :: c.a :: c.b :: c.timeout :: c.words) := by simp [callL, spacedL]
theorem nameL_nat (k : Int) (h0 : 0 ≤ k) (h1 : k < 24) : nameL k = kindNames.getD k.toNat [] ∧ kindL k = nameL k := by
  have e : nameL k = kindNames.getD k.toNat [] := by unfold nameL; rw [if_pos ⟨h0, h1⟩]
  refine ⟨e, ?_⟩
  unfold kindL
  rw [if_neg]
  rw [e]
  exact (kindNames_blank k.toNat (by omega)).2
theorem parse_back (c : CallD) (hc : CallOk c) (h0 : 0 ≤ c.kind) (h1 : c.kind < 24) : parseL (callL c) = some c := by
  obtain ⟨e1, e2⟩ := nameL_nat c.kind h0 h1
  have hb := (kindNames_blank c.kind.toNat (by omega)).1
  have hk : kindIx (kindNames.getD c.kind.toNat []) = c.kind := by rw [kindIx_name _ (by omega)]; omega
  unfold parseL
  rw [callL_eq, e2, e1, pieces_spaced _ hb]
  simp only
  rw [numsOf_itoa _ (by
    intro x hx
    simp only [List.mem_cons] at hx
    rcases hx with rfl | rfl | rfl | rfl | hx
    · exact hc.handle
    · exact hc.a
    · exact hc.b
    · exact hc.timeout
    · exact hc.words x hx)]
  simp only [hk]
  rw [if_pos h0]
theorem parse_bad (c : CallD) (hc : CallOk c) (h : ¬ (0 ≤ c.kind ∧ c.kind < 24)) : parseL (callL c) = none := by
  have e : kindL c.kind = [63] := by unfold kindL nameL; rw [if_neg h]; rfl
  have hk : kindIx [63] = -1 := by decide
  unfold parseL
  rw [callL_eq, e, pieces_spaced _ (by decide)]
  simp only [hk]
  split
  · rfl
  · rfl
theorem parse_some (s : List UInt8) (c : CallD) (h : parseL s = some c) : callL c = s ∧ 0 ≤ c.kind ∧ c.kind < 24 ∧ CallOk c := by
  unfold parseL at h
  cases hp : pieces 32 s with
  | nil => rw [hp] at h; cases h
  | cons n ws =>
    rw [hp] at h
    simp only at h
    split at h
    · rename_i h' a b t r hn
      split at h
      · rename_i h0
        obtain rfl := Option.some.inj h
        obtain ⟨e, hI⟩ := numsOf_some _ _ hn
        rcases kindIx_cases n with ⟨k, hk, hkn, hnm⟩ | ⟨hk, _⟩
        · have j := pieces_join 32 s n ws hp
          refine ⟨?_, h0, by simp only [hkn]; omega, ⟨?_, hI _ (by simp), hI _ (by simp), hI _ (by simp), hI _ (by simp), fun x hx => hI x (by simp [hx])⟩⟩
          · obtain ⟨e1, e2⟩ := nameL_nat (kindIx n) h0 (by omega)
            rw [callL_eq]
            simp only
            rw [e2, e1, hkn, j, e]
            simp only [Int.toNat_natCast, hnm, spacedL, List.flatMap_map]
          · simp only [hkn]; unfold I64; omega
        · omega
      · cases h
    · cases h

/-- The law's own judgement: is a text written as a call is? -/
def writtenL (s : List UInt8) : Bool :=
  match pieces 32 s with
  | n :: ws => decide (4 ≤ ws.length) && ((List.range 24).any (fun k => kindNames.getD k [] == n) && ws.all rightL)
  | [] => false
theorem written_some (s : List UInt8) (h : writtenL s = true) : parseL s ≠ none := by
  unfold writtenL at h
  unfold parseL
  cases hp : pieces 32 s with
  | nil => rw [hp] at h; cases h
  | cons n ws =>
    rw [hp] at h
    simp only [Bool.and_eq_true, decide_eq_true_eq, List.all_eq_true, List.any_eq_true, List.mem_range, beq_iff_eq] at h
    obtain ⟨h4, ⟨k, hk, hkn⟩, hr⟩ := h
    obtain ⟨vs, hv, hl⟩ := numsOf_right ws hr
    have hki : 0 ≤ kindIx n := by rw [← hkn, kindIx_name k hk]; omega
    simp only [hv]
    match vs, hl with
    | a :: b :: c :: d :: r, _ => simp only; rw [if_pos hki]; simp
    | [], hl => simp at hl; omega
    | [_], hl => simp at hl; omega
    | [_, _], hl => simp at hl; omega
    | [_, _, _], hl => simp at hl; omega
end Go.Proofs.YtpmafppcccbmaaaDoor
