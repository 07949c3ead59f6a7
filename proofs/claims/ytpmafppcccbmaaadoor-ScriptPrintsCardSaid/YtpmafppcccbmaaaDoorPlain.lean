/-
  Plain: texts cut at blanks; numbers that are written as they should be.
-/
import Derived.Test.YtpmafppcccbmaaaDoorDec
import Derived.Lib.Split
import Derived.Lib.ParseIntB
set_option linter.unusedVariables false
set_option linter.unusedSimpArgs false
namespace Go.Proofs.YtpmafppcccbmaaaDoor

/-! ### pieces between bytes 'sep' -/
def pieces (sep : UInt8) : List UInt8 → List (List UInt8)
  | [] => [[]]
  | c :: r => if c = sep then [] :: pieces sep r else match pieces sep r with | p :: ps => (c :: p) :: ps | [] => [[c]]
theorem pieces_cons (sep : UInt8) (l : List UInt8) : ∃ p ps, pieces sep l = p :: ps := by
  induction l with
  | nil => exact ⟨_, _, rfl⟩
  | cons c r ih =>
    obtain ⟨p, ps, h⟩ := ih
    unfold pieces
    by_cases hc : c = sep
    · exact ⟨_, _, if_pos hc⟩
    · rw [if_neg hc, h]; exact ⟨_, _, rfl⟩
theorem pieces_sep (sep : UInt8) (r : List UInt8) : pieces sep (sep :: r) = [] :: pieces sep r := by rw [pieces, if_pos rfl]
theorem pieces_other (sep c : UInt8) (r p : List UInt8) (ps : List (List UInt8)) (hc : c ≠ sep) (h : pieces sep r = p :: ps) : pieces sep (c :: r) = (c :: p) :: ps := by rw [pieces, if_neg hc, h]
/-- A piece without a separator, then one. -/
theorem pieces_append (sep : UInt8) (p r : List UInt8) (hp : sep ∉ p) : pieces sep (p ++ sep :: r) = p :: pieces sep r := by
  induction p with
  | nil => exact pieces_sep sep r
  | cons c p ih =>
    have := ih (fun h => hp (by simp [h]))
    rw [List.cons_append, pieces_other sep c _ _ _ (fun h => hp (by simp [h])) this]
theorem pieces_none (sep : UInt8) (p : List UInt8) (hp : sep ∉ p) : pieces sep p = [p] := by
  induction p with
  | nil => rfl
  | cons c p ih => exact pieces_other sep c _ _ _ (fun h => hp (by simp [h])) (ih (fun h => hp (by simp [h])))
/-- The text out of its pieces. -/
theorem pieces_join (sep : UInt8) (l : List UInt8) : ∀ p ps, pieces sep l = p :: ps → l = p ++ ps.flatMap (fun q => sep :: q) := by
  induction l with
  | nil => intro p ps h; simp [pieces] at h; obtain ⟨rfl, rfl⟩ := h; rfl
  | cons c r ih =>
    intro p ps h
    obtain ⟨q, qs, hq⟩ := pieces_cons sep r
    by_cases hc : c = sep
    · subst hc
      rw [pieces_sep] at h
      simp only [List.cons.injEq] at h
      obtain ⟨rfl, rfl⟩ := h
      rw [hq, List.flatMap_cons, List.nil_append, List.cons_append, ← ih q qs hq]
    · rw [pieces_other sep c r q qs hc hq] at h
      simp only [List.cons.injEq] at h
      obtain ⟨rfl, rfl⟩ := h
      rw [List.cons_append, ← ih _ _ hq]
theorem pieces_mem (sep : UInt8) (l : List UInt8) : ∀ p ∈ pieces sep l, sep ∉ p := by
  induction l with
  | nil => intro p hp; simp [pieces] at hp; subst hp; simp
  | cons c r ih =>
    obtain ⟨q, qs, hq⟩ := pieces_cons sep r
    by_cases hc : c = sep
    · subst hc
      rw [pieces_sep]
      intro p hp
      rcases List.mem_cons.1 hp with rfl | hp
      · simp
      · exact ih p hp
    · rw [pieces_other sep c r q qs hc hq]
      rw [hq] at ih
      intro p hp
      rcases List.mem_cons.1 hp with rfl | hp
      · intro h
        rcases List.mem_cons.1 h with h | h
        · exact hc h.symm
        · exact ih q (by simp) h
      · exact ih p (by simp [hp])
theorem pieces_length (sep : UInt8) (l : List UInt8) : (pieces sep l).length ≤ l.length + 1 := by
  induction l with
  | nil => simp [pieces]
  | cons c r ih =>
    obtain ⟨q, qs, hq⟩ := pieces_cons sep r
    by_cases hc : c = sep
    · subst hc; rw [pieces_sep]; simp; omega
    · rw [pieces_other sep c r q qs hc hq]; rw [hq] at ih; simp at ih ⊢; omega

theorem index_one (sep : UInt8) (l : List UInt8) : (Lib.index l [sep] = -1 → pieces sep l = [l]) ∧ ∀ i : Nat, Lib.index l [sep] = i → i < l.length ∧ pieces sep l = l.take i :: pieces sep (l.drop (i + 1)) := by
  induction l with
  | nil => exact ⟨fun _ => rfl, fun i h => by simp [Lib.index] at h⟩
  | cons c r ih =>
    obtain ⟨h1, h2⟩ := ih
    have hp : ([sep] : List UInt8).isPrefixOf (c :: r) = (sep == c) := by simp [List.isPrefixOf]
    by_cases hc : c = sep
    · subst hc
      have e : Lib.index (c :: r) [c] = 0 := by rw [Lib.index, hp]; simp
      refine ⟨fun h => by omega, fun i h => ?_⟩
      have : i = 0 := by omega
      subst this
      exact ⟨by simp, by simp [pieces_sep]⟩
    · have hne : (sep == c) = false := by simpa using fun h => hc h.symm
      have e : Lib.index (c :: r) [sep] = if Lib.index r [sep] == -1 then -1 else Lib.index r [sep] + 1 := by rw [Lib.index, hp, hne]; simp
      by_cases hm : Lib.index r [sep] = -1
      · rw [hm] at e
        refine ⟨fun _ => pieces_other sep c r r [] hc (h1 hm), fun i h => ?_⟩
        simp at e
        omega
      · have hm' : (Lib.index r [sep] == -1) = false := by simpa using hm
        rw [hm'] at e
        simp only [Bool.false_eq_true, if_false] at e
        have hge := Lib.index_ge r [sep]
        refine ⟨fun h => by omega, fun i h => ?_⟩
        obtain ⟨j, rfl⟩ : ∃ j, i = j + 1 := ⟨i - 1, by omega⟩
        obtain ⟨a, b⟩ := h2 j (by omega)
        exact ⟨by simp; omega, by rw [pieces_other sep c r _ _ hc b]; simp⟩

theorem splitK_pieces (sep : UInt8) : ∀ (n : Nat) (l : List UInt8), l.length ≤ n → Lib.splitK [sep] 0 (Lib.count l [sep]) l = pieces sep l ∧ Lib.count l [sep] + 1 = (pieces sep l).length
  | 0, l, h => by
    have : l = [] := List.length_eq_zero_iff.1 (by omega)
    subst this
    exact ⟨rfl, rfl⟩
  | n + 1, l, h => by
    obtain ⟨h1, h2⟩ := index_one sep l
    have hge := Lib.index_ge l [sep]
    by_cases hm : Lib.index l [sep] = -1
    · rw [Lib.count_miss hm, h1 hm]
      exact ⟨rfl, rfl⟩
    · obtain ⟨i, hi⟩ : ∃ i : Nat, Lib.index l [sep] = i := ⟨(Lib.index l [sep]).toNat, by omega⟩
      obtain ⟨hlt, hp⟩ := h2 i hi
      obtain ⟨a, b⟩ := splitK_pieces sep n (l.drop (i + 1)) (by simp; omega)
      have hc := Lib.count_hit (s := l) (sub := [sep]) (by simp) hi
      rw [List.length_singleton] at hc
      have hm' : (Lib.index l [sep] == -1) = false := by simpa using hm
      constructor
      · rw [hc, Nat.add_comm, Lib.splitK, hm', hp]
        simp only [Bool.false_eq_true, if_false, List.length_singleton]
        rw [hi, show ((i : Int).toNat) = i by omega, Nat.add_zero, a]
      · rw [hc, hp, List.length_cons]; omega
/-- What strings.Split lays, at a separator of one byte. -/
theorem splitB_pieces (sep : UInt8) (s : ByteArray) : (Lib.splitB (sb [sep]) 0 (Lib.countB s (sb [sep])) s) = (pieces sep s.data.toList).map sb ∧ Lib.countB s (sb [sep]) + 1 = (pieces sep s.data.toList).length := by
  obtain ⟨a, b⟩ := splitK_pieces sep s.data.toList.length s.data.toList (Nat.le_refl _)
  have hs : (sb [sep]).data.toList = [sep] := sb_toList _
  have hc : Lib.countB s (sb [sep]) = Lib.count s.data.toList [sep] := by unfold Lib.countB; rw [hs]
  refine ⟨?_, by rw [hc]; exact b⟩
  have h := Lib.splitB_data (sb [sep]) 0 (Lib.countB s (sb [sep])) s
  rw [hs, hc, a] at h
  rw [hc]
  have : ∀ (L : List ByteArray) (M : List (List UInt8)), L.map (·.data.toList) = M → L = M.map sb := by
    intro L
    induction L with
    | nil => intro M h; cases M with | nil => rfl | cons a b => simp at h
    | cons x L ih =>
      intro M h
      cases M with
      | nil => simp at h
      | cons m M =>
        simp only [List.map_cons, List.cons.injEq] at h
        rw [List.map_cons, ← ih M h.2, ← h.1, sb_of]
  exact this _ _ h

/-! ### numbers -/
/-- The number that a text is, if it is written as it should be. -/
def numOf (l : List UInt8) : Option Int :=
  match Lib.parseIntB 64 l with
  | .ok v => if Lib.itoa v = l then some v else none
  | _ => none
def isDigit (c : UInt8) : Bool := decide (48 ≤ c.toNat) && decide (c.toNat ≤ 57)
def valD (acc : Nat) (l : List UInt8) : Nat := l.foldl (fun a c => a * 10 + (c.toNat - 48)) acc

theorem digit_toNat (u : Nat) : (UInt8.ofNat (48 + u % 10)).toNat = 48 + u % 10 := by
  rw [UInt8.toNat_ofNat']; omega
theorem decDigits_snoc (u : Nat) (h : ¬ u < 10) : Lib.decDigits u = Lib.decDigits (u / 10) ++ [UInt8.ofNat (48 + u % 10)] := by rw [Lib.decDigits, dif_neg h]
theorem decDigits_small (u : Nat) (h : u < 10) : Lib.decDigits u = [UInt8.ofNat (48 + u % 10)] := by rw [Lib.decDigits, dif_pos h, Nat.mod_eq_of_lt h]
theorem decDigits_digits (u : Nat) : (∀ c ∈ Lib.decDigits u, isDigit c = true) ∧ Lib.decDigits u ≠ [] := by
  induction u using Nat.strongRecOn with
  | _ u ih =>
    have hd : isDigit (UInt8.ofNat (48 + u % 10)) = true := by unfold isDigit; rw [digit_toNat]; simp; omega
    by_cases h : u < 10
    · rw [decDigits_small u h]
      exact ⟨fun c hc => by rw [List.mem_singleton.1 hc]; exact hd, by simp⟩
    · obtain ⟨a, b⟩ := ih (u / 10) (by omega)
      rw [decDigits_snoc u h]
      refine ⟨fun c hc => ?_, by simp⟩
      rcases List.mem_append.1 hc with hc | hc
      · exact a c hc
      · rw [List.mem_singleton.1 hc]; exact hd
theorem parse_snoc (M acc : Nat) (l : List UInt8) (c : UInt8) (a : Nat) (h : Lib.parseUintM M acc l = .ok a) (hc : isDigit c = true) (h1 : a < 1844674407370955162) (h2 : a * 10 + (c.toNat - 48) ≤ M) :
    Lib.parseUintM M acc (l ++ [c]) = .ok (a * 10 + (c.toNat - 48)) := by
  simp only [isDigit, Bool.and_eq_true, decide_eq_true_eq] at hc
  induction l generalizing acc with
  | nil =>
    simp only [Lib.parseUintM] at h
    injection h with h
    subst h
    simp only [List.nil_append, Lib.parseUintM]
    rw [if_pos hc, if_neg (by omega), if_neg (by omega)]
  | cons b l ih =>
    simp only [Lib.parseUintM] at h
    simp only [List.cons_append, Lib.parseUintM]
    split at h
    · rename_i hb
      split at h
      · cases h
      · rename_i hb1
        split at h
        · cases h
        · rename_i hb2
          rw [if_pos hb, if_neg hb1, if_neg hb2]
          exact ih _ h
    · cases h
theorem parse_digits (M : Nat) (hM : M ≤ 18446744073709551615) (u : Nat) (hu : u ≤ M) : Lib.parseUintM M 0 (Lib.decDigits u) = .ok u := by
  induction u using Nat.strongRecOn with
  | _ u ih =>
    have hd : isDigit (UInt8.ofNat (48 + u % 10)) = true := by unfold isDigit; rw [digit_toNat]; simp; omega
    by_cases h : u < 10
    · rw [decDigits_small u h]
      have := parse_snoc M 0 [] (UInt8.ofNat (48 + u % 10)) 0 rfl hd (by omega) (by rw [digit_toNat]; omega)
      rw [digit_toNat] at this
      simpa [Nat.mod_eq_of_lt h] using this
    · rw [decDigits_snoc u h]
      have := parse_snoc M 0 _ (UInt8.ofNat (48 + u % 10)) _ (ih (u / 10) (by omega) (by omega)) hd (by omega) (by rw [digit_toNat]; omega)
      rw [digit_toNat] at this
      rw [this]
      congr 1
      omega
theorem parse_itoa (v : Int) (h0 : -9223372036854775808 ≤ v) (h1 : v ≤ 9223372036854775807) : Lib.parseIntB 64 (Lib.itoa v) = .ok v := by
  rw [itoa_nat]
  obtain ⟨hd, hne⟩ := decDigits_digits v.natAbs
  by_cases hn : v < 0
  · rw [if_pos hn]
    have hp := parse_digits (2 ^ 64 - 1) (by decide) v.natAbs (by omega)
    have hu : Lib.parseUintB 64 (Lib.decDigits v.natAbs) = .ok v.natAbs := by unfold Lib.parseUintB; rw [if_neg hne]; exact hp
    simp only [Lib.parseIntB]
    rw [if_pos (.inr rfl), hu]
    simp only [show (45 : UInt8).toNat = 45 from rfl, not_true, false_and, if_false, true_and, if_true]
    rw [if_neg (by omega)]
    congr 1
    omega
  · rw [if_neg hn]
    have hp := parse_digits (2 ^ 64 - 1) (by decide) v.natAbs (by omega)
    have hu : Lib.parseUintB 64 (Lib.decDigits v.natAbs) = .ok v.natAbs := by unfold Lib.parseUintB; rw [if_neg hne]; exact hp
    cases hD : Lib.decDigits v.natAbs with
    | nil => exact absurd hD hne
    | cons c r =>
      rw [hD] at hd hu
      have hc := hd c (by simp)
      simp only [isDigit, Bool.and_eq_true, decide_eq_true_eq] at hc
      simp only [Lib.parseIntB]
      rw [if_neg (by omega), hu]
      simp only [show ¬ c.toNat = 45 by omega, not_false_eq_true, true_and, false_and, if_false]
      rw [if_neg (by omega)]
      congr 1
      omega
theorem numOf_itoa (v : Int) (h0 : -9223372036854775808 ≤ v) (h1 : v ≤ 9223372036854775807) : numOf (Lib.itoa v) = some v := by
  unfold numOf
  rw [parse_itoa v h0 h1]
  simp
theorem numOf_some {l : List UInt8} {v : Int} (h : numOf l = some v) : Lib.parseIntB 64 l = .ok v ∧ Lib.itoa v = l := by
  unfold numOf at h
  split at h
  · rename_i w hw
    split at h
    · rename_i he
      obtain rfl := Option.some.inj h
      exact ⟨hw, he⟩
    · cases h
  · cases h

/-! ### the law's own judgement of a number -/
def rightD (l d : List UInt8) : Bool :=
  if d.length < 1 ∨ 19 < d.length ∨ (d.head? = some 48 ∧ 1 < l.length) then false
  else if d.all isDigit = true then decide (valD 0 d < 9223372036854775808) || (decide (valD 0 d = 9223372036854775808) && decide (d ≠ l)) else false
def rightL (l : List UInt8) : Bool := if l.head? = some 45 then rightD l l.tail else rightD l l
theorem rightD_true {l d : List UInt8} (h : rightD l d = true) : 1 ≤ d.length ∧ ¬ (d.head? = some 48 ∧ 1 < l.length) ∧ (∀ c ∈ d, isDigit c = true) ∧ (valD 0 d < 9223372036854775808 ∨ (valD 0 d = 9223372036854775808 ∧ d ≠ l)) := by
  unfold rightD at h
  by_cases hg : d.length < 1 ∨ 19 < d.length ∨ (d.head? = some 48 ∧ 1 < l.length)
  · rw [if_pos hg] at h; cases h
  · rw [if_neg hg] at h
    by_cases ha : d.all isDigit = true
    · rw [if_pos ha] at h
      simp only [Bool.or_eq_true, Bool.and_eq_true, decide_eq_true_eq] at h
      exact ⟨by omega, fun h' => hg (.inr (.inr h')), List.all_eq_true.1 ha, h⟩
    · rw [if_neg ha] at h; cases h
theorem valD_snoc (l : List UInt8) (c : UInt8) : valD 0 (l ++ [c]) = valD 0 l * 10 + (c.toNat - 48) := by simp [valD, List.foldl_append]
theorem digits_valD : ∀ (n : Nat) (d : List UInt8), d.length = n + 1 → (∀ c ∈ d, isDigit c = true) → (d.head? = some 48 → d.length = 1) → Lib.decDigits (valD 0 d) = d ∧ (1 < d.length → 1 ≤ valD 0 d)
  | n, d, hn, hd, hz => by
    obtain ⟨l, c, rfl⟩ : ∃ l c, d = l ++ [c] := ⟨d.dropLast, d.getLast (by intro h; simp [h] at hn), (List.dropLast_concat_getLast _).symm⟩
    have hc := hd c (by simp)
    simp only [isDigit, Bool.and_eq_true, decide_eq_true_eq] at hc
    have hco : ∀ u, u % 10 = c.toNat - 48 → UInt8.ofNat (48 + u % 10) = c := by
      intro u hu
      apply UInt8.toNat_inj.1
      rw [digit_toNat, hu]; omega
    rw [valD_snoc]
    cases l with
    | nil =>
      refine ⟨?_, fun h => by simp at h⟩
      simp only [valD, List.foldl_nil, Nat.zero_mul, Nat.zero_add, List.nil_append]
      rw [decDigits_small _ (by omega), hco _ (by omega)]
    | cons b l =>
      cases n with
      | zero => simp at hn
      | succ n =>
        have hb : (b :: l).head? = some 48 → (b :: l).length = 1 := by
          intro h
          have := hz (by simpa using h)
          simp at this
        obtain ⟨a1, a2⟩ := digits_valD n (b :: l) (by simp at hn ⊢; omega) (fun x hx => hd x (by simp at hx ⊢; rcases hx with h | h <;> simp [h])) hb
        have hpos : 1 ≤ valD 0 (b :: l) := by
          cases l with
          | cons _ _ => exact a2 (by simp)
          | nil =>
            have hb' := hd b (by simp)
            simp only [isDigit, Bool.and_eq_true, decide_eq_true_eq] at hb'
            have : b ≠ 48 := by
              intro h
              subst h
              have := hz rfl
              simp at this
            have : b.toNat ≠ 48 := fun h => this (UInt8.toNat_inj.1 (by rw [h]; rfl))
            simp [valD]; omega
        refine ⟨?_, fun _ => by omega⟩
        rw [decDigits_snoc _ (by omega), hco _ (by omega), show (valD 0 (b :: l) * 10 + (c.toNat - 48)) / 10 = valD 0 (b :: l) by omega, a1]
theorem right_num (l : List UInt8) (h : rightL l = true) : ∃ v, numOf l = some v := by
  unfold rightL at h
  by_cases hn : l.head? = some 45
  · rw [if_pos hn] at h
    obtain ⟨d, rfl⟩ : ∃ d, l = 45 :: d := by
      cases l with
      | nil => simp at hn
      | cons a b => simp at hn; subst hn; exact ⟨b, rfl⟩
    rw [List.tail_cons] at h
    obtain ⟨hlen, hz, hall, hv⟩ := rightD_true h
    have h48 : ¬ d.head? = some 48 := fun h => hz ⟨h, by simp; omega⟩
    obtain ⟨a, _⟩ := digits_valD (d.length - 1) d (by omega) hall (fun h => absurd h h48)
    have hpos : valD 0 d ≠ 0 := by
      intro h0
      rw [h0, decDigits_small 0 (by omega)] at a
      rw [← a] at h48
      exact h48 rfl
    refine ⟨-(valD 0 d : Int), ?_⟩
    have e : Lib.itoa (-(valD 0 d : Int)) = 45 :: d := by
      rw [itoa_nat, if_pos (by omega), show (-(valD 0 d : Int)).natAbs = valD 0 d by omega, a]
    rw [← e]
    exact numOf_itoa _ (by omega) (by omega)
  · rw [if_neg hn] at h
    obtain ⟨hlen, hz, hall, hv⟩ := rightD_true h
    obtain ⟨a, _⟩ := digits_valD (l.length - 1) l (by omega) hall (fun h => by
      rcases Nat.lt_or_ge 1 l.length with h' | h'
      · exact absurd ⟨h, h'⟩ hz
      · omega)
    have hv' : valD 0 l < 9223372036854775808 := by
      rcases hv with hv | ⟨_, hv⟩
      · exact hv
      · exact absurd rfl hv
    refine ⟨(valD 0 l : Int), ?_⟩
    have e : Lib.itoa (valD 0 l : Int) = l := by
      rw [itoa_nat, if_neg (by omega), show ((valD 0 l : Int)).natAbs = valD 0 l by omega, a]
    have := numOf_itoa (valD 0 l : Int) (by omega) (by omega)
    rw [e] at this
    exact this
end Go.Proofs.YtpmafppcccbmaaaDoor
