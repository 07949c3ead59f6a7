/-
  Numerals and texts as lists of bytes, plain.
-/
import Derived.Lib.ItoaNum
set_option linter.unusedVariables false
set_option linter.unusedSimpArgs false
namespace Go.Proofs.YtpmafppcccbmaaaDoor

/-- A text of bytes. -/
def sb (l : List UInt8) : ByteArray := ⟨l.toArray⟩
theorem sb_append (a b : List UInt8) : sb a ++ sb b = sb (a ++ b) := by
  apply ByteArray.ext
  simp [sb, ByteArray.data_append]
theorem sb_size (l : List UInt8) : (sb l).size = l.length := by simp [sb, ByteArray.size]
theorem sb_toList (l : List UInt8) : (sb l).data.toList = l := by simp [sb]
theorem sb_of (s : ByteArray) : sb s.data.toList = s := by apply ByteArray.ext; simp [sb]
theorem sb_inj {a b : List UInt8} (h : sb a = sb b) : a = b := by rw [← sb_toList a, ← sb_toList b, h]

theorem digits_le20 (u : Nat) (h : u < 18446744073709551616) : Lib.nDigits u ≤ 20 := by
  rcases Nat.eq_zero_or_pos u with rfl | h1
  · rw [Lib.nDigits_small (by omega)]; omega
  · have := Lib.numDigits_eq u h1 h
    split at this <;> omega

/-- What the loop of a number's text keeps: the digits that are still to come, of m, and those that are there. -/
def NumRel (n m : Int) (l : List UInt8) : Prop := Lib.decDigits n.natAbs = Lib.decDigits m.natAbs ++ l
def digitOf (m : Int) : UInt8 := UInt8.ofNat (48 + m.natAbs % 10)
theorem digitOf_toNat (m : Int) : (digitOf m).toNat = 48 + m.natAbs % 10 := by
  unfold digitOf
  rw [UInt8.toNat_ofNat']
  omega
theorem NumRel.start (n : Int) : NumRel n n [] := by simp [NumRel]
theorem NumRel.next {n m : Int} {l : List UInt8} (h : NumRel n m l) (hm : ¬ m.natAbs < 10) : NumRel n (m.tdiv 10) (digitOf m :: l) := by
  unfold NumRel at h ⊢
  rw [h, Lib.decDigits, dif_neg hm, show (m.tdiv 10).natAbs = m.natAbs / 10 from Int.natAbs_tdiv m 10]
  simp [digitOf]
theorem NumRel.last {n m : Int} {l : List UInt8} (h : NumRel n m l) (hm : m.natAbs < 10) : Lib.decDigits n.natAbs = digitOf m :: l := by
  unfold NumRel at h
  rw [h, Lib.decDigits, dif_pos hm]
  simp [digitOf, Nat.mod_eq_of_lt hm]
theorem NumRel.length {n m : Int} {l : List UInt8} (h : NumRel n m l) (h0 : -9223372036854775808 ≤ n) (h1 : n ≤ 9223372036854775807) : l.length ≤ 20 := by
  unfold NumRel at h
  have := congrArg List.length h
  rw [Lib.decDigits_length, List.length_append] at this
  have := digits_le20 n.natAbs (by omega)
  omega
theorem itoa_nat (n : Int) : Lib.itoa n = if n < 0 then 45 :: Lib.decDigits n.natAbs else Lib.decDigits n.natAbs := by
  unfold Lib.itoa
  by_cases h : n < 0
  · simp [h]
  · rw [if_neg h, if_neg h]
    congr 1
    omega
end Go.Proofs.YtpmafppcccbmaaaDoor
