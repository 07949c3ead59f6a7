/-
  math/bits.Len64 of a small number; what a mask is.
-/
import Derived.Test.YtefbdcmodfbpbaaGreatK
import Derived.Laws.BitsAllLaws
set_option linter.unusedVariables false
set_option linter.unusedSimpArgs false
namespace Go.Proofs.YtefbdcmodfbpbaaGreat
open Go.RowKit

theorem bits_i64 (op : BinOp) (a b : Int) : I64 (bits op .i64 a b) := by
  have hw : ∀ n : Int, I64 (IntKind.i64.wrap n) := by
    intro n
    simp only [IntKind.wrap, IntKind.bits, IntKind.signed]
    unfold I64
    simp
    omega
  cases op <;> simp only [bits] <;> exact hw _

def len8 : ByteArray := ByteArray.mk #[0, 1, 2, 2, 3, 3, 3, 3, 4, 4, 4, 4, 4, 4, 4, 4, 5, 5, 5, 5, 5, 5, 5, 5, 5, 5, 5, 5, 5, 5, 5, 5, 6, 6, 6, 6, 6, 6, 6, 6, 6, 6, 6, 6, 6, 6, 6, 6, 6, 6, 6, 6, 6, 6, 6, 6, 6, 6, 6, 6, 6, 6, 6, 6, 7, 7, 7, 7, 7, 7, 7, 7, 7, 7, 7, 7, 7, 7, 7, 7, 7, 7, 7, 7, 7, 7, 7, 7, 7, 7, 7, 7, 7, 7, 7, 7, 7, 7, 7, 7, 7, 7, 7, 7, 7, 7, 7, 7, 7, 7, 7, 7, 7, 7, 7, 7, 7, 7, 7, 7, 7, 7, 7, 7, 7, 7, 7, 7, 8, 8, 8, 8, 8, 8, 8, 8, 8, 8, 8, 8, 8, 8, 8, 8, 8, 8, 8, 8, 8, 8, 8, 8, 8, 8, 8, 8, 8, 8, 8, 8, 8, 8, 8, 8, 8, 8, 8, 8, 8, 8, 8, 8, 8, 8, 8, 8, 8, 8, 8, 8, 8, 8, 8, 8, 8, 8, 8, 8, 8, 8, 8, 8, 8, 8, 8, 8, 8, 8, 8, 8, 8, 8, 8, 8, 8, 8, 8, 8, 8, 8, 8, 8, 8, 8, 8, 8, 8, 8, 8, 8, 8, 8, 8, 8, 8, 8, 8, 8, 8, 8, 8, 8, 8, 8, 8, 8, 8, 8, 8, 8, 8, 8, 8, 8, 8, 8, 8, 8, 8, 8, 8, 8, 8, 8, 8, 8]
def bitLen (x : Int) : Int := if x ≤ 0 then 0 else (Nat.log2 x.toNat : Int) + 1
set_option maxRecDepth 100000 in
theorem len8_size : len8.size = 256 := by decide
set_option maxRecDepth 100000 in
theorem len8_all : ∀ n : Fin 256, (len8.data[n.1]?).map (fun b => b.toNat) = some (if n.1 = 0 then 0 else Nat.log2 n.1 + 1) := by decide +kernel
set_option maxRecDepth 100000 in
theorem len8_at (n : Nat) (h : n < len8.size) : (len8[n].toNat : Int) = bitLen n := by
  have h2 : n < 256 := by rw [← len8_size]; exact h
  have h1 := len8_all ⟨n, h2⟩
  have e : len8.data[n]? = some len8[n] := by
    rw [Array.getElem?_eq_getElem (show n < len8.data.size from h)]
    rfl
  rw [e] at h1
  simp only [Option.map_some, Option.some.injEq] at h1
  refine Eq.trans (congrArg (fun k : Nat => (k : Int)) h1) ?_
  unfold bitLen
  rcases Nat.eq_zero_or_pos n with h0 | h0
  · subst h0; rfl
  · rw [if_neg (by omega), if_neg (by omega)]; simp
theorem bitLen_big (x : Int) (h : 256 ≤ x) : bitLen x = bitLen (x / 256) + 8 := by
  obtain ⟨m, rfl⟩ : ∃ m : Nat, x = m := ⟨x.toNat, by omega⟩
  have hm : 256 ≤ m := by omega
  have e : ((m : Int) / 256) = ((m / 256 : Nat) : Int) := by omega
  rw [e]
  unfold bitLen
  rw [if_neg (by omega), if_neg (by omega)]
  simp only [Int.toNat_natCast]
  have hk : m / 256 ≠ 0 := by omega
  have h1 := Nat.log2_self_le hk
  have h2 := @Nat.lt_log2_self (m / 256)
  generalize Nat.log2 (m / 256) = k at *
  have h3 : Nat.log2 m = k + 8 := by
    rw [Nat.log2_eq_iff (by omega)]
    rw [show 2 ^ (k + 8) = 2 ^ k * 256 by rw [Nat.pow_add], show 2 ^ (k + 8 + 1) = 2 ^ (k + 1) * 256 by rw [show k + 8 + 1 = k + 1 + 8 by omega, Nat.pow_add]]
    constructor
    · omega
    · omega
  rw [h3]; omega
theorem bitLen_lt (x : Int) (k : Nat) (h : x < 2 ^ k) : 0 ≤ bitLen x ∧ bitLen x ≤ k := by
  unfold bitLen
  split
  · omega
  · have h0 : x.toNat ≠ 0 := by omega
    have h1 : Nat.log2 x.toNat < k := (Nat.log2_lt h0).2 (by
      have : ((2 ^ k : Nat) : Int) = 2 ^ k := by simp
      omega)
    omega
set_option maxRecDepth 100000 in
set_option maxHeartbeats 1600000 in
theorem len64_any (x : Int) (h0 : 0 ≤ x) (h1 : x < 65536) (w : World) :
    Calls Tryz.prog 272 #[.int .u64 x] w fun e w' => e = .returned (.int .i64 (bitLen x)) ∧ w = w' := by
  by_cases h2 : 256 ≤ x
  · have H2 := Lib.hid h2
    have hb := bitLen_lt x 16 (by omega)
    have Hb := Lib.hid hb
    clear hb
    go_enter Tryz.func272, Tryz.ntmps272
    go_wp2
    go_ret
    refine ⟨?_, rfl⟩
    have e := bitLen_big x H2.out
    have e2 := len8_at (x / 256).toNat (by rw [len8_size]; omega)
    rw [show (((x / 256).toNat : Nat) : Int) = x / 256 by omega] at e2
    have e3 : wrap64 (8 + wrap64 (bitLen (x / 256))) = bitLen x := by
      have := Hb.out
      unfold wrap64
      omega
    refine Eq.trans (congrArg (fun n : Int => Ending.returned (Value.int .i64 (wrap64 (8 + wrap64 n)))) e2) ?_
    rw [e3]
  · have H2 : x < 256 := by omega
    have hb := bitLen_lt x 16 (by omega)
    have Hb := Lib.hid hb
    clear hb h2
    go_enter Tryz.func272, Tryz.ntmps272
    go_wp2
    go_ret
    refine ⟨?_, rfl⟩
    have e2 := len8_at x.toNat (by rw [len8_size]; omega)
    rw [show ((x.toNat : Nat) : Int) = x by omega] at e2
    refine Eq.trans (congrArg (fun n : Int => Ending.returned (Value.int .i64 n)) (Eq.trans (congrArg (fun n : Int => wrap64 (wrap64 n)) e2) ?_)) rfl
    have := Hb.out
    unfold wrap64
    omega

/-- The bits of a word below one. -/
abbrev qMask (v p : Int) : Int := bits .and .u64 (IntKind.u64.wrap v) (IntKind.u64.wrap (IntKind.u64.wrap (2 ^ p.toNat) - 1))
theorem qMask_lt (v p : Int) (h0 : 0 ≤ p) (h1 : p ≤ 16) : 0 ≤ qMask v p ∧ qMask v p < 2 ^ p.toNat ∧ qMask v p < 65536 := by
  have hp : (2 : Int) ^ p.toNat = ((2 ^ p.toNat : Nat) : Int) := by simp
  have hle : 2 ^ p.toNat ≤ 2 ^ 16 := Nat.pow_le_pow_right (by omega) (by omega)
  have hpos : 0 < 2 ^ p.toNat := Nat.pow_pos (by omega)
  have e1 : IntKind.u64.wrap (IntKind.u64.wrap (2 ^ p.toNat) - 1) = ((2 ^ p.toNat - 1 : Nat) : Int) := by
    rw [IntKind.wrap_u64, IntKind.wrap_u64, hp]
    omega
  unfold qMask
  rw [e1, u64_and _ _ (by rw [IntKind.wrap_u64]; omega) (by rw [IntKind.wrap_u64]; omega) (by omega) (by omega)]
  have := @Nat.and_le_right (IntKind.u64.wrap v).toNat (((2 ^ p.toNat - 1 : Nat) : Int)).toNat
  simp only [Int.toNat_natCast] at this ⊢
  rw [hp]
  omega
end Go.Proofs.YtefbdcmodfbpbaaGreat
