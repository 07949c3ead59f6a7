/-
  From what the rows list of package-level variables to what the walks ask.
-/
import Derived.Test.YtpmafppcccbmaaaDoorRows
import Derived.Test.YtpmafppcccbmaaaDoorNames
import Derived.Lib.LaidTab
import Derived.OpenShut
import Derived.LaidMore
import Derived.Stop.Joined
import Derived.Stop.LaidErr
set_option linter.unusedVariables false
set_option linter.unusedSimpArgs false
namespace Go.Proofs.YtpmafppcccbmaaaDoor
open Go.RowKit

/-- An array of strings that reads as a list of strings holds them, cell for cell. -/
theorem cells_of_strs {H : Type} {enc : TypeId × Value → H} {P : Program} {w : World} {base : Nat} {sp : Nat → Bool} {held : Bool} {fuel : Nat} {t e : TypeId} {n : Nat} {cs : List Value} {ls : List (List UInt8)} {p : List MemPlace}
    (ht : P.underlying t = some (.array n e)) (he : P.underlying e = some .string) (hce : P.cellsOf e = 1) (hct : P.cellsOf t = n)
    (h : DataW.trod enc P w base sp held fuel t cs = some (.agg (ls.map fun l => .lit (.string l)), p)) : cs = ls.map fun l => Value.string (sb l) := by
  cases fuel with
  | zero => simp [DataW.trod] at h
  | succ fuel =>
    simp only [DataW.trod, ht, hce, hct, Nat.mul_one] at h
    split at h
    · rename_i hl
      obtain ⟨xs, hm, hx⟩ := Option.map_eq_some_iff.1 h
      have hxs : xs.map (·.1) = ls.map fun l => (DataW.lit (.string l) : DataW H) := by
        have := congrArg Prod.fst hx
        simpa using this
      have hxl : xs.length = n := by simpa using Lib.mapM_length hm
      have hzl : ls.length = n := by
        have := congrArg List.length hxs
        simp at this
        omega
      apply List.ext_getElem?
      intro i
      by_cases hi : i < n
      · obtain ⟨b, hb, hf⟩ := Lib.mapM_at hm i i (by simp [hi])
        obtain ⟨s, hc, rfl, _⟩ := DataW.trod_string he hf
        have h1 : cs[i]? = some (.string s) := by
          have := congrArg (·[0]?) hc
          simpa [List.getElem?_take, List.getElem?_drop] using this
        have h2 : (xs.map (·.1))[i]? = some (DataW.lit (.string s.data.toList) : DataW H) := by simp [hb]
        rw [hxs] at h2
        simp only [List.getElem?_map, Option.map_eq_some_iff, DataW.lit.injEq, Lit.string.injEq] at h2
        obtain ⟨l, hl', e'⟩ := h2
        rw [h1, List.getElem?_map, hl', e']
        simp [sb_of]
      · rw [List.getElem?_eq_none (by omega), List.getElem?_eq_none (by simp; omega)]
    · cases h

theorem gNames : Tryd.prog.globalNamed "septum/call.names" = some 0 := by kernel_rfl
theorem gNamesType : (Tryd.prog.globals[0]?).map (·.type) = some 93 := by kernel_rfl
theorem gPow : Tryd.prog.globalNamed "internal/strconv.uint64pow10" = some 2 := by kernel_rfl
theorem gPowType : (Tryd.prog.globals[2]?).map (·.type) = some 140 := by kernel_rfl
theorem names_data {H : Type} : (Rows.laid_septum_call_names : DataW H) = .agg (kindNames.map fun l => .lit (.string l)) := rfl
theorem pow_data : (Rows.laid_internal_strconv_uint64pow10 : DataW Unit) = Lib.tabData .u64 Lib.pow10Tab := by rfl

theorem names_of_head {W : World} {rest : List (String × DataW Unit)} (h : laidMet Tryd.prog (("septum/call.names", Rows.laid_septum_call_names) :: rest) W) :
    ∀ i, i < 24 → W.cell? ⟨0, i, none⟩ = some (.string (sb (kindNames.getD i []))) := by
  obtain ⟨ps, ⟨g', t', cs, fuel, p, q, hg', ht', hvar, hd, _, _⟩, _⟩ := h
  obtain rfl := Option.some.inj (gNames.symm.trans hg')
  obtain rfl := Option.some.inj (gNamesType.symm.trans ht')
  rw [names_data] at hd
  have hc := cells_of_strs Tryd.underlying93 Tryd.underlying9 (by kernel_rfl) (by kernel_rfl) hd
  intro i hi
  rw [World.var?_cell gNames hvar i, ← Array.getElem?_toList, hc, List.getElem?_map]
  have : kindNames[i]? = some (kindNames.getD i []) := by
    rw [List.getElem?_eq_getElem (show i < kindNames.length from hi), List.getD_eq_getElem?_getD, List.getElem?_eq_getElem (show i < kindNames.length from hi)]
    rfl
  rw [this]
  rfl

theorem tabs_lines {W : World} (h : laidMetH Tryd.prog Rows.reportLinesRow.laid W) : Tabs W := by
  rw [MakeChecks.laidMetH_plain _ _ _ (by kernel_rfl)] at h
  have h2 : laidMet Tryd.prog (("internal/strconv.uint64pow10", Rows.laid_internal_strconv_uint64pow10) :: [("septum/call.names", Rows.laid_septum_call_names)]) W := laidMet.tail (laidMet.tail h)
  refine ⟨?_, names_of_head (laidMet.tail h2)⟩
  rw [pow_data] at h2
  exact Lib.tabIs_of_head gPow gPowType Tryd.underlying140 Tryd.underlying101 (by kernel_rfl) (by kernel_rfl) h2
end Go.Proofs.YtpmafppcccbmaaaDoor
