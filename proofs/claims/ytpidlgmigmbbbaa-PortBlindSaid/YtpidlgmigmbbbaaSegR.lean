/-
  A region that draws its order and holds calls, each behind all ahead of it: walked part by part, in the order in which it is written. No program here.
-/
import Derived.RowKit
import Derived.StillTail
import Derived.StillTactics
set_option linter.unusedVariables false
set_option linter.unusedSimpArgs false
namespace Go.Proofs.Ytpidlgmigmbbbaa
open Go
section
variable {P : Program} {ops : Array Oper} {md : Region.Mode} {w : World}

/-- The first n of N are listed. -/
def firstL (N n : Nat) : Array Bool := (List.replicate n true ++ List.replicate (N - n) false).toArray
def markL (listed : Array Bool) : Nat → Nat → Array Bool
  | _, 0 => listed
  | k, m + 1 => markL (listed.setIfInBounds k true) (k + 1) m
/-- Each of k .. n-1 is waited for by a later one, up to n. -/
def sinkFrom (md : Region.Mode) (ops : Array Oper) (k n : Nat) : Bool :=
  (List.range n).all fun i => decide (i < k) || (List.range (n + 1)).any fun j => decide (i < j) && Region.waitsFor md ops j i
/-- Each one behind n waits for one behind, or n. -/
def treeB (md : Region.Mode) (ops : Array Oper) (n : Nat) : Bool :=
  (List.range ops.size).all fun t => decide (t ≤ n) || (List.range t).any fun u => decide (n ≤ u) && Region.waitsFor md ops t u
def closedB (md : Region.Mode) (ops : Array Oper) (listed : Array Bool) : Bool :=
  (List.range ops.size).all fun j => !listed.getD j false || (match ops[j]? with | some o => o.after.all fun e => !Region.binds md e || listed.getD e.on false | none => true)
def midB (md : Region.Mode) (ops : Array Oper) (k n : Nat) (listed : Array Bool) : Bool :=
  decide (listed.size = ops.size) && closedB md ops listed && ((List.range ops.size).all fun t => decide (t < n) || !listed.getD t true) && ((List.range k).all fun i => listed.getD i true)

structure MidInv (md : Region.Mode) (ops : Array Oper) (k n : Nat) (listed : Array Bool) : Prop where
  size : listed.size = ops.size
  closed : ∀ j oj, ops[j]? = some oj → listed.getD j false = true → ∀ e ∈ oj.after, Region.binds md e = true → listed.getD e.on false = true
  tail : ∀ t, n ≤ t → t < ops.size → listed.getD t true = false
  low : ∀ i, i < k → listed.getD i true = true
theorem midInv_of {k n : Nat} {listed : Array Bool} (h : midB md ops k n listed = true) : MidInv md ops k n listed := by
  simp only [midB, Bool.and_eq_true, decide_eq_true_eq] at h
  obtain ⟨⟨⟨h1, h2⟩, h3⟩, h4⟩ := h
  refine ⟨h1, fun j oj hj hl e he hb => ?_, fun t ht ht' => ?_, fun i hi => ?_⟩
  · have hlt : j < ops.size := (Array.getElem?_eq_some_iff.1 hj).1
    have := List.all_eq_true.1 h2 j (List.mem_range.2 hlt)
    simp only [hl, hj, Bool.not_true, Bool.false_or] at this
    have := Array.all_eq_true'.1 this e he
    simpa [hb] using this
  · have := List.all_eq_true.1 h3 t (List.mem_range.2 ht')
    simp only [Bool.or_eq_true, decide_eq_true_eq, Bool.not_eq_true'] at this
    rcases this with h | h
    · omega
    · exact h
  · exact List.all_eq_true.1 h4 i (List.mem_range.2 hi)
theorem MidInv.set {k n i : Nat} {listed : Array Bool} (inv : MidInv md ops k n listed) (hi : i ∈ Region.ready md ops listed) (hin : i < n) : MidInv md ops k n (listed.setIfInBounds i true) := by
  obtain ⟨hun, oi, hoi, hall⟩ := mem_ready.1 hi
  refine ⟨by simp [inv.size], fun j oj hj hl e he hb => ?_, fun t ht ht' => by rw [getD_set_ne true (by omega)]; exact inv.tail t ht ht', fun j hj => ?_⟩
  · by_cases hij : i = j
    · subst hij
      have : oj = oi := Option.some.inj (hj.symm.trans hoi)
      subst this
      exact getD_set_true (hall e he hb)
    · rw [getD_set_ne false hij] at hl
      exact getD_set_true (inv.closed j oj hj hl e he hb)
  · by_cases hij : i = j
    · subst hij
      rw [inv.low i hj] at hun
      cases hun
    · rw [getD_set_ne true hij]; exact inv.low j hj
theorem mid_waits {k n : Nat} {listed : Array Bool} (hs : sinkFrom md ops k n = true) (hc : treeB md ops n = true) (hn : n < ops.size) (inv : MidInv md ops k n listed) :
    ∀ (d i : Nat), n - i = d → i < n → listed.getD i true = false → ∀ t, n ≤ t → t ∉ Region.ready md ops listed := by
  intro d
  induction d using Nat.strongRecOn with
  | _ d ih =>
    intro i hd hi hun t ht hr
    obtain ⟨_, ot, hot, hall⟩ := mem_ready.1 hr
    have htlt : t < ops.size := (Array.getElem?_eq_some_iff.1 hot).1
    by_cases htn : t = n
    · subst htn
      have h1 := List.all_eq_true.1 hs i (List.mem_range.2 hi)
      simp only [Bool.or_eq_true, decide_eq_true_eq] at h1
      have h1' : ((List.range (t + 1)).any fun j => decide (i < j) && Region.waitsFor md ops j i) = true := by
        rcases h1 with h1 | h1
        · rw [inv.low i h1] at hun; cases hun
        · exact h1
      obtain ⟨j, hj, hj2⟩ := List.any_eq_true.1 h1'
      simp only [Bool.and_eq_true, decide_eq_true_eq] at hj2
      obtain ⟨oj, hoj, e, he, hb, hon⟩ := Region.waitsFor_spec hj2.2
      have hjle : j ≤ t := by have := List.mem_range.1 hj; omega
      by_cases hjt : j = t
      · subst hjt
        have : oj = ot := Option.some.inj (hoj.symm.trans hot)
        subst this
        have h2 := hall e he hb
        rw [hon, getD_both hun] at h2
        cases h2
      · cases hl : listed.getD j false with
        | true =>
          have h2 := inv.closed j oj hoj hl e he hb
          rw [hon, getD_both hun] at h2
          cases h2
        | false =>
          have hjs : j < listed.size := by rw [inv.size]; omega
          exact ih (t - j) (by omega) j rfl (by omega) (getD_in hjs hl) t (Nat.le_refl _) hr
    · have h1 := List.all_eq_true.1 hc t (List.mem_range.2 htlt)
      simp only [Bool.or_eq_true, decide_eq_true_eq] at h1
      rcases h1 with h1 | h1
      · omega
      · obtain ⟨u, hu, hu2⟩ := List.any_eq_true.1 h1
        simp only [Bool.and_eq_true, decide_eq_true_eq] at hu2
        have hut := List.mem_range.1 hu
        obtain ⟨o', ho', e, he, hb, hon⟩ := Region.waitsFor_spec hu2.2
        have : o' = ot := Option.some.inj (ho'.symm.trans hot)
        subst this
        have h2 := hall e he hb
        rw [hon, getD_both (inv.tail u hu2.1 (by omega))] at h2
        cases h2
theorem wpAnyL_firstM {k n i : Nat} {oi : Oper} {v : Value} {L : Array Bool → Act → Prop} (hi : ops[i]? = some oi) (hsel : ∀ (j : Nat) (o : Oper) cs b, ops[j]? = some o → o.op ≠ .select cs b)
    (hs : sinkFrom md ops k n = true) (hc : treeB md ops n = true) (hn : n < ops.size) (hin : i < n)
    (hdone : ∀ listed a, L listed a → ∀ j ∈ Region.ready md ops listed, n ≤ j) :
    ∀ (f : Nat) (listed : Array Bool) (a : Act), MidInv md ops k n listed →
      (∀ j oj, ops[j]? = some oj → j ≠ i → listed.getD j true = false → (∀ e ∈ oj.after, Region.binds md e = true → e.on ≠ i) → oi.apart ops oj = true) →
      i ∈ Region.ready md ops listed → YieldsAt P ops w oi v a →
      wpAnyL P md ops w n L f (listed.setIfInBounds i true) (a.put oi.dst v) → wpAnyL P md ops w n L (f + 1) listed a := by
  intro f
  induction f with
  | zero =>
    intro listed a inv _ hr hy H
    have hun := (mem_ready.1 hr).1
    refine ⟨fun h => (by rw [h] at hr; cases hr), fun j hj => ?_⟩
    have hjn : j < n := by
      rcases Nat.lt_or_ge j n with h | h
      · exact h
      · exact absurd hj (mid_waits hs hc hn inv _ i rfl hin hun j h)
    refine ⟨hjn, ?_⟩
    by_cases hji : j = i
    · subst hji; exact hy.stOp hi H
    · have := hdone _ _ H j (ready_mono hj hji)
      omega
  | succ f ih =>
    intro listed a inv hfree hr hy H
    have hun := (mem_ready.1 hr).1
    refine ⟨fun h => (by rw [h] at hr; cases hr), fun j hj => ?_⟩
    have hjn : j < n := by
      rcases Nat.lt_or_ge j n with h | h
      · exact h
      · exact absurd hj (mid_waits hs hc hn inv _ i rfl hin hun j h)
    refine ⟨hjn, ?_⟩
    by_cases hji : j = i
    · subst hji; exact hy.stOp hi H
    · have h1 := (H.2 j (ready_mono hj hji)).2
      obtain ⟨hjun, oj, hoj, hall⟩ := mem_ready.1 hj
      have hnot : ∀ e ∈ oj.after, Region.binds md e = true → e.on ≠ i := fun e he hb heq => by
        have h1 := hall e he hb
        rw [heq, getD_both hun] at h1
        cases h1
      have h2 := stOp_put hoj (hfree j oj hoj hji hjun hnot) (fun cs b => hsel i oi cs b hi) (fun cs b => hsel j oj cs b hoj) hy h1
      have hfree' : ∀ k ok, ops[k]? = some ok → k ≠ i → (listed.setIfInBounds j true).getD k true = false →
          (∀ e ∈ ok.after, Region.binds md e = true → e.on ≠ i) → oi.apart ops ok = true := fun k ok hk hki hun hno => by
        refine hfree k ok hk hki ?_ hno
        by_cases hjk : j = k
        · subst hjk; exact hjun
        · rw [getD_set_ne true hjk] at hun; exact hun
      refine stOp_mono (fun a' h3 => ih (listed.setIfInBounds j true) a' (inv.set hj hjn) hfree' (ready_mono hr (Ne.symm hji)) h3.1 ?_) h2
      rw [Array.setIfInBounds_comm _ _ hji]
      exact h3.2
/-- From k on, m operations, each of which may come up, and is free: then n alone may come up. -/
def segB (md : Region.Mode) (ops : Array Oper) (n : Nat) : Nat → Nat → Array Bool → Bool
  | 0, _, listed => decide (Region.ready md ops listed = [n])
  | m + 1, k, listed => (Region.ready md ops listed).contains k && Region.free md ops listed k && segB md ops n m (k + 1) (listed.setIfInBounds k true)
theorem wpAnyL_seg {k0 n : Nat} {Lq : Act → Prop} (hsel : Region.noSelect ops = true) (hs : sinkFrom md ops k0 n = true) (hc : treeB md ops n = true) (hn : n < ops.size) (fin : Array Bool) (hfin : Region.ready md ops fin = [n]) :
    ∀ (l : List Oper) (k : Nat) (listed : Array Bool) (a : Act), (∀ j, j < l.length → l[j]? = ops[k + j]?) → k + l.length = n → MidInv md ops k0 n listed → markL listed k l.length = fin →
    segB md ops n l.length k listed = true → wpStill P ops w Lq l a →
    wpAnyL P md ops w n (fun listed' a' => listed' = fin ∧ Lq a') l.length listed a
  | [], k, listed, a, _, hk, _, hf, hB, h => ⟨hf, h⟩
  | o :: l, k, listed, a, hl, hk, inv, hf, hB, h => by
    have h0 : ops[k]? = some o := by simpa using (hl 0 (by simp)).symm
    simp only [List.length_cons, segB, Bool.and_eq_true] at hB
    obtain ⟨⟨hr, hfr⟩, hB'⟩ := hB
    have hkn : k < n := by simp only [List.length_cons] at hk; omega
    have hr' : k ∈ Region.ready md ops listed := by simpa using hr
    have hst : stOp P ops w k (wpStill P ops w Lq l) a := by unfold stOp; simp only [h0]; exact h
    obtain ⟨v, hy, hK⟩ := yieldsAt_of_stOp h0 hst
    exact wpAnyL_firstM h0 (Region.noSelect_spec hsel) hs hc hn hkn (fun listed' a' hL j hj => by rw [hL.1, hfin] at hj; simp at hj; omega) l.length listed a inv (Region.free_spec h0 hfr) hr' hy
      (wpAnyL_seg hsel hs hc hn fin hfin l (k + 1) _ _ (fun j hj => by have := hl (j + 1) (by simp; omega); simpa [Nat.add_assoc, Nat.add_comm 1 j] using this) (by simp only [List.length_cons] at hk; omega) (inv.set hr' hkn) hf hB' hK)

/-- All that a part asks of a region. -/
def partB (md : Region.Mode) (l : List Oper) (k m : Nat) : Bool :=
  Region.noSelect l.toArray && sinkFrom md l.toArray k (k + m) && treeB md l.toArray (k + m) && decide (k + m < l.length) && decide (Region.ready md l.toArray (firstL l.length (k + m)) = [k + m]) &&
    midB md l.toArray k (k + m) (firstL l.length k) && decide (markL (firstL l.length k) k m = firstL l.length (k + m)) && segB md l.toArray (k + m) m k (firstL l.length k)
/-- A part that only reads, up to the next call. -/
theorem wpAny_part {Q : Exit → Act → World → Prop} {l : List Oper} (k m g : Nat) {a : Act} (hB : partB md l k m = true)
    (h : wpStill P l.toArray w (fun a' => wpAny P md l.toArray Q g (firstL l.length (k + m)) a' w) ((l.drop k).take m) a) : wpAny P md l.toArray Q (m + g) (firstL l.length k) a w := by
  simp only [partB, Bool.and_eq_true, decide_eq_true_eq] at hB
  obtain ⟨⟨⟨⟨⟨⟨⟨h1, h2⟩, h3⟩, h4⟩, h5⟩, h6⟩, h7⟩, h8⟩ := hB
  have hlen : ((l.drop k).take m).length = m := by simp; omega
  have H := wpAnyL_seg (P := P) (w := w) (md := md) h1 h2 h3 (by simpa using h4) _ h5 ((l.drop k).take m) k (firstL l.length k) a (fun j hj => by
    rw [hlen] at hj
    simp [List.getElem?_take, List.getElem?_drop, hj]) (by rw [hlen]) (midInv_of h6) (by rw [hlen]; exact h7) (by rw [hlen]; exact h8) h
  rw [hlen] at H
  exact wpAny_of_head (Q' := Q) (g := g) (fun listed a' hL => by rw [hL.1]; exact hL.2) m _ a H
/-- The next call. -/
theorem wpAny_one {Q : Exit → Act → World → Prop} {l : List Oper} {o : Oper} (n g : Nat) {a : Act} (ho : l[n]? = some o) (hr : Region.ready md l.toArray (firstL l.length n) = [n]) (hf : (firstL l.length n).setIfInBounds n true = firstL l.length (n + 1))
    (hw : Region.wanted o (yielded l.toArray a.tmps) = true) (h : ∀ K : Act → World → Prop, (∀ a w, wpAny P md l.toArray Q g (firstL l.length (n + 1)) a w → K a w) → Oper.wp P o a w K Q) : wpAny P md l.toArray Q (g + 1) (firstL l.length n) a w := by
  refine ⟨fun h0 => (by rw [hr] at h0; cases h0), fun i hi => ?_⟩
  rw [hr] at hi
  have hin : i = n := by simpa using hi
  subst hin
  unfold wpOp
  have ho' : l.toArray[i]? = some o := by simpa using ho
  simp only [ho', hw, if_true]
  exact .inl (h _ (fun a w hh => by rw [hf]; exact hh))
/-- The last part. -/
theorem wpAny_last {Q : Exit → Act → World → Prop} {l : List Oper} (k : Nat) {a : Act} (hs : Region.noSelect l.toArray = true) (hB : Region.lexFrom md l.toArray (l.length - k) k (firstL l.length k) = true)
    (h : wpStill P l.toArray w (fun a' => Q .normal a' w) (l.drop k) a) : wpAny P md l.toArray Q (l.length - k) (firstL l.length k) a w := by
  have e : (l.drop k).length = l.length - k := by simp
  have := wpAnyS_lex (P := P) (w := w) (md := md) hs (l.drop k) k (firstL l.length k) a (fun j => by simp [List.getElem?_drop]) (by rw [e]; exact hB) h
  rw [e] at this
  exact wpAny_of_still (Q := fun a' => Q .normal a' w) (fun _ h => h) _ _ _ this
/-- The beginning. -/
theorem wp_region_parts {id : Nat} {Q : Exit → Act → World → Prop} {a : Act} {l : List Oper} (hm : P.follows .mixedOrders = true) (h : wpAny P .any l.toArray Q l.length (firstL l.length 0) a w.drew) : (Code.region id l.toArray true).wp P Q a w := by
  refine wp_region_any hm ?_
  have e : firstL l.length 0 = Array.replicate l.toArray.size false := by simp [firstL]
  rw [e] at h
  exact h
end
end Go.Proofs.Ytpidlgmigmbbbaa
