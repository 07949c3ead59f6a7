/-
  wait.Is, wait.Things, port.size: what a plan says of an object.
  What a later world keeps of a plan that came in by value, and of its copy; sizes that rings may have.
-/
import Derived.Test.YtefbdcmodfbpbaaGreatThread
import Derived.Test.YtefbdcmodfbpbaaGreatMoreG
import Derived.Test.YtefbdcmodfbpbaaGreatBoot1
set_option linter.unusedVariables false
set_option linter.unusedSimpArgs false
namespace Go.Proofs.YtefbdcmodfbpbaaGreat
open Go.RowKit

def hasO (P : PartD) (o : Int) : Bool := decide (0 ≤ o) && decide (o < P.obj.length)
def objD (P : PartD) (o : Int) : ObjD := (P.obj[o.toNat]?).getD ⟨0, 0, false⟩
def isKB (P : PartD) (o kind : Int) : Bool := hasO P o && decide ((objD P o).kind = kind)
theorem hasO_ok {P : PartD} {o : Int} (h : hasO P o = true) : 0 ≤ o ∧ o < P.obj.length := by simpa [hasO] using h
theorem objD_get {P : PartD} {o : Int} (h0 : 0 ≤ o) (h1 : o < P.obj.length) : P.obj[o.toNat]? = some (objD P o) := by
  unfold objD
  rw [List.getElem?_eq_getElem (by omega)]; rfl
theorem isKB_ok {P : PartD} {o kind : Int} (h : isKB P o kind = true) : 0 ≤ o ∧ o < P.obj.length ∧ (objD P o).kind = kind := by
  simp only [isKB, hasO, Bool.and_eq_true, decide_eq_true_eq] at h
  exact ⟨h.1.1, h.1.2, h.2⟩
theorem obAts_get (n m : Nat) (o : Int) (h0 : 0 ≤ o) (h1 : o < m) : (obAts n m)[o.toNat]? = some (obAt n o) := by
  unfold obAts
  rw [List.getElem?_map, List.getElem?_range (by omega)]
  show some (obAt n ((o.toNat : Nat) : Int)) = _
  rw [Int.toNat_of_nonneg h0]
/-- The cells of an object of a plan. -/
theorem PlanVal.obj {w : World} {F : Nat → Prop} {pv : Value} {P : PartD} (h : PlanVal w F pv P) {o : Int} (h0 : 0 ≤ o) (h1 : o < P.obj.length) :
    ∃ A1 c1 b2 o2 c2 A3 c3 b4 o4 c4, pv = .agg #[.int .i64 0, .int .i64 2, .int .i64 4, .int .i64 3, .int .i64 5, .int .i64 6, .int .i64 8, .int .i64 41, .int .i64 43, .slice A1 P.thr.length c1, .slice (some ⟨b2, o2, none⟩) P.obj.length c2, .int .i64 (planWords P), .slice A3 P.thr.length c3, .slice (some ⟨b4, o4, none⟩) P.obj.length c4] ∧
      w.cell? ⟨b2, o2 + o.toNat, none⟩ = some (.int .i64 (obAt P.thr.length o)) ∧ w.cell? ⟨b4, o4 + o.toNat * 3, none⟩ = some (.int .i64 (objD P o).kind) ∧ w.cell? ⟨b4, o4 + o.toNat * 3 + 1, none⟩ = some (.int .i64 (objD P o).size) ∧ w.cell? ⟨b4, o4 + o.toNat * 3 + 2, none⟩ = some (.bool (objD P o).prio) ∧ b2 < w.heap.size ∧ b4 < w.heap.size ∧ F b2 ∧ F b4 := by
  obtain ⟨sT, sO, v1, v2, rfl, g1, g2, g3⟩ := h
  obtain ⟨A1, c1, e1⟩ := g1.slice
  obtain ⟨u1, u2, e0, g5, g6⟩ := g3
  cases e0
  obtain ⟨A3, c3, rfl⟩ := g5.slice
  rw [thAts_length] at e1
  subst e1
  obtain ⟨b2, o2, c2, e2, hF2, hc2⟩ := g2.cell (by rw [obAts_length]; omega)
  rw [obAts_length] at e2
  subst e2
  obtain ⟨b4, o4, c4, e4, hF4, hc4⟩ := ObjsAt.cells g6 (by omega)
  subst e4
  obtain ⟨d0, d1, d2⟩ := hc4 o.toNat _ (objD_get h0 h1)
  have k2 := hc2 o.toNat _ (obAts_get _ _ o h0 h1)
  exact ⟨A1, c1, b2, o2, c2, A3, c3, b4, o4, c4, rfl, k2, d0, d1, d2, World.block_lt_of_cell? w _ k2, World.block_lt_of_cell? w _ d0, hF2, hF4⟩

set_option maxRecDepth 100000 in
set_option maxHeartbeats 800000 in
theorem things_any (P : PartD) (pv : Value) (F : Nat → Prop) (hn : P.thr.length ≤ 6) (hn2 : P.obj.length ≤ 8) (o : Int) (h0 : 0 ≤ o) (h1 : o < P.obj.length) (w : World) (h : PlanVal w F pv P) :
    Calls Tryz.prog 360 #[pv, .int .i64 o] w fun e w' => e = .returned (.int .i64 (obAt P.thr.length o + 4)) ∧ Below w.heap.size w w' := by
  obtain ⟨A1, c1, b2, o2, c2, A3, c3, b4, o4, c4, rfl, k2, _, _, _, l2, _, _, _⟩ := h.obj h0 h1
  clear h
  have hr : 0 ≤ obAt P.thr.length o ∧ obAt P.thr.length o ≤ 100000 := by unfold obAt; omega
  obtain ⟨hr0, hr1⟩ := hr
  generalize obAt P.thr.length o = x at *
  go_enter Tryz.func360, Tryz.ntmps360
  go_wp2
  go_ret
  exact ⟨rfl, (Below.refl _ _).alloc (Nat.le_refl _) _⟩
set_option maxRecDepth 100000 in
set_option maxHeartbeats 800000 in
theorem size_any (P : PartD) (pv : Value) (F : Nat → Prop) (o : Int) (h0 : 0 ≤ o) (h1 : o < P.obj.length) (w : World) (h : PlanVal w F pv P) :
    Calls Tryz.prog 389 #[pv, .int .i64 o] w fun e w' => e = .returned (.int .i64 (objD P o).size) ∧ Below w.heap.size w w' := by
  obtain ⟨A1, c1, b2, o2, c2, A3, c3, b4, o4, c4, rfl, _, _, k2, _, _, l2, _, _⟩ := h.obj h0 h1
  clear h
  generalize (objD P o).size = x at *
  go_enter Tryz.func389, Tryz.ntmps389
  go_wp2
  go_ret
  exact ⟨rfl, (Below.refl _ _).alloc (Nat.le_refl _) _⟩
set_option maxRecDepth 100000 in
set_option maxHeartbeats 800000 in
theorem isKind_any (P : PartD) (pv : Value) (F : Nat → Prop) (o kind : Int) (b : Bool) (hb : isKB P o kind = b) (w : World) (h : PlanVal w F pv P) :
    Calls Tryz.prog 329 #[pv, .int .i64 o, .int .i64 kind] w fun e w' => e = .returned (.bool b) ∧ Below w.heap.size w w' := by
  by_cases h0 : 0 ≤ o
  · by_cases h1 : o < P.obj.length
    · obtain ⟨A1, c1, b2, o2, c2, A3, c3, b4, o4, c4, rfl, _, k2, _, _, _, l2, _, _⟩ := h.obj h0 h1
      have e : isKB P o kind = decide ((objD P o).kind = kind) := by simp [isKB, hasO, h0, h1]
      rw [e] at hb
      clear h e
      generalize (objD P o).kind = x at *
      by_cases hx : x = kind
      · have e : b = true := by rw [← hb]; simpa using hx
        subst e hx
        clear hb
        go_enter Tryz.func329, Tryz.ntmps329
        go_wp2
        go_ret
        exact ⟨by simp, (Below.refl _ _).alloc (Nat.le_refl _) _⟩
      · have e : b = false := by rw [← hb]; simpa using hx
        have t1 : (x == kind) = false := by simpa using hx
        subst e
        clear hb hx
        go_enter Tryz.func329, Tryz.ntmps329
        go_wp2
        go_ret
        exact ⟨by simp, (Below.refl _ _).alloc (Nat.le_refl _) _⟩
    · have e : b = false := by rw [← hb]; simp [isKB, hasO, h1]
      obtain ⟨sT, sO, v1, v2, rfl, g1, g2, g3⟩ := h
      obtain ⟨A2, c2, e2⟩ := g2.slice
      rw [obAts_length] at e2
      subst e e2
      clear hb g1 g2 g3
      unfold planArr
      go_enter Tryz.func329, Tryz.ntmps329
      go_wp2
      go_ret
      exact ⟨by simp, (Below.refl _ _).alloc (Nat.le_refl _) _⟩
  · have e : b = false := by rw [← hb]; simp [isKB, hasO, h0]
    obtain ⟨sT, sO, v1, v2, rfl, g1, g2, g3⟩ := h
    subst e
    clear hb g1 g2 g3
    unfold planArr
    go_enter Tryz.func329, Tryz.ntmps329
    go_wp2
    go_ret
    exact ⟨by simp, (Below.refl _ _).alloc (Nat.le_refl _) _⟩
end Go.Proofs.YtefbdcmodfbpbaaGreat
namespace Go.Proofs.YtefbdcmodfbpbaaGreat
open Go.RowKit

/-- What a later world keeps of a plan that came in, and of its copy. -/
theorem plan_env {w : World} {g : FG} {sl : Value} {s : FS} {F : Nat → Prop} {P : PartD} {cs : Array Value} (hF : Fr w g sl s) (h : PlanVal w F (.agg cs) P) (ha : Apart F g sl) (hlt : ∀ k, F k → k < w.heap.size) (wr : World) (slr : Value) (hE : Ev g sl slr (w.alloc (.cells cs 61)) wr) :
    PlanVal wr F (.agg cs) P ∧ Apart F g slr ∧ wr.heap[w.heap.size]? = some (.cells cs 61 (0, 0)) := by
  refine ⟨(h.kept (fun k hk _ => Below.heap_alloc _ _ _ hk)).ev ha hE, ha.ev hE (fun k hk => by have := hlt k hk; rw [World.size_alloc]; omega), ?_⟩
  rw [hE.keep (by simp) (hF.newApart _ (Nat.le_refl _))]
  exact heap_alloc_new _ _
theorem ev_lt {w W : World} {o : Obj} {g : FG} {sl sl' : Value} (hE : Ev g sl sl' (w.alloc o) W) : w.heap.size < W.heap.size := by have := hE.size; rw [World.size_alloc] at this; omega
/-- Sizes that a ring may have. -/
def RingOk (P : PartD) : Prop := ∀ o ∈ P.obj, o.kind = 2 ∨ o.kind = 5 ∨ o.kind = 6 ∨ o.kind = 7 → 1 ≤ o.size ∧ o.size ≤ 16
theorem RingOk.get {P : PartD} (h : RingOk P) {o k : Int} (hb : isKB P o k = true) (hk : k = 2 ∨ k = 5 ∨ k = 6 ∨ k = 7) : 1 ≤ (objD P o).size ∧ (objD P o).size ≤ 16 := by
  obtain ⟨h0, h1, h2⟩ := isKB_ok hb
  have hm := List.mem_of_getElem? (objD_get h0 h1)
  exact h _ hm (by omega)

end Go.Proofs.YtefbdcmodfbpbaaGreat
