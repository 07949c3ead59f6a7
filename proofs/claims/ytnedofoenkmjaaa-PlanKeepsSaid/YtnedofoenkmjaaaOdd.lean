/-
  What the statements of layer 13 ask first (awake), and of: a partition's plan.
-/
import Derived.Test.YtnedofoenkmjaaaNode
import Derived.Test.YtnedofoenkmjaaaOf
import Derived.Test.YtnedofoenkmjaaaThr
set_option linter.unusedVariables false
set_option linter.unusedSimpArgs false
namespace Go.Proofs.Ytnedofoenkmjaaa
open Go.RowKit

/-- A partition of threads alone, of the given priorities. -/
def plainPart (ps : List Int) : PartD := { thr := ps.map fun p => { prio := p, caps := 0, control := false, prog := [] }, obj := [] }
theorem plain_enc : ∀ (ps : List Int) (l : List Value), l = ps.flatMap (fun p => [Value.int .i64 p, .int .u32 0, .bool false, .slice none 0 0]) → encThreads (plainPart ps).thr (List.replicate ps.length (.slice none 0 0)) = l
  | [], l, h => by subst h; rfl
  | p :: ps, l, h => by
    subst h
    have := plain_enc ps _ rfl
    simp only [plainPart, List.map_cons, List.length_cons, List.replicate_succ, encThreads, List.flatMap_cons] at this ⊢
    rw [this]; rfl
theorem nil_calls (w : World) (F : Nat → Prop) : CallsAt w F (.slice none 0 0) [] := ⟨[], rfl, ⟨rfl, none, 0, rfl, fun h => absurd h (by simp)⟩, fun i c u h => by simp at h⟩
/-- A literal slice of such threads, in a block of its own. -/
theorem plainPart_at (w : World) (b : Nat) (ps : List Int) (n : Nat) (hn : ps.length = n) (cs : Array Value) (h : w.heap[b]? = some (.cells cs 46 (0, 0))) (hc : cs = (ps.flatMap (fun p => [Value.int .i64 p, .int .u32 0, .bool false, .slice none 0 0])).toArray) :
    PartAt w (fun _ => True) (.agg #[.slice (some ⟨b, 0, none⟩) n n, .slice none 0 0]) (plainPart ps) := by
  subst hn
  refine ⟨_, _, rfl, ⟨List.replicate ps.length (.slice none 0 0), by simp [plainPart], ?_, ?_⟩, ⟨rfl, none, 0, rfl, fun h => absurd h (by simp [plainPart])⟩⟩
  · refine ⟨?_, some ⟨b, 0, none⟩, ps.length, by simp [plainPart], fun _ => ⟨b, 0, rfl, trivial, fun j u hu => ?_⟩⟩
    · exact encThreads_length _ _ (by simp [plainPart])
    · rw [plain_enc ps _ rfl] at hu
      rw [Nat.zero_add, cell_of_block h, hc]
      simpa using hu
  · intro i t u ht hu
    have hu' : u = .slice none 0 0 := by
      have := List.mem_of_getElem? hu
      exact List.eq_of_mem_replicate this
    have ht' : t.prog = [] := by
      have := List.mem_of_getElem? ht
      simp only [plainPart, List.mem_map] at this
      obtain ⟨p, _, rfl⟩ := this
      rfl
    rw [hu', ht']
    exact nil_calls w _
theorem plainPart_ok (ps : List Int) (h : ps.length ≤ 100) : PartOk (plainPart ps) := by
  refine ⟨?_, by simpa [plainPart] using h, by simp [plainPart], ?_⟩
  · intro t ht
    simp only [plainPart, List.mem_map] at ht
    obtain ⟨p, _, rfl⟩ := ht
    exact ⟨by show (0 : Int) ≤ 0; omega, by show (0 : Int) < _; omega⟩
  · intro t ht
    simp only [plainPart, List.mem_map] at ht
    obtain ⟨p, _, rfl⟩ := ht
    exact ⟨by simp, fun c hc => by simp at hc⟩
theorem fewB_partOk {P : PartD} (h : fewB P = true) (hc : CapsOk P.thr) : PartOk P := by
  obtain ⟨h1, h2, h3⟩ := fewB_ok h
  exact ⟨hc, by omega, by omega, fun t ht => ⟨by have := (h3 t ht).1; omega, fun c hcc => by have := (h3 t ht).2 c hcc; unfold CallOk; omega⟩⟩

set_option maxRecDepth 100000 in
set_option maxHeartbeats 1600000 in
theorem awake13_any (w : World) : Calls Try.prog 19 #[] w fun e w' => e = .returned (.bool true) ∧ Below w.heap.size w w' := by
  have HO := Lib.hid (fun (W : World) (b : Nat) (cs : Array Value) h hc => planOf_yes (plainPart [0, 3]) _ _ (plainPart_ok _ (by simp)) (by decide) W (plainPart_at W b [0, 3] 2 rfl cs h hc))
  go_enter Try.func19, Try.ntmps19
  go_wp2_with fail
  go_at_call 13
  refine (HO.out _ w.heap.size _ (heap_alloc_new w _) (by rfl)).mono ?_
  rintro e w1 ⟨pv, rfl, hP, hb⟩
  obtain ⟨sT, sO, v1, v2, rfl, h1, h2, h3⟩ := hP
  have hP1 : PlanVal w1 _ (.agg (planArr sT sO v1 v2 (planWords (plainPart [0, 3])))) (plainPart [0, 3]) := ⟨sT, sO, v1, v2, rfl, h1, h2, h3⟩
  obtain ⟨A1, c1, e1⟩ := h1.slice
  obtain ⟨A2, c2, e2⟩ := h2.slice
  obtain ⟨u1, u2, e0, h5, h6⟩ := h3
  cases e0
  obtain ⟨A3, c3, rfl⟩ := h5.slice
  obtain ⟨A4, c4, rfl⟩ := ObjsAt.slice h6
  rw [thAts_length] at e1
  rw [obAts_length] at e2
  subst e1 e2
  have hb1 : Below w.heap.size w w1 := ((Below.refl _ _).alloc (Nat.le_refl _) _).trans (hb.mono (by simp))
  have HN := Lib.hid (fun (o : Obj) (t : Int) (W : World) (hW : Below (w1.heap.size + 1) (w1.alloc o) W) => node_any (plainPart [0, 3]) _ _ (by decide) t W (hP1.kept (fun k hk _ => (hW.block k (by omega)).trans (Below.heap_alloc _ _ _ hk))))
  have HO2 := Lib.hid (fun (o : Obj) (W : World) (hW : Below (w1.heap.size + 1) (w1.alloc o) W) => of_any (plainPart [0, 3]) _ _ (by decide) 75 (i64_small (by omega) (by omega)) W (hP1.kept (fun k hk _ => (hW.block k (by omega)).trans (Below.heap_alloc _ _ _ hk))))
  have Hb1 := Lib.hid hb1
  clear h1 h2 h5 h6 hP1 hb hb1
  have q1 : (plainPart [0, 3]).thr.length = 2 := rfl
  have q2 : (plainPart [0, 3]).obj.length = 0 := rfl
  have q3 : planWords (plainPart [0, 3]) = 99 := rfl
  have q4 : nodeOf 2 1 = 75 := by decide
  have q5 : nodeOf 2 2 = -1 := by decide
  have q6 : ofNode 2 75 = 1 := by decide
  simp only [planArr, q1, q2, q3, q6] at HN HO2 ⊢
  clear q1 q2 q3 q6
  go_wp2_with fail
  go_at_call 42
  refine (HN.out _ _ _ (Below.refl _ _)).mono ?_
  rintro e w2 ⟨rfl, hb2⟩
  rw [q4]
  obtain ⟨p1, p2⟩ := below_cells hb2 (b := w1.heap.size) (by simp) (heap_alloc_new w1 _)
  simp only [World.size_alloc] at hb2
  have Hb2 := Lib.hid hb2
  clear hb2
  go_wp2_with fail
  go_at_call 43
  refine (HO2.out _ _ Hb2.out).mono ?_
  rintro e w3 ⟨rfl, hb3⟩
  have hb3' := Hb2.out.trans (hb3.mono (by have := Hb2.out.size; simpa using this))
  obtain ⟨p1', p2'⟩ := below_cells hb3' (b := w1.heap.size) (by omega) (heap_alloc_new w1 _)
  have Hb3 := Lib.hid hb3'
  clear hb3 hb3' p1 p2 q4
  go_wp2_with fail
  go_at_call 42
  refine (HN.out _ _ _ Hb3.out).mono ?_
  rintro e w4 ⟨rfl, hb4⟩
  rw [q5]
  have hb4' := Hb3.out.trans (hb4.mono (by have := Hb3.out.size; simpa using this))
  have Hb4 := Lib.hid hb4'
  clear hb4 hb4' p1' p2' q5
  go_wp2
  go_ret
  exact ⟨rfl, Hb1.out.trans ((((Below.refl _ _).alloc (Nat.le_refl _) _).trans (Hb4.out.mono (by omega))).mono Hb1.out.size)⟩
end Go.Proofs.Ytnedofoenkmjaaa
