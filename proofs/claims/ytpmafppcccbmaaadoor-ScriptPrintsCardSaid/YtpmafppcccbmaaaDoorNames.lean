/-
  The names of the kinds: call.Name, and the reference's.
-/
import Derived.Test.YtpmafppcccbmaaaDoorData
import Derived.Test.YtpmafppcccbmaaaDoorShelf
import Derived.WalkSmall
set_option linter.unusedVariables false
set_option linter.unusedSimpArgs false
namespace Go.Proofs.YtpmafppcccbmaaaDoor
open Go.RowKit

theorem below_grow (w : World) (k : Nat) (os : Array Obj) : Below w.heap.size w (Sort.grow (w.drewN k) os) :=
  ⟨rfl, rfl, rfl, by show w.heap.size ≤ (w.heap ++ os).size; rw [Array.size_append]; omega, fun j hj => by show (w.heap ++ os)[j]? = _; rw [Array.getElem?_append_left hj]⟩

def kindNames : List (List UInt8) := [[110, 111, 112], [121, 105, 101, 108, 100], [115, 108, 101, 101, 112], [112, 114, 105, 111, 114, 105, 116, 121], [115, 117, 115, 112, 101, 110, 100], [114, 101, 115, 117, 109, 101], [108, 111, 99, 107], [117, 110, 108, 111, 99, 107], [97, 99, 113, 117, 105, 114, 101], [114, 101, 108, 101, 97, 115, 101], [115, 101, 110, 100], [114, 101, 99, 101, 105, 118, 101], [99, 111, 117, 110, 116], [115, 101, 116], [99, 108, 101, 97, 114], [97, 119, 97, 105, 116], [116, 97, 107, 101], [103, 105, 118, 101], [119, 114, 105, 116, 101], [114, 101, 97, 100], [112, 111, 115, 116], [102, 101, 116, 99, 104], [114, 101, 115, 101, 116], [99, 108, 111, 99, 107]]
def nameL (k : Int) : List UInt8 := if 0 ≤ k ∧ k < 24 then kindNames.getD k.toNat [] else []

/-- The package-level variables that the texts read. -/
structure Tabs (w : World) : Prop where
  pow : Lib.TabIs Tryd.prog w "internal/strconv.uint64pow10" .u64 Lib.pow10Tab
  names : ∀ i, i < 24 → w.cell? ⟨0, i, none⟩ = some (.string (sb (kindNames.getD i [])))

theorem var_lt {w : World} {n : String} {g : Nat} {cs : Array Value} (hg : Tryd.prog.globalNamed n = some g) (h : w.var? Tryd.prog n = some cs) : g < w.heap.size := by
  unfold World.var? at h
  rw [hg] at h
  simp only [Option.bind_some] at h
  rcases Nat.lt_or_ge g w.heap.size with h' | h'
  · exact h'
  · rw [Array.getElem?_eq_none h'] at h
    cases h

theorem Tabs.on {w w' : World} (h : Tabs w) (hb : Below w.heap.size w w') : Tabs w' := by
  have hg : Tryd.prog.globalNamed "internal/strconv.uint64pow10" = some 2 := by kernel_rfl
  exact ⟨var?_below hb hg (var_lt hg h.pow) h.pow, fun i hi => by
    have := h.names i hi
    rw [hb.cell (p := ⟨0, i, none⟩) (World.block_lt_of_cell? w _ this)]
    exact this⟩

set_option maxRecDepth 100000 in
set_option maxHeartbeats 1600000 in
theorem name_any (k : Int) (w : World) (hT : Tabs w) :
    Calls Tryd.prog 27 #[.int .i64 k] w fun e w' => e = .returned (.string (sb (nameL k))) ∧ w = w' := by
  by_cases h : 0 ≤ k ∧ k < 24
  · obtain ⟨h0, h1⟩ := h
    obtain ⟨i, rfl⟩ : ∃ i : Nat, k = i := ⟨k.toNat, by omega⟩
    have hc := hT.names i (by omega)
    have e : nameL (i : Int) = kindNames.getD i [] := by simp [nameL]; omega
    have E := Lib.hid e
    have hi : i < 24 := by omega
    clear hT e
    generalize kindNames.getD i [] = nm at *
    go_enter Tryd.func27, Tryd.ntmps27
    go_wp2
    go_ret
    exact ⟨by rw [E.out]; rfl, rfl⟩
  · have e : nameL k = [] := by simp only [nameL, if_neg h]
    have E := Lib.hid e
    clear hT e
    by_cases h0 : 0 ≤ k
    · have h1 : ¬ k < 24 := fun h1 => h ⟨h0, h1⟩
      clear h
      go_enter Tryd.func27, Tryd.ntmps27
      go_wp2
      go_ret
      exact ⟨by rw [E.out]; rfl, rfl⟩
    · clear h
      go_enter Tryd.func27, Tryd.ntmps27
      go_wp2
      go_ret
      exact ⟨by rw [E.out]; rfl, rfl⟩

theorem names_cell (i : Nat) (hi : i < 24) : (#[Value.string ⟨#[110, 111, 112]⟩, Value.string ⟨#[121, 105, 101, 108, 100]⟩, Value.string ⟨#[115, 108, 101, 101, 112]⟩, Value.string ⟨#[112, 114, 105, 111, 114, 105, 116, 121]⟩, Value.string ⟨#[115, 117, 115, 112, 101, 110, 100]⟩, Value.string ⟨#[114, 101, 115, 117, 109, 101]⟩, Value.string ⟨#[108, 111, 99, 107]⟩, Value.string ⟨#[117, 110, 108, 111, 99, 107]⟩, Value.string ⟨#[97, 99, 113, 117, 105, 114, 101]⟩, Value.string ⟨#[114, 101, 108, 101, 97, 115, 101]⟩, Value.string ⟨#[115, 101, 110, 100]⟩, Value.string ⟨#[114, 101, 99, 101, 105, 118, 101]⟩, Value.string ⟨#[99, 111, 117, 110, 116]⟩, Value.string ⟨#[115, 101, 116]⟩, Value.string ⟨#[99, 108, 101, 97, 114]⟩, Value.string ⟨#[97, 119, 97, 105, 116]⟩, Value.string ⟨#[116, 97, 107, 101]⟩, Value.string ⟨#[103, 105, 118, 101]⟩, Value.string ⟨#[119, 114, 105, 116, 101]⟩, Value.string ⟨#[114, 101, 97, 100]⟩, Value.string ⟨#[112, 111, 115, 116]⟩, Value.string ⟨#[102, 101, 116, 99, 104]⟩, Value.string ⟨#[114, 101, 115, 101, 116]⟩, Value.string ⟨#[99, 108, 111, 99, 107]⟩] : Array Value)[i]? = some (.string (sb (kindNames.getD i []))) := by
  match i, hi with
  | 0, _ => rfl
  | 1, _ => rfl
  | 2, _ => rfl
  | 3, _ => rfl
  | 4, _ => rfl
  | 5, _ => rfl
  | 6, _ => rfl
  | 7, _ => rfl
  | 8, _ => rfl
  | 9, _ => rfl
  | 10, _ => rfl
  | 11, _ => rfl
  | 12, _ => rfl
  | 13, _ => rfl
  | 14, _ => rfl
  | 15, _ => rfl
  | 16, _ => rfl
  | 17, _ => rfl
  | 18, _ => rfl
  | 19, _ => rfl
  | 20, _ => rfl
  | 21, _ => rfl
  | 22, _ => rfl
  | 23, _ => rfl
  | n + 24, hi => omega

theorem fill_seq : ∀ (vs done olds : List Value), olds.length = vs.length → (∀ v ∈ vs, v.cells = #[v]) →
    Instr.fill (fun i => some (i * 1, 1)) (done ++ olds).toArray ((vs.zipIdx done.length).map fun p => (p.2, p.1)) = some (done ++ vs).toArray
  | [], done, olds, h, _ => by
    have : olds = [] := List.length_eq_zero_iff.1 h
    subst this
    rfl
  | v :: vs, done, [], h, _ => by simp at h
  | v :: vs, done, o :: olds, h, hv => by
    have hc : v.cells = #[v] := hv v (by simp)
    have e : ((done ++ o :: olds).toArray.setIfInBounds (done.length * 1 + 0) v) = ((done ++ [v]) ++ olds).toArray := by
      rw [Nat.mul_one, Nat.add_zero, List.setIfInBounds_toArray]
      congr 1
      rw [List.set_append_right _ _ (Nat.le_refl _)]
      simp
    have ih := fill_seq vs (done ++ [v]) olds (by simpa using h) (fun u hu => hv u (by simp [hu]))
    simp only [List.zipIdx_cons, List.map_cons, Instr.fill, hc]
    rw [if_neg (by simp)]
    have e2 : ((#[v] : Array Value).zipIdx.foldl (fun cs (x : Value × Nat) => cs.setIfInBounds (done.length * 1 + x.2) x.1) (done ++ o :: olds).toArray) = ((done ++ [v]) ++ olds).toArray := e
    rw [e2, show done.length + 1 = (done ++ [v]).length by simp, ih]
    simp
theorem info_names : (Tryd.prog.info? 93).map (fun i => i.zero) = some (some (.agg (List.replicate 24 (.string ⟨#[]⟩)).toArray)) := by kernel_rfl
theorem info_string : (Tryd.prog.info? 9).map (fun i => i.size) = some 1 := by kernel_rfl
theorem built_names (vs : List Value) (hl : vs.length = 24) (hv : ∀ v ∈ vs, v.cells = #[v]) (parts : List (Nat × Value)) (hp : parts = (vs.zipIdx 0).map fun p => (p.2, p.1)) :
    Tryd.prog.built 93 parts = some vs.toArray := by
  obtain ⟨j, hj, hz⟩ := Option.map_eq_some_iff.1 info_names
  obtain ⟨i, hi, hs⟩ := Option.map_eq_some_iff.1 info_string
  unfold Program.built
  rw [hj, Tryd.underlying93]
  simp only [hz, hi, hs]
  rw [hp]
  exact fill_seq vs [] _ (by simp [hl]) hv
theorem wpList_build_names {ops : Array Oper} {rest : List Oper} {o : Oper} {a : Act} {w : World} {Q : Exit → Act → World → Prop} (hg : o.guard = none) (parts : Array (Nat × Operand)) (ho : o.op = .build 93 parts) (vs : List Value)
    (hl : vs.length = 24) (hv : ∀ v ∈ vs, v.cells = #[v]) (hp : (parts.map fun (i, x) => (i, a.eval x)).toList = (vs.zipIdx 0).map fun p => (p.2, p.1))
    (h : wpList Tryd.prog ops Q rest (a.put o.dst (.agg vs.toArray)) w) : wpList Tryd.prog ops Q (o :: rest) a w :=
  wpList_build hg 93 parts ho (by rw [built_names vs hl hv _ hp]; rfl) (by rw [built_names vs hl hv _ hp]; exact h)
theorem setRow_alloc (w : World) (old cs : Array Value) (t : TypeId) (fr : Nat × Nat) : (w.alloc (.cells old t fr)).setRow w.heap.size cs = w.alloc (.cells cs t fr) := by
  unfold World.setRow World.alloc
  simp only [World.mk.injEq, and_true, true_and]
  apply Array.ext
  · simp
  · intro i h1 h2
    simp only [Array.size_modify, Array.size_push] at h1
    rw [Array.getElem_modify]
    by_cases hi : w.heap.size = i
    · subst hi; simp
    · rw [if_neg hi, Array.getElem_push_lt (by omega), Array.getElem_push_lt (by omega)]

set_option maxRecDepth 100000 in
set_option maxHeartbeats 1600000 in
theorem refName_yes (i : Nat) (hi : i < 24) (nm : List UInt8) (hc : kindNames.getD i [] = nm) (w : World) :
    Calls Tryd.prog 29 #[.int .i64 i] w fun e w' => e = .returned (.string (sb nm)) ∧ Below w.heap.size w w' := by
  have hc' := names_cell i hi
  rw [hc] at hc'
  clear hc
  go_enter Tryd.func29, Tryd.ntmps29
  generalize (ByteArray.mk #[110, 111, 112]) = c0 at *
  generalize (ByteArray.mk #[121, 105, 101, 108, 100]) = c1 at *
  generalize (ByteArray.mk #[115, 108, 101, 101, 112]) = c2 at *
  generalize (ByteArray.mk #[112, 114, 105, 111, 114, 105, 116, 121]) = c3 at *
  generalize (ByteArray.mk #[115, 117, 115, 112, 101, 110, 100]) = c4 at *
  generalize (ByteArray.mk #[114, 101, 115, 117, 109, 101]) = c5 at *
  generalize (ByteArray.mk #[108, 111, 99, 107]) = c6 at *
  generalize (ByteArray.mk #[117, 110, 108, 111, 99, 107]) = c7 at *
  generalize (ByteArray.mk #[97, 99, 113, 117, 105, 114, 101]) = c8 at *
  generalize (ByteArray.mk #[114, 101, 108, 101, 97, 115, 101]) = c9 at *
  generalize (ByteArray.mk #[115, 101, 110, 100]) = c10 at *
  generalize (ByteArray.mk #[114, 101, 99, 101, 105, 118, 101]) = c11 at *
  generalize (ByteArray.mk #[99, 111, 117, 110, 116]) = c12 at *
  generalize (ByteArray.mk #[115, 101, 116]) = c13 at *
  generalize (ByteArray.mk #[99, 108, 101, 97, 114]) = c14 at *
  generalize (ByteArray.mk #[97, 119, 97, 105, 116]) = c15 at *
  generalize (ByteArray.mk #[116, 97, 107, 101]) = c16 at *
  generalize (ByteArray.mk #[103, 105, 118, 101]) = c17 at *
  generalize (ByteArray.mk #[119, 114, 105, 116, 101]) = c18 at *
  generalize (ByteArray.mk #[114, 101, 97, 100]) = c19 at *
  generalize (ByteArray.mk #[112, 111, 115, 116]) = c20 at *
  generalize (ByteArray.mk #[102, 101, 116, 99, 104]) = c21 at *
  generalize (ByteArray.mk #[114, 101, 115, 101, 116]) = c22 at *
  generalize (ByteArray.mk #[99, 108, 111, 99, 107]) = c23 at *
  have HC := Lib.hid hc'
  clear hc'
  go_upto_region 1 with (fail)
  apply wp_region_lit
  refine wpList_build_names rfl _ rfl [.string c0, .string c1, .string c2, .string c3, .string c4, .string c5, .string c6, .string c7, .string c8, .string c9, .string c10, .string c11, .string c12, .string c13, .string c14, .string c15, .string c16, .string c17, .string c18, .string c19, .string c20, .string c21, .string c22, .string c23] rfl (by intro v hv; simp only [List.mem_cons, List.not_mem_nil, or_false] at hv; rcases hv with rfl | rfl | rfl | rfl | rfl | rfl | rfl | rfl | rfl | rfl | rfl | rfl | rfl | rfl | rfl | rfl | rfl | rfl | rfl | rfl | rfl | rfl | rfl | rfl <;> rfl) (by simp only [List.map_toArray, List.map_cons, List.map_nil, List.zipIdx_cons, List.zipIdx_nil]; rfl) ?_
  iterate 3 go_step
  refine wpList_store_row rfl 93 _ _ rfl w.heap.size #[.string c0, .string c1, .string c2, .string c3, .string c4, .string c5, .string c6, .string c7, .string c8, .string c9, .string c10, .string c11, .string c12, .string c13, .string c14, .string c15, .string c16, .string c17, .string c18, .string c19, .string c20, .string c21, .string c22, .string c23] rfl rfl 93 _ (heap_alloc_new _ _) (by kernel_rfl) rfl (by simp [Value.oneCell']) ?_
  rw [setRow_alloc]
  go_wp2
  go_ret
  refine ⟨congrArg Ending.returned ?_, (Below.refl _ _).alloc (Nat.le_refl _) _⟩
  have h := HC.out
  rw [Array.getElem?_eq_getElem (by simpa using hi)] at h
  exact Option.some.inj h
set_option maxRecDepth 100000 in
set_option maxHeartbeats 1600000 in
theorem refName_big (k : Int) (h0 : 0 ≤ k) (h1 : 24 ≤ k) (w : World) :
    Calls Tryd.prog 29 #[.int .i64 k] w fun e w' => e = .returned (.string (sb [])) ∧ Below w.heap.size w w' := by
  go_enter Tryd.func29, Tryd.ntmps29
  generalize (ByteArray.mk #[110, 111, 112]) = c0 at *
  generalize (ByteArray.mk #[121, 105, 101, 108, 100]) = c1 at *
  generalize (ByteArray.mk #[115, 108, 101, 101, 112]) = c2 at *
  generalize (ByteArray.mk #[112, 114, 105, 111, 114, 105, 116, 121]) = c3 at *
  generalize (ByteArray.mk #[115, 117, 115, 112, 101, 110, 100]) = c4 at *
  generalize (ByteArray.mk #[114, 101, 115, 117, 109, 101]) = c5 at *
  generalize (ByteArray.mk #[108, 111, 99, 107]) = c6 at *
  generalize (ByteArray.mk #[117, 110, 108, 111, 99, 107]) = c7 at *
  generalize (ByteArray.mk #[97, 99, 113, 117, 105, 114, 101]) = c8 at *
  generalize (ByteArray.mk #[114, 101, 108, 101, 97, 115, 101]) = c9 at *
  generalize (ByteArray.mk #[115, 101, 110, 100]) = c10 at *
  generalize (ByteArray.mk #[114, 101, 99, 101, 105, 118, 101]) = c11 at *
  generalize (ByteArray.mk #[99, 111, 117, 110, 116]) = c12 at *
  generalize (ByteArray.mk #[115, 101, 116]) = c13 at *
  generalize (ByteArray.mk #[99, 108, 101, 97, 114]) = c14 at *
  generalize (ByteArray.mk #[97, 119, 97, 105, 116]) = c15 at *
  generalize (ByteArray.mk #[116, 97, 107, 101]) = c16 at *
  generalize (ByteArray.mk #[103, 105, 118, 101]) = c17 at *
  generalize (ByteArray.mk #[119, 114, 105, 116, 101]) = c18 at *
  generalize (ByteArray.mk #[114, 101, 97, 100]) = c19 at *
  generalize (ByteArray.mk #[112, 111, 115, 116]) = c20 at *
  generalize (ByteArray.mk #[102, 101, 116, 99, 104]) = c21 at *
  generalize (ByteArray.mk #[114, 101, 115, 101, 116]) = c22 at *
  generalize (ByteArray.mk #[99, 108, 111, 99, 107]) = c23 at *
  go_upto_region 1 with (fail)
  apply wp_region_lit
  refine wpList_build_names rfl _ rfl [.string c0, .string c1, .string c2, .string c3, .string c4, .string c5, .string c6, .string c7, .string c8, .string c9, .string c10, .string c11, .string c12, .string c13, .string c14, .string c15, .string c16, .string c17, .string c18, .string c19, .string c20, .string c21, .string c22, .string c23] rfl (by intro v hv; simp only [List.mem_cons, List.not_mem_nil, or_false] at hv; rcases hv with rfl | rfl | rfl | rfl | rfl | rfl | rfl | rfl | rfl | rfl | rfl | rfl | rfl | rfl | rfl | rfl | rfl | rfl | rfl | rfl | rfl | rfl | rfl | rfl <;> rfl) (by simp only [List.map_toArray, List.map_cons, List.map_nil, List.zipIdx_cons, List.zipIdx_nil]; rfl) ?_
  iterate 3 go_step
  refine wpList_store_row rfl 93 _ _ rfl w.heap.size #[.string c0, .string c1, .string c2, .string c3, .string c4, .string c5, .string c6, .string c7, .string c8, .string c9, .string c10, .string c11, .string c12, .string c13, .string c14, .string c15, .string c16, .string c17, .string c18, .string c19, .string c20, .string c21, .string c22, .string c23] rfl rfl 93 _ (heap_alloc_new _ _) (by kernel_rfl) rfl (by simp [Value.oneCell']) ?_
  rw [setRow_alloc]
  go_wp2
  go_ret
  exact ⟨rfl, (Below.refl _ _).alloc (Nat.le_refl _) _⟩
set_option maxRecDepth 100000 in
set_option maxHeartbeats 1600000 in
theorem refName_neg (k : Int) (h0 : k < 0) (w : World) :
    Calls Tryd.prog 29 #[.int .i64 k] w fun e w' => e = .returned (.string (sb [])) ∧ Below w.heap.size w w' := by
  go_enter Tryd.func29, Tryd.ntmps29
  generalize (ByteArray.mk #[110, 111, 112]) = c0 at *
  generalize (ByteArray.mk #[121, 105, 101, 108, 100]) = c1 at *
  generalize (ByteArray.mk #[115, 108, 101, 101, 112]) = c2 at *
  generalize (ByteArray.mk #[112, 114, 105, 111, 114, 105, 116, 121]) = c3 at *
  generalize (ByteArray.mk #[115, 117, 115, 112, 101, 110, 100]) = c4 at *
  generalize (ByteArray.mk #[114, 101, 115, 117, 109, 101]) = c5 at *
  generalize (ByteArray.mk #[108, 111, 99, 107]) = c6 at *
  generalize (ByteArray.mk #[117, 110, 108, 111, 99, 107]) = c7 at *
  generalize (ByteArray.mk #[97, 99, 113, 117, 105, 114, 101]) = c8 at *
  generalize (ByteArray.mk #[114, 101, 108, 101, 97, 115, 101]) = c9 at *
  generalize (ByteArray.mk #[115, 101, 110, 100]) = c10 at *
  generalize (ByteArray.mk #[114, 101, 99, 101, 105, 118, 101]) = c11 at *
  generalize (ByteArray.mk #[99, 111, 117, 110, 116]) = c12 at *
  generalize (ByteArray.mk #[115, 101, 116]) = c13 at *
  generalize (ByteArray.mk #[99, 108, 101, 97, 114]) = c14 at *
  generalize (ByteArray.mk #[97, 119, 97, 105, 116]) = c15 at *
  generalize (ByteArray.mk #[116, 97, 107, 101]) = c16 at *
  generalize (ByteArray.mk #[103, 105, 118, 101]) = c17 at *
  generalize (ByteArray.mk #[119, 114, 105, 116, 101]) = c18 at *
  generalize (ByteArray.mk #[114, 101, 97, 100]) = c19 at *
  generalize (ByteArray.mk #[112, 111, 115, 116]) = c20 at *
  generalize (ByteArray.mk #[102, 101, 116, 99, 104]) = c21 at *
  generalize (ByteArray.mk #[114, 101, 115, 101, 116]) = c22 at *
  generalize (ByteArray.mk #[99, 108, 111, 99, 107]) = c23 at *
  go_upto_region 1 with (fail)
  apply wp_region_lit
  refine wpList_build_names rfl _ rfl [.string c0, .string c1, .string c2, .string c3, .string c4, .string c5, .string c6, .string c7, .string c8, .string c9, .string c10, .string c11, .string c12, .string c13, .string c14, .string c15, .string c16, .string c17, .string c18, .string c19, .string c20, .string c21, .string c22, .string c23] rfl (by intro v hv; simp only [List.mem_cons, List.not_mem_nil, or_false] at hv; rcases hv with rfl | rfl | rfl | rfl | rfl | rfl | rfl | rfl | rfl | rfl | rfl | rfl | rfl | rfl | rfl | rfl | rfl | rfl | rfl | rfl | rfl | rfl | rfl | rfl <;> rfl) (by simp only [List.map_toArray, List.map_cons, List.map_nil, List.zipIdx_cons, List.zipIdx_nil]; rfl) ?_
  iterate 3 go_step
  refine wpList_store_row rfl 93 _ _ rfl w.heap.size #[.string c0, .string c1, .string c2, .string c3, .string c4, .string c5, .string c6, .string c7, .string c8, .string c9, .string c10, .string c11, .string c12, .string c13, .string c14, .string c15, .string c16, .string c17, .string c18, .string c19, .string c20, .string c21, .string c22, .string c23] rfl rfl 93 _ (heap_alloc_new _ _) (by kernel_rfl) rfl (by simp [Value.oneCell']) ?_
  rw [setRow_alloc]
  go_wp2
  go_ret
  exact ⟨rfl, (Below.refl _ _).alloc (Nat.le_refl _) _⟩
theorem refName_any (k : Int) (w : World) :
    Calls Tryd.prog 29 #[.int .i64 k] w fun e w' => e = .returned (.string (sb (nameL k))) ∧ Below w.heap.size w w' := by
  by_cases h : 0 ≤ k ∧ k < 24
  · obtain ⟨h0, h1⟩ := h
    obtain ⟨i, rfl⟩ : ∃ i : Nat, k = i := ⟨k.toNat, by omega⟩
    have e : nameL (i : Int) = kindNames.getD i [] := by simp [nameL]; omega
    rw [e]
    exact refName_yes i (by omega) _ rfl w
  · have e : nameL k = [] := by simp only [nameL, if_neg h]
    rw [e]
    by_cases h0 : 0 ≤ k
    · exact refName_big k h0 (by omega) w
    · exact refName_neg k (by omega) w
end Go.Proofs.YtpmafppcccbmaaaDoor
