/-
  septumref01's Queue.Add (at the end).
  septumref01.Free: the blocks of a pool.
-/
import Derived.Test.YtefbdcmodfbpbaaGreatRefQ
import Derived.Deep.RegionLaw
set_option linter.unusedVariables false
set_option linter.unusedSimpArgs false
namespace Go.Proofs.YtefbdcmodfbpbaaGreat
open Go.RowKit

theorem ownsRow_empty {w : World} {B b : Nat} {e : TypeId} {size : Nat} (h : w.heap[b]? = some (.cells #[] e (0, 0))) (hB : B ≤ b) : w.ownsRow B e size (.slice (some ⟨b, 0, none⟩) 0 0) 0 [] :=
  ⟨by simp, .inr ⟨b, 0, #[], rfl, hB, h, Nat.le_refl _, by unfold maxLen; omega, by simp, by simp⟩⟩
theorem belA {B : Nat} {w W : World} {o : Obj} (h : Below B w W) (hB : B ≤ w.heap.size) : Below B w (W.alloc o) := h.alloc (Nat.le_trans hB h.size) o
theorem belD {B : Nat} {w W : World} (h : Below B w W) : Below B w W.drew := h.drew
theorem grow_in {G : Prop} {w W w4 : World} {B : Nat} {e : TypeId} {s n : Nat} {v : Value} {xs : List Value} (hg : W.grownBy w4 v.ownBlock) (ho : W.ownsRow B e s v n xs) (hb : Below B w W) (hB : B ≤ w.heap.size) (k : Below B w w4 → G) : G :=
  k (hb.trans ⟨hg.os, hg.tape, hg.output, hg.size, fun j hj => hg.block j (Nat.lt_of_lt_of_le hj (Nat.le_trans hB hb.size)) (fun e' => by have := (ho.lt j e'.symm).1; omega)⟩)
theorem belN {B : Nat} {w W W' : World} (h' : Below W.heap.size W W') (h : Below B w W) (hB : B ≤ w.heap.size) : Below B w W' := h.trans (h'.mono (Nat.le_trans hB h.size))
theorem one_in {G : Prop} {W w3 : World} {b b0 : Nat} {x : Value} {e : TypeId} (hg : W.grownBy w3 (Value.slice (some ⟨b0, 0, none⟩) 0 0).ownBlock) (h : W.heap[b]? = some (.cells #[x] e (0, 0))) (hne : b ≠ b0) (k : w3.heap[b]? = some (.cells #[x] e (0, 0)) → b < w3.heap.size → G) : G := by
  have hlt := (Array.getElem?_eq_some_iff.1 h).1
  exact k ((hg.block b hlt (fun e' => hne (Option.some.inj e'))).trans h) (Nat.lt_of_lt_of_le hlt hg.size)
theorem reads_on {w w' : World} {F : Nat → Prop} {v : Value} {n s : Nat} {xs : List Value} (h : Reads w F v n s xs) (hb : Below w.heap.size w w') : Reads w' F v n s xs := h.kept (fun k hk _ => hb.block k hk)
theorem reads_one {w : World} {b : Nat} {x : Value} {e : TypeId} (h : w.heap[b]? = some (.cells #[x] e (0, 0))) : Reads w (fun _ => True) (.slice (some ⟨b, 0, none⟩) 1 1) 1 1 [x] :=
  ⟨rfl, _, _, rfl, fun _ => ⟨b, 0, rfl, trivial, fun j u hu => by rw [Nat.zero_add, cell_of_block h]; simpa using hu⟩⟩

set_option maxRecDepth 100000 in
set_option maxHeartbeats 4000000 in
theorem qaddR_any (n p : Int) (hp0 : 0 ≤ p) (hp1 : p ≤ 15) (xs : List Int) (hl : xs.length ≤ 1000) (F : Nat → Prop) (mb o : Nat) (A : Option Addr) (c : Nat) (cs : Array Value) (t : TypeId) (w : World)
    (hmb : w.heap[mb]? = some (.cells cs t (0, 0))) (hcs : cs[o + p.toNat]? = some (.slice A xs.length c)) (h : IntsAt w F (.slice A xs.length c) xs) :
    Calls Tryz.prog 137 #[.pointer (some ⟨mb, o, none⟩), .int .i64 n, .int .i64 p, .bool false] w fun e w' => e = .returned (.tuple #[]) ∧
      ∃ v, IntsAt w' (fun k => w.heap.size ≤ k) v (xs ++ [n]) ∧ w'.heap[mb]? = some (.cells (cs.setIfInBounds (o + p.toNat) v) t (0, 0)) ∧ ChgO (some mb) w w' := by
  obtain ⟨i0, hi0, hz0, hz1, hz2⟩ := info_parts Tryz.infoInt
  have hmlt : mb < w.heap.size := (Array.getElem?_eq_some_iff.1 hmb).1
  have c0 : w.cell? ⟨mb, o + p.toNat, none⟩ = some (.slice A xs.length c) := (cell_of_block hmb _).trans hcs
  have f0 : w.frozen? ⟨mb, o + p.toNat, none⟩ = false := free_of_block hmb _
  have HI := Lib.hid h
  have HMB := Lib.hid hmb
  have k0 : ¬ p < 0 := by omega
  have k1 : ¬ (15 : Int) < p := by omega
  have k2 : p < 16 := by omega
  clear h hmb hcs
  go_enter Tryz.func137, Tryz.ntmps137
  go_wp2_with fail
  go_region_law (first
    | (refine step_append_reads _ (by rfl) (.tmp 29) (.tmp 34) 38 (by rfl) w.heap.size 3 i0 _ 1 8 Tryz.underlying38 hi0 hz0 hz1 hz2 rfl (by omega) (.slice (some ⟨_, 0, none⟩) 0 0) 0 [] (by rfl) (ownsRow_empty ?_ ?_) A xs.length c F (encInts xs) (by rfl) (reads_on HI.out ?_) (encInts_one _) (by unfold maxLen; omega) (by omega) ?_ ?_
       (focus ((repeat (with_reducible first | assumption | refine at_drew ?_ | (refine at_new ?_; ((try simp) <;> omega); done) | (refine at_old ?_ ?_; focus ((try simp) <;> omega)))); done))
       (focus ((try simp) <;> omega))
       (focus ((repeat (first | exact Below.refl _ _ | refine belD ?_ | refine belA ?_ (Nat.le_refl _))); done))
       (focus ((try simp) <;> omega))
       intro A3 c3 w3 hown3 hgr3
       rw [Nat.zero_add] at hown3
       have hs3 := hgr3.size
       (try simp at hs3)
       refine grow_in (w := w) (B := w.heap.size) hgr3 (ownsRow_empty (e := 3) (size := 1) ?_ ?_) ?_ (Nat.le_refl _) ?_
       (focus ((repeat (with_reducible first | assumption | refine at_drew ?_ | (refine at_new ?_; ((try simp) <;> omega); done) | (refine at_old ?_ ?_; focus ((try simp) <;> omega)))); done))
       (focus ((try simp) <;> omega))
       (focus ((repeat (first | exact Below.refl _ _ | refine belD ?_ | refine belA ?_ (Nat.le_refl _))); done))
       intro hb3
       try ((refine one_in (b := w.heap.size) (x := .int .i64 n) (e := 3) hgr3 ?_ ?_ ?_); (focus ((repeat (with_reducible first | assumption | refine at_drew ?_ | (refine at_new ?_; ((try simp) <;> omega); done) | (refine at_old ?_ ?_; focus ((try simp) <;> omega)))); done)); (focus ((try simp) <;> omega)); intro hqa hqal)
       try ((refine one_in (b := w.heap.size + 1) (x := .int .i64 n) (e := 3) hgr3 ?_ ?_ ?_); (focus ((repeat (with_reducible first | assumption | refine at_drew ?_ | (refine at_new ?_; ((try simp) <;> omega); done) | (refine at_old ?_ ?_; focus ((try simp) <;> omega)))); done)); (focus ((try simp) <;> omega)); intro hqb hqbl))
    | (refine step_append_reads _ (by rfl) (.tmp 35) (.tmp 37) 38 (by rfl) w.heap.size 3 i0 _ 1 8 Tryz.underlying38 hi0 hz0 hz1 hz2 rfl (by omega) _ xs.length ([] ++ encInts xs) (by rfl) ?_ (some ⟨_, 0, none⟩) 1 1 _ [.int .i64 n] (by rfl) (reads_one (e := 3) ?_) (by simp [Value.oneCell']) (by unfold maxLen; omega) (by omega) ?_ ?_
       (focus ((refine ownsRow_below hown3 ?_); (repeat (first | exact Below.refl _ _ | refine belD ?_ | refine belA ?_ (Nat.le_refl _))); done))
       (focus ((repeat (with_reducible first | assumption | refine at_drew ?_ | (refine at_new ?_; ((try simp) <;> omega); done) | (refine at_old ?_ ?_; focus ((try simp) <;> omega)))); done))
       (focus ((try simp) <;> omega))
       intro A4 c4 w4 hown4 hgr4
       have hs4 := hgr4.size
       (try simp at hs4)
       refine grow_in (w := w) (B := w.heap.size) hgr4 (ownsRow_below hown3 ?_) ?_ (Nat.le_refl _) ?_
       (focus ((repeat (first | exact Below.refl _ _ | refine belD ?_ | refine belA ?_ (Nat.le_refl _))); done))
       (focus ((repeat (first | exact hb3 | refine belD ?_ | refine belA ?_ (Nat.le_refl _))); done))
       intro hb4
       have c4' := (hb4.cell (p := ⟨mb, o + p.toNat, none⟩) hmlt).trans c0
       have f4' := (hb4.frozen (p := ⟨mb, o + p.toNat, none⟩) hmlt).trans f0))
  all_goals
    have hi := ownsRow_reads hown4
    have hx : [] ++ encInts xs ++ [.int .i64 n] = encInts (xs ++ [n]) := by simp [encInts]
    rw [hx] at hi
    have hi2 : IntsAt w4 (fun k => w.heap.size ≤ k) (.slice A4 (xs.length + 1) c4) (xs ++ [n]) := by
      have e : (xs ++ [n]).length = xs.length + 1 := by simp
      unfold IntsAt
      rw [e]
      exact hi
    refine bodyPost_end (v := .tuple #[]) (by simp [results, Tryz.results137, go_sem]) rfl ⟨rfl, _, Reads.kept hi2 (fun k hk hF => block_setCell_other _ _ _ (by omega)), set_blockK ((hb4.block mb hmlt).trans HMB.out) _ _, ChgO.set ⟨hb4.os, hb4.tape, hb4.output, hb4.size, fun k hk _ => hb4.block k hk⟩ rfl _⟩
end Go.Proofs.YtefbdcmodfbpbaaGreat
namespace Go.Proofs.YtefbdcmodfbpbaaGreat
open Go.RowKit

theorem ownsRow_same {w w' : World} {B e size n : Nat} {v : Value} {xs : List Value} (h : w.ownsRow B e size v n xs) (hk : ∀ k, v.ownBlock = some k → w'.heap[k]? = w.heap[k]?) : w'.ownsRow B e size v n xs := by
  obtain ⟨hl, h⟩ := h
  refine ⟨hl, ?_⟩
  rcases h with h | ⟨g, cap, cur, rfl, h2, h3, h4⟩
  · exact .inl h
  · exact .inr ⟨g, cap, cur, rfl, h2, (hk g rfl).trans h3, h4⟩
def natsI (k : Nat) : List Int := (List.range k).map Int.ofNat
theorem natsI_succ (k : Nat) : natsI (k + 1) = natsI k ++ [(k : Int)] := by simp [natsI, List.range_succ]
theorem natsI_len (k : Nat) : (natsI k).length = k := by simp [natsI]

set_option maxRecDepth 100000 in
set_option maxHeartbeats 3200000 in
theorem free_any (n : Nat) (hn : n ≤ 100000) (w : World) :
    Calls Tryz.prog 136 #[.int .i64 n] w fun e w' => e = .returned (.pointer (some ⟨w.heap.size, 0, none⟩)) ∧
      ∃ v, w'.heap[w.heap.size]? = some (.cells #[.int .i64 n, v] 260 (0, 0)) ∧ w'.ownsRow (w.heap.size + 1) 3 1 v n (encInts (natsI n)) ∧ Below w.heap.size w w' := by
  obtain ⟨i0, hi0, hz0, hz1, hz2⟩ := info_parts Tryz.infoInt
  go_enter Tryz.func136, Tryz.ntmps136
  go_wp2
  go_loopw [9] (fun i wr => ∃ k : Nat, k ≤ n ∧ i = .int .i64 k ∧ ∃ v, Hid (wr.heap[w.heap.size]? = some (.cells #[.int .i64 n, v] 260 (0, 0))) ∧ Hid (wr.ownsRow (w.heap.size + 1) 3 1 v k (encInts (natsI k))) ∧ Hid (Below w.heap.size w wr)) (fun i _ => n - (intOf i).toNat)
  case atStart => exact ⟨0, Nat.zero_le _, rfl, _, Lib.hid (heap_alloc_new w _), Lib.hid (World.ownsRow_nil _ _ _ _), Lib.hid ((Below.refl _ _).alloc (Nat.le_refl _) _)⟩
  case round =>
    obtain ⟨k, hk, rfl, v, hh, hown, hb⟩ := hrel
    by_cases hlt : k < n
    · have hlc : (k : Int) < (n : Int) := by omega
      obtain ⟨Av, cv, ev⟩ : ∃ A c, v = .slice A k c := by
        obtain ⟨_, A, c, e, _⟩ := ownsRow_reads hown.out
        exact ⟨A, c, e⟩
      subst ev
      have hbs : w.heap.size < wr.heap.size := (Array.getElem?_eq_some_iff.1 hh.out).1
      have c1 := cell_of_block hh.out 1
      have f1 := free_of_block hh.out 1
      simp only [List.getElem?_toArray, List.getElem?_cons_succ, List.getElem?_cons_zero] at c1
      have nT : some w.heap.size ≠ (Value.slice Av k cv).ownBlock := fun e => by have := (hown.out.lt _ e.symm).1; omega
      go_wp2_with (at_builtin; refine wpList_append_lies _ rfl (.tmp 16) (.tmp 18) 38 rfl (w.heap.size + 1) 3 i0 _ 1 8 Tryz.underlying38 hi0 hz0 hz1 hz2 rfl (by omega) (.slice Av k cv) k (encInts (natsI k)) rfl (hown.out.alloc _) ⟨wr.heap.size, 0, none⟩ 1 1 [.int .i64 k] rfl rfl (World.news_of_block (cs := #[.int .i64 k]) (t := 3) (fr := (0, 0)) (heap_alloc_new _ _)) (by simp [Value.oneCell']) (by omega) (by unfold maxLen; omega) (by omega) (by simp; omega) (wr.heap.size + 1) (by simp) ?_; intro gg cap w5 hown5 hgrow hat hlt5; refine Hid.out ?_)
      have z1 : w5.cell? ⟨w.heap.size, 1, none⟩ = some (.slice Av k cv) := by rw [hgrow.cell_far _ (by simp; omega) nT]; go_simp
      have z2 : w5.frozen? ⟨w.heap.size, 1, none⟩ = false := by rw [hgrow.frozen_far _ (by simp; omega) nT]; go_simp
      have hblk : w5.heap[w.heap.size]? = some (.cells #[.int .i64 n, .slice Av k cv] 260 (0, 0)) := (hgrow.block _ (by simp; omega) nT).trans ((Below.heap_alloc wr _ _ hbs).trans hh.out)
      have hbl : Below w.heap.size w w5 := hb.out.trans ⟨hgrow.os, hgrow.tape, hgrow.output, by have := hgrow.size; simp at this; omega, fun j hj => (hgrow.block j (by simp; omega) (fun e => by have := (hown.out.lt j e.symm).1; omega)).trans (Below.heap_alloc wr _ j (by omega))⟩
      have e1 : encInts (natsI k) ++ [.int .i64 k] = encInts (natsI (k + 1)) := by rw [natsI_succ]; simp [encInts]
      rw [e1] at hown5
      have hgl : w.heap.size ≠ gg := fun e => by have := (hown5.lt gg rfl).1; omega
      have HB := Lib.hid (set_blockK hblk 1 (.slice (some ⟨gg, 0, none⟩) (k + 1) cap))
      have HO := Lib.hid (ownsRow_same hown5 (w' := w5.setCell ⟨w.heap.size, 1, none⟩ (.slice (some ⟨gg, 0, none⟩) (k + 1) cap)) (fun j hj => block_setCell_other _ _ _ (by cases hj; exact fun e => hgl e.symm)))
      have HL := Lib.hid (hbl.setCell (p := ⟨w.heap.size, 1, none⟩) (Nat.le_refl w.heap.size) (.slice (some ⟨gg, 0, none⟩) (k + 1) cap))
      clear hown5 hgrow hat hlt5 hblk hbl e1 hown hb hh c1 f1
      refine Lib.hid ?_
      go_wp2
      go_roundw
      case rel => exact ⟨k + 1, by omega, by go_num, _, HB, HO, HL⟩
      case measure => simp [intOf]; omega
    · obtain rfl : k = n := by omega
      go_wp2
      go_ret
      exact ⟨rfl, v, hh.out, hown.out, hb.out⟩
end Go.Proofs.YtefbdcmodfbpbaaGreat
