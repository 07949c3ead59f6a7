/-
  septumref01.Free: the blocks of a pool.
-/
import Derived.Test.YtpflejobkjdhdaaQAdd
set_option linter.unusedVariables false
set_option linter.unusedSimpArgs false
namespace Go.Proofs.Ytpflejobkjdhdaa
open Go.RowKit

theorem ownsRow_same {w w' : World} {B e size n : Nat} {v : Value} {xs : List Value} (h : w.ownsRow B e size v n xs) (hk : ∀ k, v.ownBlock = some k → w'.heap[k]? = w.heap[k]?) : w'.ownsRow B e size v n xs := by
  obtain ⟨hl, h⟩ := h
  refine ⟨hl, ?_⟩
  rcases h with h | ⟨g, cap, cur, rfl, h2, h3, h4⟩
  · exact .inl h
  · exact .inr ⟨g, cap, cur, rfl, h2, (hk g rfl).trans h3, h4⟩
def natsI (k : Nat) : List Int := (List.range k).map Int.ofNat
theorem natsI_succ (k : Nat) : natsI (k + 1) = natsI k ++ [(k : Int)] := by simp [natsI, List.range_succ]
theorem natsI_len (k : Nat) : (natsI k).length = k := by simp [natsI]

set_option maxRecDepth 100000 in
set_option maxHeartbeats 3200000 in
theorem free_any (n : Nat) (hn : n ≤ 100000) (w : World) :
    Calls Try.prog 42 #[.int .i64 n] w fun e w' => e = .returned (.pointer (some ⟨w.heap.size, 0, none⟩)) ∧
      ∃ v, w'.heap[w.heap.size]? = some (.cells #[.int .i64 n, v] 172 (0, 0)) ∧ w'.ownsRow (w.heap.size + 1) 3 1 v n (encInts (natsI n)) ∧ Below w.heap.size w w' := by
  obtain ⟨i0, hi0, hz0, hz1, hz2⟩ := info_parts Try.infoInt
  go_enter Try.func42, Try.ntmps42
  go_wp2
  go_loopw [9] (fun i wr => ∃ k : Nat, k ≤ n ∧ i = .int .i64 k ∧ ∃ v, Hid (wr.heap[w.heap.size]? = some (.cells #[.int .i64 n, v] 172 (0, 0))) ∧ Hid (wr.ownsRow (w.heap.size + 1) 3 1 v k (encInts (natsI k))) ∧ Hid (Below w.heap.size w wr)) (fun i _ => n - (intOf i).toNat)
  case atStart => exact ⟨0, Nat.zero_le _, rfl, _, Lib.hid (heap_alloc_new w _), Lib.hid (World.ownsRow_nil _ _ _ _), Lib.hid ((Below.refl _ _).alloc (Nat.le_refl _) _)⟩
  case round =>
    obtain ⟨k, hk, rfl, v, hh, hown, hb⟩ := hrel
    by_cases hlt : k < n
    · have hlc : (k : Int) < (n : Int) := by omega
      obtain ⟨Av, cv, ev⟩ : ∃ A c, v = .slice A k c := by
        obtain ⟨_, A, c, e, _⟩ := ownsRow_reads hown.out
        exact ⟨A, c, e⟩
      subst ev
      have hbs : w.heap.size < wr.heap.size := (Array.getElem?_eq_some_iff.1 hh.out).1
      have c1 := cell_of_block hh.out 1
      have f1 := free_of_block hh.out 1
      simp only [List.getElem?_toArray, List.getElem?_cons_succ, List.getElem?_cons_zero] at c1
      have nT : some w.heap.size ≠ (Value.slice Av k cv).ownBlock := fun e => by have := (hown.out.lt _ e.symm).1; omega
      go_wp2_with (at_builtin; refine wpList_append_lies _ rfl (.tmp 16) (.tmp 18) 29 rfl (w.heap.size + 1) 3 i0 _ 1 8 Try.underlying29 hi0 hz0 hz1 hz2 rfl (by omega) (.slice Av k cv) k (encInts (natsI k)) rfl (hown.out.alloc _) ⟨wr.heap.size, 0, none⟩ 1 1 [.int .i64 k] rfl rfl (World.news_of_block (cs := #[.int .i64 k]) (t := 3) (fr := (0, 0)) (heap_alloc_new _ _)) (by simp [Value.oneCell']) (by omega) (by unfold maxLen; omega) (by omega) (by simp; omega) (wr.heap.size + 1) (by simp) ?_; intro gg cap w5 hown5 hgrow hat hlt5; refine Hid.out ?_)
      have z1 : w5.cell? ⟨w.heap.size, 1, none⟩ = some (.slice Av k cv) := by rw [hgrow.cell_far _ (by simp; omega) nT]; go_simp
      have z2 : w5.frozen? ⟨w.heap.size, 1, none⟩ = false := by rw [hgrow.frozen_far _ (by simp; omega) nT]; go_simp
      have hblk : w5.heap[w.heap.size]? = some (.cells #[.int .i64 n, .slice Av k cv] 172 (0, 0)) := (hgrow.block _ (by simp; omega) nT).trans ((Below.heap_alloc wr _ _ hbs).trans hh.out)
      have hbl : Below w.heap.size w w5 := hb.out.trans ⟨hgrow.os, hgrow.tape, hgrow.output, by have := hgrow.size; simp at this; omega, fun j hj => (hgrow.block j (by simp; omega) (fun e => by have := (hown.out.lt j e.symm).1; omega)).trans (Below.heap_alloc wr _ j (by omega))⟩
      have e1 : encInts (natsI k) ++ [.int .i64 k] = encInts (natsI (k + 1)) := by rw [natsI_succ]; simp [encInts]
      rw [e1] at hown5
      have hgl : w.heap.size ≠ gg := fun e => by have := (hown5.lt gg rfl).1; omega
      have HB := Lib.hid (set_blockK hblk 1 (.slice (some ⟨gg, 0, none⟩) (k + 1) cap))
      have HO := Lib.hid (ownsRow_same hown5 (w' := w5.setCell ⟨w.heap.size, 1, none⟩ (.slice (some ⟨gg, 0, none⟩) (k + 1) cap)) (fun j hj => block_setCell_other _ _ _ (by cases hj; exact fun e => hgl e.symm)))
      have HL := Lib.hid (hbl.setCell (p := ⟨w.heap.size, 1, none⟩) (Nat.le_refl w.heap.size) (.slice (some ⟨gg, 0, none⟩) (k + 1) cap))
      clear hown5 hgrow hat hlt5 hblk hbl e1 hown hb hh c1 f1
      refine Lib.hid ?_
      go_wp2
      go_roundw
      case rel => exact ⟨k + 1, by omega, by go_num, _, HB, HO, HL⟩
      case measure => simp [intOf]; omega
    · obtain rfl : k = n := by omega
      go_wp2
      go_ret
      exact ⟨rfl, v, hh.out, hown.out, hb.out⟩
end Go.Proofs.Ytpflejobkjdhdaa
