/-
  septumref13's Model.Best.
-/
import Derived.Test.YtpidlgmigmbbbaaRefQ
set_option linter.unusedVariables false
set_option linter.unusedSimpArgs false
namespace Go.Proofs.Ytpidlgmigmbbbaa
open Go.RowKit

def bestStep (n : Nat) (but out : List Int) (x : Int) : List Int := if out.length < n ∧ but.contains x = false then out ++ [x] else out
def bestR (n : Nat) (but all : List Int) : List Int := all.foldl (bestStep n but) []
theorem bestStep_len (n : Nat) (but out : List Int) (x : Int) : (bestStep n but out x).length ≤ out.length + 1 := by
  unfold bestStep; split <;> simp
theorem bestFold_len (n : Nat) (but : List Int) : ∀ (all out : List Int), (all.foldl (bestStep n but) out).length ≤ out.length + all.length
  | [], out => by simp
  | x :: all, out => by
    have h1 := bestFold_len n but all (bestStep n but out x)
    have h2 := bestStep_len n but out x
    simp only [List.foldl_cons, List.length_cons]; omega
theorem best_next (n : Nat) (but all : List Int) (k : Nat) (hk : k < all.length) : (all.take (k + 1)).foldl (bestStep n but) [] = bestStep n but ((all.take k).foldl (bestStep n but) []) all[k] := by
  rw [List.take_succ_eq_append_getElem hk, List.foldl_append]; rfl
theorem ownsRow_lower {w : World} {B B' : Nat} {e : TypeId} {size n : Nat} {v : Value} {xs : List Value} (h : w.ownsRow B e size v n xs) (hB : B' ≤ B) : w.ownsRow B' e size v n xs := by
  obtain ⟨hl, h⟩ := h
  refine ⟨hl, ?_⟩
  rcases h with h | ⟨g, cap, cur, h1, h2, h3⟩
  · exact .inl h
  · exact .inr ⟨g, cap, cur, h1, Nat.le_trans hB h2, h3⟩
theorem ownsRow_ints {w : World} {B : Nat} {v : Value} {xs : List Int} {e : TypeId} (h : w.ownsRow B e 1 v xs.length (encInts xs)) : IntsAt w (fun k => B ≤ k) v xs := ownsRow_reads h

set_option maxRecDepth 100000 in
set_option maxHeartbeats 3200000 in
theorem best_any (n : Nat) (hn : n ≤ 1000) (but : List Int) (hbl : but.length ≤ 1000) (bv : Value) (ls : Nat → List Int) (hm : ∀ p, p < 16 → (ls p).length ≤ 1000) (F : Nat → Prop) (mb : Nat) (w : World) (h : QRef w F mb 4 ls) (hF : ∀ k, F k → k < w.heap.size) (hb : IntsAt w F bv but) :
    Calls Try.prog 26 #[.pointer (some ⟨mb, 0, none⟩), .int .i64 n, bv] w fun e w' => ∃ v, e = .returned v ∧ w'.ownsRow w.heap.size 3 1 v (bestR n but (orderR ls)).length (encInts (bestR n but (orderR ls))) ∧ Below w.heap.size w w' := by
  obtain ⟨i0, hi0, hz0, hz1, hz2⟩ := info_parts Try.infoInt
  have HO := Lib.hid (fun W (hb : Below w.heap.size w W) => order_anyR ls hm F mb 4 (by omega) W (h.kept (hb.block mb (by obtain ⟨v, hv, _⟩ := h 0 (by omega); exact World.block_lt_of_cell? w _ hv)) (fun k hk _ => hb.block k hk)) (fun k hk => Nat.lt_of_lt_of_le (hF k hk) hb.size))
  have hol : (orderR ls).length ≤ 16000 := by have := orderFrom_len ls 1000 hm 16 (by omega); unfold orderR; omega
  have HB := Lib.hid hb
  obtain ⟨AB, cB, rfl⟩ := hb.slice
  clear h hm hF hb
  go_enter Try.func26, Try.ntmps26
  go_wp2_with fail
  go_at_call 59
  refine (HO.out _ (Below.refl _ _)).mono ?_
  rintro e w1 ⟨v, rfl, hown, hb1⟩
  have hi1 := ownsRow_ints hown
  obtain ⟨A1, c1, rfl⟩ := hi1.slice
  generalize hall : orderR ls = all at *
  have HI := Lib.hid hi1
  have Hb1 := Lib.hid hb1
  have hs1 : w.heap.size ≤ w1.heap.size := hb1.size
  have HBT := Lib.hid (Reads.kept (w' := w1) HB.out (fun k hk _ => hb1.block k hk))
  clear hi1 hown hb1 HO HB
  go_wp2
  go_loopw [7, 16] (fun ov i wr => ∃ (k : Nat) (out : List Int), k ≤ all.length ∧ i = .int .i64 k ∧ out.length ≤ k ∧ Hid (out = (all.take k).foldl (bestStep n but) []) ∧ Hid (wr.ownsRow w1.heap.size 3 1 ov out.length (encInts out)) ∧ Hid (Below w1.heap.size w1 wr)) (fun _ i _ => all.length - (intOf i).toNat)
  case atStart => exact ⟨0, [], Nat.zero_le _, rfl, Nat.le_refl _, Lib.hid rfl, Lib.hid (World.ownsRow_nil _ _ _ _), Lib.hid (Below.refl _ _)⟩
  case round =>
    obtain ⟨k, out, hk, rfl, hlo, HOut, hown, hb⟩ := hrel
    obtain ⟨Ao, co, eo⟩ := (ownsRow_ints hown.out).slice
    cases eo
    have hbs := hb.out.size
    by_cases hlt : k < all.length
    · obtain ⟨g, o, c', e, _, hc⟩ := IntsAt.cells HI.out (by omega)
      cases e
      have d := hc k _ (List.getElem?_eq_getElem hlt)
      have ld := World.block_lt_of_cell? w1 _ d
      rw [← hb.out.cell (p := ⟨g, o + k, none⟩) ld] at d
      have hlc : (k : Int) < (all.length : Int) := by omega
      have HN := Lib.hid (best_next n but all k hlt)
      have HHas := Lib.hid (fun (x : Int) => has_anyR but x (.slice AB but.length cB) F (by omega) wr (Reads.kept HBT.out (fun k hk _ => hb.out.block k hk)))
      clear hc ld
      generalize all[k] = x at *
      by_cases hfull : out.length < n
      · have hfc : (out.length : Int) < (n : Int) := by omega
        by_cases hx : but.contains x = true
        · have HNx : Hid (out = (all.take (k + 1)).foldl (bestStep n but) []) := Lib.hid (by rw [HN.out, ← HOut.out]; unfold bestStep; rw [if_neg (fun h => by have h2 := h.2; rw [hx] at h2; cases h2)])
          have HH := Lib.hid (HHas.out x)
          rw [hx] at HH
          clear hx HN HHas HOut
          go_wp2_with (go_at_call 60; refine HH.out.mono ?_; rintro e w2 ⟨rfl, n2, rfl⟩)
          go_roundw
          case rel => exact ⟨k + 1, out, by omega, by go_num, by omega, HNx, Lib.hid (ownsRow_below hown.out (below_drewN (Below.refl _ _) _)), Lib.hid (below_drewN hb.out _)⟩
          case measure => simp [intOf]; omega
        · have hx' : but.contains x = false := by simpa using hx
          have HNx : Hid (out ++ [x] = (all.take (k + 1)).foldl (bestStep n but) []) := Lib.hid (by rw [HN.out, ← HOut.out]; unfold bestStep; rw [if_pos ⟨hfull, hx'⟩])
          have HH := Lib.hid (HHas.out x)
          rw [hx'] at HH
          clear hx hx' HN HHas HOut
          go_wp2_with (go_at_call 60; refine HH.out.mono ?_; rintro e w2 ⟨rfl, n2, rfl⟩; refine Hid.out ?_)
          have hown2 := ownsRow_below hown.out (below_drewN (Below.refl _ _) n2)
          have hb2 := below_drewN hb.out n2
          have d2 : (wr.drewN n2).cell? ⟨g, o + k, none⟩ = some (.int .i64 x) := d
          have hgl : g < (wr.drewN n2).heap.size := World.block_lt_of_cell? _ _ d2
          generalize wr.drewN n2 = w3 at *
          have hs3 := hb2.size
          clear hown hb d HH
          refine Lib.hid ?_
          go_wp2_with (at_builtin; refine wpList_append_lies _ rfl (.tmp 32) (.tmp 37) 38 rfl w1.heap.size 3 i0 _ 1 8 Try.underlying38 hi0 hz0 hz1 hz2 rfl (by omega) _ out.length (encInts out) rfl (hown2.alloc _) ⟨w3.heap.size, 0, none⟩ 1 1 [.int .i64 x] rfl rfl (World.news_of_block (cs := #[.int .i64 x]) (t := 3) (fr := (0, 0)) (heap_alloc_new _ _)) (by simp [Value.oneCell']) (by omega) (by unfold maxLen; omega) (by omega) (by simp; omega) (w3.heap.size + 1) (by simp) ?_; intro g' cap w4 hown4 hgr hat hlt4; refine Hid.out ?_)
          have hb4 : Below w1.heap.size w1 w4 := hb2.trans ⟨hgr.os, hgr.tape, hgr.output, by have := hgr.size; simp at this; omega, fun j hj => (hgr.block j (by simp; omega) (fun e => by have := (hown2.lt j e.symm).1; omega)).trans (Below.heap_alloc w3 _ j (by omega))⟩
          have e1 : encInts out ++ [.int .i64 x] = encInts (out ++ [x]) := by simp [encInts]
          have e2 : out.length + 1 = (out ++ [x]).length := by simp
          rw [e1, e2] at hown4
          rw [e2]
          have Hown4 := Lib.hid hown4
          have Hb4 := Lib.hid hb4
          have hlo' : (out ++ [x]).length ≤ k + 1 := by simp; omega
          clear hown4 hb4 hgr hat hb2 hown2 e1 e2
          refine Lib.hid ?_
          go_wp2
          go_roundw
          case rel => exact ⟨k + 1, out ++ [x], by omega, by go_num, hlo', HNx, Hown4, Hb4⟩
          case measure => simp [intOf]; omega
      · have HNx : Hid (out = (all.take (k + 1)).foldl (bestStep n but) []) := Lib.hid (by rw [HN.out, ← HOut.out]; unfold bestStep; rw [if_neg (fun h => hfull h.1)])
        have hfc : ¬ ((out.length : Int) < (n : Int)) := by omega
        clear HN HHas HOut
        go_wp2
        go_roundw
        case rel => exact ⟨k + 1, out, by omega, by go_num, by omega, HNx, hown, hb⟩
        case measure => simp [intOf]; omega
    · have e : all.take k = all := List.take_of_length_le (by omega)
      have HR : Hid (out = bestR n but all) := Lib.hid (by rw [HOut.out, e]; rfl)
      clear e HOut
      go_wp2
      go_ret
      refine ⟨_, rfl, ?_, Hb1.out.trans (hb.out.mono hs1)⟩
      rw [hall, ← HR.out]
      exact ownsRow_lower hown.out hs1
end Go.Proofs.Ytpidlgmigmbbbaa
