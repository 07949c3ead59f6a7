/-
  strings.Split at a blank; report.Parse.
-/
import Derived.Test.YtpmafppcccbmaaaDoorNumbers
set_option linter.unusedVariables false
set_option linter.unusedSimpArgs false
namespace Go.Proofs.YtpmafppcccbmaaaDoor
open Go.RowKit

theorem split_any (l : List UInt8) (hl : l.length ≤ 1000000) (w : World) (hT : TabsP w) :
    Calls Tryd.prog 30 #[.string (sb l), .string (sb [32])] w fun e w' => e = .returned (.slice (some ⟨w.heap.size, 0, none⟩) (pieces 32 l).length (pieces 32 l).length) ∧ w' = w.alloc (.cells (strCells (pieces 32 l)).toArray 9) := by
  obtain ⟨m, hm⟩ := hT.most
  have h := splitB_pieces 32 (sb l)
  rw [sb_toList] at h
  refine (Tryd.strings_Split (sb l) (sb [32]) m w (by rw [sb_size]; omega) hm (by rw [sb_size]; simp)).mono ?_
  rintro e w' ⟨rfl, rfl⟩
  rw [h.2, h.1]
  exact ⟨rfl, by simp only [strCells, List.map_map]; rfl⟩
theorem block_setCell_other (w : World) (a : Addr) (u : Value) {k : Nat} (h : k ≠ a.block) : (w.setCell a u).heap[k]? = w.heap[k]? := Below.heap_setCell w a u k h
theorem below_block {w w' : World} {B b : Nat} {cs : Array Value} {t : TypeId} (hb : Below B w w') (hlt : b < B) (h : w.heap[b]? = some (.cells cs t (0, 0))) :
    (∀ k, w'.cell? ⟨b, k, none⟩ = cs[k]?) ∧ (∀ k, w'.frozen? ⟨b, k, none⟩ = false) := by
  have h' : w'.heap[b]? = some (.cells cs t (0, 0)) := by rw [hb.block b hlt]; exact h
  exact ⟨fun k => cell_of_row _ _ _ _ _ _ h', fun k => frozen_of_row _ _ _ _ _ h'⟩

theorem below_setCell {B : Nat} {a w : World} (h : Below B a w) (k : Nat) (u : Value) : Below B a (w.setCell ⟨B, k, none⟩ u) := h.setCell (Nat.le_refl _) u
def zeroCall : CallD := ⟨0, 0, 0, 0, [], 0⟩
def ParsePost (w : World) (s : List UInt8) (e : Ending) (w' : World) : Prop :=
  Below w.heap.size w w' ∧ ((parseL s = none ∧ e = .returned (.tuple #[callV zeroCall (.slice none 0 0), .int .i64 15])) ∨
    ∃ c v, parseL s = some c ∧ e = .returned (.tuple #[callV c v, .int .i64 0]) ∧ IntsAt w' (fun k => w.heap.size ≤ k) v c.words)

theorem parseL_eq {s n : List UInt8} {ws : List (List UInt8)} (h : pieces 32 s = n :: ws) : (numsOf ws = none → parseL s = none) ∧ ∀ vs, numsOf ws = some vs → (kindIx n < 0 ∨ vs.length < 4 → parseL s = none) ∧
    ∀ x a b t r, vs = x :: a :: b :: t :: r → 0 ≤ kindIx n → parseL s = some ⟨kindIx n, x, a, b, r, t⟩ := by
  unfold parseL
  rw [h]
  refine ⟨fun h1 => by simp only [h1], fun vs hv => ⟨fun h2 => ?_, fun x a b t r e h0 => ?_⟩⟩
  · simp only [hv]
    match vs with
    | x :: a :: b :: t :: r => simp only; rw [if_neg (by rcases h2 with h2 | h2; omega; simp at h2; omega)]
    | [] => rfl
    | [_] => rfl
    | [_, _] => rfl
    | [_, _, _] => rfl
  · subst e
    simp only [hv]
    rw [if_pos h0]

set_option maxRecDepth 100000 in
set_option maxHeartbeats 3200000 in
theorem parse_any (s : List UInt8) (hl : s.length ≤ 100000) (w : World) (hT : TabsP w) :
    Calls Tryd.prog 14 #[.string (sb s)] w (ParsePost w s) := by
  obtain ⟨nm, ws, hp⟩ := pieces_cons 32 s
  have hps := pieces_length 32 s
  rw [hp, List.length_cons] at hps
  have hB0 := fun (o : Obj) => (Below.refl w.heap.size w).alloc (Nat.le_refl _) o
  have HS := Lib.hid (fun (o : Obj) => split_any s (by omega) (w.alloc o) (hT.on (hB0 o)))
  rw [hp] at HS
  simp only [List.length_cons] at HS
  have hlw : ∀ l ∈ ws, l.length ≤ 1000000 := by
    intro l hl'
    obtain ⟨i, hi⟩ := List.mem_iff_getElem?.1 hl'
    have j := pieces_join 32 s nm ws hp
    have := congrArg List.length j
    rw [List.length_append] at this
    have h2 : l.length ≤ (ws.flatMap fun q => 32 :: q).length := by
      clear j this hps HS hp i hi
      induction ws with
      | nil => cases hl'
      | cons a ws ih =>
        rw [List.flatMap_cons, List.length_append, List.length_cons]
        rcases List.mem_cons.1 hl' with rfl | h
        · omega
        · have := ih h; omega
    omega
  have HE := Lib.hid (parseL_eq hp)
  have HK := Lib.hid (fun (W : World) (hb : Below w.heap.size w W) => kindOf_any nm W (hT.on hb).tabs)
  have HN := Lib.hid (fun (W : World) (hb : Below w.heap.size w W) (F : Nat → Prop) (v : Value) (h : StrsAt W F v ws) => numbers_any ws hlw (by omega) F v W (hT.on hb) h)
  have e32 : ByteArray.mk #[32] = sb [32] := rfl
  have H32 := Lib.hid e32
  clear hlw hT hp e32
  go_enter Tryd.func14, Tryd.ntmps14
  go_wp2_with fail
  go_at_call 30
  refine (HS.out _).mono ?_
  rintro e w1 ⟨rfl, hw1⟩
  have z1 : w1.heap[w.heap.size]? = some (.cells #[.int .i64 0, .int .i64 0, .int .i64 0, .int .i64 0, .slice none 0 0, .int .i64 0] 24 (0, 0)) := by rw [hw1, heap_alloc2_old]
  have z2 : w1.heap[w.heap.size + 1]? = some (.cells (strCells (nm :: ws)).toArray 9 (0, 0)) := by rw [hw1, heap_alloc2_new]
  have hb1 : Below w.heap.size w w1 := by rw [hw1]; exact ((Below.refl _ _).alloc (Nat.le_refl _) _).alloc (by simp) _
  have hs1 : w.heap.size + 1 < w1.heap.size := by rw [hw1]; simp
  have c0 : w1.cell? ⟨w.heap.size + 1, 0, none⟩ = some (.string (sb nm)) := by rw [cell_of_row _ _ _ _ _ _ z2]; simp [strCells]
  have hS : ∀ W, Below w1.heap.size w1 W → StrsAt W (fun _ => True) (.slice (some ⟨w.heap.size + 1, 1, none⟩) ws.length ws.length) ws := by
    intro W hb
    refine ⟨by simp [strCells], _, _, rfl, fun _ => ⟨_, _, rfl, trivial, fun j u hu => ?_⟩⟩
    rw [hb.cell (p := ⟨w.heap.size + 1, 1 + j, none⟩) hs1, cell_of_row _ _ _ _ _ _ z2, Nat.add_comm]
    simpa [strCells] using hu
  have HSt := Lib.hid hS
  have Z1 := Lib.hid z1
  have H1 := Lib.hid hb1
  clear hw1 z1 z2 hS hb1 HS H32
  by_cases hn0 : ws.length = 0
  · have h0 : ws = [] := List.length_eq_zero_iff.1 hn0
    subst h0
    go_wp2_with (go_at_call 31; refine (HK.out _ H1.out).mono ?_; rintro e w2 ⟨rfl, rfl⟩)
    go_at_call 32
    refine (HN.out _ H1.out (fun _ => True) _ ⟨by simp [strCells], _, _, rfl, fun h => absurd h (by simp)⟩).mono ?_
    clear HSt HN HK c0
    rintro e w3 ⟨hb3, hcase⟩
    obtain ⟨p1, p2⟩ := below_block hb3 (b := w.heap.size) (by omega) Z1.out
    have hs3 : w.heap.size < w3.heap.size := by have := hb3.size; omega
    have HB3 := Lib.hid (keep_below H1.out (Nat.le_refl _) hb3)
    clear hb3
    rcases hcase with ⟨hnone, rfl⟩ | ⟨vs, v, hsome, rfl, hown⟩
    · cases hnone
    · obtain ⟨A, c, rfl⟩ := own_form hown
      have hX := HE.out.2 vs hsome
      obtain rfl : vs = [] := (Option.some.inj hsome).symm
      have HX := Lib.hid (hX.1 (.inr (by simp)))
      clear hX hown hsome
      by_cases hk : kindIx nm < 0
      all_goals
        go_wp2
        refine bodyPost_ret (v := .tuple #[.agg #[.int .i64 0, .int .i64 0, .int .i64 0, .int .i64 0, .slice none 0 0, .int .i64 0], .int .i64 15]) (by simp [results, Tryd.results14, go_sem, p1, p2, hs3]) rfl ⟨?_, .inl ⟨HX.out, rfl⟩⟩
        iterate 6 refine Below.setCell ?_ (by dsimp only; omega) _
        exact HB3.out
  · have hn1 : (0 : Int) < (ws.length : Int) := by omega
    go_wp2_with (go_at_call 31; refine (HK.out _ H1.out).mono ?_; rintro e w2 ⟨rfl, rfl⟩)
    go_at_call 32
    refine (HN.out _ H1.out _ _ (HSt.out _ (Below.refl _ _))).mono ?_
    clear HSt HN HK c0
    rintro e w3 ⟨hb3, hcase⟩
    obtain ⟨p1, p2⟩ := below_block hb3 (b := w.heap.size) (by omega) Z1.out
    have hs3 : w.heap.size < w3.heap.size := by have := hb3.size; omega
    have HB3 := Lib.hid (keep_below H1.out (Nat.le_refl _) hb3)
    have P3 := Lib.hid ((hb3.block w.heap.size (by omega)).trans Z1.out)
    clear hb3
    rcases hcase with ⟨hnone, rfl⟩ | ⟨vs, v, hsome, rfl, hown⟩
    · have HX := Lib.hid ((HE.out.1) hnone)
      clear hnone
      by_cases hk : kindIx nm < 0
      all_goals
        go_wp2
        refine bodyPost_ret (v := .tuple #[.agg #[.int .i64 0, .int .i64 0, .int .i64 0, .int .i64 0, .slice none 0 0, .int .i64 0], .int .i64 15]) (by simp [results, Tryd.results14, go_sem, p1, p2, hs3]) rfl ⟨?_, .inl ⟨HX.out, rfl⟩⟩
        iterate 6 refine Below.setCell ?_ (by dsimp only; omega) _
        exact HB3.out
    · obtain ⟨A, c, rfl⟩ := own_form hown
      have hX := HE.out.2 vs hsome
      by_cases hbad : kindIx nm < 0 ∨ vs.length < 4
      · have HX := Lib.hid (hX.1 hbad)
        clear hX hown hsome
        by_cases hk : kindIx nm < 0
        · clear hbad
          go_wp2
          refine bodyPost_ret (v := .tuple #[.agg #[.int .i64 0, .int .i64 0, .int .i64 0, .int .i64 0, .slice none 0 0, .int .i64 0], .int .i64 15]) (by simp [results, Tryd.results14, go_sem, p1, p2, hs3]) rfl ⟨?_, .inl ⟨HX.out, rfl⟩⟩
          iterate 6 refine Below.setCell ?_ (by dsimp only; omega) _
          exact HB3.out
        · have hv : (vs.length : Int) < 4 := by omega
          clear hbad
          go_wp2
          refine bodyPost_ret (v := .tuple #[.agg #[.int .i64 0, .int .i64 0, .int .i64 0, .int .i64 0, .slice none 0 0, .int .i64 0], .int .i64 15]) (by simp [results, Tryd.results14, go_sem, p1, p2, hs3]) rfl ⟨?_, .inl ⟨HX.out, rfl⟩⟩
          iterate 6 refine Below.setCell ?_ (by dsimp only; omega) _
          exact HB3.out
      · have hk0 : 0 ≤ kindIx nm := by omega
        obtain ⟨x, a, b, t, r, rfl⟩ : ∃ x a b t r, vs = x :: a :: b :: t :: r := by
          match vs with
          | x :: a :: b :: t :: r => exact ⟨x, a, b, t, r, rfl⟩
          | [] => simp at hbad
          | [_] => simp at hbad
          | [_, _] => simp at hbad
          | [_, _, _] => simp at hbad
        have HX := Lib.hid (hX.2 x a b t r rfl hk0)
        have hwl := congrArg List.length (numsOf_some ws _ hsome).1
        rw [List.length_map] at hwl
        simp only [List.length_cons] at hwl hown
        have hrl : r.length ≤ 100000 := by omega
        obtain ⟨g, cap, cur, e, hbg, hg, hnc, hcm, _⟩ : ∃ g cap cur, Value.slice A (r.length + 1 + 1 + 1 + 1) c = .slice (some ⟨g, 0, none⟩) (r.length + 1 + 1 + 1 + 1) cap ∧ w1.heap.size ≤ g ∧ w3.heap[g]? = some (.cells cur 2 (0, 0)) ∧ r.length + 1 + 1 + 1 + 1 ≤ cap ∧ cap ≤ maxLen ∧ True := by
          rcases hown.2 with ⟨_, h⟩ | ⟨g, cap, cur, e, h1, h2, h3, h4, _⟩
          · omega
          · exact ⟨g, cap, cur, e, h1, h2, h3, h4, trivial⟩
        cases e
        have hcell : ∀ j u, (encInts (x :: a :: b :: t :: r))[j]? = some u → w3.cell? ⟨g, j, none⟩ = some u := fun j u hu => by
          have := hown.cells (g := g) rfl j u hu
          rwa [show ((⟨g, 0, none⟩ : Addr).add j) = ⟨g, j, none⟩ from by unfold Addr.add; split <;> simp_all] at this
        have d0 := hcell 0 _ rfl
        have d1 := hcell 1 _ rfl
        have d2 := hcell 2 _ rfl
        have d3 := hcell 3 _ rfl
        have hgl : g < w3.heap.size := (Array.getElem?_eq_some_iff.1 hg).1
        have hn4 : (3 : Int) < (r.length : Int) + 1 + 1 + 1 + 1 := by omega
        have hn5 : (0 : Int) < (r.length : Int) + 1 + 1 + 1 + 1 := by omega
        have hn6 : (1 : Int) < (r.length : Int) + 1 + 1 + 1 + 1 := by omega
        have hn7 : (2 : Int) < (r.length : Int) + 1 + 1 + 1 + 1 := by omega
        have hcell' := Lib.hid hcell
        clear hcell hwl hX hbad hown hsome hg HE
        unfold maxLen at hcm
        have HC := Lib.hid (fun (W : World) (hW : W.heap = w3.heap) (o c' : Nat) (ho : r.length ≠ 0 → o = 4) => clone_int64 W (fun _ => True) (.slice (some ⟨g, o, none⟩) r.length c') r.length (encInts r) (encInts_one r) hrl ⟨by simp [encInts], _, _, rfl, fun hp => ⟨_, _, rfl, trivial, fun j u hu => by
          rw [ho (by omega), World.cell?_of_block (w := w3) (by rw [hW])]
          exact hcell'.out (4 + j) u (by rw [Nat.add_comm]; exact hu)⟩⟩)
        have hgb : w.heap.size ≠ g := by have := H1.out.size; omega
        have hbw3 := HB3.out
        by_cases hcap : c = 4
        · have hr0 : r.length = 0 := by omega
          have hr1 : r = [] := List.length_eq_zero_iff.1 hr0
          subst hr1
          subst hcap
          simp only [List.length_nil] at *
          go_wp2_with fail
          go_region_held3 (fun w' => Below w.heap.size w w' ∧ w'.cell? ⟨g, 0, none⟩ = some (.int .i64 x) ∧ w'.cell? ⟨g, 1, none⟩ = some (.int .i64 a) ∧ w'.cell? ⟨g, 2, none⟩ = some (.int .i64 b) ∧ w'.cell? ⟨g, 3, none⟩ = some (.int .i64 t))
            (((try dsimp only); (try go_split_ands); (with_reducible repeat' apply And.intro); all_goals (first | (with_reducible assumption) | (with_reducible exact Below.drew (by assumption)) | (with_reducible exact keep_cell (by assumption) (by assumption)) | (with_reducible exact keep_below (by assumption) (Nat.le_refl _) (by assumption)) | ((iterate 6 (with_reducible refine below_setCell ?_ _ _)); (with_reducible assumption)) | ((iterate 6 rw [World.cell?_setCell_far _ _ _ _ hgb]); (with_reducible assumption)) | (simp [*]; done))))
            (first | (go_at_call 33; refine (HC.out w3.drew rfl 0 _ (fun h => absurd rfl h)).mono ?_; rintro e w4 ⟨v', rfl, hown4, hb4⟩; obtain ⟨A4, c4, rfl⟩ := own_form hown4; have q1 := (below_block hb4 (b := w.heap.size) hs3 P3.out).1; have q2 := (below_block hb4 (b := w.heap.size) hs3 P3.out).2; have hs4 : w.heap.size < w4.heap.size := Nat.lt_of_lt_of_le hs3 hb4.size; have HO4 := Lib.hid hown4; clear hown4))
          rename_i hH
          obtain ⟨f0, _⟩ := hH
          go_wp2
          refine bodyPost_ret (v := .tuple #[.agg #[.int .i64 (kindIx nm), .int .i64 x, .int .i64 a, .int .i64 b, .slice A4 0 c4, .int .i64 t], .int .i64 0]) (by simp [results, Tryd.results14, go_sem, q1, q2, hs4]) rfl ⟨f0, .inr ⟨⟨kindIx nm, x, a, b, [], t⟩, _, HX.out, rfl, ?_⟩⟩
          have hr := ownsRow_reads HO4.out
          refine Reads.wider (Reads.kept hr (fun k hk hF => ?_)) (fun k hk => ?_)
          · have hF' : w3.heap.size ≤ k := hF
            iterate 6 rw [block_setCell_other _ _ _ (by dsimp only; omega)]
          · have hk' : w3.heap.size ≤ k := hk
            omega
        · have hcap' : 4 < c := by omega
          go_wp2_with fail
          go_region_held3 (fun w' => Below w.heap.size w w' ∧ w'.cell? ⟨g, 0, none⟩ = some (.int .i64 x) ∧ w'.cell? ⟨g, 1, none⟩ = some (.int .i64 a) ∧ w'.cell? ⟨g, 2, none⟩ = some (.int .i64 b) ∧ w'.cell? ⟨g, 3, none⟩ = some (.int .i64 t))
            (((try dsimp only); (try go_split_ands); (with_reducible repeat' apply And.intro); all_goals (first | (with_reducible assumption) | (with_reducible exact Below.drew (by assumption)) | (with_reducible exact keep_cell (by assumption) (by assumption)) | (with_reducible exact keep_below (by assumption) (Nat.le_refl _) (by assumption)) | ((iterate 6 (with_reducible refine below_setCell ?_ _ _)); (with_reducible assumption)) | ((iterate 6 rw [World.cell?_setCell_far _ _ _ _ hgb]); (with_reducible assumption)) | (simp [*]; done))))
            (first | (go_at_call 33; refine (HC.out w3.drew rfl 4 _ (fun _ => rfl)).mono ?_; rintro e w4 ⟨v', rfl, hown4, hb4⟩; obtain ⟨A4, c4, rfl⟩ := own_form hown4; have q1 := (below_block hb4 (b := w.heap.size) hs3 P3.out).1; have q2 := (below_block hb4 (b := w.heap.size) hs3 P3.out).2; have hs4 : w.heap.size < w4.heap.size := Nat.lt_of_lt_of_le hs3 hb4.size; have HO4 := Lib.hid hown4; clear hown4))
          rename_i hH
          obtain ⟨f0, _⟩ := hH
          go_wp2
          refine bodyPost_ret (v := .tuple #[.agg #[.int .i64 (kindIx nm), .int .i64 x, .int .i64 a, .int .i64 b, .slice A4 r.length c4, .int .i64 t], .int .i64 0]) (by simp [results, Tryd.results14, go_sem, q1, q2, hs4]) rfl ⟨f0, .inr ⟨⟨kindIx nm, x, a, b, r, t⟩, _, HX.out, rfl, ?_⟩⟩
          have hr := ownsRow_reads HO4.out
          refine Reads.wider (Reads.kept hr (fun k hk hF => ?_)) (fun k hk => ?_)
          · have hF' : w3.heap.size ≤ k := hF
            iterate 6 rw [block_setCell_other _ _ _ (by dsimp only; omega)]
          · have hk' : w3.heap.size ≤ k := hk
            omega
end Go.Proofs.YtpmafppcccbmaaaDoor
