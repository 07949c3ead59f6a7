/-
  A step of a new frame whose body does nothing: an act on no such field.
-/
import Derived.Test.YtecgeblfmkgibaaOdd2
set_option linter.unusedVariables false
set_option linter.unusedSimpArgs false
namespace Go.Proofs.Ytecgeblfmkgibaa
open Go.RowKit

theorem enters_act : Enters 25 := by
  intro args w
  go_simp

/-- The state behind a step of a new frame that did nothing. -/
def idle (m : Mem) : FS := ((FS.new m).begin_ 0).finish_

theorem ActAt.kept {w w' : World} {F : Nat → Prop} {xb : Nat} {P : PartD} {t field v : Int} {set : Bool} {got : Int} (h : ActAt w F xb P t field v set got) (hx : w'.heap[xb]? = w.heap[xb]?) (hk : ∀ k, k < w.heap.size → F k → w'.heap[k]? = w.heap[k]?) : ActAt w' F xb P t field v set got := by
  obtain ⟨sT, sO, v1, v2, h0, h1, h2, h3⟩ := h
  exact ⟨sT, sO, v1, v2, by rw [hx]; exact h0, IntsAt.kept hk h1, IntsAt.kept hk h2, h3.kept hk⟩
theorem ActAt.lt {w : World} {F : Nat → Prop} {xb : Nat} {P : PartD} {t field v : Int} {set : Bool} {got : Int} (h : ActAt w F xb P t field v set got) : xb < w.heap.size := by
  obtain ⟨sT, sO, v1, v2, h0, _⟩ := h
  exact lt_of_block h0
theorem ActAt.got {w : World} {F : Nat → Prop} {xb : Nat} {P : PartD} {t field v : Int} {set : Bool} {got : Int} (h : ActAt w F xb P t field v set got) : w.cell? ⟨xb, 18, none⟩ = some (.int .i64 got) := by
  obtain ⟨sT, sO, v1, v2, h0, _⟩ := h
  rw [cell_of_block h0]
  rfl

set_option maxHeartbeats 400000 in
theorem stepSet (P : PartD) (hn : P.thr.length ≤ 6) (F : Nat → Prop) (xb : Nat) (t field v : Int) (hv : I64 v) (hf : fieldB P.thr.length t field = false) (m : Mem) (w : World) (g : FG) (hF : Fr w g (.slice none 0 0) (FS.new m)) (h : ActAt w F xb P t field v true 0) (hap : xb ≠ g.fb ∧ xb ≠ g.wb) (hFap : ∀ k, F k → k ≠ g.fb ∧ k ≠ g.wb) :
    Calls Try.prog 24 #[.pointer (some ⟨g.fb, 0, none⟩), .int .i64 0, bound 25 (.pointer (some ⟨xb, 0, none⟩))] w fun e w' => e = .returned (.bool true) ∧ ∃ sl', Fr w' g sl' (idle m) ∧ Ev g (.slice none 0 0) sl' w w' := by
  have hx : exec (kSet P t field v) ((FS.new m).begin_ 0) = some ((), (FS.new m).begin_ 0) := by
    unfold kSet; rw [hf]; rfl
  have hs := fstep w g (.slice none 0 0) (FS.new m) hF rfl (by simp [FS.new]) 0 25 (.pointer (some ⟨xb, 0, none⟩)) ((FS.new m).begin_ 0) (fun sl2 w2 => Ev g (.slice none 0 0) sl2 w w2) enters_act (by
    intro w1 hF1 hE1
    have hA1 : ActAt w1 F xb P t field v true 0 := h.kept (hE1.block _ h.lt hap.1 hap.2 (by simp [Value.ownBlock])) (fun k hk hFk => hE1.block k hk (hFap k hFk).1 (hFap k hFk).2 (by simp [Value.ownBlock]))
    refine (actSet_any P hn F xb t field v hv 0 w1 g _ _ hF1 hA1 _ hx).mono ?_
    rintro e w2 ⟨rfl, sl2, hF2, hE2⟩
    exact ⟨rfl, sl2, hF2, hE1.trans hE2⟩)
  refine hs.mono ?_
  rintro e w' ⟨rfl, sl1, w1, sl', hK, hF', hE'⟩
  exact ⟨rfl, sl', hF', hK.trans hE'⟩

set_option maxHeartbeats 400000 in
theorem stepGet (P : PartD) (hn : P.thr.length ≤ 6) (F : Nat → Prop) (xb : Nat) (t field : Int) (hf : fieldB P.thr.length t field = false) (m : Mem) (w : World) (g : FG) (hF : Fr w g (.slice none 0 0) (FS.new m)) (h : ActAt w F xb P t field 0 false 0) (hap : xb ≠ g.fb ∧ xb ≠ g.wb ∧ xb ≠ g.mb) (hFap : ∀ k, F k → k ≠ g.fb ∧ k ≠ g.wb) :
    Calls Try.prog 24 #[.pointer (some ⟨g.fb, 0, none⟩), .int .i64 0, bound 25 (.pointer (some ⟨xb, 0, none⟩))] w fun e w' => e = .returned (.bool true) ∧ ∃ sl', Fr w' g sl' (idle m) ∧ EvS (fun k => k = xb) g (.slice none 0 0) sl' w w' ∧ w'.cell? ⟨xb, 18, none⟩ = some (.int .i64 0) := by
  have hx : exec (kGet P t field) ((FS.new m).begin_ 0) = some (0, (FS.new m).begin_ 0) := by
    unfold kGet; rw [hf]; rfl
  have lx := h.lt
  have hs := fstep w g (.slice none 0 0) (FS.new m) hF rfl (by simp [FS.new]) 0 25 (.pointer (some ⟨xb, 0, none⟩)) ((FS.new m).begin_ 0) (fun sl2 w2 => EvS (fun k => k = xb) g (.slice none 0 0) sl2 w w2 ∧ sl2.ownBlock ≠ some xb ∧ xb < w2.heap.size ∧ w2.cell? ⟨xb, 18, none⟩ = some (.int .i64 0)) enters_act (by
    intro w1 hF1 hE1
    have hA1 : ActAt w1 F xb P t field 0 false 0 := h.kept (hE1.block _ h.lt hap.1 hap.2.1 (by simp [Value.ownBlock])) (fun k hk hFk => hE1.block k hk (hFap k hFk).1 (hFap k hFk).2 (by simp [Value.ownBlock]))
    refine (actGet_any P hn F xb t field 0 0 w1 g _ _ hF1 hA1 ⟨hap.1, hap.2.1, by simp [Value.ownBlock]⟩ 0 _ hx).mono ?_
    rintro e w2 ⟨sl2, w3, rfl, hF2, hE2, rfl⟩
    have ho : sl2.ownBlock ≠ some xb := by
      rcases hE2.own with e | ⟨b, e, hb⟩
      · rw [e]; simp [Value.ownBlock]
      · rw [e]; intro e'; injection e' with e'; have := hA1.lt; omega
    have hb3 : ActAt w3 F xb P t field 0 false 0 := hA1.kept (hE2.block _ hA1.lt hap.1 hap.2.1 (by simp [Value.ownBlock])) (fun k hk hFk => hE2.block k hk (hFap k hFk).1 (hFap k hFk).2 (by simp [Value.ownBlock]))
    have hset : EvS (fun k => k = xb) g sl2 sl2 w3 (w3.setCell ⟨xb, 18, none⟩ (.int .i64 0)) := ⟨rfl, rfl, rfl, by simp, fun k _ _ _ _ h5 => Below.heap_setCell _ _ _ _ h5, .inl rfl⟩
    refine ⟨rfl, sl2, hF2.kept ?_ ?_ ?_ ?_, ((hE1.trans hE2).toS _).trans hset, ho, ?_, ?_⟩
    · exact Below.heap_setCell _ _ _ _ (fun e => hap.1 e.symm)
    · exact Below.heap_setCell _ _ _ _ (fun e => hap.2.2 e.symm)
    · exact Below.heap_setCell _ _ _ _ (fun e => hap.2.1 e.symm)
    · intro k hk
      refine Below.heap_setCell _ _ _ _ ?_
      rintro rfl
      exact ho hk
    · simp only [World.size_setCell]; exact hb3.lt
    · obtain ⟨sT, sO, v1, v2, h0, _⟩ := hb3
      rw [cell_of_block (block_setCell h0 18 (.int .i64 0)), actArr]
      rfl)
  refine hs.mono ?_
  rintro e w' ⟨rfl, sl1, w1, sl', ⟨hK, ho, hlt, hc⟩, hF', hE'⟩
  refine ⟨rfl, sl', hF', hK.trans (hE'.toS _), ?_⟩
  rw [World.cell?_of_block (w := w1) (hE'.block xb hlt hap.1 hap.2.1 ho)]
  exact hc

/-- Another frame on the same memory. -/
theorem Fr.other {w w' : World} {g g' : FG} {sl' : Value} {s s' : FS} (h : Fr w g (.slice none 0 0) s) (h' : Fr w' g' sl' s') (hb : w'.heap[g.fb]? = w.heap[g.fb]?) (hm : g'.mb = g.mb) (hw : g'.wb = g.wb) (hs : s.mem = s'.mem) : Fr w' g (.slice none 0 0) s :=
  ⟨by rw [hb]; exact h.fr, by rw [hs, ← hm, ← hw]; exact h'.mem, ownsRow_kept h.lg (fun k hk => by simp [Value.ownBlock] at hk), h.ne1, h.ne2, h.nf, h.nm, h.nw, h.room, h.at_le, h.li64⟩
theorem Reads.inn {w : World} {F : Nat → Prop} {v : Value} {n stride : Nat} {cells : List Value} (h : Reads w F v n stride cells) (hs : 0 < stride) : Reads w (fun k => F k ∧ k < w.heap.size) v n stride cells := by
  obtain ⟨h1, A, c, h2, h3⟩ := h
  refine ⟨h1, A, c, h2, fun hn => ?_⟩
  obtain ⟨b, o, e, hb, hc⟩ := h3 hn
  have hl : 0 < cells.length := by rw [h1]; exact Nat.mul_pos hn hs
  have h0 := hc 0 _ (List.getElem?_eq_getElem hl)
  exact ⟨b, o, e, ⟨hb, World.block_lt_of_cell? w _ h0⟩, hc⟩
theorem PlanVal.inn {w : World} {F : Nat → Prop} {v : Value} {P : PartD} (h : PlanVal w F v P) : PlanVal w (fun k => F k ∧ k < w.heap.size) v P := by
  obtain ⟨sT, sO, v1, v2, e, h1, h2, u1, u2, e2, ⟨ps, h3, h4, h5⟩, h6⟩ := h
  refine ⟨sT, sO, v1, v2, e, Reads.inn h1 (by omega), Reads.inn h2 (by omega), u1, u2, e2, ⟨ps, h3, h4.inn (by omega), fun i t u ht hu => ?_⟩, Reads.inn h6 (by omega)⟩
  obtain ⟨ws, h7, h8, h9⟩ := h5 i t u ht hu
  exact ⟨ws, h7, h8.inn (by omega), fun i c u hc hu => Reads.inn (h9 i c u hc hu) (by omega)⟩
theorem partWrong_six {P : PartD} (h : partWrong P = 0) : P.thr.length ≤ 6 := by
  unfold partWrong at h
  split at h
  · omega
  · omega

/-- What stands when the two frames and their memory are made. -/
structure OddAt (w6 : World) (pb : Nat) (F : Nat → Prop) (g1 g2 : FG) (P : PartD) (sT sO v1 v2 : Value) : Prop where
  f1 : Fr w6 g1 (.slice none 0 0) (FS.new (List.replicate 600 0))
  f2 : Fr w6 g2 (.slice none 0 0) (FS.new (List.replicate 600 0))
  pl : PlanVal w6 F (.agg (planArr sT sO v1 v2 (planWords P))) P
  ap : ∀ k, F k → k ≠ g1.fb ∧ k ≠ g2.fb ∧ k ≠ g1.wb ∧ k < w6.heap.size
  eq1 : g2.mb = g1.mb
  eq2 : g2.wb = g1.wb
  ne : g1.fb ≠ g2.fb
  l1 : g1.fb < w6.heap.size
  l2 : g2.fb < w6.heap.size
  l3 : g1.mb < w6.heap.size
  l4 : g1.wb < w6.heap.size

theorem OddAt.act {w6 wx : World} {pb : Nat} {F : Nat → Prop} {g1 g2 : FG} {P : PartD} {sT sO v1 v2 : Value} (h : OddAt w6 pb F g1 g2 P sT sO v1 v2) (hb : Below w6.heap.size w6 wx) (xb : Nat) (t field v : Int) (set : Bool) (got : Int)
    (hx : wx.heap[xb]? = some (.cells (actArr sT sO v1 v2 (planWords P) t field v set got) 47 (0, 0))) : ActAt wx F xb P t field v set got := by
  obtain ⟨sT', sO', v1', v2', e, h1, h2, h3⟩ := h.pl.kept (fun k hk _ => hb.block k hk)
  simp only [planArr, Value.agg.injEq, Array.mk.injEq, List.cons.injEq, true_and, and_true] at e
  obtain ⟨rfl, rfl, rfl, rfl⟩ := e
  exact ⟨_, _, _, _, hx, h1, h2, h3⟩

theorem Ev.toBelow {g : FG} {sl' : Value} {w w' : World} {B : Nat} (h : Ev g (.slice none 0 0) sl' w w') (h1 : B ≤ g.fb) (h2 : B ≤ g.wb) (hB : B ≤ w.heap.size) : Below B w w' :=
  ⟨h.os, h.tape, h.output, h.size, fun k hk => h.block k (by omega) (by omega) (by omega) (by simp [Value.ownBlock])⟩
theorem EvS.toBelow {S : Nat → Prop} {g : FG} {sl' : Value} {w w' : World} {B : Nat} (h : EvS S g (.slice none 0 0) sl' w w') (h1 : B ≤ g.fb) (h2 : B ≤ g.wb) (h3 : ∀ k, S k → B ≤ k) (hB : B ≤ w.heap.size) : Below B w w' :=
  ⟨h.os, h.tape, h.output, h.size, fun k hk => h.block k (by omega) (by omega) (by omega) (by simp [Value.ownBlock]) (fun hs => by have := h3 k hs; omega)⟩

/-- What stands behind both steps. -/
structure Odd9 (B : Nat) (w w9 : World) (g1 g2 : FG) (yb : Nat) (m : Mem) : Prop where
  f1 : ∃ sl, Fr w9 g1 sl (idle m)
  f2 : ∃ sl, Fr w9 g2 sl (idle m)
  got : w9.cell? ⟨yb, 18, none⟩ = some (.int .i64 0)
  below : Below B w w9

set_option maxHeartbeats 400000 in
theorem steps_both {w6 w7 : World} {pb : Nat} {F : Nat → Prop} {g1 g2 : FG} {P : PartD} {sT sO v1 v2 : Value} (h : OddAt w6 pb F g1 g2 P sT sO v1 v2) (hn : P.thr.length ≤ 6) (t field v : Int) (hv : I64 v) (hf : fieldB P.thr.length t field = false)
    (xb yb : Nat) (hx : ActAt w7 F xb P t field v true 0) (hy : ActAt w7 F yb P t field 0 false 0) (lx : w6.heap.size ≤ xb) (ly : w6.heap.size ≤ yb) (hxy : xb ≠ yb) (hb : Below w6.heap.size w6 w7) (B : Nat) (hB1 : B ≤ g1.fb) (hB2 : B ≤ g2.fb) (hB3 : B ≤ g1.wb) :
    Calls Try.prog 24 #[.pointer (some ⟨g1.fb, 0, none⟩), .int .i64 0, bound 25 (.pointer (some ⟨xb, 0, none⟩))] (w7.drewN 1) fun e w8 => e = .returned (.bool true) ∧
      Calls Try.prog 24 #[.pointer (some ⟨g2.fb, 0, none⟩), .int .i64 0, bound 25 (.pointer (some ⟨yb, 0, none⟩))] w8 fun e w9 => e = .returned (.bool true) ∧ Odd9 B (w7.drewN 1) w9 g1 g2 yb (List.replicate 600 0) := by
  have k1 := h.l1
  have k2 := h.l2
  have k3 := h.l3
  have k4 := h.l4
  have kn := h.ne
  have q1 := h.eq1
  have q2 := h.eq2
  have ks := hb.size
  have hd : (w7.drewN 1).heap = w7.heap := rfl
  refine (stepSet P hn F xb t field v hv hf (List.replicate 600 0) (w7.drewN 1) g1 ((h.f1.below hb).drewN 1) (hx.kept rfl (fun _ _ _ => rfl)) ⟨by omega, by omega⟩ (fun k hk => ⟨(h.ap k hk).1, (h.ap k hk).2.2.1⟩)).mono ?_
  rintro e w8 ⟨rfl, sl1, hF1, hE1⟩
  have ls := hE1.size
  rw [hd] at ls
  refine ⟨rfl, ?_⟩
  have hown : sl1.ownBlock = none ∨ ∃ b, sl1.ownBlock = some b ∧ w7.heap.size ≤ b := by
    rcases hE1.own with e | ⟨b, e, hb'⟩
    · exact .inl (by rw [e]; rfl)
    · exact .inr ⟨b, e, hb'⟩
  have kx := hx.lt
  have ky := hy.lt
  have hb8 : w8.heap[g2.fb]? = w7.heap[g2.fb]? := hE1.block g2.fb (by rw [hd]; omega) (fun e => kn e.symm) (by have := (h.f2).ne2; rw [q2] at this; exact this) (by simp [Value.ownBlock])
  have hF2 : Fr w8 g2 (.slice none 0 0) (FS.new (List.replicate 600 0)) := (h.f2.below hb).other hF1 hb8 q1.symm q2.symm rfl
  have hy8 : ActAt w8 F yb P t field 0 false 0 := hy.kept (hE1.block yb (by rw [hd]; exact ky) (by omega) (by omega) (by simp [Value.ownBlock])) (fun k hk hFk => hE1.block k (by rw [hd]; exact hk) (h.ap k hFk).1 (h.ap k hFk).2.2.1 (by simp [Value.ownBlock]))
  refine (stepGet P hn F yb t field hf (List.replicate 600 0) w8 g2 hF2 hy8 ⟨by omega, by rw [q2]; omega, by rw [q1]; omega⟩ (fun k hk => ⟨(h.ap k hk).2.1, by rw [q2]; exact (h.ap k hk).2.2.1⟩)).mono ?_
  rintro e w9 ⟨rfl, sl2, hF9, hE2, hc⟩
  refine ⟨rfl, ⟨sl1, ?_⟩, ⟨sl2, hF9⟩, hc, (hE1.toBelow hB1 hB3 (by rw [hd]; omega)).trans (hE2.toBelow hB2 (by rw [q2]; exact hB3) (fun k hk => by subst hk; omega) (by omega))⟩
  have keep : ∀ k, k < w8.heap.size → k ≠ g2.fb → k ≠ g1.wb → k ≠ yb → w9.heap[k]? = w8.heap[k]? := fun k a1 a2 a3 a4 => hE2.block k a1 a2 (by rw [q2]; exact a3) (by simp [Value.ownBlock]) a4
  obtain ⟨m1, m2, m3, m4⟩ := hF1.lts
  have hm : MemAt w9 g1.mb g1.wb (idle (List.replicate 600 0)).mem := by have := hF9.mem; rw [q1, q2] at this; exact this
  refine ⟨by rw [keep _ m1 kn hF1.ne2 (by omega)]; exact hF1.fr, hm, ownsRow_kept hF1.lg (fun k hk => keep k (m4 k hk) ?_ ?_ ?_), hF1.ne1, hF1.ne2, hF1.nf, hF1.nm, hF1.nw, hF1.room, hF1.at_le, hF1.li64⟩
  · rcases hown with e | ⟨b, e, hb'⟩
    · rw [e] at hk; cases hk
    · rw [e] at hk; injection hk with hk; omega
  · rcases hown with e | ⟨b, e, hb'⟩
    · rw [e] at hk; cases hk
    · rw [e] at hk; injection hk with hk; omega
  · rcases hown with e | ⟨b, e, hb'⟩
    · rw [e] at hk; cases hk
    · rw [e] at hk; injection hk with hk; omega

theorem Odd9.mw {B : Nat} {w w9 : World} {g1 g2 : FG} {yb n : Nat} (h : Odd9 B w w9 g1 g2 yb (List.replicate n 0)) (W : World) (hW : Below w9.heap.size w9 W) :
    Calls Try.prog 28 #[.pointer (some ⟨g1.mb, 0, none⟩)] W fun e w' => ∃ A c, e = .returned (.slice A n c) ∧ IntsAt w' (fun k => W.heap.size ≤ k) (.slice A n c) (List.replicate n 0) ∧ Below W.heap.size W w' ∧ Below w9.heap.size w9 w' := by
  obtain ⟨sl, hF⟩ := h.f1
  obtain ⟨m1, m2, m3, m4⟩ := hF.lts
  have hm : MemAt W g1.mb g1.wb (List.replicate n 0) := hF.mem.kept (hW.block _ m2) (hW.block _ m3)
  refine (mwords_any g1.mb g1.wb _ W hm).mono ?_
  rintro e w' ⟨v, rfl, hv, hb⟩
  obtain ⟨A, c, e⟩ := hv.slice
  rw [List.length_replicate] at e
  subst e
  exact ⟨A, c, rfl, hv, hb, hW.trans (hb.mono hW.size)⟩
theorem below_drewN {B : Nat} {a w : World} (h : Below B a w) (n : Nat) : Below B a (w.drewN n) := ⟨h.os, h.tape, h.output, h.size, h.block⟩
theorem below_end {B : Nat} {a b c : World} (h : Below B a b) (hB : B ≤ a.heap.size) (k : Below b.heap.size b c) : Below B a c := h.trans (k.mono (Nat.le_trans hB h.size))

theorem steps_zero (w : World) (g : FG) (m : Mem) (h : ∃ sl, Fr w g sl (idle m)) :
    Calls Try.prog 26 #[.pointer (some ⟨g.fb, 0, none⟩)] w fun e w' => e = .returned (.int .i64 0) ∧ w = w' := by
  obtain ⟨sl, hF⟩ := h
  have hs := fsteps w g sl _ hF
  exact hs

theorem wordsZero (n : Nat) (hn : n ≤ 4000) (v : Value) (F : Nat → Prop) (b : Nat) (W : World) (h : IntsAt W F v (List.replicate n 0)) (hb : W.heap[b]? = some (.cells (madeCells #[.int .i64 0] n) 2 (0, 0))) :
    Calls Try.prog 27 #[v, .slice (some ⟨b, 0, none⟩) n n] W fun e w' => e = .returned (.bool true) ∧ ∃ k, W.drewN k = w' := by
  have hml : madeCells #[Value.int .i64 0] n = (encInts (List.replicate n 0)).toArray := by
    apply Array.ext'
    apply List.ext_getElem
    · simp [madeCells, encInts]
    · intro i h1 h2
      simp [madeCells, encInts, Nat.mod_one]
  have hi : IntsAt W (fun _ => True) (.slice (some ⟨b, 0, none⟩) n n) (List.replicate n 0) := by
    refine ⟨by simp [encInts], some ⟨b, 0, none⟩, n, by simp, fun _ => ⟨b, 0, rfl, trivial, fun j u hu => ?_⟩⟩
    rw [Nat.zero_add, cell_of_block hb, hml]
    simpa using hu
  have hw := words_any (List.replicate n 0) (List.replicate n 0) v _ F _ (by rw [List.length_replicate]; omega) W h hi
  rw [decide_eq_true rfl] at hw
  exact hw
theorem words600 (v : Value) (F : Nat → Prop) (b : Nat) (W : World) (h : IntsAt W F v (List.replicate 600 0)) (hb : W.heap[b]? = some (.cells (madeCells #[.int .i64 0] 600) 2 (0, 0))) :
    Calls Try.prog 27 #[v, .slice (some ⟨b, 0, none⟩) 600 600] W fun e w' => e = .returned (.bool true) ∧ ∃ k, W.drewN k = w' :=
  wordsZero 600 (by omega) v F b W h hb
end Go.Proofs.Ytecgeblfmkgibaa
