/-
  Benches side by side: what posts and Moves do to their memories.
-/
import Derived.Test.YtpidlgmigmbbbaaPoRun
set_option linter.unusedVariables false
set_option linter.unusedSimpArgs false
namespace Go.Proofs.Ytpidlgmigmbbbaa
open Go.RowKit

/-- Two memories of one length that read alike are one. -/
theorem mem_ext {m n : Mem} (hl : m.length = n.length) (h : rdM m = rdM n) : m = n := by
  refine List.ext_getElem hl (fun i h1 h2 => ?_)
  have := congrFun h (i : Int)
  unfold rdM at this
  rw [if_pos ⟨by omega, by omega⟩, if_pos ⟨by omega, by omega⟩] at this
  simpa [List.getD_eq_getElem?_getD, List.getElem?_eq_getElem h1, List.getElem?_eq_getElem h2] using this
/-- Get, where there is one: the memory, written out. -/
theorem RingAt.get_upd {a c t v : Int} {l : List Int} {m : Mem} (h : RingAt (rdM m) a c t (v :: l)) (c0 : 1 ≤ c) (c1 : c ≤ 16) (ha : 0 ≤ a) (ha2 : a ≤ 100000) (hm : a + 2 + c ≤ m.length) (t0 : 0 ≤ t) (t1 : t ≤ 900000) :
    Does (kRGet a c) m (v, true) (upd (rdM m) a (t + 1)) 4 := by
  have hr := h.room
  simp only [List.length_cons] at hr
  have hp : rdM m (a + 1) = t + (l.length + 1 : Nat) := h.put
  have e2 : wrap64 (rdM m a + 1) = t + 1 := by rw [h.taken, wrap_small (by omega) (by omega)]
  have e4 : rPlace a c (rdM m a) = a + 2 + t % c := by rw [h.taken]; exact rPlace_at a c _ ha ha2 c0 c1 (by omega) (by omega)
  obtain ⟨m1, d1, x1, r1, l1, b1⟩ := does_counts a m ha ha2
  obtain ⟨m2, d2, x2, r2, l2, b2⟩ := Does.ld (a + 2 + t % c) m1
  have hv : rdM m1 (a + 2 + t % c) = v := by
    rw [r1]
    have := h.item 0 v rfl
    simpa using this
  rw [hv] at x2
  obtain ⟨m3, d3, x3, r3, l3, b3⟩ := Does.st a (t + 1) m2 ⟨by omega, by omega⟩
  refine ⟨m3, d1 + (0 + (d2 + (d3 + (0 + 0)))), ?_, by rw [r3, r2, r1], by omega, by omega⟩
  unfold kRGet
  refine srun_seq x1 ?_
  refine srun_seq (p := isOff) (a := false) (m1 := m1) (c := 0) rfl ?_
  show srun (if (rdM m (a + 1) == rdM m a) = true then _ else _) m1 = _
  rw [if_neg (by rw [hp, h.taken]; simp; omega), e4, e2]
  exact srun_seq x2 (srun_seq x3 rfl)
/-- A ring behind some gets. -/
theorem RingAt.drop {f : Int → Int} {a c t : Int} {l : List Int} (h : RingAt f a c t l) (hc : 1 ≤ c) (n : Nat) (hn : n ≤ l.length) : RingAt (upd f a (t + n)) a c (t + n) (l.drop n) := by
  refine ⟨upd_same _ _ _, ?_, ?_, fun i x hx => ?_⟩
  · rw [upd_other _ _ _ _ (by omega), h.put]; simp only [List.length_drop]; omega
  · have := h.room; simp only [List.length_drop]; omega
  · rw [List.getElem?_drop] at hx
    have h1 : 0 ≤ (t + n + i) % c := Int.emod_nonneg _ (by omega)
    rw [upd_other _ _ _ _ (by omega)]
    have := h.item (n + i) x hx
    rw [show t + n + (i : Int) = t + ((n + i : Nat) : Int) by omega]; exact this
theorem upd_upd (f : Int → Int) (a v v' : Int) : upd (upd f a v) a v' = upd f a v' := by
  funext x; unfold upd; split <;> rfl
theorem upd_self {f : Int → Int} {a v : Int} (h : f a = v) : upd f a v = f := by
  funext x; unfold upd; split
  · rename_i e; rw [e, h]
  · rfl

/-- A bench: its blocks, its partition, its plan's parts. -/
structure Bn where
  F : Nat → Prop
  bb : Nat
  mb : Nat
  wb : Nat
  md : Nat
  P : PartD
  sT : Value
  sO : Value
  v1 : Value
  v2 : Value
/-- From one world to another: only the blocks 'T', and new ones. -/
structure ChgT (T : Nat → Prop) (w w' : World) : Prop where
  os : w'.os = w.os
  tape : w'.tape = w.tape
  output : w'.output = w.output
  size : w.heap.size ≤ w'.heap.size
  block : ∀ k, k < w.heap.size → ¬ T k → w'.heap[k]? = w.heap[k]?
theorem ChgT.refl (T : Nat → Prop) (w : World) : ChgT T w w := ⟨rfl, rfl, rfl, Nat.le_refl _, fun _ _ _ => rfl⟩
theorem ChgT.later {T : Nat → Prop} {w W W' : World} (h : ChgT T w W) (hb : Below W.heap.size W W') : ChgT T w W' :=
  ⟨hb.os.trans h.os, hb.tape.trans h.tape, hb.output.trans h.output, Nat.le_trans h.size hb.size, fun j hj hT => (hb.block j (Nat.lt_of_lt_of_le hj h.size)).trans (h.block j hj hT)⟩
theorem ChgT.left {T : Nat → Prop} {w W W' : World} {xb wb : Nat} (h : ChgT T w W) (hL : Left (fun k => k = xb) wb W W') (hx : w.heap.size ≤ xb) (hT : T wb) : ChgT T w W' :=
  ⟨hL.os.trans h.os, hL.tape.trans h.tape, hL.output.trans h.output, Nat.le_trans h.size hL.size, fun j hj hj' => (hL.block j (Nat.lt_of_lt_of_le hj h.size) (fun e => hj' (e ▸ hT)) (by omega)).trans (h.block j hj hj')⟩
theorem ChgT.trans {T T' : Nat → Prop} {w W W' : World} (h : ChgT T w W) (k : ChgT T' W W') (hT : ∀ j, T' j → T j) : ChgT T w W' :=
  ⟨k.os.trans h.os, k.tape.trans h.tape, k.output.trans h.output, Nat.le_trans h.size k.size, fun j hj hj' => (k.block j (Nat.lt_of_lt_of_le hj h.size) (fun e => hj' (hT j e))).trans (h.block j hj hj')⟩
theorem MemAt.chg {T : Nat → Prop} {w w' : World} {mb wb : Nat} {m : Mem} (h : MemAt w mb wb m) (hc : ChgT T w w') (h1 : ¬ T mb) (h2 : ¬ T wb) : MemAt w' mb wb m :=
  h.kept (hc.block _ (lt_of_block h.st) h1) (hc.block _ (lt_of_block h.ws) h2)

/-- A bench stands so at a world; 'T': the blocks that are written later. -/
structure BnAt (T : Nat → Prop) (wB : World) (b : Bn) : Prop where
  blk : wB.heap[b.bb]? = some (.cells (benchArr b.sT b.sO b.v1 b.v2 (planWords b.P) b.mb b.md) 44 (0, 0))
  plan : PlanVal wB b.F (.agg (planArr b.sT b.sO b.v1 b.v2 (planWords b.P))) b.P
  lts : b.mb < wB.heap.size ∧ b.wb < wB.heap.size
  sep : ¬ T b.bb ∧ ¬ T b.mb ∧ T b.wb
  sepF : ∀ k, b.F k → k < wB.heap.size ∧ ¬ T k
  nT : b.P.thr.length ≤ 6
  nO : b.P.obj.length ≤ 8
  rings : RingOk b.P
section
variable {T : Nat → Prop} {wB : World}
theorem BnAt.planAt {b : Bn} (h : BnAt T wB b) {W : World} (hc : ChgT T wB W) : PlanVal W b.F (.agg (planArr b.sT b.sO b.v1 b.v2 (planWords b.P))) b.P :=
  h.plan.kept (fun k hk hF => hc.block k hk (h.sepF k hF).2)
theorem BnAt.blkAt {b : Bn} (h : BnAt T wB b) {W : World} (hc : ChgT T wB W) : W.heap[b.bb]? = some (.cells (benchArr b.sT b.sO b.v1 b.v2 (planWords b.P) b.mb b.md) 44 (0, 0)) :=
  (hc.block _ (lt_of_block h.blk) h.sep.1).trans h.blk
/-- An act that posts. -/
theorem bn_post {b : Bn} (hb : BnAt T wB b) (o v : Int) (hk : isKB b.P o 6 = true) (ho : I64 o) (hv : I64 v) (W : World) (hc : ChgT T wB W) (m : Mem) (hm : MemAt W b.mb b.wb m) (xb : Nat) (hx : wB.heap.size ≤ xb) (sec : Bool) (inn got e0 : Int)
    (hblk : W.heap[xb]? = some (.cells (act23 b.sT b.sO b.v1 b.v2 (planWords b.P) 0 sec o inn v got e0) 49 (0, 0))) (r : Int) (g : Int → Int) (hd : Does (kPost b.P o v) m r g 10) :
    Calls Try.prog 11 #[.pointer (some ⟨b.bb, 0, none⟩), bound 12 (.pointer (some ⟨xb, 0, none⟩))] W fun e w2 => e = .returned (.bool true) ∧
      ∃ m', MemAt w2 b.mb b.wb m' ∧ rdM m' = g ∧ m'.length = m.length ∧ w2.heap[xb]? = some (.cells (act23 b.sT b.sO b.v1 b.v2 (planWords b.P) 0 sec o inn v got r) 49 (0, 0)) ∧ Left (fun k => k = xb) b.wb W w2 := by
  have l1 := hb.lts.1
  have l2 := hb.lts.2
  have hs := hc.size
  refine benchRun b.bb b.mb _ _ W (cell_of_block (hb.blkAt hc) 14) _ ?_
  refine (postRun b.P hb.nT hb.nO hb.rings b.F xb sec o inn v got e0 ho hv b.sT b.sO b.v1 b.v2 b.mb b.wb m W hm hblk (hb.planAt hc) ⟨by omega, by omega⟩ (fun k hk => ⟨by have := (hb.sepF k hk).1; omega, fun e => (hb.sepF k hk).2 (e ▸ hb.sep.2.2), by have := (hb.sepF k hk).1; omega⟩) r g 10 hd (by omega)).mono ?_
  rintro e w2 ⟨he, m', hm', hg, hl, hb2', hL⟩
  exact ⟨he, m', hm', hg, hl, hb2', hL⟩

/-- Between two benches, in the midst of a Move. -/
def MvJ (w0 : World) (X Y : Bn) (o i : Int) (f0 : Int → Int) (t0 : Int) (l0 : List Int) (u : Int) (W : World) (l k : List Int) : Prop :=
  ∃ n m1 m2, n ≤ l0.length ∧ l = l0.drop n ∧ MemAt W X.mb X.wb m1 ∧ rdM m1 = upd f0 (obAt X.P.thr.length o + 4) (t0 + (n : Nat)) ∧ m1.length = planWords X.P ∧ MemAt W Y.mb Y.wb m2 ∧ m2.length = planWords Y.P ∧ ORing Y.P (rdM m2) i u k ∧ ChgT (fun j => j = X.wb ∨ j = Y.wb) w0 W
/-- A Move from one bench's Out into another one's In. -/
theorem bn_move {X Y : Bn} (hX : BnAt T wB X) (hY : BnAt T wB Y) (hne : X.wb ≠ Y.wb) (o i : Int) (hko : isKB X.P o 6 = true) (hki : isKB Y.P i 7 = true) (okO : OOk X.P (planWords X.P) o) (okI : OOk Y.P (planWords Y.P) i)
    (W0 : World) (hc : ChgT T wB W0) (m1 m2 : Mem) (hm1 : MemAt W0 X.mb X.wb m1) (hl1 : m1.length = planWords X.P) (hm2 : MemAt W0 Y.mb Y.wb m2) (hl2 : m2.length = planWords Y.P) (t u : Int) (l k : List Int) (d : Nat) (hd : (objD Y.P i).size = d)
    (hr1 : ORing X.P (rdM m1) o t l) (hr2 : ORing Y.P (rdM m2) i u k) (ht : 0 ≤ t ∧ t + l.length ≤ 800000) (hu : 0 ≤ u ∧ u ≤ 800000) (hl64 : ∀ x ∈ l, I64 x) :
    Calls Try.prog 13 #[.pointer (some ⟨X.mb, 0, none⟩), .agg (planArr X.sT X.sO X.v1 X.v2 (planWords X.P)), .int .i64 o, .pointer (some ⟨Y.mb, 0, none⟩), .agg (planArr Y.sT Y.sO Y.v1 Y.v2 (planWords Y.P)), .int .i64 i] W0 fun e w' =>
      e = .returned (.tuple #[.int .i64 (putN l.length k.length d), .int .i64 (l.length - putN l.length k.length d)]) ∧
      ∃ m1' m2', MemAt w' X.mb X.wb m1' ∧ rdM m1' = upd (rdM m1) (obAt X.P.thr.length o + 4) (t + l.length) ∧ m1'.length = planWords X.P ∧ MemAt w' Y.mb Y.wb m2' ∧ m2'.length = planWords Y.P ∧ ORing Y.P (rdM m2') i u (k ++ l.take (d - k.length)) ∧ ChgT (fun j => j = X.wb ∨ j = Y.wb) W0 w' := by
  obtain ⟨b0, b1, b2⟩ := okO.bounds
  obtain ⟨c0, c1, c2⟩ := okI.bounds
  have xl := hX.lts
  have yl := hY.lts
  have n1 : X.mb ≠ X.wb := hm1.ne
  have n2 : Y.mb ≠ Y.wb := hm2.ne
  have n3 : X.mb ≠ Y.wb := fun e => hX.sep.2.1 (e ▸ hY.sep.2.2)
  have n4 : Y.mb ≠ X.wb := fun e => hY.sep.2.1 (e ▸ hX.sep.2.2)
  have hs0 := hc.size
  have hT2 : ∀ j, (j = X.wb ∨ j = Y.wb) → T j := fun j h => h.elim (fun e => e.symm ▸ hX.sep.2.2) (fun e => e.symm ▸ hY.sep.2.2)
  have hroom : ∀ W l' k', MvJ W0 X Y o i (rdM m1) t l u W l' k' → k'.length ≤ d := by
    rintro W l' k' ⟨n, a1, a2, g1, g2, g3, g4, g5, g6, g7, g8, g9⟩
    have := g8.room
    rw [hd] at this
    omega
  have h0 : MvJ W0 X Y o i (rdM m1) t l u W0 l k := ⟨0, m1, m2, Nat.zero_le _, rfl, hm1, by rw [show t + ((0 : Nat) : Int) = t by omega]; exact (upd_self hr1.taken).symm, hl1, hm2, hl2, hr2, ChgT.refl _ _⟩
  have hll : l.length ≤ 16 := by have := hr1.room; have := okO.c1; omega
  refine (move_any X.P Y.P X.sT X.sO X.v1 X.v2 Y.sT Y.sO Y.v1 Y.v2 X.F Y.F o i hko hki X.mb Y.mb d l k hll (hroom W0 l k h0) hl64 W0 (hX.planAt hc) (hY.planAt hc) (MvJ W0 X Y o i (rdM m1) t l u) ?_ h0 ?_ ?_).mono ?_
  · rintro W W' l' k' ⟨n, a1, a2, g1, g2, g3, g4, g5, g6, g7, g8, g9⟩ hb
    exact ⟨n, a1, a2, g1, g2, g3.kept (hb.block _ (lt_of_block g3.st)) (hb.block _ (lt_of_block g3.ws)), g4, g5, g6.kept (hb.block _ (lt_of_block g6.st)) (hb.block _ (lt_of_block g6.ws)), g7, g8, g9.later hb⟩
  · rintro W xb l' k' ⟨n, a1, a2, g1, g2, g3, g4, g5, g6, g7, g8, g9⟩ hxb hblk
    have hcW := hc.trans g9 hT2
    have hsW := g9.size
    have hR := RingAt.drop hr1 okO.c0 n g1
    rw [← g4, ← g2] at hR
    have key : ∀ (r : Int × Bool) (g : Int → Int) (c : Nat), Does (kRGet (obAt X.P.thr.length o + 4) (objD X.P o).size) a1 r g c → c ≤ 100 → r = (l'.headD 0, !l'.isEmpty) → (∃ n', n' ≤ l.length ∧ l'.tail = l.drop n' ∧ g = upd (rdM m1) (obAt X.P.thr.length o + 4) (t + (n' : Nat))) →
        Calls Try.prog 22 #[.pointer (some ⟨X.mb, 0, none⟩), bound 35 (.pointer (some ⟨xb, 0, none⟩)), .int .i64 100] W fun e w2 =>
          e = .returned (.bool true) ∧ MvJ W0 X Y o i (rdM m1) t l u w2 l'.tail k' ∧ w2.heap[xb]? = some (.cells (mvArr X.sT X.sO X.v1 X.v2 (planWords X.P) o (l'.headD 0) (!l'.isEmpty)) 107 (0, 0)) ∧ W.heap.size ≤ w2.heap.size ∧ ∀ j, W0.heap.size ≤ j → j < W.heap.size → j ≠ xb → w2.heap[j]? = W.heap[j]? := by
      rintro r g c hdo hcc hr ⟨n', q1, q2, q3⟩
      refine (moverGetRun X.P hX.nT hX.nO hX.rings X.F xb o 0 false hko X.sT X.sO X.v1 X.v2 X.mb X.wb a1 W g3 hblk (hX.planAt hcW) ⟨by omega, by omega⟩ (fun k hk => ⟨by have := (hX.sepF k hk).1; omega, fun e => (hX.sepF k hk).2 (e ▸ hX.sep.2.2), by have := (hX.sepF k hk).1; omega⟩) r g c hdo hcc).mono ?_
      rintro e w2 ⟨he, m', hm', hg, hl, hb2', hL⟩
      refine ⟨he, ⟨n', m', a2, q1, q2, hm', hg.trans q3, hl.trans g5, g6.kept (hL.block _ (lt_of_block g6.st) n4 (by omega)) (hL.block _ (lt_of_block g6.ws) (Ne.symm hne) (by omega)), g7, g8, g9.left hL hxb (.inl rfl)⟩, by rw [hb2', hr], hL.size, fun j h1 h2 h3 => hL.block j h2 (by omega) h3⟩
    cases l' with
    | nil =>
      exact key (0, false) (rdM a1) 2 (RingAt.get_no hR b0 b1) (by omega) rfl ⟨n, g1, g2, g4⟩
    | cons v l' =>
      have hlt : n < l.length := by
        rcases Nat.lt_or_ge n l.length with h | h
        · exact h
        · rw [List.drop_eq_nil_of_le h] at g2; cases g2
      have hd' := RingAt.get_upd hR okO.c0 okO.c1 b0 b1 (by rw [g5]; exact b2) (by omega) (by omega)
      refine key (v, true) _ 4 hd' (by omega) rfl ⟨n + 1, hlt, ?_, ?_⟩
      · rw [List.drop_eq_getElem_cons hlt] at g2
        exact (List.cons.inj g2).2
      · rw [g4, upd_upd, show t + (n : Int) + 1 = t + ((n + 1 : Nat) : Int) by omega]
  · rintro W xb l' k' v hv ⟨n, a1, a2, g1, g2, g3, g4, g5, g6, g7, g8, g9⟩ hxb hblk
    have hcW := hc.trans g9 hT2
    have hsW := g9.size
    have hkd := hroom W l' k' ⟨n, a1, a2, g1, g2, g3, g4, g5, g6, g7, g8, g9⟩
    have key : ∀ (r : Bool) (g : Int → Int) (c : Nat), Does (kRPut (obAt Y.P.thr.length i + 4) (objD Y.P i).size v) a2 r g c → c ≤ 100 → r = decide (k'.length < d) → (∀ m' : Mem, rdM m' = g → m'.length = a2.length → ORing Y.P (rdM m') i u (if k'.length < d then k' ++ [v] else k')) →
        Calls Try.prog 22 #[.pointer (some ⟨Y.mb, 0, none⟩), bound 36 (.pointer (some ⟨xb, 0, none⟩)), .int .i64 100] W fun e w2 =>
          e = .returned (.bool true) ∧ MvJ W0 X Y o i (rdM m1) t l u w2 l' (if k'.length < d then k' ++ [v] else k') ∧ w2.heap[xb]? = some (.cells (mvArr Y.sT Y.sO Y.v1 Y.v2 (planWords Y.P) i v (decide (k'.length < d))) 107 (0, 0)) ∧ W.heap.size ≤ w2.heap.size ∧ ∀ j, W0.heap.size ≤ j → j < W.heap.size → j ≠ xb → w2.heap[j]? = W.heap[j]? := by
      intro r g c hdo hcc hr hring
      refine (moverPutRun Y.P hY.nT hY.nO hY.rings Y.F xb i v false hv hki Y.sT Y.sO Y.v1 Y.v2 Y.mb Y.wb a2 W g6 hblk (hY.planAt hcW) ⟨by omega, by omega⟩ (fun k hk => ⟨by have := (hY.sepF k hk).1; omega, fun e => (hY.sepF k hk).2 (e ▸ hY.sep.2.2), by have := (hY.sepF k hk).1; omega⟩) r g c hdo hcc).mono ?_
      rintro e w2 ⟨he, m', hm', hg, hl, hb2', hL⟩
      exact ⟨he, ⟨n, a1, m', g1, g2, g3.kept (hL.block _ (lt_of_block g3.st) n3 (by omega)) (hL.block _ (lt_of_block g3.ws) hne (by omega)), g4, g5, hm', hl.trans g7, hring m' hg hl, g9.left hL hxb (.inr rfl)⟩, by rw [hb2', hr], hL.size, fun j h1 h2 h3 => hL.block j h2 (by omega) h3⟩
    have okI' : OOk Y.P a2.length i := by rw [g7]; exact okI
    by_cases hlt : k'.length < d
    · obtain ⟨g, hd', h1, h2⟩ := RingAt.put_yes g8 okI.c0 okI.c1 c0 c1 (by rw [g7]; exact c2) hu.1 (by omega) (by rw [hd]; omega) v
      refine key true g 4 hd' (by omega) (by simp [hlt]) (fun m' hg _ => ?_)
      rw [hg, if_pos hlt]; exact h1
    · have hd' := RingAt.put_no g8 okI.c0 okI.c1 c0 c1 hu.1 (by omega) (by rw [hd]; omega) v
      refine key false (rdM a2) 2 hd' (by omega) (by simp [hlt]) (fun m' hg _ => ?_)
      rw [hg, if_neg hlt]; exact g8
  · rintro e w' ⟨he, n, a1, a2, g1, g2, g3, g4, g5, g6, g7, g8, g9⟩
    have hn : n = l.length := by
      have := congrArg List.length g2
      simp only [List.length_nil, List.length_drop] at this
      omega
    subst hn
    exact ⟨he, a1, a2, g3, g4, g5, g6, g7, g8, g9⟩
end
end Go.Proofs.Ytpidlgmigmbbbaa
