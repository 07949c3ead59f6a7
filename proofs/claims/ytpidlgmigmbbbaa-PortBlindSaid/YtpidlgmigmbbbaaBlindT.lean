/-
  PortBlind: its benches as they were made; the fourth one filled; its ops in memory.
-/
import Derived.Test.YtpidlgmigmbbbaaBlindS
import Derived.Test.YtpidlgmigmbbbaaOpenB
set_option linter.unusedVariables false
set_option linter.unusedSimpArgs false
namespace Go.Proofs.Ytpidlgmigmbbbaa
open Go.RowKit

theorem encOp23s_length (l : List Op23) : (encOp23s l).length = l.length * 5 := by
  induction l with
  | nil => rfl
  | cons a l ih => simp only [encOp23s, List.flatMap_cons, List.length_append, List.length_cons] at ih ⊢; rw [ih]; simp [op23Cells]; omega
theorem encOp23s_get : ∀ (l : List Op23) (i : Nat) (x : Op23), l[i]? = some x → ∀ k, k < 5 → (encOp23s l)[i * 5 + k]? = (op23Cells x)[k]?
  | [], i, x, h, k, hk => by simp at h
  | a :: l, 0, x, h, k, hk => by
    simp at h; subst h
    simp only [encOp23s, List.flatMap_cons]
    rw [List.getElem?_append_left (by simp [op23Cells]; omega)]
    simp
  | a :: l, i + 1, x, h, k, hk => by
    have ih := encOp23s_get l i x (by simpa using h) k hk
    simp only [encOp23s, List.flatMap_cons] at ih ⊢
    rw [List.getElem?_append_right (by simp [op23Cells]; omega), ← ih]
    congr 1
    simp [op23Cells]; omega
theorem Op23sAt.slice {w : World} {F : Nat → Prop} {v : Value} {xs : List Op23} (h : Op23sAt w F v xs) : ∃ A c, v = .slice A xs.length c := by
  obtain ⟨_, A, c, e, _⟩ := h
  exact ⟨A, c, e⟩
theorem Op23sAt.cells {w : World} {F : Nat → Prop} {v : Value} {xs : List Op23} (h : Op23sAt w F v xs) (hn : 0 < xs.length) :
    ∃ b o c, v = .slice (some ⟨b, o, none⟩) xs.length c ∧ F b ∧ ∀ (i : Nat) (x : Op23), xs[i]? = some x → w.cell? ⟨b, o + i * 5, none⟩ = some (.int .u8 x.kind) ∧ w.cell? ⟨b, o + i * 5 + 4, none⟩ = some (.int .i64 x.v) := by
  obtain ⟨_, A, c, e, h⟩ := h
  obtain ⟨b, o, rfl, hF, hc⟩ := h hn
  refine ⟨b, o, c, e, hF, fun i x hx => ⟨?_, ?_⟩⟩
  · have := hc (i * 5 + 0) (.int .u8 x.kind) (by rw [encOp23s_get xs i x hx 0 (by omega)]; rfl)
    simpa using this
  · have := hc (i * 5 + 4) (.int .i64 x.v) (by rw [encOp23s_get xs i x hx 4 (by omega)]; rfl)
    rw [← Nat.add_assoc] at this
    exact this

theorem onePart_at (w : World) (s : Int) : PartAt ((w.alloc (.cells #[.int .i64 0, .int .u32 0, .bool false, .slice none 0 0] 29)).alloc (.cells #[.int .i64 6, .int .i64 s, .bool false] 32)) (fun _ => True)
    (.agg #[.slice (some ⟨w.heap.size, 0, none⟩) 1 1, .slice (some ⟨w.heap.size + 1, 0, none⟩) 1 1]) (onePart s) :=
  litPart_at _ w.heap.size (w.heap.size + 1) [0] [⟨6, s, false⟩] 1 1 rfl rfl _ _ ((Below.heap_alloc _ _ _ (by simp)).trans (heap_alloc_new w _)) rfl (two_second _ _ _) rfl
theorem twoPart_at (w : World) (s : Int) : PartAt ((w.alloc (.cells #[.int .i64 0, .int .u32 0, .bool false, .slice none 0 0] 29)).alloc (.cells #[.int .i64 7, .int .i64 s, .bool false] 32)) (fun _ => True)
    (.agg #[.slice (some ⟨w.heap.size, 0, none⟩) 1 1, .slice (some ⟨w.heap.size + 1, 0, none⟩) 1 1]) (twoPart s) :=
  litPart_at _ w.heap.size (w.heap.size + 1) [0] [⟨7, s, false⟩] 1 1 rfl rfl _ _ ((Below.heap_alloc _ _ _ (by simp)).trans (heap_alloc_new w _)) rfl (two_second _ _ _) rfl
theorem threePart_at (w : World) (s : Int) : PartAt ((w.alloc (.cells #[.int .i64 0, .int .u32 0, .bool false, .slice none 0 0] 29)).alloc (.cells #[.int .i64 7, .int .i64 s, .bool false, .int .i64 6, .int .i64 16, .bool false] 32)) (fun _ => True)
    (.agg #[.slice (some ⟨w.heap.size, 0, none⟩) 1 1, .slice (some ⟨w.heap.size + 1, 0, none⟩) 2 2]) (threePart s) :=
  litPart_at _ w.heap.size (w.heap.size + 1) [0] [⟨7, s, false⟩, ⟨6, 16, false⟩] 1 2 rfl rfl _ _ ((Below.heap_alloc _ _ _ (by simp)).trans (heap_alloc_new w _)) rfl (two_second _ _ _) rfl

/-- The fourth bench behind some posts. -/
def FillS (w4 : World) (mb wb : Nat) (P : PartD) (W : World) (j : Nat) : Prop := ∃ p l, p ≤ (j : Int) ∧ l.length ≤ 16 ∧ (∀ x ∈ l, I64 x) ∧ PoS w4 mb wb P 1 0 W p l 0 []
theorem two_new (w : World) (a b : Obj) : ((w.alloc a).alloc b).drew.heap[w.heap.size]? = some a ∧ ((w.alloc a).alloc b).drew.heap[w.heap.size + 1]? = some b ∧ w.heap.size < ((w.alloc a).alloc b).drew.heap.size ∧ w.heap.size + 1 < ((w.alloc a).alloc b).drew.heap.size ∧ Below w.heap.size w ((w.alloc a).alloc b).drew :=
  ⟨(Below.heap_alloc _ _ _ (by simp)).trans (heap_alloc_new w _), two_second _ _ _, by show _ < ((w.alloc a).alloc b).heap.size; simp; omega, by show _ < ((w.alloc a).alloc b).heap.size; simp, (((Below.refl _ _).alloc (Nat.le_refl _) _).alloc (by simp) _).drew⟩
/-- A partition in a box. -/
def BoxP (w : World) (b : Nat) (P : PartD) : Prop := ∃ v1 v2, w.heap[b]? = some (.cells #[v1, v2] 35 (0, 0)) ∧ PartAt w (fun _ => True) (.agg #[v1, v2]) P
theorem BoxP.later {w w' : World} {b : Nat} {P : PartD} (h : BoxP w b P) (hb : Below w.heap.size w w') : BoxP w' b P := by
  obtain ⟨v1, v2, h1, h2⟩ := h
  exact ⟨v1, v2, (hb.block _ (lt_of_block h1)).trans h1, h2.kept (fun k hk _ => hb.block k hk)⟩
theorem boxP_new {w : World} {v1 v2 : Value} {P : PartD} (h : PartAt w (fun _ => True) (.agg #[v1, v2]) P) : BoxP (w.alloc (.cells #[v1, v2] 35)) w.heap.size P :=
  ⟨v1, v2, heap_alloc_new _ _, h.kept (fun k hk _ => Below.heap_alloc _ _ _ hk)⟩
theorem below_alloc (w : World) (o : Obj) : Below w.heap.size w (w.alloc o) := (Below.refl _ _).alloc (Nat.le_refl _) _
theorem blind_parts (w : World) (s0 s1 s2 : Int) (W : World) (hW : W = ((((((((w.alloc (.cells #[.int .i64 0, .int .u32 0, .bool false, .slice none 0 0] 29)).alloc (.cells #[.int .i64 6, .int .i64 s0, .bool false] 32)).alloc (.cells #[.slice (some ⟨w.heap.size, 0, none⟩) 1 1, .slice (some ⟨w.heap.size + 1, 0, none⟩) 1 1] 35)).alloc
      (.cells #[.int .i64 0, .int .u32 0, .bool false, .slice none 0 0] 29)).alloc (.cells #[.int .i64 7, .int .i64 s1, .bool false] 32)).alloc (.cells #[.slice (some ⟨w.heap.size + 1 + 1 + 1, 0, none⟩) 1 1, .slice (some ⟨w.heap.size + 1 + 1 + 1 + 1, 0, none⟩) 1 1] 35)).alloc
      (.cells #[.int .i64 0, .int .u32 0, .bool false, .slice none 0 0] 29)).alloc (.cells #[.int .i64 7, .int .i64 s2, .bool false, .int .i64 6, .int .i64 16, .bool false] 32)).alloc (.cells #[.slice (some ⟨w.heap.size + 1 + 1 + 1 + 1 + 1 + 1, 0, none⟩) 1 1, .slice (some ⟨w.heap.size + 1 + 1 + 1 + 1 + 1 + 1 + 1, 0, none⟩) 2 2] 35)) :
    BoxP W (w.heap.size + 1 + 1) (onePart s0) ∧ BoxP W (w.heap.size + 1 + 1 + 1 + 1 + 1) (twoPart s1) ∧ BoxP W (w.heap.size + 1 + 1 + 1 + 1 + 1 + 1 + 1 + 1) (threePart s2) ∧ Below w.heap.size w W := by
  have h1 := boxP_new (onePart_at w s0)
  generalize hA : ((w.alloc (.cells #[.int .i64 0, .int .u32 0, .bool false, .slice none 0 0] 29)).alloc (.cells #[.int .i64 6, .int .i64 s0, .bool false] 32)).alloc (.cells #[.slice (some ⟨w.heap.size, 0, none⟩) 1 1, .slice (some ⟨w.heap.size + 1, 0, none⟩) 1 1] 35) = A at *
  have sA : A.heap.size = w.heap.size + 1 + 1 + 1 := by rw [← hA]; simp
  have bA : Below w.heap.size w A := by rw [← hA]; exact (((Below.refl _ _).alloc (Nat.le_refl _) _).alloc (by simp) _).alloc (by simp; omega) _
  have h2 := boxP_new (twoPart_at A s1)
  rw [sA] at h2
  generalize hB : ((A.alloc (.cells #[.int .i64 0, .int .u32 0, .bool false, .slice none 0 0] 29)).alloc (.cells #[.int .i64 7, .int .i64 s1, .bool false] 32)).alloc (.cells #[.slice (some ⟨w.heap.size + 1 + 1 + 1, 0, none⟩) 1 1, .slice (some ⟨w.heap.size + 1 + 1 + 1 + 1, 0, none⟩) 1 1] 35) = B at *
  have sB : B.heap.size = A.heap.size + 1 + 1 + 1 := by rw [← hB]; simp
  have bB : Below A.heap.size A B := by rw [← hB]; exact (((Below.refl _ _).alloc (Nat.le_refl _) _).alloc (by simp) _).alloc (by simp; omega) _
  have h3 := boxP_new (threePart_at B s2)
  rw [sB, sA] at h3
  rw [← hW] at h3
  have bC : Below B.heap.size B W := by rw [hW]; exact (((Below.refl _ _).alloc (Nat.le_refl _) _).alloc (by simp) _).alloc (by simp; omega) _
  have e1 : ((w.alloc (.cells #[.int .i64 0, .int .u32 0, .bool false, .slice none 0 0] 29)).alloc (.cells #[.int .i64 6, .int .i64 s0, .bool false] 32)).heap.size = w.heap.size + 1 + 1 := by simp
  have e2 : ((A.alloc (.cells #[.int .i64 0, .int .u32 0, .bool false, .slice none 0 0] 29)).alloc (.cells #[.int .i64 7, .int .i64 s1, .bool false] 32)).heap.size = w.heap.size + 1 + 1 + 1 + 1 + 1 := by simp [sA]
  have e3 : ((B.alloc (.cells #[.int .i64 0, .int .u32 0, .bool false, .slice none 0 0] 29)).alloc (.cells #[.int .i64 7, .int .i64 s2, .bool false, .int .i64 6, .int .i64 16, .bool false] 32)).heap.size = w.heap.size + 1 + 1 + 1 + 1 + 1 + 1 + 1 + 1 := by simp [sB, sA]
  rw [e1] at h1
  rw [e2] at h2
  rw [e3] at h3
  exact ⟨(h1.later bB).later bC, h2.later bC, h3, bA.trans ((bB.mono (by omega)).trans (bC.mono (by omega)))⟩

/-- A bench, made between two sizes of memory. -/
def Made (B E : Nat) (P : PartD) (w : World) (A : Bn) : Prop :=
  A.P = P ∧ ∃ wA S M, BenchAt wA B A.F S A.bb A.mb A.wb A.md P A.sT A.sO A.v1 A.v2 (bootM P) M ∧ Below wA.heap.size wA w ∧ wA.heap.size ≤ E
theorem Made.later {B E : Nat} {P : PartD} {w w' : World} {A : Bn} (h : Made B E P w A) (hb : Below w.heap.size w w') : Made B E P w' A := by
  obtain ⟨e, wA, S, M, h1, h2, h3⟩ := h
  exact ⟨e, wA, S, M, h1, h2.trans (hb.mono h2.size), h3⟩
theorem newBench_made (P : PartD) (pv : Value) (F0 : Nat → Prop) (hok : PartOk P) (hw : partWrong P = 0) (w : World) (h0 : PartAt w F0 pv P) :
    Calls Try.prog 10 #[pv] w fun e w' => ∃ A : Bn, e = .returned (.pointer (some ⟨A.bb, 0, none⟩)) ∧ Made w.heap.size w'.heap.size P w' A ∧ Below w.heap.size w w' := by
  refine (newBench_yes P pv F0 hok hw w h0).mono ?_
  rintro e w' ⟨F, S, bb, mb, wb, md, sT, sO, v1, v2, he, hB, hb⟩
  exact ⟨⟨F, bb, mb, wb, md, P, sT, sO, v1, v2⟩, he, ⟨rfl, w', S, _, hB, Below.refl _ _, Nat.le_refl _⟩, hb⟩
/-- The four benches, made one behind the other. -/
theorem blind_four {w4 : World} {A B C D : Bn} {BA EA BB EB BC EC BD ED : Nat} {s0 s1 s2 : Int} (z0 : 1 ≤ s0 ∧ s0 ≤ 16) (z1 : 1 ≤ s1 ∧ s1 ≤ 16) (z2 : 1 ≤ s2 ∧ s2 ≤ 16)
    (hA : Made BA EA (onePart s0) w4 A) (hB : Made BB EB (onePart s0) w4 B) (nB : EA ≤ BB) (hC : Made BC EC (twoPart s1) w4 C) (nC : EB ≤ BC) (hD : Made BD ED (threePart s2) w4 D) (nD : EC ≤ BD) :
    ∃ T : Nat → Prop, (∀ k, T k → BA ≤ k) ∧ Four T w4 A B C D s0 s1 s2 ∧
      PoB w4 D.F D.bb D.mb D.wb D.md (threePart s2) D.sT D.sO D.v1 D.v2 1 0 ∧ FillS w4 D.mb D.wb (threePart s2) w4 0 ∧ MemAt w4 A.mb A.wb (bootM (onePart s0)) ∧ MemAt w4 B.mb B.wb (bootM (onePart s0)) ∧ MemAt w4 C.mb C.wb (bootM (twoPart s1)) := by
  obtain ⟨eA, wA, SA, MA, hA, kA, jA⟩ := hA
  obtain ⟨eB, wB, SB, MB, hB, kB, jB⟩ := hB
  obtain ⟨eC, wC, SC, MC, hC, kC, jC⟩ := hC
  obtain ⟨eD, wD, SD, MD', hD, kD, jD⟩ := hD
  obtain ⟨FA, ab, am, aw, ad, PA, aT, aO, a1, a2⟩ := A
  obtain ⟨FB, bb, bm, bw, bd, PB, bT, bO, b1, b2⟩ := B
  obtain ⟨FC, cb, cm, cw, cd, PC, cT, cO, c1, c2⟩ := C
  obtain ⟨FD, db, dm, dw, dd, PD, dT, dO, d1, d2⟩ := D
  simp only at *
  subst eA eB eC eD
  have lA := lt_of_block hA.mem.ws
  have lB := lt_of_block hB.mem.ws
  have lC := lt_of_block hC.mem.ws
  have lD := lt_of_block hD.mem.ws
  have iA := hA.base.2.2
  have iB := hB.base.2.2
  have iC := hC.base.2.2
  have iD := hD.base.2.2
  obtain ⟨q1, m1⟩ := bn_of (T := fun k => k = aw ∨ k = bw ∨ k = cw ∨ k = dw) hA kA (fun k hk h1 h2 => by omega) (.inl rfl) (onePart_right s0 z0.1 z0.2)
  obtain ⟨q2, m2⟩ := bn_of (T := fun k => k = aw ∨ k = bw ∨ k = cw ∨ k = dw) hB kB (fun k hk h1 h2 => by omega) (.inr (.inl rfl)) (onePart_right s0 z0.1 z0.2)
  obtain ⟨q3, m3⟩ := bn_of (T := fun k => k = aw ∨ k = bw ∨ k = cw ∨ k = dw) hC kC (fun k hk h1 h2 => by omega) (.inr (.inr (.inl rfl))) (twoPart_right s1 z1.1 z1.2)
  obtain ⟨q4, m4⟩ := bn_of (T := fun k => k = aw ∨ k = bw ∨ k = cw ∨ k = dw) hD kD (fun k hk h1 h2 => by omega) (.inr (.inr (.inr rfl))) (threePart_right s2 z2.1 z2.2)
  obtain ⟨r6, r1, r8, rp, ro⟩ := partRight (threePart_right s2 z2.1 z2.2)
  have hml := bootM_length (threePart s2)
  refine ⟨_, fun k hk => by omega, ⟨q1, q2, q3, q4, rfl, rfl, rfl, rfl, ⟨?_, ?_, ?_, ?_, ?_, ?_⟩, z0, z1, z2⟩, ⟨q4.blk, q4.plan, q4.lts.1, q4.lts.2, ⟨hD.sep.2, hD.mem.ne⟩, fun k hk => ⟨(q4.sepF k hk).1, fun e => (q4.sepF k hk).2 (.inr (.inr (.inr e)))⟩, threePart_O z2.1 z2.2, threePart_I z2.1 z2.2, by rfl, by rfl, by omega, q4.rings⟩, ⟨0, [], by omega, by simp, by simp, bootM (threePart s2), m4, hml, ?_, ?_, by simp, by omega, ChgO.refl _ _⟩, m1, m2, m3⟩
  · show aw ≠ bw; omega
  · show aw ≠ cw; omega
  · show aw ≠ dw; omega
  · show bw ≠ cw; omega
  · show bw ≠ dw; omega
  · show cw ≠ dw; omega
  · exact boot_ring rp (by rw [hml]; exact threePart_O z2.1 z2.2) (by show (6 : Int) ≠ 4; omega)
  · exact boot_ring rp (by rw [hml]; exact threePart_I z2.1 z2.2) (by show (7 : Int) ≠ 4; omega)

section
variable {w4 : World} {F : Nat → Prop} {bb mb wb md : Nat} {s2 : Int} {sT sO v1 v2 : Value}
theorem FillS.chg {W : World} {j : Nat} (h : FillS w4 mb wb (threePart s2) W j) : ChgO (some wb) w4 W := by
  obtain ⟨p, l, _, _, _, h⟩ := h
  exact h.choose_spec.chg
theorem FillS.later {W W' : World} {j : Nat} (h : FillS w4 mb wb (threePart s2) W j) (hb : Below W.heap.size W W') : FillS w4 mb wb (threePart s2) W' j := by
  obtain ⟨p, l, h1, h2, h3, h⟩ := h
  exact ⟨p, l, h1, h2, h3, h.later hb⟩
variable (b : PoB w4 F bb mb wb md (threePart s2) sT sO v1 v2 1 0)
include b
theorem fill_post (W : World) (j : Nat) (hj : j ≤ 1000) (xb : Nat) (sec : Bool) (inn got e0 : Int) (hxb : w4.heap.size ≤ xb) (h : FillS w4 mb wb (threePart s2) W j)
    (hblk : W.heap[xb]? = some (.cells (act23 sT sO v1 v2 (planWords (threePart s2)) 0 sec 1 inn 9 got e0) 49 (0, 0))) :
    Calls Try.prog 11 #[.pointer (some ⟨bb, 0, none⟩), bound 12 (.pointer (some ⟨xb, 0, none⟩))] W fun e w2 => e = .returned (.bool true) ∧ FillS w4 mb wb (threePart s2) w2 (j + 1) := by
  obtain ⟨p, l, h1, h2, h3, h⟩ := h
  have hsz : (objD (threePart s2) 1).size = 16 := rfl
  refine (po_post b p 0 l [] (by omega) (by rw [hsz]; omega) W xb sec inn 9 got e0 (i64_small (by omega) (by omega)) (i64_small (by omega) (by omega)) hxb h hblk).mono ?_
  rintro e w2 ⟨he, hS, _⟩
  refine ⟨he, ?_⟩
  rw [hsz] at hS
  by_cases hlt : (l.length : Int) < 16
  · rw [if_pos hlt, if_pos hlt] at hS
    refine ⟨p + 1, l ++ [9], by omega, by simp; omega, fun x hx => ?_, hS⟩
    rcases List.mem_append.1 hx with e | e
    · exact h3 x e
    · simp at e; subst e; exact i64_small (by omega) (by omega)
  · rw [if_neg hlt, if_neg hlt] at hS
    exact ⟨p, l, by omega, h2, h3, hS⟩
theorem fill_move (W : World) (j : Nat) (hz : 1 ≤ s2 ∧ s2 ≤ 16) (h : FillS w4 mb wb (threePart s2) W j) :
    Calls Try.prog 13 #[.pointer (some ⟨mb, 0, none⟩), .agg (planArr sT sO v1 v2 (planWords (threePart s2))), .int .i64 1, .pointer (some ⟨mb, 0, none⟩), .agg (planArr sT sO v1 v2 (planWords (threePart s2))), .int .i64 0] W fun e w' =>
      ∃ x y p k, e = .returned (.tuple #[.int .i64 x, .int .i64 y]) ∧ PoS w4 mb wb (threePart s2) 1 0 w' p [] 0 k := by
  obtain ⟨p, l, h1, h2, h3, h⟩ := h
  refine (po_move b p 0 l [] s2.toNat (by show s2 = _; omega) h2 h3 W h.choose_spec.chg.size h).mono ?_
  rintro e w2 ⟨he, hS⟩
  exact ⟨_, _, p, _, he, hS⟩
end
/-- What the loop begins with. -/
theorem bl_begin {w4 : World} {A B C D : Bn} {T : Nat → Prop} {s0 s1 s2 : Int} (hF : Four T w4 A B C D s0 s1 s2) (hA : MemAt w4 A.mb A.wb (bootM (onePart s0))) (hB : MemAt w4 B.mb B.wb (bootM (onePart s0))) (hC : MemAt w4 C.mb C.wb (bootM (twoPart s1))) {W : World} {p : Int} {k : List Int}
    (hS : PoS w4 D.mb D.wb (threePart s2) 1 0 W p [] 0 k) : ∃ ma mc md, BlS T w4 A B C D W 0 [] [] k ma ma mc md := by
  obtain ⟨m, hS⟩ := hS
  obtain ⟨n1, n2, n3, n4, n5, n6⟩ := hF.ne
  have hTD := hF.d.sep.2.2
  have keep : ∀ {mb wb : Nat} {m0 : Mem}, MemAt w4 mb wb m0 → mb ≠ D.wb → wb ≠ D.wb → MemAt W mb wb m0 := fun h h1 h2 =>
    h.kept (hS.chg.block _ (lt_of_block h.st) (fun e => h1 (Option.some.inj e).symm)) (hS.chg.block _ (lt_of_block h.ws) (fun e => h2 (Option.some.inj e).symm))
  obtain ⟨r6, r1, r8, rp, ro⟩ := partRight (onePart_right s0 hF.z0.1 hF.z0.2)
  obtain ⟨t6, t1, t8, tp, tq⟩ := partRight (twoPart_right s1 hF.z1.1 hF.z1.2)
  have l1 := bootM_length (onePart s0)
  have l2 := bootM_length (twoPart s1)
  refine ⟨bootM (onePart s0), bootM (twoPart s1), m, keep hA (fun e => hF.a.sep.2.1 (e ▸ hTD)) n3, keep hB (fun e => hF.b.sep.2.1 (e ▸ hTD)) n5, keep hC (fun e => hF.c.sep.2.1 (e ▸ hTD)) n6, hS.mem, by rw [hF.pa, l1], by rw [hF.pa, l1], by rw [hF.pc, l2], by rw [hF.pd]; exact hS.len, ?_, ?_, by rw [hF.pd]; exact hS.inn, by simp, by simp, ?_⟩
  · rw [hF.pa]
    exact boot_ring rp (by rw [l1]; exact onePart_O hF.z0.1 hF.z0.2) (by show (6 : Int) ≠ 4; omega)
  · rw [hF.pc]
    exact boot_ring tp (by rw [l2]; exact twoPart_I hF.z1.1 hF.z1.2) (by show (7 : Int) ≠ 4; omega)
  · exact ⟨hS.chg.os, hS.chg.tape, hS.chg.output, hS.chg.size, fun j hj hT => hS.chg.block j hj (fun e => hT (by cases e; exact hTD))⟩
end Go.Proofs.Ytpidlgmigmbbbaa
