/-
  A bench with an Out and an In: what posts, fetches and Moves do to it.
  A bench with an Out and an In: an act's run.
-/
import Derived.Test.YtpidlgmigmbbbaaBench
import Derived.Test.YtpidlgmigmbbbaaMove
import Derived.Test.YtpidlgmigmbbbaaAct23
import Derived.Test.YtpidlgmigmbbbaaPortLaw
set_option linter.unusedVariables false
set_option linter.unusedSimpArgs false
namespace Go.Proofs.Ytpidlgmigmbbbaa
open Go.RowKit

/-- What stands of a bench 'b' as it was made (at the world 'wB'). -/
structure PoB (wB : World) (F : Nat → Prop) (bb mb wb md : Nat) (P : PartD) (sT sO v1 v2 : Value) (o i : Int) : Prop where
  blk : wB.heap[bb]? = some (.cells (benchArr sT sO v1 v2 (planWords P) mb md) 44 (0, 0))
  plan : PlanVal wB F (.agg (planArr sT sO v1 v2 (planWords P))) P
  mbl : mb < wB.heap.size
  wbl : wb < wB.heap.size
  sep : bb ≠ wb ∧ mb ≠ wb
  sepF : ∀ k, F k → k < wB.heap.size ∧ k ≠ wb
  okO : OOk P (planWords P) o
  okI : OOk P (planWords P) i
  isO : isKB P o 6 = true
  isI : isKB P i 7 = true
  ne : o ≠ i
  rings : RingOk P
/-- Its state: 'p' words were posted, 'l' are in the Out; 't' were fetched, 'k' are in the In. -/
structure PoSt (wB : World) (mb wb : Nat) (P : PartD) (o i : Int) (W : World) (p : Int) (l : List Int) (t : Int) (k : List Int) (m : Mem) : Prop where
  mem : MemAt W mb wb m
  len : m.length = planWords P
  out : ORing P (rdM m) o (p - l.length) l
  inn : ORing P (rdM m) i t k
  pl : l.length ≤ p ∧ p ≤ 800000
  t0 : 0 ≤ t ∧ t ≤ 800000
  chg : ChgO (some wb) wB W
def PoS (wB : World) (mb wb : Nat) (P : PartD) (o i : Int) (W : World) (p : Int) (l : List Int) (t : Int) (k : List Int) : Prop := ∃ m, PoSt wB mb wb P o i W p l t k m
section
variable {wB : World} {F : Nat → Prop} {bb mb wb md : Nat} {P : PartD} {sT sO v1 v2 : Value} {o i : Int}
theorem ChgO.planAt {W : World} (h : ChgO (some wb) wB W) (b : PoB wB F bb mb wb md P sT sO v1 v2 o i) : PlanVal W F (.agg (planArr sT sO v1 v2 (planWords P))) P :=
  b.plan.kept (fun k hk hF => h.block k hk (fun e => (b.sepF k hF).2 (Option.some.inj e).symm))
theorem ChgO.blkAt {W : World} (h : ChgO (some wb) wB W) (b : PoB wB F bb mb wb md P sT sO v1 v2 o i) : W.heap[bb]? = some (.cells (benchArr sT sO v1 v2 (planWords P) mb md) 44 (0, 0)) :=
  (h.block bb (lt_of_block b.blk) (fun e => b.sep.1 (Option.some.inj e).symm)).trans b.blk
theorem ChgO.left {W W' : World} {xb : Nat} (h : ChgO (some wb) wB W) (hL : Left (fun k => k = xb) wb W W') (hx : wB.heap.size ≤ xb) : ChgO (some wb) wB W' :=
  ⟨hL.os.trans h.os, hL.tape.trans h.tape, hL.output.trans h.output, Nat.le_trans h.size hL.size, fun j hj hne => (hL.block j (Nat.lt_of_lt_of_le hj h.size) (fun e => hne (by rw [e])) (by omega)).trans (h.block j hj hne)⟩
theorem PoS.later {W W' : World} {p t : Int} {l k : List Int} (h : PoS wB mb wb P o i W p l t k) (hb : Below W.heap.size W W') : PoS wB mb wb P o i W' p l t k := by
  obtain ⟨m, h⟩ := h
  have l1 := lt_of_block h.mem.st
  have l2 := lt_of_block h.mem.ws
  exact ⟨m, h.mem.kept (hb.block _ l1) (hb.block _ l2), h.len, h.out, h.inn, h.pl, h.t0, ⟨hb.os.trans h.chg.os, hb.tape.trans h.chg.tape, hb.output.trans h.chg.output, Nat.le_trans h.chg.size hb.size, fun j hj hne => (hb.block j (Nat.lt_of_lt_of_le hj h.chg.size)).trans (h.chg.block j hj hne)⟩⟩
variable (b : PoB wB F bb mb wb md P sT sO v1 v2 o i)
include b
theorem po_get (B : Nat) (hB : wB.heap.size ≤ B) (p t : Int) : MvGets B mb (mvArr sT sO v1 v2 (planWords P) o) (fun W l k => PoS wB mb wb P o i W p l t k) := by
  intro W xb l k ⟨m, hJ⟩ hxb hblk
  have hbl := b.mbl
  have hwl := b.wbl
  have hPl := hJ.chg.planAt b
  have okO : OOk P m.length o := by rw [hJ.len]; exact b.okO
  have okI : OOk P m.length i := by rw [hJ.len]; exact b.okI
  have hxl := lt_of_block hblk
  have hcs := hJ.chg.size
  obtain ⟨b0, b1, b2⟩ := okO.bounds
  have key : ∀ (r : Int × Bool) (g : Int → Int) (c : Nat), Does (kRGet (obAt P.thr.length o + 4) (objD P o).size) m r g c → c ≤ 100 → r = (l.headD 0, !l.isEmpty) → (∀ m' : Mem, rdM m' = g → m'.length = m.length → ORing P (rdM m') o (p - l.tail.length) l.tail ∧ ORing P (rdM m') i t k) →
      Calls Try.prog 22 #[.pointer (some ⟨mb, 0, none⟩), bound 35 (.pointer (some ⟨xb, 0, none⟩)), .int .i64 100] W fun e w2 =>
        e = .returned (.bool true) ∧ PoS wB mb wb P o i w2 p l.tail t k ∧ w2.heap[xb]? = some (.cells (mvArr sT sO v1 v2 (planWords P) o (l.headD 0) (!l.isEmpty)) 107 (0, 0)) ∧ W.heap.size ≤ w2.heap.size ∧ ∀ j, B ≤ j → j < W.heap.size → j ≠ xb → w2.heap[j]? = W.heap[j]? := by
    intro r g c hd hc hr hring
    refine (moverGetRun P b.okO.nT b.okO.nO b.rings F xb o 0 false b.isO sT sO v1 v2 mb wb m W hJ.mem hblk hPl ⟨by omega, by omega⟩ (fun k hk => ⟨by have := (b.sepF k hk).1; omega, (b.sepF k hk).2, by have := (b.sepF k hk).1; omega⟩) r g c hd hc).mono ?_
    rintro e w2 ⟨he, m', hm', hg, hl, hb2', hL⟩
    obtain ⟨q1, q2⟩ := hring m' hg hl
    refine ⟨he, ⟨m', hm', hl.trans hJ.len, q1, q2, ⟨by have := hJ.pl.1; simp only [List.length_tail]; omega, hJ.pl.2⟩, hJ.t0, hJ.chg.left hL (by omega)⟩, by rw [hb2', hr], hL.size, fun j h1 h2 h3 => hL.block j h2 (by omega) h3⟩
  cases l with
  | nil =>
    refine key (0, false) (rdM m) 2 (RingAt.get_no hJ.out b0 b1) (by omega) rfl (fun m' hg _ => ?_)
    rw [hg]; exact ⟨hJ.out, hJ.inn⟩
  | cons v l =>
    obtain ⟨g, hd, h1, h2⟩ := RingAt.get_yes hJ.out okO.c0 okO.c1 b0 b1 b2 (by have := hJ.pl.1; omega) (by have := hJ.pl.2; simp only [List.length_cons]; omega)
    refine key (v, true) g 4 hd (by omega) rfl (fun m' hg _ => ?_)
    rw [hg]
    refine ⟨?_, ORing.other hJ.inn okI b.ne okO h2⟩
    have e : p - ((v :: l).length : Int) + 1 = p - ((v :: l).tail.length : Int) := by simp; omega
    rw [← e]; exact h1
theorem po_put (B : Nat) (hB : wB.heap.size ≤ B) (p t : Int) (d : Nat) (hd : (objD P i).size = d) (hk : ∀ W l k, PoS wB mb wb P o i W p l t k → k.length ≤ d) : MvPuts B mb d (mvArr sT sO v1 v2 (planWords P) i) (fun W l k => PoS wB mb wb P o i W p l t k) := by
  intro W xb l k v hv ⟨m, hJ⟩ hxb hblk
  have hkd := hk W l k ⟨m, hJ⟩
  have hbl := b.mbl
  have hwl := b.wbl
  have hPl := hJ.chg.planAt b
  have okO : OOk P m.length o := by rw [hJ.len]; exact b.okO
  have okI : OOk P m.length i := by rw [hJ.len]; exact b.okI
  have hxl := lt_of_block hblk
  have hcs := hJ.chg.size
  obtain ⟨b0, b1, b2⟩ := okI.bounds
  have key : ∀ (r : Bool) (g : Int → Int) (c : Nat), Does (kRPut (obAt P.thr.length i + 4) (objD P i).size v) m r g c → c ≤ 100 → r = decide (k.length < d) → (∀ m' : Mem, rdM m' = g → m'.length = m.length → ORing P (rdM m') o (p - l.length) l ∧ ORing P (rdM m') i t (if k.length < d then k ++ [v] else k)) →
      Calls Try.prog 22 #[.pointer (some ⟨mb, 0, none⟩), bound 36 (.pointer (some ⟨xb, 0, none⟩)), .int .i64 100] W fun e w2 =>
        e = .returned (.bool true) ∧ PoS wB mb wb P o i w2 p l t (if k.length < d then k ++ [v] else k) ∧ w2.heap[xb]? = some (.cells (mvArr sT sO v1 v2 (planWords P) i v (decide (k.length < d))) 107 (0, 0)) ∧ W.heap.size ≤ w2.heap.size ∧ ∀ j, B ≤ j → j < W.heap.size → j ≠ xb → w2.heap[j]? = W.heap[j]? := by
    intro r g c hd hc hr hring
    refine (moverPutRun P b.okO.nT b.okO.nO b.rings F xb i v false hv b.isI sT sO v1 v2 mb wb m W hJ.mem hblk hPl ⟨by omega, by omega⟩ (fun k hk => ⟨by have := (b.sepF k hk).1; omega, (b.sepF k hk).2, by have := (b.sepF k hk).1; omega⟩) r g c hd hc).mono ?_
    rintro e w2 ⟨he, m', hm', hg, hl, hb2', hL⟩
    obtain ⟨q1, q2⟩ := hring m' hg hl
    exact ⟨he, ⟨m', hm', hl.trans hJ.len, q1, q2, hJ.pl, hJ.t0, hJ.chg.left hL (by omega)⟩, by rw [hb2', hr], hL.size, fun j h1 h2 h3 => hL.block j h2 (by omega) h3⟩
  by_cases hlt : k.length < d
  · obtain ⟨g, hd', h1, h2⟩ := RingAt.put_yes hJ.inn okI.c0 okI.c1 b0 b1 b2 hJ.t0.1 (by have := hJ.t0.2; omega) (by rw [hd]; omega) v
    refine key true g 4 hd' (by omega) (by simp [hlt]) (fun m' hg _ => ?_)
    rw [hg, if_pos hlt]
    exact ⟨ORing.other hJ.out okO (Ne.symm b.ne) okI h2, h1⟩
  · have hd' := RingAt.put_no hJ.inn okI.c0 okI.c1 b0 b1 hJ.t0.1 (by have := hJ.t0.2; omega) (by rw [hd]; omega) v
    refine key false (rdM m) 2 hd' (by omega) (by simp [hlt]) (fun m' hg _ => ?_)
    rw [hg, if_neg hlt]
    exact ⟨hJ.out, hJ.inn⟩
end
end Go.Proofs.Ytpidlgmigmbbbaa
namespace Go.Proofs.Ytpidlgmigmbbbaa
open Go.RowKit

/-- What an act's run leaves. -/
def ActRan (wB : World) (xb : Nat) (W : World) (St : World → Prop) (cs : Array Value) (w2 : World) : Prop :=
  St w2 ∧ w2.heap[xb]? = some (.cells cs 49 (0, 0)) ∧ W.heap.size ≤ w2.heap.size ∧ ∀ j, wB.heap.size ≤ j → j < W.heap.size → j ≠ xb → w2.heap[j]? = W.heap[j]?
section
variable {wB : World} {F : Nat → Prop} {bb mb wb md : Nat} {P : PartD} {sT sO v1 v2 : Value} {o i : Int}
variable (b : PoB wB F bb mb wb md P sT sO v1 v2 o i)
include b
theorem po_post (p t : Int) (l k : List Int) (hp : p + 1 ≤ 800000) (hc : (l.length : Int) ≤ (objD P o).size) (W : World) (xb : Nat) (sec : Bool) (inn v got e0 : Int) (ho : I64 o) (hv : I64 v) (hxb : wB.heap.size ≤ xb) (hJ : PoS wB mb wb P o i W p l t k)
    (hblk : W.heap[xb]? = some (.cells (act23 sT sO v1 v2 (planWords P) 0 sec o inn v got e0) 49 (0, 0))) :
    Calls Try.prog 11 #[.pointer (some ⟨bb, 0, none⟩), bound 12 (.pointer (some ⟨xb, 0, none⟩))] W fun e w2 => e = .returned (.bool true) ∧
      ActRan wB xb W (fun w2 => PoS wB mb wb P o i w2 (if (l.length : Int) < (objD P o).size then p + 1 else p) (if (l.length : Int) < (objD P o).size then l ++ [v] else l) t k) (act23 sT sO v1 v2 (planWords P) 0 sec o inn v got (if (l.length : Int) < (objD P o).size then 0 else 11)) w2 := by
  obtain ⟨m, hJ⟩ := hJ
  have hbl := b.mbl
  have hwl := b.wbl
  have hPl := hJ.chg.planAt b
  have okO : OOk P m.length o := by rw [hJ.len]; exact b.okO
  have okI : OOk P m.length i := by rw [hJ.len]; exact b.okI
  have hcs := hJ.chg.size
  refine benchRun bb mb _ _ W (cell_of_block (hJ.chg.blkAt b) 14) _ ?_
  have key : ∀ (r : Int) (g : Int → Int) (p' : Int) (l' : List Int), Does (kPost P o v) m r g 10 → (∀ m' : Mem, rdM m' = g → ORing P (rdM m') o (p' - l'.length) l' ∧ ORing P (rdM m') i t k) → (l'.length ≤ p' ∧ p' ≤ 800000) →
      Calls Try.prog 22 #[.pointer (some ⟨mb, 0, none⟩), bound 12 (.pointer (some ⟨xb, 0, none⟩)), .int .i64 60000] W fun e w2 => e = .returned (.bool true) ∧
        ActRan wB xb W (fun w2 => PoS wB mb wb P o i w2 p' l' t k) (act23 sT sO v1 v2 (planWords P) 0 sec o inn v got r) w2 := by
    intro r g p' l' hd hring hp'
    refine (postRun P b.okO.nT b.okO.nO b.rings F xb sec o inn v got e0 ho hv sT sO v1 v2 mb wb m W hJ.mem hblk hPl ⟨by omega, by omega⟩ (fun k hk => ⟨by have := (b.sepF k hk).1; omega, (b.sepF k hk).2, by have := (b.sepF k hk).1; omega⟩) r g 10 hd (by omega)).mono ?_
    rintro e w2 ⟨he, m', hm', hg, hl, hb2', hL⟩
    obtain ⟨q1, q2⟩ := hring m' hg
    exact ⟨he, ⟨m', hm', hl.trans hJ.len, q1, q2, hp', hJ.t0, hJ.chg.left hL hxb⟩, hb2', hL.size, fun j h1 h2 h3 => hL.block j h2 (by omega) h3⟩
  by_cases hlt : (l.length : Int) < (objD P o).size
  · rw [if_pos hlt, if_pos hlt, if_pos hlt]
    obtain ⟨g, hd, h1, h2⟩ := does_post_yes (v := v) hJ.out okO b.isO (by have := hJ.pl.1; omega) (by have := hJ.pl.2; omega) hlt
    refine key 0 g (p + 1) (l ++ [v]) hd (fun m' hg => ?_) ⟨by have := hJ.pl.1; simp; omega, hp⟩
    rw [hg]
    refine ⟨?_, ORing.other hJ.inn okI b.ne okO h2⟩
    rw [show p + 1 - ((l ++ [v]).length : Int) = p - l.length by simp; omega]; exact h1
  · rw [if_neg hlt, if_neg hlt, if_neg hlt]
    have hd := does_post_no (v := v) hJ.out okO b.isO (by have := hJ.pl.1; omega) (by have := hJ.pl.2; omega) (by omega)
    refine key 11 (rdM m) p l hd (fun m' hg => ?_) hJ.pl
    rw [hg]; exact ⟨hJ.out, hJ.inn⟩
theorem po_fetch (p t : Int) (l k : List Int) (ht : t + 1 ≤ 800000) (W : World) (xb : Nat) (sec : Bool) (inn v got e0 : Int) (hi : I64 i) (hxb : wB.heap.size ≤ xb) (hJ : PoS wB mb wb P o i W p l t k)
    (hblk : W.heap[xb]? = some (.cells (act23 sT sO v1 v2 (planWords P) 1 sec i inn v got e0) 49 (0, 0))) :
    Calls Try.prog 11 #[.pointer (some ⟨bb, 0, none⟩), bound 12 (.pointer (some ⟨xb, 0, none⟩))] W fun e w2 => e = .returned (.bool true) ∧
      ActRan wB xb W (fun w2 => PoS wB mb wb P o i w2 p l (if k.isEmpty then t else t + 1) k.tail) (act23 sT sO v1 v2 (planWords P) 1 sec i inn v (k.headD 0) (if k.isEmpty then 12 else 0)) w2 := by
  obtain ⟨m, hJ⟩ := hJ
  have hbl := b.mbl
  have hwl := b.wbl
  have hPl := hJ.chg.planAt b
  have okO : OOk P m.length o := by rw [hJ.len]; exact b.okO
  have okI : OOk P m.length i := by rw [hJ.len]; exact b.okI
  have hcs := hJ.chg.size
  refine benchRun bb mb _ _ W (cell_of_block (hJ.chg.blkAt b) 14) _ ?_
  have key : ∀ (r : Int × Int) (g : Int → Int) (t' : Int) (k' : List Int), Does (kFetch P i) m r g 10 → (∀ m' : Mem, rdM m' = g → ORing P (rdM m') o (p - l.length) l ∧ ORing P (rdM m') i t' k') → (0 ≤ t' ∧ t' ≤ 800000) →
      Calls Try.prog 22 #[.pointer (some ⟨mb, 0, none⟩), bound 12 (.pointer (some ⟨xb, 0, none⟩)), .int .i64 60000] W fun e w2 => e = .returned (.bool true) ∧
        ActRan wB xb W (fun w2 => PoS wB mb wb P o i w2 p l t' k') (act23 sT sO v1 v2 (planWords P) 1 sec i inn v r.1 r.2) w2 := by
    intro r g t' k' hd hring ht'
    refine (fetchRun P b.okO.nT b.okO.nO b.rings F xb sec i inn v got e0 hi sT sO v1 v2 mb wb m W hJ.mem hblk hPl ⟨by omega, by omega⟩ (fun k hk => ⟨by have := (b.sepF k hk).1; omega, (b.sepF k hk).2, by have := (b.sepF k hk).1; omega⟩) r g 10 hd (by omega)).mono ?_
    rintro e w2 ⟨he, m', hm', hg, hl, hb2', hL⟩
    obtain ⟨q1, q2⟩ := hring m' hg
    exact ⟨he, ⟨m', hm', hl.trans hJ.len, q1, q2, hJ.pl, ht', hJ.chg.left hL hxb⟩, hb2', hL.size, fun j h1 h2 h3 => hL.block j h2 (by omega) h3⟩
  cases k with
  | nil =>
    refine key (0, 12) (rdM m) t [] (does_fetch_no hJ.inn okI b.isI) (fun m' hg => ?_) hJ.t0
    rw [hg]; exact ⟨hJ.out, hJ.inn⟩
  | cons x k =>
    obtain ⟨g, hd, h1, h2⟩ := does_fetch_yes hJ.inn okI b.isI hJ.t0.1 (by have := hJ.t0.2; omega)
    refine key (x, 0) g (t + 1) k hd (fun m' hg => ?_) ⟨by have := hJ.t0.1; omega, ht⟩
    rw [hg]
    exact ⟨ORing.other hJ.out okO (Ne.symm b.ne) okI h2, h1⟩
/-- A Move from the Out into the In of one bench. -/
theorem po_move (p t : Int) (l k : List Int) (d : Nat) (hd : (objD P i).size = d) (hl : l.length ≤ 16) (hl64 : ∀ x ∈ l, I64 x) (w : World) (hw : wB.heap.size ≤ w.heap.size) (hJ : PoS wB mb wb P o i w p l t k) :
    Calls Try.prog 13 #[.pointer (some ⟨mb, 0, none⟩), .agg (planArr sT sO v1 v2 (planWords P)), .int .i64 o, .pointer (some ⟨mb, 0, none⟩), .agg (planArr sT sO v1 v2 (planWords P)), .int .i64 i] w fun e w' =>
      e = .returned (.tuple #[.int .i64 (putN l.length k.length d), .int .i64 (l.length - putN l.length k.length d)]) ∧ PoS wB mb wb P o i w' p [] t (k ++ l.take (d - k.length)) := by
  have hkd : ∀ W l k, PoS wB mb wb P o i W p l t k → k.length ≤ d := by
    rintro W l k ⟨m, h⟩
    have := h.inn.room
    rw [hd] at this
    omega
  obtain ⟨m, hJ'⟩ := hJ
  have hPl := hJ'.chg.planAt b
  exact move_any P P sT sO v1 v2 sT sO v1 v2 F F o i b.isO b.isI mb mb d l k hl (hkd w l k ⟨m, hJ'⟩) hl64 w hPl hPl (fun W l k => PoS wB mb wb P o i W p l t k) (fun W W' l k h hb => h.later hb) ⟨m, hJ'⟩ (po_get b w.heap.size hw p t) (po_put b w.heap.size hw p t d hd hkd)
end
end Go.Proofs.Ytpidlgmigmbbbaa
