/-
  append of a slice that is read (nothing included) onto a row of one's own.
  The reference's queue (septumref01.Queue): Has, Order.
-/
import Derived.Test.YtpidlgmigmbbbaaKeep2
import Derived.Deep.AppendLies
set_option linter.unusedVariables false
set_option linter.unusedSimpArgs false
namespace Go.Proofs.Ytpidlgmigmbbbaa
open Go.RowKit
section
variable {P : Program} (w : World)

theorem run_append_reads (t ty : TypeId) (base : Nat) (e : TypeId) (i : TypeInfo) (z : Value) (size bytes : Nat) (ht : P.underlying t = some (.slice e)) (hi : P.info? e = some i) (hz : i.zero = some z) (hsize : i.size = size) (hby : i.bytes = bytes) (hzs : z.cells.size = size) (hsz : 0 < size)
    (v : Value) (n : Nat) (xs : List Value) (hown : w.ownsRow base e size v n xs) (A : Option Addr) (m c : Nat) (F : Nat → Prop) (news : List Value) (hr : Reads w F (.slice A m c) m size news) (h1 : ∀ u ∈ news, u.oneCell' = true)
    (h63 : n + m ≤ maxLen) (hbytes : (n + m) * bytes ≤ 140737488355328) (hbase : base ≤ w.heap.size) :
    ∃ A' c' w', (Builtin.append_ #[t, t] ty #[v, .slice A m c]).run P w = .ok (.slice A' (n + m) c') w' ∧ w'.ownsRow base e size (.slice A' (n + m) c') (n + m) (xs ++ news) ∧ w.grownBy w' v.ownBlock := by
  obtain ⟨hl, A1, c1, e1, hc⟩ := hr
  obtain ⟨rfl, _, rfl⟩ : A = A1 ∧ m = m ∧ c = c1 := by simpa using e1
  by_cases hm : 0 < m
  · obtain ⟨g, o', rfl, _, hcells⟩ := hc hm
    obtain ⟨g', cap, w', hr', h2, h3, _, _⟩ := run_append_lies (P := P) w t ty base e i z size bytes ht hi hz hsize hby hzs hsz v n xs hown ⟨g, o', none⟩ m c news hl (fun j u hu => by rw [Go.WideShapes.add_plain]; exact hcells j u hu) h1 hm h63 hbytes hbase _ rfl
    exact ⟨_, _, w', hr', h2, h3⟩
  · obtain rfl : m = 0 := by omega
    obtain rfl : news = [] := List.eq_nil_of_length_eq_zero (by simpa using hl)
    have hsrc : Src P i.size t (.slice A 0 c) 0 [] w := by
      cases A with
      | none => exact Src.ofNil w ht c
      | some ad => exact Src.ofSlice w ht ad 0 c [] (by simp) (fun j u hu => by simp at hu) (fun u hu => by simp at hu)
    have hv : ∃ b cap, v = .slice b n cap ∧ n ≤ cap := by
      rcases hown.2 with ⟨rfl, rfl⟩ | ⟨g, cap, cur, rfl, _, _, h, _⟩
      · exact ⟨_, _, rfl, Nat.le_refl _⟩
      · exact ⟨_, _, rfl, h⟩
    obtain ⟨b, cap, rfl, hle⟩ := hv
    have hrun := run_append_nothing (P := P) w t t ty e i ht hi b n cap hle _ hsrc
    exact ⟨b, cap, w, hrun, by simpa using hown, ⟨rfl, rfl, rfl, Nat.le_refl _, fun _ _ _ => rfl⟩⟩

theorem wp_append_reads {ops : Array Oper} {o : Oper} {a : Act} {K : Act → World → Prop} {Q : Exit → Act → World → Prop} (s x : Operand) (t : TypeId)
    (ho : o.op = .call { callee := .builtin .append, args := #[s, x], argTypes := #[t, t] })
    (base : Nat) (e : TypeId) (i : TypeInfo) (z : Value) (size bytes : Nat) (ht : P.underlying t = some (.slice e)) (hi : P.info? e = some i) (hz : i.zero = some z)
    (hsize : i.size = size) (hby : i.bytes = bytes) (hzs : z.cells.size = size) (hsz : 0 < size)
    (v : Value) (n : Nat) (xs : List Value) (hs : a.eval s = v) (hown : w.ownsRow base e size v n xs)
    (A : Option Addr) (m c : Nat) (F : Nat → Prop) (news : List Value) (hx : a.eval x = .slice A m c) (hr : Reads w F (.slice A m c) m size news) (h1 : ∀ u ∈ news, u.oneCell' = true)
    (h63 : n + m ≤ maxLen) (hbytes : (n + m) * bytes ≤ 140737488355328) (hbase : base ≤ w.heap.size)
    (h : ∀ A' c' w', w'.ownsRow base e size (.slice A' (n + m) c') (n + m) (xs ++ news) → w.grownBy w' v.ownBlock → K (a.put o.dst (.slice A' (n + m) c')) w') : Oper.wp P o a w K Q := by
  obtain ⟨A', c', w', hrun, h2, h3⟩ := run_append_reads (P := P) w t o.type base e i z size bytes ht hi hz hsize hby hzs hsz v n xs hown A m c F news hr h1 h63 hbytes hbase
  unfold Oper.wp execOp
  simp only [ho, resolve, invoke, builtin, Sem.run_bind, Sem.run_pure, Result.andThen_ok, List.map_toArray, List.map_cons, List.map_nil, hs, hx, hrun]
  exact h A' c' w' h2 h3

theorem wpList_append_reads {ops : Array Oper} {rest : List Oper} {o : Oper} {a : Act} {Q : Exit → Act → World → Prop} (hgd : o.guard = none) (s x : Operand) (t : TypeId)
    (ho : o.op = .call { callee := .builtin .append, args := #[s, x], argTypes := #[t, t] })
    (base : Nat) (e : TypeId) (i : TypeInfo) (z : Value) (size bytes : Nat) (ht : P.underlying t = some (.slice e)) (hi : P.info? e = some i) (hz : i.zero = some z)
    (hsize : i.size = size) (hby : i.bytes = bytes) (hzs : z.cells.size = size) (hsz : 0 < size)
    (v : Value) (n : Nat) (xs : List Value) (hs : a.eval s = v) (hown : w.ownsRow base e size v n xs)
    (A : Option Addr) (m c : Nat) (F : Nat → Prop) (news : List Value) (hx : a.eval x = .slice A m c) (hr : Reads w F (.slice A m c) m size news) (h1 : ∀ u ∈ news, u.oneCell' = true)
    (h63 : n + m ≤ maxLen) (hbytes : (n + m) * bytes ≤ 140737488355328) (hbase : base ≤ w.heap.size)
    (h : ∀ A' c' w', w'.ownsRow base e size (.slice A' (n + m) c') (n + m) (xs ++ news) → w.grownBy w' v.ownBlock → wpList P ops Q rest (a.put o.dst (.slice A' (n + m) c')) w') : wpList P ops Q (o :: rest) a w :=
  wpList_plain hgd fun _ hK => wp_append_reads (ops := ops) w s x t ho base e i z size bytes ht hi hz hsize hby hzs hsz v n xs hs hown A m c F news hx hr h1 h63 hbytes hbase fun A' c' w' h2 h3 => hK _ _ (h A' c' w' h2 h3)

theorem step_append_reads {ops : Array Oper} {o : Oper} {a : Act} {K : Act → World → Prop} {Q : Exit → Act → World → Prop} {E : Prop} (hgd : o.guard = none) (s x : Operand) (t : TypeId)
    (ho : o.op = .call { callee := .builtin .append, args := #[s, x], argTypes := #[t, t] })
    (base : Nat) (e : TypeId) (i : TypeInfo) (z : Value) (size bytes : Nat) (ht : P.underlying t = some (.slice e)) (hi : P.info? e = some i) (hz : i.zero = some z)
    (hsize : i.size = size) (hby : i.bytes = bytes) (hzs : z.cells.size = size) (hsz : 0 < size)
    (v : Value) (n : Nat) (xs : List Value) (hs : a.eval s = v) (hown : w.ownsRow base e size v n xs)
    (A : Option Addr) (m c : Nat) (F : Nat → Prop) (news : List Value) (hx : a.eval x = .slice A m c) (hr : Reads w F (.slice A m c) m size news) (h1 : ∀ u ∈ news, u.oneCell' = true)
    (h63 : n + m ≤ maxLen) (hbytes : (n + m) * bytes ≤ 140737488355328) (hbase : base ≤ w.heap.size)
    (h : ∀ A' c' w', w'.ownsRow base e size (.slice A' (n + m) c') (n + m) (xs ++ news) → w.grownBy w' v.ownBlock → K (a.put o.dst (.slice A' (n + m) c')) w') :
    if Region.wanted o (yielded ops a.tmps) = true then Oper.wp P o a w K Q else E := by
  have hw : Region.wanted o (yielded ops a.tmps) = true := by simp [Region.wanted, hgd]
  rw [if_pos hw]
  exact wp_append_reads (ops := ops) w s x t ho base e i z size bytes ht hi hz hsize hby hzs hsz v n xs hs hown A m c F news hx hr h1 h63 hbytes hbase h
end
end Go.Proofs.Ytpidlgmigmbbbaa
namespace Go.Proofs.Ytpidlgmigmbbbaa
open Go.RowKit

/-- Sixteen lists, that lie as slices side by side. -/
def QRef (w : World) (F : Nat → Prop) (b o : Nat) (ls : Nat → List Int) : Prop :=
  ∀ p, p < 16 → ∃ v, w.cell? ⟨b, o + p, none⟩ = some v ∧ IntsAt w F v (ls p)
/-- All, the most urgent first, of priorities under 'k' left out. -/
def orderFrom (ls : Nat → List Int) : Nat → List Int
  | 0 => []
  | k + 1 => orderFrom (fun p => ls p) k ++ ls (15 - k)
/-- All, the most urgent first. -/
def orderR (ls : Nat → List Int) : List Int := orderFrom ls 16

set_option maxRecDepth 100000 in
set_option maxHeartbeats 1600000 in
theorem has_anyR (xs : List Int) (x : Int) (v : Value) (F : Nat → Prop) (hl : xs.length ≤ 100000) (w : World) (h : IntsAt w F v xs) :
    Calls Try.prog 60 #[v, .int .i64 x] w fun e w' => e = .returned (.bool (xs.contains x)) ∧ ∃ n, w.drewN n = w' := by
  obtain ⟨A, c, rfl⟩ := h.slice
  have H := Lib.hid h
  clear h
  generalize hR : xs.contains x = R at *
  have hr0 : (xs.drop 0).contains x = R := by simpa using hR
  have HR := Lib.hid hr0
  clear hr0 hR
  go_enter Try.func60, Try.ntmps60
  go_wp2
  go_loopw [8] (fun i wr => ∃ k n : Nat, k ≤ xs.length ∧ i = .int .i64 k ∧ wr = w.drewN n ∧ Hid ((xs.drop k).contains x = R)) (fun i _ => xs.length - (intOf i).toNat)
  case atStart => exact ⟨0, 0, Nat.zero_le _, rfl, rfl, HR⟩
  case round =>
    obtain ⟨k, n, hk, rfl, rfl, hr⟩ := hrel
    by_cases hlt : k < xs.length
    · obtain ⟨b, o, c', e, _, hc⟩ := IntsAt.cells H.out (by omega)
      cases e
      have d := hc k _ (List.getElem?_eq_getElem hlt)
      have hlc : (k : Int) < (xs.length : Int) := by omega
      have hr1 := hr.out
      rw [List.drop_eq_getElem_cons hlt, List.contains_cons] at hr1
      clear hc
      generalize xs[k] = y at *
      by_cases hxy : y = x
      · have e1 : (x == y) = true := by rw [beq_iff_eq]; exact hxy.symm
        have hR : R = true := by rw [← hr1, e1]; rfl
        have HRt := Lib.hid hR
        subst hxy
        clear hr1 e1 hR hr
        go_wp2
        go_ret
        refine ⟨?_, n, rfl⟩
        rw [HRt.out]; rfl
      · have e1 : (x == y) = false := by rw [beq_eq_false_iff_ne]; exact fun h => hxy h.symm
        rw [e1, Bool.false_or] at hr1
        have Hr1 := Lib.hid hr1
        clear hr1 e1 hr
        go_wp2
        go_roundw
        case rel => exact ⟨k + 1, n, by omega, by go_num, rfl, Hr1⟩
        case measure => simp [intOf]; omega
    · have hR : R = false := by rw [← hr.out, List.drop_eq_nil_of_le (by omega)]; rfl
      have HRt := Lib.hid hR
      clear hR hr
      go_wp2
      go_ret
      refine ⟨?_, n, rfl⟩
      rw [HRt.out]; rfl

theorem orderFrom_succ (ls : Nat → List Int) (k : Nat) : orderFrom ls (k + 1) = orderFrom ls k ++ ls (15 - k) := rfl
theorem orderFrom_len (ls : Nat → List Int) (m : Nat) (hm : ∀ p, p < 16 → (ls p).length ≤ m) : ∀ k, k ≤ 16 → (orderFrom ls k).length ≤ k * m
  | 0, _ => by simp [orderFrom]
  | k + 1, h => by
    have := orderFrom_len ls m hm k (by omega)
    have := hm (15 - k) (by omega)
    rw [orderFrom_succ, List.length_append, Nat.succ_mul]; omega
theorem encInts_app (xs ys : List Int) : encInts (xs ++ ys) = encInts xs ++ encInts ys := by simp [encInts]
theorem QRef.kept {w w' : World} {F : Nat → Prop} {b o : Nat} {ls : Nat → List Int} (h : QRef w F b o ls) (hb : w'.heap[b]? = w.heap[b]?) (hk : ∀ k, k < w.heap.size → F k → w'.heap[k]? = w.heap[k]?) : QRef w' F b o ls := fun p hp => by
  obtain ⟨v, h1, h2⟩ := h p hp
  exact ⟨v, (World.cell?_of_block (a := ⟨b, o + p, none⟩) (w := w) (w' := w') hb).trans h1, Reads.kept h2 hk⟩

set_option maxRecDepth 100000 in
set_option maxHeartbeats 3200000 in
theorem order_anyR (ls : Nat → List Int) (hm : ∀ p, p < 16 → (ls p).length ≤ 1000) (F : Nat → Prop) (b o : Nat) (ho : o ≤ 1000) (w : World) (h : QRef w F b o ls) (hF : ∀ k, F k → k < w.heap.size) :
    Calls Try.prog 59 #[.pointer (some ⟨b, o, none⟩)] w fun e w' => ∃ v, e = .returned v ∧ w'.ownsRow w.heap.size 3 1 v (orderR ls).length (encInts (orderR ls)) ∧ Below w.heap.size w w' := by
  obtain ⟨i0, hi0, hz0, hz1, hz2⟩ := info_parts Try.infoInt
  have H := Lib.hid h
  have HM := Lib.hid hm
  have HF := Lib.hid hF
  clear h hm hF
  go_enter Try.func59, Try.ntmps59
  go_wp2
  go_loopw [3, 4] (fun ov i wr => ∃ k : Nat, k ≤ 16 ∧ i = .int .i64 (15 - (k : Int)) ∧ Hid (wr.ownsRow w.heap.size 3 1 ov (orderFrom ls k).length (encInts (orderFrom ls k))) ∧ Hid (Below w.heap.size w wr)) (fun _ i _ => (intOf i + 1).toNat)
  case atStart => exact ⟨0, Nat.zero_le _, rfl, Lib.hid (World.ownsRow_nil _ _ _ _), Lib.hid (Below.refl _ _)⟩
  case round =>
    obtain ⟨k, hk, rfl, hown, hb⟩ := hrel
    by_cases hlt : k < 16
    · obtain ⟨v, hv, hi⟩ := H.out (15 - k) (by omega)
      obtain ⟨A, c, rfl⟩ := hi.slice
      have lb := World.block_lt_of_cell? w _ hv
      rw [← hb.out.cell (p := ⟨b, o + (15 - k), none⟩) lb] at hv
      have hi' := Lib.hid (Reads.kept (w' := wr) hi (fun j hj _ => hb.out.block j hj))
      have hlen := HM.out (15 - k) (by omega)
      have hlen2 := orderFrom_len ls 1000 HM.out k hk
      have hge : (0 : Int) ≤ 15 - (k : Int) := by omega
      have hlt16 : (15 : Int) - (k : Int) < 16 := by omega
      have hvv : wr.cell? ⟨b, o + (15 - (k : Int)).toNat, none⟩ = some (.slice A (ls (15 - k)).length c) := by rw [show (15 - (k : Int)).toNat = 15 - k by omega]; exact hv
      have hbs := hb.out.size
      go_wp2_with (at_builtin; refine wpList_append_reads _ rfl (.tmp 9) (.tmp 14) 38 rfl w.heap.size 3 i0 _ 1 8 Try.underlying38 hi0 hz0 hz1 hz2 rfl (by omega) _ (orderFrom ls k).length (encInts (orderFrom ls k)) rfl hown.out A (ls (15 - k)).length c F (encInts (ls (15 - k))) rfl hi'.out (encInts_one _) (by unfold maxLen; omega) (by omega) hbs ?_; intro A' c' w' hown' hgr; refine Hid.out ?_)
      have hb2 : Below w.heap.size w w' := hb.out.trans ⟨hgr.os, hgr.tape, hgr.output, hgr.size, fun j hj => hgr.block j (by omega) (fun e => by have := (hown.out.lt j e.symm).1; omega)⟩
      rw [← List.length_append, ← encInts_app, ← orderFrom_succ] at hown'
      have Hown := Lib.hid hown'
      have Hb2 := Lib.hid hb2
      have hl : (orderFrom ls k).length + (ls (15 - k)).length = (orderFrom ls (k + 1)).length := by rw [orderFrom_succ, List.length_append]
      rw [hl]
      clear hown' hgr hb2 hown hb hi' hlen hlen2 hv hvv hl
      refine Lib.hid ?_
      go_wp2
      go_roundw
      case rel => exact ⟨k + 1, by omega, by go_num, Hown, Hb2⟩
      case measure => simp [intOf]; omega
    · obtain rfl : k = 16 := by omega
      go_wp2
      go_ret
      exact ⟨_, rfl, hown.out, hb.out⟩
end Go.Proofs.Ytpidlgmigmbbbaa
