/-
  config.Part: what is wrong with a partition first.
-/
import Derived.Test.YtefbdcmodfbpbaaGreatData
set_option linter.unusedVariables false
set_option linter.unusedSimpArgs false
namespace Go.Proofs.YtefbdcmodfbpbaaGreat
open Go.RowKit

set_option maxHeartbeats 400000 in
theorem within_any (n lo hi : Int) (w : World) :
    Calls Tryz.prog 119 #[.int .i64 n, .int .i64 lo, .int .i64 hi] w fun e w' => e = .returned (.bool (withinB n lo hi)) ∧ w = w' := by
  unfold withinB
  by_cases h1 : lo ≤ n
  · have d1 : decide (lo ≤ n) = true := by simpa using h1
    rw [d1]
    go_enter Tryz.func119, Tryz.ntmps119
    go_wp2
    go_ret
    exact ⟨by simp, rfl⟩
  · have d1 : decide (lo ≤ n) = false := by simpa using h1
    rw [d1]
    go_enter Tryz.func119, Tryz.ntmps119
    go_wp2
    go_ret
    exact ⟨by simp, rfl⟩

set_option maxHeartbeats 400000 in
theorem rightThread_any (t : ThreadD) (A : Option Addr) (c : Nat) (n : Nat) (hn : n ≤ 8) (hc : 0 ≤ t.caps ∧ t.caps < 4294967296) (w : World) :
    Calls Tryz.prog 122 #[.agg #[.int .i64 t.prio, .int .u32 t.caps, .bool t.control, .slice A t.prog.length c], .int .i64 n] w fun e w' => e = .returned (.bool (rightThreadB t n)) ∧ Below w.heap.size w w' := by
  unfold rightThreadB
  cases d1 : withinB t.prio 0 15
  · have H := within_any t.prio 0 15
    rw [d1] at H
    have HH := Lib.hid H
    clear H d1
    go_enter Tryz.func122, Tryz.ntmps122
    go_wp2_with (go_at_call 119; refine (HH.out _).mono ?_; rintro e w' ⟨rfl, rfl⟩)
    go_ret
    exact ⟨by simp, (Below.refl _ _).alloc (Nat.le_refl _) _⟩
  · have H := within_any t.prio 0 15
    rw [d1] at H
    have HH := Lib.hid H
    clear H d1
    go_enter Tryz.func122, Tryz.ntmps122
    go_wp2_with (go_at_call 119; refine (HH.out _).mono ?_; rintro e w' ⟨rfl, rfl⟩)
    all_goals
      rename_i h
      go_ret
      exact ⟨by simp [h] <;> omega, (Below.refl _ _).alloc (Nat.le_refl _) _⟩

set_option maxHeartbeats 400000 in
theorem part1_any (t : ThreadD) (A : Option Addr) (c : Nat) (n : Nat) (hn : n ≤ 8) (hc : 0 ≤ t.caps ∧ t.caps < 4294967296) (bx : Nat) (Ao : Option Addr) (co : Nat) (w : World) (hx : w.cell? ⟨bx, 1, none⟩ = some (.slice Ao n co)) :
    Calls Tryz.prog 121 #[.agg #[.int .i64 t.prio, .int .u32 t.caps, .bool t.control, .slice A t.prog.length c], .pointer (some ⟨bx, 0, none⟩)] w fun e w' => e = .returned (.bool (!rightThreadB t n)) ∧ Below w.heap.size w w' := by
  have H := fun w => rightThread_any t A c n hn hc w
  have HH := Lib.hid H
  have lb := World.block_lt_of_cell? w _ hx
  clear H
  go_enter Tryz.func121, Tryz.ntmps121
  go_wp2_with (go_at_call 122; refine (HH.out _).mono ?_; rintro e w' ⟨rfl, hb⟩)
  go_ret
  exact ⟨rfl, ((Below.refl _ _).alloc (Nat.le_refl _) _).trans (hb.mono (by simp))⟩

/-- The place of the first element that 'q' holds of; -1: there is none. -/
def firstAt {α : Type} (q : α → Bool) : List α → Nat → Int
  | [], _ => -1
  | x :: xs, k => if q x then (k : Int) else firstAt q xs (k + 1)
theorem firstAt_any {α : Type} (q : α → Bool) : ∀ (xs : List α) (k : Nat), decide (0 ≤ firstAt q xs k) = xs.any q
  | [], k => by simp [firstAt]
  | x :: xs, k => by
    unfold firstAt
    cases h : q x
    · simp [h, firstAt_any q xs (k + 1)]
    · simp [h]
theorem firstAt_drop {α : Type} (q : α → Bool) (xs : List α) (k : Nat) (x : α) (h : xs[k]? = some x) : firstAt q (xs.drop k) k = if q x then (k : Int) else firstAt q (xs.drop (k + 1)) (k + 1) := by
  have hk := (List.getElem?_eq_some_iff.1 h).1
  have e : xs.drop k = x :: xs.drop (k + 1) := by
    rw [List.drop_eq_getElem_cons hk]; congr 1; exact (List.getElem?_eq_some_iff.1 h).2
  rw [e]; rfl

/-- What is asked of threads that come in: their Caps are of 32 bits. -/
def CapsOk (ts : List ThreadD) : Prop := ∀ t ∈ ts, 0 ≤ t.caps ∧ t.caps < 4294967296

set_option maxHeartbeats 800000 in
theorem indexThreads (ts : List ThreadD) (v : Value) (F : Nat → Prop) (n : Nat) (hn : n ≤ 8) (hl : ts.length ≤ 6) (hc : CapsOk ts) (bx : Nat) (Ao : Option Addr) (co : Nat) (w : World) (hx : w.cell? ⟨bx, 1, none⟩ = some (.slice Ao n co)) (ht : ThreadsAt w F v ts) :
    Calls Tryz.prog 200 #[v, .func (.func 121) #[] #[.pointer (some ⟨bx, 0, none⟩)]] w fun e w' => e = .returned (.int .i64 (firstAt (fun t => !rightThreadB t n) ts 0)) ∧ Below w.heap.size w w' := by
  obtain ⟨A, c, rfl⟩ := ht.slice
  have HT := Lib.hid ht
  clear ht
  go_enter Tryz.func200, Tryz.ntmps200
  go_wp2
  go_loopw [5, 8] (fun _ i wr => ∃ k : Nat, k ≤ ts.length ∧ i = .int .i64 k ∧ Below w.heap.size w wr ∧ firstAt (fun t => !rightThreadB t n) ts 0 = firstAt (fun t => !rightThreadB t n) (ts.drop k) k) (fun _ i _ => ts.length - (intOf i).toNat)
  case atStart => exact ⟨0, Nat.zero_le _, rfl, Below.refl _ _, rfl⟩
  case round =>
    obtain ⟨k, hk, rfl, hb, hfi⟩ := hrel
    by_cases hlt : k < ts.length
    · obtain ⟨b, o, c', e, hF, hcells⟩ := HT.out.cells (by omega)
      cases e
      obtain ⟨pv, hpv, d0, d1, d2, d3⟩ := hcells k ts[k] (List.getElem?_eq_getElem hlt)
      obtain ⟨Ap, cp, rfl⟩ := hpv.slice
      have lb := World.block_lt_of_cell? w _ d0
      have lx := World.block_lt_of_cell? w _ hx
      have e0 : wr.cell? ⟨b, o + k * 4, none⟩ = some (.int .i64 ts[k].prio) := by rw [hb.cell (p := ⟨b, _, none⟩) lb]; exact d0
      have e1 : wr.cell? ⟨b, o + k * 4 + 1, none⟩ = some (.int .u32 ts[k].caps) := by rw [hb.cell (p := ⟨b, o + k * 4 + 1, none⟩) lb]; exact d1
      have e2 : wr.cell? ⟨b, o + k * 4 + 2, none⟩ = some (.bool ts[k].control) := by rw [hb.cell (p := ⟨b, o + k * 4 + 2, none⟩) lb]; exact d2
      have e3 : wr.cell? ⟨b, o + k * 4 + 3, none⟩ = some (.slice Ap ts[k].prog.length cp) := by rw [hb.cell (p := ⟨b, o + k * 4 + 3, none⟩) lb]; exact d3
      have ex : wr.cell? ⟨bx, 1, none⟩ = some (.slice Ao n co) := by rw [hb.cell (p := ⟨bx, _, none⟩) lx]; exact hx
      have hcap := hc ts[k] (List.getElem_mem hlt)
      have hd := firstAt_drop (fun t => !rightThreadB t n) ts k ts[k] (List.getElem?_eq_getElem hlt)
      have H := part1_any ts[k] Ap cp n hn hcap bx Ao co wr ex
      have hlc : (k : Int) < (ts.length : Int) := by omega
      have Hfi := Lib.hid hfi
      have Hd := Lib.hid hd
      have Hb := Lib.hid hb
      clear hfi hd hb hcells d0 d1 d2 d3 hx ex hcap hc hpv
      generalize ts[k] = t at *
      cases hq : rightThreadB t n with
      | true =>
        rw [hq] at H
        have HH := Lib.hid H
        have Hq := Lib.hid hq
        clear H hq
        go_wp2_with (go_at_call 121; refine HH.out.mono ?_; rintro e w1 ⟨rfl, hb1⟩)
        go_roundw
        case rel =>
          refine ⟨k + 1, by omega, by go_num, Hb.out.trans (hb1.mono Hb.out.size), ?_⟩
          rw [Hfi.out, Hd.out, Hq.out]; simp
        case measure => simp [intOf]; omega
      | false =>
        rw [hq] at H
        have HH := Lib.hid H
        have Hq := Lib.hid hq
        clear H hq
        go_wp2_with (go_at_call 121; refine HH.out.mono ?_; rintro e w1 ⟨rfl, hb1⟩)
        go_ret
        refine ⟨?_, Hb.out.trans (hb1.mono Hb.out.size)⟩
        rw [Hfi.out, Hd.out, Hq.out]; simp
    · have hd : ts.drop k = [] := List.drop_eq_nil_of_le (by omega)
      rw [hd] at hfi
      have Hfi := Lib.hid hfi
      clear hfi hd hx
      go_wp2
      go_ret
      refine ⟨?_, hb⟩
      rw [Hfi.out]; simp [firstAt]

set_option maxHeartbeats 400000 in
theorem containsThreads (ts : List ThreadD) (v : Value) (F : Nat → Prop) (n : Nat) (hn : n ≤ 8) (hl : ts.length ≤ 6) (hc : CapsOk ts) (bx : Nat) (Ao : Option Addr) (co : Nat) (w : World) (hx : w.cell? ⟨bx, 1, none⟩ = some (.slice Ao n co)) (ht : ThreadsAt w F v ts) :
    Calls Tryz.prog 120 #[v, .func (.func 121) #[] #[.pointer (some ⟨bx, 0, none⟩)]] w fun e w' => e = .returned (.bool (ts.any (fun t => !rightThreadB t n))) ∧ Below w.heap.size w w' := by
  rw [← firstAt_any (fun t => !rightThreadB t n) ts 0]
  have H := indexThreads ts v F n hn hl hc bx Ao co w hx ht
  generalize firstAt (fun t => !rightThreadB t n) ts 0 = r at *
  have HH := Lib.hid H
  clear H ht hx hc
  go_enter Tryz.func120, Tryz.ntmps120
  go_wp2_with (go_at_call 200; refine HH.out.mono ?_; rintro e w1 ⟨rfl, hb1⟩)
  go_ret
  exact ⟨rfl, hb1⟩

set_option maxRecDepth 100000 in
set_option maxHeartbeats 1600000 in
theorem rightObject_any (o : ObjD) (w : World) :
    Calls Tryz.prog 125 #[.agg #[.int .i64 o.kind, .int .i64 o.size, .bool o.prio]] w fun e w' => e = .returned (.bool (rightObjectB o)) ∧ Below w.heap.size w w' := by
  have fin : ∀ b : Bool, b = rightObjectB o → ∀ w', Below w.heap.size w w' → (Ending.returned (.bool b) = .returned (.bool (rightObjectB o))) ∧ Below w.heap.size w w' := fun b h w' hb => ⟨by rw [h], hb⟩
  have Fin := Lib.hid fin
  clear fin
  generalize hR : rightObjectB o = R at *
  have HR := Lib.hid hR
  clear hR
  go_enter Tryz.func125, Tryz.ntmps125
  go_wp2_with (go_at_call 119; refine (within_any _ _ _ _).mono ?_; rintro e w' ⟨rfl, rfl⟩)
  all_goals
    go_ret
    refine Fin.out _ ?_ _ ((Below.refl _ _).alloc (Nat.le_refl _) _)
    rw [← HR.out]
    simp_all [rightObjectB]
    try rfl

set_option maxHeartbeats 400000 in
theorem part2_any (o : ObjD) (w : World) :
    Calls Tryz.prog 124 #[.agg #[.int .i64 o.kind, .int .i64 o.size, .bool o.prio]] w fun e w' => e = .returned (.bool (!rightObjectB o)) ∧ Below w.heap.size w w' := by
  have HH := Lib.hid (fun w => rightObject_any o w)
  go_enter Tryz.func124, Tryz.ntmps124
  go_wp2_with (go_at_call 125; refine (HH.out _).mono ?_; rintro e w' ⟨rfl, hb⟩)
  go_ret
  exact ⟨rfl, ((Below.refl _ _).alloc (Nat.le_refl _) _).trans (hb.mono (by simp))⟩

set_option maxHeartbeats 800000 in
theorem indexObjs (os : List ObjD) (v : Value) (F : Nat → Prop) (hl : os.length ≤ 8) (w : World) (ht : ObjsAt w F v os) :
    Calls Tryz.prog 201 #[v, .func (.func 124) #[] #[]] w fun e w' => e = .returned (.int .i64 (firstAt (fun t => !rightObjectB t) os 0)) ∧ Below w.heap.size w w' := by
  obtain ⟨A, c, rfl⟩ := ht.slice
  have HT := Lib.hid ht
  clear ht
  go_enter Tryz.func201, Tryz.ntmps201
  go_wp2
  go_loopw [5, 8] (fun _ i wr => ∃ k : Nat, k ≤ os.length ∧ i = .int .i64 k ∧ Below w.heap.size w wr ∧ firstAt (fun t => !rightObjectB t) os 0 = firstAt (fun t => !rightObjectB t) (os.drop k) k) (fun _ i _ => os.length - (intOf i).toNat)
  case atStart => exact ⟨0, Nat.zero_le _, rfl, Below.refl _ _, rfl⟩
  case round =>
    obtain ⟨k, hk, rfl, hb, hfi⟩ := hrel
    by_cases hlt : k < os.length
    · obtain ⟨b, o, c', e, hF, hcells⟩ := HT.out.cells (by omega)
      cases e
      obtain ⟨d0, d1, d2⟩ := hcells k os[k] (List.getElem?_eq_getElem hlt)
      have lb := World.block_lt_of_cell? w _ d0
      have e0 : wr.cell? ⟨b, o + k * 3, none⟩ = some (.int .i64 os[k].kind) := by rw [hb.cell (p := ⟨b, o + k * 3, none⟩) lb]; exact d0
      have e1 : wr.cell? ⟨b, o + k * 3 + 1, none⟩ = some (.int .i64 os[k].size) := by rw [hb.cell (p := ⟨b, o + k * 3 + 1, none⟩) lb]; exact d1
      have e2 : wr.cell? ⟨b, o + k * 3 + 2, none⟩ = some (.bool os[k].prio) := by rw [hb.cell (p := ⟨b, o + k * 3 + 2, none⟩) lb]; exact d2
      have hd := firstAt_drop (fun t => !rightObjectB t) os k os[k] (List.getElem?_eq_getElem hlt)
      have H := part2_any os[k] wr
      have hlc : (k : Int) < (os.length : Int) := by omega
      have Hfi := Lib.hid hfi
      have Hd := Lib.hid hd
      have Hb := Lib.hid hb
      clear hfi hd hb hcells d0 d1 d2
      generalize os[k] = t at *
      cases hq : rightObjectB t with
      | true =>
        rw [hq] at H
        have HH := Lib.hid H
        have Hq := Lib.hid hq
        clear H hq
        go_wp2_with (go_at_call 124; refine HH.out.mono ?_; rintro e w1 ⟨rfl, hb1⟩)
        go_roundw
        case rel =>
          refine ⟨k + 1, by omega, by go_num, Hb.out.trans (hb1.mono Hb.out.size), ?_⟩
          rw [Hfi.out, Hd.out, Hq.out]; simp
        case measure => simp [intOf]; omega
      | false =>
        rw [hq] at H
        have HH := Lib.hid H
        have Hq := Lib.hid hq
        clear H hq
        go_wp2_with (go_at_call 124; refine HH.out.mono ?_; rintro e w1 ⟨rfl, hb1⟩)
        go_ret
        refine ⟨?_, Hb.out.trans (hb1.mono Hb.out.size)⟩
        rw [Hfi.out, Hd.out, Hq.out]; simp
    · have hd : os.drop k = [] := List.drop_eq_nil_of_le (by omega)
      rw [hd] at hfi
      have Hfi := Lib.hid hfi
      clear hfi hd
      go_wp2
      go_ret
      refine ⟨?_, hb⟩
      rw [Hfi.out]; simp [firstAt]

set_option maxHeartbeats 400000 in
theorem containsObjs (os : List ObjD) (v : Value) (F : Nat → Prop) (hl : os.length ≤ 8) (w : World) (ht : ObjsAt w F v os) :
    Calls Tryz.prog 123 #[v, .func (.func 124) #[] #[]] w fun e w' => e = .returned (.bool (os.any (fun t => !rightObjectB t))) ∧ Below w.heap.size w w' := by
  rw [← firstAt_any (fun t => !rightObjectB t) os 0]
  have H := indexObjs os v F hl w ht
  generalize firstAt (fun t => !rightObjectB t) os 0 = r at *
  have HH := Lib.hid H
  clear H ht
  go_enter Tryz.func123, Tryz.ntmps123
  go_wp2_with (go_at_call 201; refine HH.out.mono ?_; rintro e w1 ⟨rfl, hb1⟩)
  go_ret
  exact ⟨rfl, hb1⟩

set_option maxHeartbeats 800000 in
theorem configPart_any (P : PartD) (v : Value) (F : Nat → Prop) (hc : CapsOk P.thr) (hs : P.thr.length ≤ 100 ∧ P.obj.length ≤ 100) (w : World) (ht : PartAt w F v P) :
    Calls Tryz.prog 66 #[v] w fun e w' => e = .returned (.int .i64 (partWrong P)) ∧ Below w.heap.size w w' := by
  obtain ⟨v1, v2, rfl, h1, h2⟩ := ht
  obtain ⟨A1, c1, e1⟩ := h1.slice
  obtain ⟨A2, c2, e2⟩ := h2.slice
  have hal : ∀ k, k < w.heap.size → F k → (w.alloc (.cells #[v1, v2] 25)).heap[k]? = w.heap[k]? := fun k hk _ => Below.heap_alloc _ _ _ hk
  have h1' := h1.kept hal
  have h2' := h2.kept hal
  by_cases g1 : 1 ≤ P.thr.length ∧ P.thr.length ≤ 6
  · have w1 : withinB P.thr.length 1 6 = true := by simp [withinB]; omega
    have HW := within_any P.thr.length 1 6
    rw [w1] at HW
    have HW' := Lib.hid HW
    clear HW
    by_cases g2 : 8 < P.obj.length
    · have hr : partWrong P = 3 := by unfold partWrong; rw [if_neg (by omega), if_pos g2]
      rw [hr]
      subst e1 e2
      have hd : decide ((8 : Int) < (P.obj.length : Int)) = true := by simp; omega
      clear h1 h2 h1' h2' hal hr
      go_enter Tryz.func66, Tryz.ntmps66
      go_wp2_with (go_at_call 119; refine (HW'.out _).mono ?_; rintro e w' ⟨rfl, rfl⟩)
      go_ret
      exact ⟨rfl, (Below.refl _ _).alloc (Nat.le_refl _) _⟩
    · have HT := Lib.hid (containsThreads P.thr v1 F P.obj.length (by omega) g1.2 hc w.heap.size A2 c2 (w.alloc (.cells #[v1, v2] 25)) (by rw [e2]; exact cell_of_block (heap_alloc_new w _) 1) h1')
      have HO := fun wx (hb : Below (w.heap.size + 1) (w.alloc (.cells #[v1, v2] 25)) wx) => containsObjs P.obj v2 F (by omega) wx (h2'.kept (fun k hk _ => hb.block k (by simpa using hk)))
      have HO' := Lib.hid HO
      have hr : partWrong P = if P.thr.any (fun t => !rightThreadB t P.obj.length) then 4 else if P.obj.any (fun o => !rightObjectB o) then 5 else 0 := by unfold partWrong; rw [if_neg (by omega), if_neg g2]
      have Hr := Lib.hid hr
      have hd : decide ((8 : Int) < (P.obj.length : Int)) = false := by simp; omega
      subst e1 e2
      clear h1 h2 h1' h2' hal hr HO hc
      generalize P.thr.any (fun t => !rightThreadB t P.obj.length) = b1 at *
      generalize P.obj.any (fun o => !rightObjectB o) = b2 at *
      generalize partWrong P = R at *
      have lay : ∀ wx, Below (w.alloc (.cells #[.slice A1 P.thr.length c1, .slice A2 P.obj.length c2] 25)).heap.size (w.alloc (.cells #[.slice A1 P.thr.length c1, .slice A2 P.obj.length c2] 25)) wx →
          wx.cell? ⟨w.heap.size, 1, none⟩ = some (.slice A2 P.obj.length c2) ∧ Below w.heap.size w wx := fun wx hb =>
        ⟨(hb.cell (p := ⟨w.heap.size, 1, none⟩) (by simp)).trans (cell_of_block (heap_alloc_new w _) 1), ((Below.refl _ _).alloc (Nat.le_refl _) _).trans (hb.mono (by simp))⟩
      have Lay := Lib.hid lay
      clear lay
      cases b1
      · cases b2
        all_goals
          go_enter Tryz.func66, Tryz.ntmps66
          go_wp2_with (first | (go_at_call 119; refine (HW'.out _).mono ?_; rintro e w' ⟨rfl, rfl⟩) | (go_at_call 120; refine HT.out.mono ?_; rintro e wx ⟨rfl, hb1⟩; obtain ⟨cx, hb2⟩ := Lay.out _ hb1; have Hb1 := Lib.hid hb1; have Hb2 := Lib.hid hb2; clear hb1 hb2) | (go_at_call 123; refine (HO'.out _ (by simpa using Hb1.out)).mono ?_; rintro e wy ⟨rfl, hb3⟩; have Hb3 := Lib.hid hb3; clear hb3))
          go_ret
          exact ⟨by rw [Hr.out]; simp, Hb2.out.trans (Hb3.out.mono Hb2.out.size)⟩
      · go_enter Tryz.func66, Tryz.ntmps66
        go_wp2_with (first | (go_at_call 119; refine (HW'.out _).mono ?_; rintro e w' ⟨rfl, rfl⟩) | (go_at_call 120; refine HT.out.mono ?_; rintro e wx ⟨rfl, hb1⟩; obtain ⟨cx, hb2⟩ := Lay.out _ hb1; have Hb1 := Lib.hid hb1; have Hb2 := Lib.hid hb2; clear hb1 hb2))
        go_ret
        exact ⟨by rw [Hr.out]; simp, Hb2.out⟩
  · have w1 : withinB P.thr.length 1 6 = false := by simp [withinB]; omega
    have HW := within_any P.thr.length 1 6
    rw [w1] at HW
    have HW' := Lib.hid HW
    clear HW
    have hr : partWrong P = 2 := by unfold partWrong; rw [if_pos g1]
    rw [hr]
    subst e1 e2
    clear h1 h2 h1' h2' hal hr
    go_enter Tryz.func66, Tryz.ntmps66
    go_wp2_with (go_at_call 119; refine (HW'.out _).mono ?_; rintro e w' ⟨rfl, rfl⟩)
    go_ret
    exact ⟨rfl, (Below.refl _ _).alloc (Nat.le_refl _) _⟩
end Go.Proofs.YtefbdcmodfbpbaaGreat
