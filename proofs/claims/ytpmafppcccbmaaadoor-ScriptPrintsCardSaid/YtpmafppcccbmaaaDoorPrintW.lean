/-
  script.Print: its walk.
-/
import Derived.Test.YtpmafppcccbmaaaDoorPrint
set_option linter.unusedVariables false
set_option linter.unusedSimpArgs false
namespace Go.Proofs.YtpmafppcccbmaaaDoor
open Go.RowKit

def PartOkT (P : PartD) : Prop := (∀ o ∈ P.obj, ObjOk o) ∧ P.obj.length ≤ 1000 ∧ (∀ t ∈ P.thr, ThrOk t) ∧ P.thr.length ≤ 1000
def WinOk (x : WinD) : Prop := I64 x.part ∧ I64 x.ticks
def ChanOk (x : ChanD) : Prop := I64 x.frm ∧ I64 x.out ∧ I64 x.tgt ∧ I64 x.inn
structure ConfOk (c : ConfD) : Prop where
  parts : ∀ p ∈ c.parts, PartOkT p
  pl : c.parts.length ≤ 1000
  wins : ∀ x ∈ c.wins, WinOk x
  wl : c.wins.length ≤ 1000
  chans : ∀ x ∈ c.chans, ChanOk x
  cl : c.chans.length ≤ 1000

theorem partL_len {P : PartD} (h : PartOkT P) : (partL P).length ≤ 25000000000 := by
  obtain ⟨h1, h2, h3, h4⟩ := h
  have a := flat_len objL 100 P.obj (fun x hx => objL_len (h1 x hx))
  have b := thrLs_len P.thr P.thr.length h3 h4
  rw [List.take_length] at b
  have hpw : partWord.length = 5 := rfl
  unfold partL
  rw [List.length_append, List.length_append, hpw]
  omega
theorem winL_len {x : WinD} (h : WinOk x) : (winL x).length ≤ 100 := by
  have := spacedL_len [x.part, x.ticks] (by simp [h.1, h.2])
  unfold winL wlineL
  simp only [List.length_append, List.length_cons, List.length_nil] at *
  omega
theorem chanL_len {x : ChanD} (h : ChanOk x) : (chanL x).length ≤ 150 := by
  have := spacedL_len [x.frm, x.out, x.tgt, x.inn] (by simp [h.1, h.2.1, h.2.2.1, h.2.2.2])
  unfold chanL wlineL
  simp only [List.length_append, List.length_cons, List.length_nil] at *
  omega

/-- A line of numbers behind a stored loop variable, where nothing is drawn. -/
theorem wlineM (B b : Nat) (l name : List UInt8) (xs : List Int) (wr : World) (o : Array Value) (tb : TypeId) (hto : tb ≠ 5) (hB : Bld 80 B b l wr) (hBw : B ≤ wr.heap.size) (hT : ∀ W, Below B wr W → Tabs W)
    (hx : ∀ x ∈ xs, I64 x) (hxl : xs.length ≤ 10) (hl : l.length + name.length + 1000 ≤ 140737488355328) :
    Calls Tryd.prog 40 #[.pointer (some ⟨b, 0, none⟩), .string (sb name), .slice (some ⟨wr.heap.size + 1, 0, none⟩) xs.length xs.length] ((wr.alloc (.cells o tb)).alloc (.cells (encInts xs).toArray 2))
      fun e w2 => e = .returned (.tuple #[]) ∧ Bld 80 B b (l ++ wlineL name xs) w2 ∧ Below B wr w2 ∧ Others b wr w2 ∧ w2.heap[wr.heap.size]? = some (.cells o tb (0, 0)) := by
  have hbl := bld_lt hB
  have hs1 : (wr.alloc (.cells o tb)).heap.size = wr.heap.size + 1 := by simp
  have hbw : Below wr.heap.size wr ((wr.alloc (.cells o tb)).alloc (.cells (encInts xs).toArray 2)) := Below.alloc (Below.alloc (Below.refl _ _) (Nat.le_refl _) _) (by omega) _
  have hbB := hbw.mono hBw
  have h := wline_any B b l name xs (some ⟨(wr.alloc (.cells o tb)).heap.size, 0, none⟩) xs.length _ (bld_kept hB hbw) (Nat.le_trans hBw hbw.size) (fun W hW => hT W (hbB.trans hW)) hx (by omega) (by omega) (fun W _ ho => row_any (wr.alloc (.cells o tb)) b xs (by omega) W ho)
  rw [hs1] at h
  refine h.mono ?_
  rintro e w2 ⟨rfl, hb2, hw2, ho2⟩
  have z0 : ((wr.alloc (.cells o tb)).alloc (.cells (encInts xs).toArray 2)).heap[wr.heap.size]? = some (.cells o tb (0, 0)) := heap_alloc2_old _ _ _
  exact ⟨rfl, hb2, hbB.trans hw2, (others_below (Lib.OthersKept.refl _ _ _) hbw).trans ho2, others_block ho2 z0 (by omega) hto⟩

/-- What script.Print answers. -/
def printV (c : ConfD) : Value := .tuple #[.string (sb ((printL c).getD [])), .int .i64 (if (printL c).isSome then 0 else 1)]

set_option maxRecDepth 100000 in
set_option maxHeartbeats 3200000 in
theorem print_any (c : ConfD) (hok : ConfOk c) (v : Value) (w : World) (hT : ∀ W, Below w.heap.size w W → Tabs W) (hC : ConfAt w (fun k => k < w.heap.size) v c) :
    Calls Tryd.prog 22 #[v] w fun e w' => e = .returned (printV c) ∧ Below w.heap.size w w' := by
  obtain ⟨v1, v2, v3, rfl, h1, h2, h3⟩ := hC
  obtain ⟨A1, c1, rfl⟩ : ∃ A c', v1 = .slice A c.parts.length c' := by obtain ⟨_, _, ⟨_, A, c', e, _⟩, _⟩ := h1; exact ⟨A, c', e⟩
  obtain ⟨A2, c2, rfl⟩ : ∃ A c', v2 = .slice A c.wins.length c' := by obtain ⟨_, A, c', e, _⟩ := h2; exact ⟨A, c', e⟩
  obtain ⟨A3, c3, rfl⟩ : ∃ A c', v3 = .slice A c.chans.length c' := by obtain ⟨_, A, c', e, _⟩ := h3; exact ⟨A, c', e⟩
  have HT := Lib.hid hT
  have HP := Lib.hid h1
  have HW := Lib.hid h2
  have HC := Lib.hid h3
  have HO := Lib.hid hok
  have lp := hok.pl
  have lw := hok.wl
  have lc := hok.cl
  clear hT h1 h2 h3 hok
  go_enter Tryd.func22, Tryd.ntmps22
  go_wp2
  have hb0 := bld_fresh_writer (w.alloc (.cells #[.slice A1 c.parts.length c1, .slice A2 c.wins.length c2, .slice A3 c.chans.length c3] 41))
  rw [World.size_alloc] at hb0
  have hz0 : ((w.alloc (.cells #[.slice A1 c.parts.length c1, .slice A2 c.wins.length c2, .slice A3 c.chans.length c3] 41)).alloc (.cells #[.pointer none, .slice none 0 0] 80)).heap[w.heap.size]? = some _ := heap_alloc2_old w _ _
  have hbw : Below w.heap.size w ((w.alloc (.cells #[.slice A1 c.parts.length c1, .slice A2 c.wins.length c2, .slice A3 c.chans.length c3] 41)).alloc (.cells #[.pointer none, .slice none 0 0] 80)) := ((Below.refl _ _).alloc (Nat.le_refl _) _).alloc (by simp) _
  have hs0 : ((w.alloc (.cells #[.slice A1 c.parts.length c1, .slice A2 c.wins.length c2, .slice A3 c.chans.length c3] 41)).alloc (.cells #[.pointer none, .slice none 0 0] 80)).heap.size = w.heap.size + 2 := by simp
  generalize ((w.alloc (.cells #[.slice A1 c.parts.length c1, .slice A2 c.wins.length c2, .slice A3 c.chans.length c3] 41)).alloc (.cells #[.pointer none, .slice none 0 0] 80)) = w1 at *
  have HB0 := Lib.hid hb0
  have HZ0 := Lib.hid hz0
  have HBW := Lib.hid hbw
  have HS0 := Lib.hid hs0
  have HKW := Lib.hid (fun (wr : World) (hb : Below (w.heap.size + 1) w1 wr) => (hbw.trans (hb.mono (by omega)) : Below w.heap.size w wr))
  clear hb0 hz0 hbw hs0
  go_loopw [16] (fun i wr => ∃ k : Nat, k ≤ c.parts.length ∧ i = .int .i64 k ∧ Hid (Bld 80 (w.heap.size + 1) (w.heap.size + 1) ((c.parts.take k).flatMap partL) wr) ∧ Hid (Below (w.heap.size + 1) w1 wr) ∧ Hid (Others (w.heap.size + 1) w1 wr) ∧ Hid ((c.parts.take k).all partOk = true)) (fun i _ => c.parts.length - (intOf i).toNat)
  case atStart => exact ⟨0, Nat.zero_le _, rfl, by simpa using HB0, Lib.hid (Below.refl _ _), Lib.hid (Lib.OthersKept.refl _ _ _), Lib.hid rfl⟩
  case round =>
    obtain ⟨k, hk, rfl, hb, hw, ho, hall⟩ := hrel
    have hsz : w.heap.size + 2 ≤ wr.heap.size := by have := hw.out.size; have := HS0.out; omega
    have hbw := HKW.out wr hw.out
    by_cases hlt : k < c.parts.length
    · have hlc : (k : Int) < (c.parts.length : Int) := by omega
      obtain ⟨g, o, c', e, hg, hcells⟩ := HP.out.cells (by omega)
      cases e
      obtain ⟨pv1, pv2, d0, d1, hpa⟩ := hcells k c.parts[k] (List.getElem?_eq_getElem hlt)
      have hgB : g < w.heap.size := hg
      rw [← hbw.cell (p := ⟨g, o + k * 2, none⟩) hgB] at d0
      rw [← hbw.cell (p := ⟨g, o + k * 2 + 1, none⟩) hgB] at d1
      have hpw := (hpa.kept (w' := wr) (fun q hq _ => hbw.block q hq)).wider (F' := fun q => q < w.heap.size + 1) (fun q hq => by omega)
      have HPA := Lib.hid hpw
      obtain ⟨x1, x2, ex, hx1, hx2⟩ := hpa
      cases ex
      obtain ⟨X1, y1, rfl⟩ : ∃ A c', pv1 = .slice A c.parts[k].thr.length c' := by obtain ⟨_, _, ⟨_, A, c', e, _⟩, _⟩ := hx1; exact ⟨A, c', e⟩
      obtain ⟨X2, y2, rfl⟩ : ∃ A c', pv2 = .slice A c.parts[k].obj.length c' := by obtain ⟨_, A, c', e, _⟩ := hx2; exact ⟨A, c', e⟩
      have hpk := HO.out.parts c.parts[k] (List.getElem_mem hlt)
      have HS := Lib.hid (take_flat partL c.parts k hlt)
      have HSA := Lib.hid (take_all partOk c.parts k hlt)
      have HNA := Lib.hid (not_all partOk c.parts k hlt)
      have hfl := flat_len partL 25000000000 (c.parts.take k) (fun x hx => partL_len (HO.out.parts x (List.mem_of_mem_take hx)))
      rw [List.length_take] at hfl
      clear hx1 hx2 hcells hg hpw
      generalize c.parts[k] = P at *
      obtain ⟨k1, k2, k3, k4⟩ := hpk
      have HW1 := Lib.hid (wpart_any P (w.heap.size + 1) (w.heap.size + 1) ((c.parts.take k).flatMap partL) _ (wr.alloc (.cells #[.slice X1 P.thr.length y1, .slice X2 P.obj.length y2] 73)) (bld_kept hb.out ((Below.refl _ _).alloc (Nat.le_refl _) _)) (by omega) (by simp; omega)
        (fun W hW => HT.out W (hbw.trans ((((Below.refl (w.heap.size + 1) wr).alloc (by omega) _).trans hW).mono (by omega)))) (HPA.out.kept (fun q hq _ => Below.heap_alloc _ _ _ hq)) k1 (by omega) k3 k4)
      have Hbw := Lib.hid hbw
      clear k1 k2 k3 k4 hfl hbw
      cases hpo : partOk P with
      | true =>
        rw [hpo] at HW1
        have HSA' := Lib.hid (HSA.out hall.out hpo)
        clear hpo
        go_wp2_with fail
        go_at_call 39
        refine HW1.out.mono ?_
        rintro e w2 ⟨rfl, hw2, ho2, hb2⟩
        have hbn : Hid (Bld 80 (w.heap.size + 1) (w.heap.size + 1) ((c.parts.take (k + 1)).flatMap partL) w2) := by
          rw [HS.out]; exact Lib.hid (hb2 trivial)
        have hwn := Lib.hid (hw.out.trans (((Below.refl (w.heap.size + 1) wr).alloc (by omega) _).trans hw2))
        have hon : Hid (Others (w.heap.size + 1) w1 w2) := Lib.hid ((others_below ho.out ((Below.refl wr.heap.size wr).alloc (Nat.le_refl _) _)).trans ho2)
        clear hw2 ho2 hb2 HW1
        go_wp2
        go_roundw
        case rel => exact ⟨k + 1, by omega, by go_num, hbn, hwn, hon, HSA'⟩
        case measure => simp [intOf]; omega
      | false =>
        rw [hpo] at HW1
        have HN := Lib.hid (HNA.out hpo)
        have HPN : Hid (printV c = .tuple #[.string (ByteArray.mk #[]), .int .i64 1]) := Lib.hid (by unfold printV printL; rw [HN.out]; rfl)
        clear hpo
        go_wp2_with fail
        go_at_call 39
        refine HW1.out.mono ?_
        rintro e w2 ⟨rfl, hw2, ho2, hb2⟩
        have hwn := Lib.hid (HKW.out _ (hw.out.trans (((Below.refl (w.heap.size + 1) wr).alloc (by omega) _).trans hw2)))
        clear hw2 ho2 hb2 HW1
        go_wp2
        go_ret2
        exact ⟨congrArg Ending.returned HPN.out.symm, hwn.out⟩
    · have e : c.parts.take k = c.parts := List.take_of_length_le (by omega)
      rw [e] at hb hall
      clear e
      have HPR : Hid (printV c = .tuple #[.string (sb (c.parts.flatMap partL ++ (c.wins.flatMap winL ++ c.chans.flatMap chanL))), .int .i64 0]) := Lib.hid (by unfold printV printL; rw [hall.out]; rfl)
      have hfl := flat_len partL 25000000000 c.parts (fun x hx => partL_len (HO.out.parts x hx))
      generalize hq : c.parts.flatMap partL = q at *
      have hql : q.length ≤ 25000000000000 := by omega
      obtain ⟨w2, rfl⟩ : ∃ x, x = wr := ⟨wr, rfl⟩
      have hz2 := others_block ho.out HZ0.out (by omega) (by decide)
      have f1 : w2.cell? ⟨w.heap.size, 1, none⟩ = some (.slice A2 c.wins.length c2) := row_cells hz2 1
      have HZ2 := Lib.hid hz2
      have hge : ¬ ((k : Int) < (c.parts.length : Int)) := by omega
      clear hq hfl hall hz2 hlt hk HP HB0 HZ0 lp
      go_wp2
      go_loopw [28] (fun i wr => ∃ k : Nat, k ≤ c.wins.length ∧ i = .int .i64 k ∧ Hid (Bld 80 (w.heap.size + 1) (w.heap.size + 1) (q ++ (c.wins.take k).flatMap winL) wr) ∧ Hid (Below (w.heap.size + 1) w1 wr) ∧ Hid (Others (w.heap.size + 1) w1 wr) ∧ Hid (wr.heap[w.heap.size]? = some (.cells #[.slice A1 c.parts.length c1, .slice A2 c.wins.length c2, .slice A3 c.chans.length c3] 41 (0, 0)))) (fun i _ => c.wins.length - (intOf i).toNat)
      case atStart => exact ⟨0, Nat.zero_le _, rfl, by simpa using hb, hw, ho, HZ2⟩
      case round =>
        clear hb hw ho HZ2
        obtain ⟨k, hk, rfl, hb, hw, ho, hz⟩ := hrel
        have hsz : w.heap.size + 2 ≤ wr.heap.size := by have := hw.out.size; have := HS0.out; omega
        have hbw := HKW.out wr hw.out
        by_cases hlt : k < c.wins.length
        · have hlc : (k : Int) < (c.wins.length : Int) := by omega
          obtain ⟨g, o, c', e, hg, hcells⟩ := HW.out.cells (by omega)
          cases e
          obtain ⟨d0, d1⟩ := hcells k c.wins[k] (List.getElem?_eq_getElem hlt)
          have hgB : g < w.heap.size := hg
          rw [← hbw.cell (p := ⟨g, o + k * 2, none⟩) hgB] at d0
          rw [← hbw.cell (p := ⟨g, o + k * 2 + 1, none⟩) hgB] at d1
          obtain ⟨i0, i1⟩ := HO.out.wins c.wins[k] (List.getElem_mem hlt)
          have HS := Lib.hid (take_flat winL c.wins k hlt)
          have hfl := flat_len winL 100 (c.wins.take k) (fun x hx => winL_len (HO.out.wins x (List.mem_of_mem_take hx)))
          rw [List.length_take] at hfl
          clear hcells hg
          generalize c.wins[k] = x at *
          have HL := Lib.hid (wlineM (w.heap.size + 1) (w.heap.size + 1) (q ++ (c.wins.take k).flatMap winL) [119, 105, 110, 100, 111, 119] [x.part, x.ticks] wr #[.int .i64 x.part, .int .i64 x.ticks] 61 (by decide) hb.out (by omega) (fun W hW => HT.out W (hbw.trans (hW.mono (by omega)))) (by simp [i0, i1]) (by simp) (by simp only [List.length_append, List.length_cons, List.length_nil]; omega))
          rw [show (encInts [x.part, x.ticks]).toArray = #[.int .i64 x.part, .int .i64 x.ticks] from rfl, show ([x.part, x.ticks] : List Int).length = 2 from rfl, show sb [119, 105, 110, 100, 111, 119] = ByteArray.mk #[119, 105, 110, 100, 111, 119] from rfl] at HL
          have Hbw := Lib.hid hbw
          clear hbw hfl i0 i1
          go_wp2_with fail
          go_at_call 40
          (with_reducible refine HL.out.mono ?_)
          rintro e w3 ⟨rfl, hb3, hw3, ho3, hz3⟩
          have hbn : Hid (Bld 80 (w.heap.size + 1) (w.heap.size + 1) (q ++ (c.wins.take (k + 1)).flatMap winL) w3) := by
            rw [HS.out, ← List.append_assoc]; exact Lib.hid hb3
          have hwn := Lib.hid (hw.out.trans hw3)
          have hzn := Lib.hid (others_block ho3 hz.out (by omega) (by decide))
          have hon := Lib.hid (ho.out.trans ho3)
          clear hb3 hw3 ho3 hz3 HL
          go_wp2
          go_roundw
          case rel => exact ⟨k + 1, by omega, by go_num, hbn, hwn, hon, hzn⟩
          case measure => simp [intOf]; omega
        · have e : c.wins.take k = c.wins := List.take_of_length_le (by omega)
          have hge : ¬ ((k : Int) < (c.wins.length : Int)) := by omega
          rw [e] at hb
          clear e hlt hk
          have hfl := flat_len winL 100 c.wins (fun x hx => winL_len (HO.out.wins x hx))
          have hq2l : (q ++ c.wins.flatMap winL).length ≤ 25000001000000 := by rw [List.length_append]; omega
          rw [← List.append_assoc] at HPR
          generalize q ++ c.wins.flatMap winL = q2 at *
          obtain ⟨w4, rfl⟩ : ∃ x, x = wr := ⟨wr, rfl⟩
          have f2 : w4.cell? ⟨w.heap.size, 2, none⟩ = some (.slice A3 c.chans.length c3) := row_cells hz.out 2
          obtain ⟨HZ2, _⟩ := And.intro hz True.intro
          clear hfl HW lw
          go_wp2
          go_loopw [43] (fun i wr => ∃ k : Nat, k ≤ c.chans.length ∧ i = .int .i64 k ∧ Hid (Bld 80 (w.heap.size + 1) (w.heap.size + 1) (q2 ++ (c.chans.take k).flatMap chanL) wr) ∧ Hid (Below (w.heap.size + 1) w1 wr) ∧ Hid (Others (w.heap.size + 1) w1 wr) ∧ Hid (wr.heap[w.heap.size]? = some (.cells #[.slice A1 c.parts.length c1, .slice A2 c.wins.length c2, .slice A3 c.chans.length c3] 41 (0, 0)))) (fun i _ => c.chans.length - (intOf i).toNat)
          case atStart => exact ⟨0, Nat.zero_le _, rfl, by simpa using hb, hw, ho, HZ2⟩
          case round =>
            clear hb hw ho HZ2
            obtain ⟨k, hk, rfl, hb, hw, ho, hz⟩ := hrel
            have hsz : w.heap.size + 2 ≤ wr.heap.size := by have := hw.out.size; have := HS0.out; omega
            have hbw := HKW.out wr hw.out
            by_cases hlt : k < c.chans.length
            · have hlc : (k : Int) < (c.chans.length : Int) := by omega
              obtain ⟨g, o, c', e, hg, hcells⟩ := HC.out.cells (by omega)
              cases e
              obtain ⟨d0, d1, d2, d3⟩ := hcells k c.chans[k] (List.getElem?_eq_getElem hlt)
              have hgB : g < w.heap.size := hg
              rw [← hbw.cell (p := ⟨g, o + k * 4, none⟩) hgB] at d0
              rw [← hbw.cell (p := ⟨g, o + k * 4 + 1, none⟩) hgB] at d1
              rw [← hbw.cell (p := ⟨g, o + k * 4 + 2, none⟩) hgB] at d2
              rw [← hbw.cell (p := ⟨g, o + k * 4 + 3, none⟩) hgB] at d3
              obtain ⟨i0, i1, i2, i3⟩ := HO.out.chans c.chans[k] (List.getElem_mem hlt)
              have HS := Lib.hid (take_flat chanL c.chans k hlt)
              have hfl := flat_len chanL 150 (c.chans.take k) (fun x hx => chanL_len (HO.out.chans x (List.mem_of_mem_take hx)))
              rw [List.length_take] at hfl
              clear hcells hg
              generalize c.chans[k] = x at *
              have HL := Lib.hid (wlineM (w.heap.size + 1) (w.heap.size + 1) (q2 ++ (c.chans.take k).flatMap chanL) [99, 104, 97, 110, 110, 101, 108] [x.frm, x.out, x.tgt, x.inn] wr #[.int .i64 x.frm, .int .i64 x.out, .int .i64 x.tgt, .int .i64 x.inn] 83 (by decide) hb.out (by omega) (fun W hW => HT.out W (hbw.trans (hW.mono (by omega)))) (by simp [i0, i1, i2, i3]) (by simp) (by simp only [List.length_append, List.length_cons, List.length_nil]; omega))
              rw [show (encInts [x.frm, x.out, x.tgt, x.inn]).toArray = #[.int .i64 x.frm, .int .i64 x.out, .int .i64 x.tgt, .int .i64 x.inn] from rfl, show ([x.frm, x.out, x.tgt, x.inn] : List Int).length = 4 from rfl, show sb [99, 104, 97, 110, 110, 101, 108] = ByteArray.mk #[99, 104, 97, 110, 110, 101, 108] from rfl] at HL
              have Hbw := Lib.hid hbw
              clear hbw hfl i0 i1 i2 i3
              go_wp2_with fail
              go_at_call 40
              (with_reducible refine HL.out.mono ?_)
              rintro e w3 ⟨rfl, hb3, hw3, ho3, hz3⟩
              have hbn : Hid (Bld 80 (w.heap.size + 1) (w.heap.size + 1) (q2 ++ (c.chans.take (k + 1)).flatMap chanL) w3) := by
                rw [HS.out, ← List.append_assoc]; exact Lib.hid hb3
              have hwn := Lib.hid (hw.out.trans hw3)
              have hzn := Lib.hid (others_block ho3 hz.out (by omega) (by decide))
              have hon := Lib.hid (ho.out.trans ho3)
              clear hb3 hw3 ho3 hz3 HL
              go_wp2
              go_roundw
              case rel => exact ⟨k + 1, by omega, by go_num, hbn, hwn, hon, hzn⟩
              case measure => simp [intOf]; omega
            · have e : c.chans.take k = c.chans := List.take_of_length_le (by omega)
              have hge : ¬ ((k : Int) < (c.chans.length : Int)) := by omega
              rw [e] at hb
              clear e hlt hk
              have hfl := flat_len chanL 150 c.chans (fun x hx => chanL_len (HO.out.chans x hx))
              have HSt := Lib.hid (string_any 80 (w.heap.size + 1) (w.heap.size + 1) (q2 ++ c.chans.flatMap chanL) wr hb.out (by omega))
              have Hbw := Lib.hid hbw
              clear hfl hbw
              go_wp2_with fail
              go_at_call 41
              refine HSt.out.mono ?_
              rintro e w5 ⟨rfl, hw5, ho5⟩
              have hwn := Lib.hid (HKW.out _ (hw.out.trans hw5))
              clear hw5 ho5 HSt
              have HPR2 : Hid (printV c = .tuple #[.string (sb (q2 ++ c.chans.flatMap chanL)), .int .i64 0]) := HPR
              clear HPR
              generalize q2 ++ c.chans.flatMap chanL = q3 at *
              go_wp2
              go_ret2
              exact ⟨congrArg Ending.returned HPR2.out.symm, hwn.out⟩
end Go.Proofs.YtpmafppcccbmaaaDoor
