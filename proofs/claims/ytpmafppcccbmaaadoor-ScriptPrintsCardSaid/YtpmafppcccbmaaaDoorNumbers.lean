/-
  strconv.ParseInt at base 10; report.numbers.
-/
import Derived.Test.YtpmafppcccbmaaaDoorKindOf
import Derived.Test.YtpmafppcccbmaaaDoorClone
set_option linter.unusedVariables false
set_option linter.unusedSimpArgs false
namespace Go.Proofs.YtpmafppcccbmaaaDoor
open Go.RowKit

structure TabsP (w : World) : Prop where
  tabs : Tabs w
  most : ∃ m, w.cell? ⟨1, 0, none⟩ = some (.int .i64 m)
  bad : ∃ tp p, w.var? Tryd.prog "strconv.ErrSyntax" = some #[.iface tp p]
  far : ∃ tp p, w.var? Tryd.prog "strconv.ErrRange" = some #[.iface tp p]
theorem TabsP.on {w w' : World} (h : TabsP w) (hb : Below w.heap.size w w') : TabsP w' := by
  have h1 : Tryd.prog.globalNamed "strconv.ErrSyntax" = some 3 := by kernel_rfl
  have h2 : Tryd.prog.globalNamed "strconv.ErrRange" = some 4 := by kernel_rfl
  obtain ⟨m, hm⟩ := h.most
  obtain ⟨t1, p1, e1⟩ := h.bad
  obtain ⟨t2, p2, e2⟩ := h.far
  exact ⟨h.tabs.on hb, ⟨m, keep_cell hb hm⟩, ⟨t1, p1, var?_below hb h1 (var_lt h1 e1) e1⟩, ⟨t2, p2, var?_below hb h2 (var_lt h2 e2) e2⟩⟩

theorem parse_ok (l : List UInt8) (v : Int) (hl : l.length ≤ 1000000) (h : Lib.parseIntB 64 l = .ok v) (w : World) :
    Calls Tryd.prog 50 #[.string (sb l), .int .i64 10, .int .i64 64] w fun e w' => e = .returned (.tuple #[.int .i64 v, .nilIface]) ∧ Below w.heap.size w w' := by
  refine (Tryd.strconv_ParseInt_10_at64_ok (sb l) (by rw [sb_size]; omega) v (by rw [sb_toList]; exact h) w).mono ?_
  rintro e w' ⟨rfl, hw⟩
  refine ⟨rfl, ?_⟩
  rcases hw with rfl | ⟨t, rfl⟩
  · exact Below.refl _ _
  · exact Lib.bytesWorld_below _ _ _
def BadNumber (w : World) (e : Ending) (w' : World) : Prop := ∃ (x : Int) (N : Nat), e = .returned (.tuple #[.int .i64 x, .iface 135 (.pointer (some ⟨N, 0, none⟩))]) ∧ Below w.heap.size w w'
theorem parse_no (l : List UInt8) (hl : l.length ≤ 1000000) (h : ∀ v, Lib.parseIntB 64 l ≠ .ok v) (w : World) (hT : TabsP w) :
    Calls Tryd.prog 50 #[.string (sb l), .int .i64 10, .int .i64 64] w (BadNumber w) := by
  have hs : (sb l).size ≤ 281474976710656 := by rw [sb_size]; omega
  obtain ⟨t1, p1, e1⟩ := hT.bad
  obtain ⟨t2, p2, e2⟩ := hT.far
  rcases hp : Lib.parseIntB 64 l with v | _ | _
  · exact absurd hp (h v)
  · refine (Any.strconv_ParseInt_10_at64_syntax_var Tryd.laysC174 (sb l) hs (by rw [sb_toList]; exact hp) t1 p1 w e1).mono ?_
    rintro e w' ⟨N, rfl, _, _, hb⟩
    exact ⟨_, _, rfl, hb⟩
  · refine (Any.strconv_ParseInt_10_at64_range_var Tryd.laysC174 (sb l) hs (by rw [sb_toList]; exact hp) t2 p2 w e2).mono ?_
    rintro e w' ⟨N, rfl, _, _, hb⟩
    exact ⟨_, _, rfl, hb⟩

/-- Texts in a slice. -/
def strCells (ls : List (List UInt8)) : List Value := ls.map fun l => .string (sb l)
def StrsAt (w : World) (F : Nat → Prop) (v : Value) (ls : List (List UInt8)) : Prop := Reads w F v ls.length 1 (strCells ls)
theorem StrsAt.cells {w : World} {F : Nat → Prop} {v : Value} {xs : List (List UInt8)} (h : StrsAt w F v xs) (hn : 0 < xs.length) :
    ∃ b o c, v = .slice (some ⟨b, o, none⟩) xs.length c ∧ F b ∧ ∀ i x, xs[i]? = some x → w.cell? ⟨b, o + i, none⟩ = some (.string (sb x)) := by
  obtain ⟨_, A, c, e, h3⟩ := h
  obtain ⟨b, o, rfl, hF, hc⟩ := h3 hn
  exact ⟨b, o, c, e, hF, fun i x hx => hc i _ (by simp [strCells, hx])⟩
theorem StrsAt.slice {w : World} {F : Nat → Prop} {v : Value} {xs : List (List UInt8)} (h : StrsAt w F v xs) : ∃ A c, v = .slice A xs.length c := by
  obtain ⟨_, A, c, e, _⟩ := h; exact ⟨A, c, e⟩

theorem numsOf_append (a b : List (List UInt8)) : numsOf (a ++ b) = (numsOf a).bind fun x => (numsOf b).map fun y => x ++ y := by
  induction a with
  | nil => cases h : numsOf b <;> simp [numsOf, h]
  | cons l ls ih =>
    simp only [List.cons_append, numsOf, ih]
    cases numOf l <;> cases numsOf ls <;> cases numsOf b <;> simp
theorem numsOf_next {ls : List (List UInt8)} {k : Nat} {vs : List Int} {v : Int} (hk : k < ls.length) (h : numsOf (ls.take k) = some vs) (hv : numOf ls[k] = some v) : numsOf (ls.take (k + 1)) = some (vs ++ [v]) := by
  rw [List.take_succ_eq_append_getElem hk, numsOf_append, h]
  simp [numsOf, hv]
theorem numsOf_fail {ls : List (List UInt8)} {k : Nat} (hk : k < ls.length) (hv : numOf ls[k] = none) : numsOf ls = none := by
  have e : ls = ls.take k ++ (ls[k] :: ls.drop (k + 1)) := by rw [← List.drop_eq_getElem_cons hk, List.take_append_drop]
  rw [e, numsOf_append]
  simp [numsOf, hv]
theorem numOf_none_of {l : List UInt8} (h : ∀ v, Lib.parseIntB 64 l ≠ .ok v) : numOf l = none := by
  unfold numOf
  split
  · rename_i v hv; exact absurd hv (h v)
  · rfl
theorem numOf_none_other {l : List UInt8} {v : Int} (h : Lib.parseIntB 64 l = .ok v) (hne : ¬ Lib.itoa v = l) : numOf l = none := by
  unfold numOf; rw [h]; simp [hne]
theorem numOf_some_of {l : List UInt8} {v : Int} (h : Lib.parseIntB 64 l = .ok v) (he : Lib.itoa v = l) : numOf l = some v := by
  unfold numOf; rw [h]; simp [he]

theorem own_kept {w w' : World} {B : Nat} {e size n : Nat} {v : Value} {xs : List Value} (h : w.ownsRow B e size v n xs) (hb : Below w.heap.size w w') : w'.ownsRow B e size v n xs := by
  refine ⟨h.1, ?_⟩
  rcases h.2 with hn | ⟨g, cap, cur, rfl, hbg, hg, r⟩
  · exact .inl hn
  · exact .inr ⟨g, cap, cur, rfl, hbg, (hb.block g (Array.getElem?_eq_some_iff.1 hg).1).trans hg, r⟩
def NumsPost (w : World) (ls : List (List UInt8)) (e : Ending) (w' : World) : Prop :=
  Below w.heap.size w w' ∧ ((numsOf ls = none ∧ e = .returned (.tuple #[.slice none 0 0, .bool false])) ∨
    ∃ vs v, numsOf ls = some vs ∧ e = .returned (.tuple #[v, .bool true]) ∧ w'.ownsRow w.heap.size 2 1 v vs.length (encInts vs))

set_option maxRecDepth 100000 in
set_option maxHeartbeats 3200000 in
theorem numbers_any (ls : List (List UInt8)) (hl : ∀ l ∈ ls, l.length ≤ 1000000) (hn : ls.length ≤ 1000000) (F : Nat → Prop) (v : Value) (w : World) (hT : TabsP w) (h : StrsAt w F v ls) :
    Calls Tryd.prog 32 #[v] w (NumsPost w ls) := by
  obtain ⟨A, c, rfl⟩ := h.slice
  obtain ⟨i0, hi, hz0, hz1, hz2⟩ := info_parts Tryd.info_int64
  have H := Lib.hid h
  have HL := Lib.hid hl
  have HT := Lib.hid hT
  have HI := Lib.hid hi
  have HZ0 := Lib.hid hz0
  have HZ1 := Lib.hid hz1
  have HZ2 := Lib.hid hz2
  clear h hl hT hi hz0 hz1 hz2
  go_enter Tryd.func32, Tryd.ntmps32
  go_wp2
  go_loopw [4, 11] (fun ov i wr => ∃ (k : Nat) (vs : List Int), k ≤ ls.length ∧ i = .int .i64 k ∧ Hid (numsOf (ls.take k) = some vs ∧ vs.length = k) ∧ Hid (wr.ownsRow w.heap.size 2 1 ov vs.length (encInts vs)) ∧ Hid (Below w.heap.size w wr)) (fun _ i _ => ls.length - (intOf i).toNat)
  case atStart => exact ⟨0, [], Nat.zero_le _, rfl, Lib.hid ⟨rfl, rfl⟩, Lib.hid (World.ownsRow_nil _ _ _ _), Lib.hid (Below.refl _ _)⟩
  case round =>
    obtain ⟨k, vs, hk, rfl, hvs, hown, hb⟩ := hrel
    have hsz := hb.out.size
    by_cases hlt : k < ls.length
    · obtain ⟨b, o, c', e, hF, hcells⟩ := H.out.cells (by omega)
      cases e
      have d := hcells k ls[k] (List.getElem?_eq_getElem hlt)
      have lb := World.block_lt_of_cell? w _ d
      rw [← hb.out.cell (p := ⟨b, o + k, none⟩) lb] at d
      have hlk := HL.out ls[k] (List.getElem_mem hlt)
      have hlc : (k : Int) < (ls.length : Int) := by omega
      have HX := Lib.hid (fun v (hv : numOf ls[k] = some v) => numsOf_next hlt hvs.out.1 hv)
      have HF := Lib.hid (fun (hv : numOf ls[k] = none) => numsOf_fail hlt hv)
      clear hcells
      generalize ls[k] = l at *
      by_cases hex : ∃ v, Lib.parseIntB 64 l = .ok v
      · obtain ⟨v, hp⟩ := hex
        have hv := parseIntB64_bounds hp
        have HP := Lib.hid (parse_ok l v hlk hp wr)
        by_cases he : Lib.itoa v = l
        · have HV := Lib.hid (HX.out v (numOf_some_of hp he))
          have HNum := Lib.hid (fun W hT => num_any v hv W hT)
          rw [he] at HNum
          clear hp he HX HF
          go_wp2_with (go_at_call 50; refine HP.out.mono ?_; rintro e w1 ⟨rfl, hb1⟩; refine Hid.out ?_)
          have hbw1 := keep_below hb.out (Nat.le_refl _) hb1
          have hown1 := own_kept hown.out hb1
          clear hb1 d HP
          refine Lib.hid ?_
          go_wp2_with (go_at_call 48; refine (HNum.out _ (HT.out.tabs.on hbw1)).mono ?_; rintro e w2 ⟨rfl, hb2⟩; refine Hid.out ?_)
          have hbw2 := keep_below hbw1 (Nat.le_refl _) hb2
          have hown2 := own_kept hown1 hb2
          have hz2 : w.heap.size ≤ w2.heap.size := hbw2.size
          have hle : vs.length + 1 ≤ 2000000 := by have := hvs.out.2; omega
          have hlen : (encInts vs).length = vs.length := by simp [encInts]
          clear hb2 hbw1 hown1 hown
          refine Lib.hid ?_
          go_wp2_with (at_builtin; refine wpList_append_own _ rfl _ _ 22 rfl w.heap.size 2 i0 (.int .i64 0) 1 8 Tryd.underlying22 HI.out HZ0.out HZ1.out HZ2.out rfl (by decide) _ _ _ rfl (hown2.alloc _) ⟨w2.heap.size, 0, none⟩ 1 1 [.int .i64 v] rfl rfl ?c1 ?c2 ?c3 ?c4 ?c5 ?_)
          case c1 =>
            intro j u hj
            match j, hj with
            | 0, hj => simp at hj; subst hj; simp [Addr.add]
          case c2 => intro u hu; simp at hu; subst hu; rfl
          case c3 => unfold maxLen; omega
          case c4 => omega
          case c5 => simp; omega
          intro v' w3 hown' hgrow _
          have hb3 := Lib.hid ((hbw2.alloc hz2 (.cells #[.int .i64 v] 2)).grown hgrow (by simp; omega) (fun k hk => (hown2.lt k hk).1))
          have HO : Hid (w3.ownsRow w.heap.size 2 1 v' (vs ++ [v]).length (encInts (vs ++ [v]))) := by
            have := hown'
            rw [List.length_append, List.length_singleton, show encInts (vs ++ [v]) = encInts vs ++ [.int .i64 v] by simp [encInts]]
            exact this
          have HV2 : Hid (numsOf (ls.take (k + 1)) = some (vs ++ [v]) ∧ (vs ++ [v]).length = k + 1) := Lib.hid ⟨HV.out, by rw [List.length_append, hvs.out.2]; rfl⟩
          clear hown' hgrow hown2 hbw2 HV hlen
          go_wp2
          go_roundw
          case rel => exact ⟨k + 1, vs ++ [v], by omega, by go_num, HV2, HO, hb3⟩
          case measure => simp [intOf]; omega
        · have HV := Lib.hid (HF.out (numOf_none_other hp he))
          have HNum := Lib.hid (fun W hT => num_any v hv W hT)
          have hne := sb_bne he
          clear hp he HX HF
          go_wp2_with (go_at_call 50; refine HP.out.mono ?_; rintro e w1 ⟨rfl, hb1⟩; refine Hid.out ?_)
          have hbw1 := keep_below hb.out (Nat.le_refl _) hb1
          clear hb1 d HP
          refine Lib.hid ?_
          go_wp2_with (go_at_call 48; refine (HNum.out _ (HT.out.tabs.on hbw1)).mono ?_; rintro e w2 ⟨rfl, hb2⟩)
          go_ret2
          exact ⟨keep_below hbw1 (Nat.le_refl _) hb2, .inl ⟨HV.out, rfl⟩⟩
      · have hno : ∀ v, Lib.parseIntB 64 l ≠ .ok v := fun v hv => hex ⟨v, hv⟩
        have HV := Lib.hid (HF.out (numOf_none_of hno))
        have HP := Lib.hid (parse_no l hlk hno wr (HT.out.on hb.out))
        clear hex hno HX HF
        go_wp2_with (go_at_call 50; refine HP.out.mono ?_; rintro e w1 ⟨x, N, rfl, hb1⟩)
        go_ret2
        exact ⟨keep_below hb.out (Nat.le_refl _) hb1, .inl ⟨HV.out, rfl⟩⟩
    · have e : ls.take k = ls := List.take_of_length_le (by omega)
      rw [e] at hvs
      clear e
      go_wp2
      go_ret2
      exact ⟨hb.out, .inr ⟨vs, _, hvs.out.1, rfl, hown.out⟩⟩
end Go.Proofs.YtpmafppcccbmaaaDoor
