/-
  script.numbers.
-/
import Derived.Test.YtpmafppcccbmaaaDoorReadCall
import Derived.Test.YtpmafppcccbmaaaDoorSpaced
set_option linter.unusedVariables false
set_option linter.unusedSimpArgs false
namespace Go.Proofs.YtpmafppcccbmaaaDoor
open Go.RowKit

/-- So many numbers, that are written as they should be. -/
def snums (n : Nat) (ls : List (List UInt8)) : Option (List Int) := if ls.length = n then numsOf ls else none
def SNumsPost (w : World) (n : Nat) (ls : List (List UInt8)) (e : Ending) (w' : World) : Prop :=
  Below w.heap.size w w' ∧ ((snums n ls = none ∧ e = .returned (.tuple #[.slice none 0 0, .bool false])) ∨
    ∃ vs v, snums n ls = some vs ∧ e = .returned (.tuple #[v, .bool true]) ∧ w'.ownsRow w.heap.size 2 1 v vs.length (encInts vs))

set_option maxRecDepth 100000 in
set_option maxHeartbeats 3200000 in
theorem snumbers_any (n : Nat) (hnn : n ≤ 1000) (ls : List (List UInt8)) (hl : ∀ l ∈ ls, l.length ≤ 1000000) (hn : ls.length ≤ 1000000) (F : Nat → Prop) (v : Value) (w : World) (hT : TabsP w) (h : StrsAt w F v ls) :
    Calls Tryd.prog 71 #[v, .int .i64 n] w (SNumsPost w n ls) := by
  obtain ⟨A, c, rfl⟩ := h.slice
  obtain ⟨i0, hi, hz0, hz1, hz2⟩ := info_parts Tryd.info_int64
  have H := Lib.hid h
  have HL := Lib.hid hl
  have HT := Lib.hid hT
  have HI := Lib.hid hi
  have HZ0 := Lib.hid hz0
  have HZ1 := Lib.hid hz1
  have HZ2 := Lib.hid hz2
  clear h hl hT hi hz0 hz1 hz2
  by_cases hne : ls.length = n
  case neg =>
    have hnone : Hid (snums n ls = none) := Lib.hid (by unfold snums; rw [if_neg hne])
    have hd : ((ls.length : Int) == (n : Int)) = false := by rw [beq_eq_false_iff_ne]; omega
    go_enter Tryd.func71, Tryd.ntmps71
    go_wp2
    go_ret2
    exact ⟨Below.refl _ _, .inl ⟨hnone.out, rfl⟩⟩
  case pos =>
  have HSN : Hid (∀ r, numsOf ls = r → snums n ls = r) := Lib.hid (fun r hr => by unfold snums; rw [if_pos hne]; exact hr)
  subst hne
  go_enter Tryd.func71, Tryd.ntmps71
  go_wp2
  go_loopw [6, 17] (fun ov i wr => ∃ (k : Nat) (vs : List Int), k ≤ ls.length ∧ i = .int .i64 k ∧ Hid (numsOf (ls.take k) = some vs ∧ vs.length = k) ∧ Hid (wr.ownsRow w.heap.size 2 1 ov vs.length (encInts vs)) ∧ Hid (Below w.heap.size w wr)) (fun _ i _ => ls.length - (intOf i).toNat)
  case atStart => exact ⟨0, [], Nat.zero_le _, rfl, Lib.hid ⟨rfl, rfl⟩, Lib.hid (World.ownsRow_nil _ _ _ _), Lib.hid (Below.refl _ _)⟩
  case round =>
    obtain ⟨k, vs, hk, rfl, hvs, hown, hb⟩ := hrel
    have hsz := hb.out.size
    by_cases hlt : k < ls.length
    · obtain ⟨b, o, c', e, hF, hcells⟩ := H.out.cells (by omega)
      cases e
      have d := hcells k ls[k] (List.getElem?_eq_getElem hlt)
      have lb := World.block_lt_of_cell? w _ d
      rw [← hb.out.cell (p := ⟨b, o + k, none⟩) lb] at d
      have hlk := HL.out ls[k] (List.getElem_mem hlt)
      have hlc : (k : Int) < (ls.length : Int) := by omega
      have HX := Lib.hid (fun v (hv : numOf ls[k] = some v) => numsOf_next hlt hvs.out.1 hv)
      have HF := Lib.hid (fun (hv : numOf ls[k] = none) => numsOf_fail hlt hv)
      clear hcells
      generalize ls[k] = l at *
      by_cases hex : ∃ v, Lib.parseIntB 64 l = .ok v
      · obtain ⟨v, hp⟩ := hex
        have hv := parseIntB64_bounds hp
        have HP := Lib.hid (parse_ok l v hlk hp wr)
        by_cases he : Lib.itoa v = l
        · have HV := Lib.hid (HX.out v (numOf_some_of hp he))
          have HNum := Lib.hid (fun W hT => fmt_any v hv W hT)
          rw [he] at HNum
          clear hp he HX HF
          go_wp2_with (go_at_call 50; refine HP.out.mono ?_; rintro e w1 ⟨rfl, hb1⟩; refine Hid.out ?_)
          have hbw1 := keep_below hb.out (Nat.le_refl _) hb1
          have hown1 := own_kept hown.out hb1
          clear hb1 d HP
          refine Lib.hid ?_
          go_wp2_with (go_at_call 61; refine (HNum.out _ (HT.out.tabs.on hbw1)).mono ?_; rintro e w2 ⟨rfl, hb2⟩; refine Hid.out ?_)
          have hbw2 := keep_below hbw1 (Nat.le_refl _) hb2
          have hown2 := own_kept hown1 hb2
          have hz2 : w.heap.size ≤ w2.heap.size := hbw2.size
          have hle : vs.length + 1 ≤ 2000000 := by have := hvs.out.2; omega
          have hlen : (encInts vs).length = vs.length := by simp [encInts]
          clear hb2 hbw1 hown1 hown
          refine Lib.hid ?_
          go_wp2_with (at_builtin; refine wpList_append_own _ rfl _ _ 22 rfl w.heap.size 2 i0 (.int .i64 0) 1 8 Tryd.underlying22 HI.out HZ0.out HZ1.out HZ2.out rfl (by decide) _ _ _ rfl (hown2.alloc _) ⟨w2.heap.size, 0, none⟩ 1 1 [.int .i64 v] rfl rfl ?c1 ?c2 ?c3 ?c4 ?c5 ?_)
          case c1 =>
            intro j u hj
            match j, hj with
            | 0, hj => simp at hj; subst hj; simp [Addr.add]
          case c2 => intro u hu; simp at hu; subst hu; rfl
          case c3 => unfold maxLen; omega
          case c4 => omega
          case c5 => simp; omega
          intro v' w3 hown' hgrow _
          have hb3 := Lib.hid ((hbw2.alloc hz2 (.cells #[.int .i64 v] 2)).grown hgrow (by simp; omega) (fun k hk => (hown2.lt k hk).1))
          have HO : Hid (w3.ownsRow w.heap.size 2 1 v' (vs ++ [v]).length (encInts (vs ++ [v]))) := by
            have := hown'
            rw [List.length_append, List.length_singleton, show encInts (vs ++ [v]) = encInts vs ++ [.int .i64 v] by simp [encInts]]
            exact this
          have HV2 : Hid (numsOf (ls.take (k + 1)) = some (vs ++ [v]) ∧ (vs ++ [v]).length = k + 1) := Lib.hid ⟨HV.out, by rw [List.length_append, hvs.out.2]; rfl⟩
          clear hown' hgrow hown2 hbw2 HV hlen
          go_wp2
          go_roundw
          case rel => exact ⟨k + 1, vs ++ [v], by omega, by go_num, HV2, HO, hb3⟩
          case measure => simp [intOf]; omega
        · have HV := Lib.hid (HF.out (numOf_none_other hp he))
          have HNum := Lib.hid (fun W hT => fmt_any v hv W hT)
          have hne := sb_bne he
          clear hp he HX HF
          go_wp2_with (go_at_call 50; refine HP.out.mono ?_; rintro e w1 ⟨rfl, hb1⟩; refine Hid.out ?_)
          have hbw1 := keep_below hb.out (Nat.le_refl _) hb1
          clear hb1 d HP
          refine Lib.hid ?_
          go_wp2_with (go_at_call 61; refine (HNum.out _ (HT.out.tabs.on hbw1)).mono ?_; rintro e w2 ⟨rfl, hb2⟩)
          go_ret2
          exact ⟨keep_below hbw1 (Nat.le_refl _) hb2, .inl ⟨HSN.out _ HV.out, rfl⟩⟩
      · have hno : ∀ v, Lib.parseIntB 64 l ≠ .ok v := fun v hv => hex ⟨v, hv⟩
        have HV := Lib.hid (HF.out (numOf_none_of hno))
        have HP := Lib.hid (parse_no l hlk hno wr (HT.out.on hb.out))
        clear hex hno HX HF
        go_wp2_with (go_at_call 50; refine HP.out.mono ?_; rintro e w1 ⟨x, N, rfl, hb1⟩)
        go_ret2
        exact ⟨keep_below hb.out (Nat.le_refl _) hb1, .inl ⟨HSN.out _ HV.out, rfl⟩⟩
    · have e : ls.take k = ls := List.take_of_length_le (by omega)
      rw [e] at hvs
      clear e
      go_wp2
      go_ret2
      exact ⟨hb.out, .inr ⟨vs, _, HSN.out _ hvs.out.1, rfl, hown.out⟩⟩
end Go.Proofs.YtpmafppcccbmaaaDoor
