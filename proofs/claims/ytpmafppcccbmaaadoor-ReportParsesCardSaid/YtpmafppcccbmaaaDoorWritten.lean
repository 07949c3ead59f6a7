/-
  septumlaw30.written.
-/
import Derived.Test.YtpmafppcccbmaaaDoorRight
import Derived.Test.YtpmafppcccbmaaaDoorReadCall
set_option linter.unusedVariables false
set_option linter.unusedSimpArgs false
namespace Go.Proofs.YtpmafppcccbmaaaDoor
open Go.RowKit

theorem below_drewN {B : Nat} {a w : World} (h : Below B a w) (n : Nat) : Below B a (w.drewN n) := ⟨h.os, h.tape, h.output, h.size, h.block⟩
theorem Tryd.info_str : (Tryd.prog.info? 9).map (fun i => (i.zero, i.size, i.bytes)) = some (some (.string ⟨#[]⟩), 1, 16) := by kernel_rfl
/-- What is cut off when the loop stands at 'k', the last piece beginning at 'a'. -/
def CutAt (s : List UInt8) (k a : Nat) (ps : List (List UInt8)) : Prop :=
  (k ≤ s.length ∧ a ≤ k ∧ pieces 32 s = ps ++ pieces 32 (s.drop a) ∧ 32 ∉ (s.drop a).take (k - a)) ∨ (k = s.length + 1 ∧ pieces 32 s = ps)
theorem CutAt.start (s : List UInt8) : CutAt s 0 0 [] := .inl ⟨Nat.zero_le _, Nat.le_refl _, rfl, by simp⟩
theorem CutAt.le {s : List UInt8} {k a : Nat} {ps : List (List UInt8)} (h : CutAt s k a ps) (hk : k ≤ s.length) : a ≤ k := by
  rcases h with h | h
  · exact h.2.1
  · omega
theorem CutAt.other {s : List UInt8} {k a : Nat} {ps : List (List UInt8)} (h : CutAt s k a ps) (hk : k < s.length) (hc : s[k] ≠ 32) : CutAt s (k + 1) a ps := by
  rcases h with ⟨h1, h2, h3, h4⟩ | h
  · refine .inl ⟨hk, by omega, h3, ?_⟩
    have hlt : k - a < (s.drop a).length := by rw [List.length_drop]; omega
    rw [show k + 1 - a = (k - a) + 1 by omega, List.take_succ_eq_append_getElem hlt]
    intro hm
    rcases List.mem_append.1 hm with hm | hm
    · exact h4 hm
    · have := List.mem_singleton.1 hm
      rw [List.getElem_drop] at this
      apply hc
      rw [this]
      congr 1
      omega
  · omega
theorem CutAt.blank {s : List UInt8} {k a : Nat} {ps : List (List UInt8)} (h : CutAt s k a ps) (hk : k < s.length) (hc : s[k] = 32) : CutAt s (k + 1) (k + 1) (ps ++ [(s.drop a).take (k - a)]) := by
  rcases h with ⟨h1, h2, h3, h4⟩ | h
  · refine .inl ⟨hk, Nat.le_refl _, ?_, by simp⟩
    have hlt : k - a < (s.drop a).length := by rw [List.length_drop]; omega
    have e : s.drop a = (s.drop a).take (k - a) ++ 32 :: s.drop (k + 1) := by
      have h5 : (s.drop a)[k - a] = 32 := by rw [List.getElem_drop, ← hc]; congr 1; omega
      have h6 : s.drop (k + 1) = (s.drop a).drop (k - a + 1) := by rw [List.drop_drop]; congr 1; omega
      rw [← h5, h6, ← List.drop_eq_getElem_cons hlt, List.take_append_drop]
    rw [h3]
    have e2 := pieces_append 32 _ (s.drop (k + 1)) h4
    rw [← e] at e2
    rw [e2]
    simp
  · omega
theorem CutAt.last {s : List UInt8} {a : Nat} {ps : List (List UInt8)} (h : CutAt s s.length a ps) : CutAt s (s.length + 1) (s.length + 1) (ps ++ [(s.drop a).take (s.length - a)]) := by
  rcases h with ⟨h1, h2, h3, h4⟩ | h
  · refine .inr ⟨rfl, ?_⟩
    have e : (s.drop a).take (s.length - a) = s.drop a := List.take_of_length_le (by rw [List.length_drop]; omega)
    rw [e] at h4 ⊢
    rw [h3, pieces_none 32 _ h4]
  · omega
theorem CutAt.length {s : List UInt8} {k a : Nat} {ps : List (List UInt8)} (h : CutAt s k a ps) : ps.length ≤ s.length + 1 := by
  have hp := pieces_length 32 s
  rcases h with ⟨_, _, h, _⟩ | ⟨_, h⟩
  · rw [h, List.length_append] at hp; omega
  · rw [h] at hp; exact hp
theorem extract_sb (s : List UInt8) (a k : Nat) : (sb s).extract a k = sb ((s.drop a).take (k - a)) := by
  apply ByteArray.ext
  rw [ByteArray.data_extract]
  show (s.toArray).extract a k = _
  simp [sb]

theorem writtenL_few {s : List UInt8} {ps : List (List UInt8)} (h : pieces 32 s = ps) (h5 : ps.length < 5) : writtenL s = false := by
  unfold writtenL
  rw [h]
  match ps with
  | [] => rfl
  | n :: ws =>
    have : ¬ 4 ≤ ws.length := by simp at h5; omega
    simp [this]
theorem writtenL_many {s nm : List UInt8} {ws : List (List UInt8)} (h : pieces 32 s = nm :: ws) (h5 : ¬ ws.length + 1 < 5) : writtenL s = ((List.range 24).any (fun k => kindNames.getD k [] == nm) && ws.all rightL) := by
  unfold writtenL
  rw [h]
  have : 4 ≤ ws.length := by omega
  simp only [this, decide_true, Bool.true_and]
theorem pieces_lens {s nm : List UInt8} {ws : List (List UInt8)} (hp : pieces 32 s = nm :: ws) : ∀ l ∈ ws, l.length ≤ s.length := by
  intro l hl'
  have j := pieces_join 32 s nm ws hp
  have := congrArg List.length j
  rw [List.length_append] at this
  have h2 : l.length ≤ (ws.flatMap fun q => 32 :: q).length := by
    clear j this hp
    induction ws with
    | nil => cases hl'
    | cons a ws ih =>
      rw [List.flatMap_cons, List.length_append, List.length_cons]
      rcases List.mem_cons.1 hl' with rfl | h
      · omega
      · have := ih h; omega
  omega

set_option maxRecDepth 100000 in
set_option maxHeartbeats 3200000 in
theorem written_any (s : List UInt8) (hl : s.length ≤ 1000) (w : World) :
    Calls Tryd.prog 16 #[.string (sb s)] w fun e w' => e = .returned (.bool (writtenL s)) ∧ Below w.heap.size w w' := by
  obtain ⟨i0, hi, hz0, hz1, hz2⟩ := info_parts Tryd.info_str
  have hsz := sb_size s
  have HI := Lib.hid hi
  have HZ0 := Lib.hid hz0
  have HZ1 := Lib.hid hz1
  have HZ2 := Lib.hid hz2
  clear hi hz0 hz1 hz2
  go_enter Tryd.func16, Tryd.ntmps16
  go_wp2
  go_loopw [3, 4, 5] (fun lv av iv wr => ∃ (k a : Nat) (ps : List (List UInt8)), k ≤ s.length + 1 ∧ a ≤ s.length + 1 ∧ iv = .int .i64 k ∧ av = .int .i64 a ∧ Hid (CutAt s k a ps) ∧ Hid (wr.ownsRow w.heap.size 9 1 lv ps.length (strCells ps)) ∧ Hid (Below w.heap.size w wr)) (fun _ _ i _ => s.length + 1 - (intOf i).toNat)
  case atStart => exact ⟨0, 0, [], Nat.zero_le _, Nat.zero_le _, rfl, rfl, Lib.hid (CutAt.start s), Lib.hid (World.ownsRow_nil _ _ _ _), Lib.hid (Below.refl _ _)⟩
  case round =>
    obtain ⟨k, a, ps, hk, ha, rfl, rfl, HC, hown, hb⟩ := hrel
    have hb0 := hb.out.size
    have hpl := HC.out.length
    by_cases hk1 : k ≤ s.length
    · have hak := HC.out.le hk1
      have hki : (k : Int) ≤ (s.length : Int) := by omega
      by_cases hk2 : k < s.length
      · have hne : ((k : Int) == (s.length : Int)) = false := by simp; omega
        have q1 : k < (sb s).size := by omega
        by_cases hc : s[k] = 32
        · have HN := Lib.hid (HC.out.blank hk2 hc)
          have eg : ((sb s)[k]'q1).toNat = 32 := congrArg UInt8.toNat ((sb_get s k q1).trans hc)
          have ex := extract_sb s a k
          generalize (s.drop a).take (k - a) = p at *
          clear hc
          have hle : ps.length + 1 ≤ 2000000 := by omega
          have hlen : (strCells ps).length = ps.length := by simp [strCells]
          go_wp2_with (at_builtin; refine wpList_append_own _ rfl _ _ 54 rfl w.heap.size 9 i0 (.string ⟨#[]⟩) 1 16 Tryd.underlying54 HI.out HZ0.out HZ1.out HZ2.out rfl (by decide) _ _ _ rfl (hown.out.alloc _) ⟨wr.heap.size, 0, none⟩ 1 1 [.string (sb p)] rfl rfl ?c1 ?c2 ?c3 ?c4 ?c5 ?_)
          case c1 =>
            intro j u hj
            match j, hj with
            | 0, hj => simp at hj; subst hj; simp [Addr.add]
          case c2 => intro u hu; simp at hu; subst hu; rfl
          case c3 => unfold maxLen; omega
          case c4 => omega
          case c5 => simp; omega
          intro v' w3 hown' hgrow _
          have hb3 := Lib.hid ((hb.out.alloc hb0 (.cells #[.string (sb p)] 9)).grown hgrow (by simp; omega) (fun k hk => (hown.out.lt k hk).1))
          have HO : Hid (w3.ownsRow w.heap.size 9 1 v' (ps ++ [p]).length (strCells (ps ++ [p]))) := by
            have := hown'
            rw [List.length_append, List.length_singleton, show strCells (ps ++ [p]) = strCells ps ++ [.string (sb p)] by simp [strCells]]
            exact this
          clear hown' hgrow
          go_wp2
          go_roundw
          case rel => exact ⟨k + 1, k + 1, ps ++ [p], by omega, by omega, by go_num, by go_num, HN, HO, hb3⟩
          case measure => first | (simp [intOf]; omega) | simp [intOf]
        · have HN := Lib.hid (HC.out.other hk2 hc)
          have eg : ((((sb s)[k]'q1).toNat : Int) == 32) = false := by
            rw [sb_get]
            have : s[k].toNat ≠ 32 := fun h => hc (UInt8.toNat_inj.1 h)
            simp; omega
          clear hc
          go_wp2
          go_roundw
          case rel => exact ⟨k + 1, a, ps, by omega, ha, by go_num, rfl, HN, hown, hb⟩
          case measure => first | (simp [intOf]; omega) | simp [intOf]
      · obtain rfl : k = s.length := by omega
        have HN := Lib.hid HC.out.last
        have ex := extract_sb s a s.length
        generalize (s.drop a).take (s.length - a) = p at *
        have hle : ps.length + 1 ≤ 2000000 := by omega
        have hlen : (strCells ps).length = ps.length := by simp [strCells]
        go_wp2_with (at_builtin; refine wpList_append_own _ rfl _ _ 54 rfl w.heap.size 9 i0 (.string ⟨#[]⟩) 1 16 Tryd.underlying54 HI.out HZ0.out HZ1.out HZ2.out rfl (by decide) _ _ _ rfl (hown.out.alloc _) ⟨wr.heap.size, 0, none⟩ 1 1 [.string (sb p)] rfl rfl ?c1 ?c2 ?c3 ?c4 ?c5 ?_)
        case c1 =>
          intro j u hj
          match j, hj with
          | 0, hj => simp at hj; subst hj; simp [Addr.add]
        case c2 => intro u hu; simp at hu; subst hu; rfl
        case c3 => unfold maxLen; omega
        case c4 => omega
        case c5 => simp; omega
        intro v' w3 hown' hgrow _
        have hb3 := Lib.hid ((hb.out.alloc hb0 (.cells #[.string (sb p)] 9)).grown hgrow (by simp; omega) (fun k hk => (hown.out.lt k hk).1))
        have HO : Hid (w3.ownsRow w.heap.size 9 1 v' (ps ++ [p]).length (strCells (ps ++ [p]))) := by
          have := hown'
          rw [List.length_append, List.length_singleton, show strCells (ps ++ [p]) = strCells ps ++ [.string (sb p)] by simp [strCells]]
          exact this
        clear hown' hgrow
        go_wp2
        go_roundw
        case rel => exact ⟨s.length + 1, s.length + 1, ps ++ [p], by omega, by omega, by go_num, by go_num, HN, HO, hb3⟩
        case measure => first | (simp [intOf]; omega) | simp [intOf]
    · obtain rfl : k = s.length + 1 := by omega
      have hp : pieces 32 s = ps := by
        rcases HC.out with h | h
        · omega
        · exact h.2
      clear HC
      have h3 := hown.out
      obtain ⟨A, c, rfl⟩ := own_form h3
      by_cases h5 : ps.length < 5
      · have hF := writtenL_few hp h5
        have HF := Lib.hid hF
        have h5i : (ps.length : Int) < 5 := by omega
        clear hF hp h3
        go_wp2
        go_ret
        exact ⟨by rw [HF.out]; rfl, hb.out⟩
      · obtain ⟨nm, ws, rfl⟩ : ∃ nm ws, ps = nm :: ws := by
          cases ps with
          | nil => simp at h5
          | cons a b => exact ⟨a, b, rfl⟩
        have hF := writtenL_many hp (by simpa using h5)
        have HF := Lib.hid hF
        have hS : StrsAt wr (fun k => w.heap.size ≤ k) (.slice A (nm :: ws).length c) (nm :: ws) := ownsRow_reads h3
        obtain ⟨g, o, c', e, hg, hcells⟩ := hS.cells (by simp)
        cases e
        have H5 := Lib.hid h5
        have hlen : ws.length ≤ s.length := by simpa using hpl
        have h5i : ¬ (ws.length : Int) + 1 < 5 := by simp at h5; omega
        have h5k : ¬ (s.length : Int) + 1 ≤ (s.length : Int) := by omega
        have h5j : (0 : Int) < (ws.length : Int) + 1 := by omega
        have HL := Lib.hid (pieces_lens hp)
        obtain ⟨w1, rfl⟩ : ∃ x, x = wr := ⟨wr, rfl⟩
        have HCell := Lib.hid hcells
        have hcell0 := hcells 0 nm rfl
        have hg1 : g < w1.heap.size := World.block_lt_of_cell? w1 _ hcell0
        clear hF hp h3 hS hcells hown h5 hg hcell0
        simp only [List.length_cons]
        go_wp2
        go_loopw [6, 7, 37] (fun bv _ i wr => ∃ (k : Nat) (b : Bool), k ≤ 24 ∧ i = .int .i64 k ∧ bv = .bool b ∧ Hid (b = (List.range k).any (fun k => kindNames.getD k [] == nm)) ∧ Hid (Below w1.heap.size w1 wr)) (fun _ _ i _ => 24 - (intOf i).toNat)
        case atStart => exact ⟨0, false, by omega, rfl, rfl, Lib.hid rfl, Lib.hid (Below.refl _ _)⟩
        case round =>
          obtain ⟨k, b, hk, rfl, rfl, HB, hbw⟩ := hrel
          by_cases hlt : k < 24
          · have hlti : (k : Int) < 24 := by omega
            cases b with
            | true =>
              have hb1 := hbw.out
              go_wp2_with fail
              clear hb1
              go_quiet (fail)
              go_wp2_with fail
              go_roundw
              case rel => exact ⟨k + 1, true, by omega, by go_num, rfl, Lib.hid (by rw [List.range_succ, List.any_append, ← HB.out]; rfl), Lib.hid (below_drewN hbw.out _)⟩
              case measure => simp [intOf]; omega
            | false =>
              have c0 : wr.cell? ⟨g, o, none⟩ = some (.string (sb nm)) := keep_cell hbw.out (HCell.out 0 nm rfl)
              have hb1 := hbw.out
              obtain ⟨nk, HK⟩ : ∃ nk, Hid (kindNames.getD k [] = nk) := ⟨_, Lib.hid rfl⟩
              go_wp2_with fail
              go_region_held3 (fun w' => Below w1.heap.size w1 w' ∧ w'.cell? ⟨g, o, none⟩ = some (.string (sb nm)))
                (((try dsimp only); (try go_split_ands); (with_reducible repeat' apply And.intro); all_goals (first | (with_reducible assumption) | (with_reducible exact Below.drew (by assumption)) | (with_reducible exact keep_cell (by assumption) (by assumption)) | (with_reducible exact keep_below (by assumption) (Nat.le_refl _) (by assumption)) | (simp [*]; done))))
                (first | (go_at_call 29; refine (refName_yes k hlt nk HK.out _).mono ?_; rintro e w' ⟨rfl, hb⟩))
              rename_i hH
              obtain ⟨f0, _⟩ := hH
              have F0 := Lib.hid f0
              clear f0
              go_wp2_with fail
              go_roundw
              case rel => exact ⟨k + 1, _, by omega, by go_num, rfl, Lib.hid (by rw [List.range_succ, List.any_append, ← HB.out, sb_beq, ← HK.out]; simp), F0⟩
              case measure => simp [intOf]; omega
          · obtain rfl : k = 24 := by omega
            have hX : writtenL s = (b && ws.all rightL) := by rw [HF.out, HB.out]
            have HX := Lib.hid hX
            have hbz := hbw.out.size
            obtain ⟨w2, rfl⟩ : ∃ x, x = wr := ⟨wr, rfl⟩
            clear hX HF HB
            go_wp2
            go_loopw [2, 8] (fun rv i wr => ∃ (k : Nat), 1 ≤ k ∧ k ≤ ws.length + 1 ∧ i = .int .i64 k ∧ rv = .bool false ∧ Hid (∀ l ∈ ws.take (k - 1), rightL l = true) ∧ Hid (Below w1.heap.size w1 wr)) (fun _ i _ => ws.length + 1 - (intOf i).toNat)
            case atStart => exact ⟨1, by omega, by omega, rfl, rfl, Lib.hid (by simp), hbw⟩
            case round =>
              obtain ⟨k, hk0, hk, rfl, rfl, HR, hbr⟩ := hrel
              by_cases hlt : k < ws.length + 1
              · have hlti : (k : Int) < (ws.length : Int) + 1 := by omega
                obtain ⟨j, rfl⟩ : ∃ j, k = j + 1 := ⟨k - 1, by omega⟩
                have hj : j < ws.length := by omega
                have d := keep_cell hbr.out (HCell.out (j + 1) ws[j] (by simp [hj]))
                have hlj := HL.out ws[j] (List.getElem_mem hj)
                have HE : Hid (ws.take (j + 1) = ws.take j ++ [ws[j]]) := Lib.hid (List.take_succ_eq_append_getElem hj)
                have HM : Hid (ws[j] ∈ ws) := Lib.hid (List.getElem_mem hj)
                generalize ws[j] = q at *
                have HG := Lib.hid (right_any q (by omega) wr)
                cases hq : rightL q
                · have HQ := Lib.hid hq
                  rw [hq] at HG
                  clear hq
                  go_wp2_with (go_at_call 34; refine HG.out.mono ?_; rintro e w' ⟨rfl, rfl⟩)
                  go_ret
                  have hF : writtenL s = false := by
                    rw [HX.out, Bool.and_eq_false_iff]; right
                    exact List.all_eq_false.2 ⟨q, HM.out, by rw [HQ.out]; simp⟩
                  exact ⟨by rw [hF]; rfl, keep_below hb.out (Nat.le_refl _) hbr.out⟩
                · have HQ := Lib.hid hq
                  rw [hq] at HG
                  clear hq
                  go_wp2_with (go_at_call 34; refine HG.out.mono ?_; rintro e w' ⟨rfl, rfl⟩)
                  go_roundw
                  case rel =>
                    have HR2 : Hid (∀ l ∈ ws.take (j + 1 + 1 - 1), rightL l = true) := Lib.hid (fun l hl' => by
                      rw [show j + 1 + 1 - 1 = j + 1 by omega, HE.out] at hl'
                      rcases List.mem_append.1 hl' with h | h
                      · exact HR.out l h
                      · rw [List.mem_singleton.1 h]; exact HQ.out)
                    clear HG HCell HL HX
                    repeat apply Exists.intro
                    exact ⟨⟨j + 1 + 1, by omega, by omega, by go_num, rfl, HR2, hbr⟩, rfl⟩
                  case measure => simp [intOf]; omega
              · obtain rfl : k = ws.length + 1 := by omega
                have hA : ws.all rightL = true := List.all_eq_true.2 (by simpa using HR.out)
                have HA : Hid (writtenL s = b) := Lib.hid (by rw [HX.out, hA, Bool.and_true])
                clear hA
                go_wp2
                go_ret
                exact ⟨by rw [HA.out]; rfl, keep_below hb.out (Nat.le_refl _) hbr.out⟩
end Go.Proofs.YtpmafppcccbmaaaDoor
