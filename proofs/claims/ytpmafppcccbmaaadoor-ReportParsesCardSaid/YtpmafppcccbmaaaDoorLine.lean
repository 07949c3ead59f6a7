/-
  report.Line, and the law's own line of an event.
-/
import Derived.Test.YtpmafppcccbmaaaDoorWhat
set_option linter.unusedVariables false
set_option linter.unusedSimpArgs false
namespace Go.Proofs.YtpmafppcccbmaaaDoor
open Go.RowKit
theorem whatL_len {e : EventD} (he : EventOk e) : (whatL e).length ≤ 300 + 22 * e.call.words.length + 22 * e.words.length := by
  have h1 := callL_len he.call
  have h2 := spacedL_len [e.code] (by simp [he.code])
  have h3 := spacedL_len e.words he.words
  unfold whatL
  simp only [List.length_cons, List.length_nil] at h2
  repeat' split
  all_goals (try simp only [List.length_append, List.length_cons, List.length_nil]); omega

set_option maxRecDepth 100000 in
set_option maxHeartbeats 3200000 in
theorem reportLine_bad (e : EventD) (he : EventOk e) (hi : isEv e = false) (F : Nat → Prop) (cv wv : Value) (l1 : e.call.words.length ≤ 1000000) (l2 : e.words.length ≤ 1000000) (w : World) (hT : Tabs w) (h : EvAt w F e cv wv) :
    Calls Tryd.prog 10 #[eventV e cv wv] w fun r w' => r = .returned (.string (sb (lineL e))) ∧ Below w.heap.size w w' := by
  obtain ⟨Ac, nc, rfl⟩ := h.call.slice
  obtain ⟨Aw, nw, rfl⟩ := h.words.slice
  have hbw : Below w.heap.size w (w.alloc (.cells #[.int .i64 e.kind, .int .i64 e.step, .int .i64 e.core, .int .i64 e.thread, .int .i64 e.call.kind, .int .i64 e.call.handle, .int .i64 e.call.a, .int .i64 e.call.b, .slice Ac e.call.words.length nc, .int .i64 e.call.timeout, .int .i64 e.code, .int .i64 e.count, .slice Aw e.words.length nw] 27)) := (Below.refl _ _).alloc (Nat.le_refl _) _
  have HW := Lib.hid (what_any e he F _ _ l1 l2 _ (hT.on hbw) (h.on hbw))
  have HI := Lib.hid (fun (n : Int) (hn : I64 n) (W : World) (hb : Below w.heap.size w W) => itoaGo_any n hn W (hT.on hb))
  have HE := Lib.hid he
  have HZ : Hid (lineL e = [63, 10]) := Lib.hid (by simp [lineL, hi])
  have HB := Lib.hid hbw
  clear hbw he h hT l1 l2
  unfold eventV at *
  go_enter Tryd.func10, Tryd.ntmps10
  go_wp2_with (go_at_call 24; refine HW.out.mono ?_; rintro r w1 ⟨rfl, hb1⟩; refine Hid.out ?_)
  have c0 := keep_cell hb1 (b := w.heap.size) (j := 0) (by simp; rfl)
  have c1 := keep_cell hb1 (b := w.heap.size) (j := 1) (by simp; rfl)
  have c2 := keep_cell hb1 (b := w.heap.size) (j := 2) (by simp; rfl)
  have c3 := keep_cell hb1 (b := w.heap.size) (j := 3) (by simp; rfl)
  have hbw := keep_below HB.out (Nat.le_refl _) hb1
  clear hb1 HW HB
  refine Lib.hid ?_
  go_wp2
  go_ret
  refine ⟨ret_str ?_, hbw⟩
  rw [HZ.out]; rfl

set_option maxRecDepth 100000 in
set_option maxHeartbeats 3200000 in
theorem reportLine_tick (e : EventD) (he : EventOk e) (hi : isEv e = true) (hk : e.kind = 3) (F : Nat → Prop) (cv wv : Value) (l1 : e.call.words.length ≤ 1000000) (l2 : e.words.length ≤ 1000000) (w : World) (hT : Tabs w) (h : EvAt w F e cv wv) :
    Calls Tryd.prog 10 #[eventV e cv wv] w fun r w' => r = .returned (.string (sb (lineL e))) ∧ Below w.heap.size w w' := by
  obtain ⟨Ac, nc, rfl⟩ := h.call.slice
  obtain ⟨Aw, nw, rfl⟩ := h.words.slice
  have hbw : Below w.heap.size w (w.alloc (.cells #[.int .i64 e.kind, .int .i64 e.step, .int .i64 e.core, .int .i64 e.thread, .int .i64 e.call.kind, .int .i64 e.call.handle, .int .i64 e.call.a, .int .i64 e.call.b, .slice Ac e.call.words.length nc, .int .i64 e.call.timeout, .int .i64 e.code, .int .i64 e.count, .slice Aw e.words.length nw] 27)) := (Below.refl _ _).alloc (Nat.le_refl _) _
  have HW := Lib.hid (what_any e he F _ _ l1 l2 _ (hT.on hbw) (h.on hbw))
  have HI := Lib.hid (fun (n : Int) (hn : I64 n) (W : World) (hb : Below w.heap.size w W) => itoaGo_any n hn W (hT.on hb))
  have HE := Lib.hid he
  have ls := itoa_len he.step
  have lc := itoa_len he.core
  have lt := itoa_len he.thread
  have lw := whatL_len he
  have EL : Hid (lineL e = (Lib.itoa e.step ++ ([32, 99, 111, 114, 101, 32] ++ (Lib.itoa e.core ++ [32]))) ++ ([] ++ (whatL e ++ [10]))) := Lib.hid (by simp [lineL, frontL, hi, hk])
  generalize whatL e = xw at *
  obtain ⟨z1, E1, b1, s1, e1⟩ := catK (Lib.itoa e.step) [32, 99, 111, 114, 101, 32] (ByteArray.mk #[32, 99, 111, 114, 101, 32]) 6 rfl rfl (by omega)
  obtain ⟨z2, E2, b2, s2, e2⟩ := cat z1 (Lib.itoa e.core) (by omega)
  obtain ⟨z3, E3, b3, s3, e3⟩ := catK z2 [32] (ByteArray.mk #[32]) 1 rfl rfl (by omega)
  obtain ⟨zf1, Ef1, bf1, sf1, ef1⟩ := cat z3 xw (by omega)
  obtain ⟨zf2, Ef2, bf2, sf2, ef2⟩ := catK zf1 [10] (ByteArray.mk #[10]) 1 rfl rfl (by omega)
  have HZ : Hid (lineL e = zf2) := by rw [EL.out, Ef2.out, Ef1.out, E3.out, E2.out, E1.out]; exact Lib.hid (by simp)
  clear EL E1 E2 E3 b1 b2 b3 ls lc lt lw
  have HB := Lib.hid hbw
  have k3 : (e.kind == 3) = true := by simpa using hk
  have k4 : (e.kind != 3) = false := by simpa using hk
  clear hk
  clear hbw he h hT l1 l2
  unfold eventV at *
  go_enter Tryd.func10, Tryd.ntmps10
  go_wp2_with (go_at_call 24; refine HW.out.mono ?_; rintro r w1 ⟨rfl, hb1⟩; refine Hid.out ?_)
  have c0 := keep_cell hb1 (b := w.heap.size) (j := 0) (by simp; rfl)
  have c1 := keep_cell hb1 (b := w.heap.size) (j := 1) (by simp; rfl)
  have c2 := keep_cell hb1 (b := w.heap.size) (j := 2) (by simp; rfl)
  have c3 := keep_cell hb1 (b := w.heap.size) (j := 3) (by simp; rfl)
  have hbw := keep_below HB.out (Nat.le_refl _) hb1
  clear hb1 HW HB
  refine Lib.hid ?_
  go_upto_region 4 with (fail)
  go_region_held3 (fun w' => Below w.heap.size w w' ∧ w'.cell? ⟨w.heap.size, 0, none⟩ = some (.int .i64 e.kind) ∧ w'.cell? ⟨w.heap.size, 1, none⟩ = some (.int .i64 e.step) ∧ w'.cell? ⟨w.heap.size, 2, none⟩ = some (.int .i64 e.core) ∧ w'.cell? ⟨w.heap.size, 3, none⟩ = some (.int .i64 e.thread))
    (((try dsimp only); (try go_split_ands); (with_reducible repeat' apply And.intro); all_goals (first | assumption | exact Below.drew (by assumption) | exact keep_cell (by assumption) (by assumption) | exact keep_below (by assumption) (Nat.le_refl _) (by assumption) | exact keep_alloc (by assumption) (Nat.le_refl _) _ | go_keep)))
    (first
      | (go_at_call 25; refine (HI.out e.step HE.out.step _ ?_).mono ?_; (first | assumption | exact Below.drew (by assumption) | exact (‹Below _ _ _ ∧ _›).1); rintro r w' ⟨rfl, hb⟩)
      | (go_at_call 25; refine (HI.out e.core HE.out.core _ ?_).mono ?_; (first | assumption | exact (‹Below _ _ _ ∧ _›).1); rintro r w' ⟨rfl, hb⟩))
  rename_i hH
  obtain ⟨q0, q1, q2, q3, q4⟩ := hH
  clear c0 c1 c2 c3 hbw
  go_wp2
  go_ret
  exact ⟨ret_str (by rw [HZ.out]), q0⟩

set_option maxRecDepth 100000 in
set_option maxHeartbeats 3200000 in
theorem reportLine_more (e : EventD) (he : EventOk e) (hi : isEv e = true) (hk : ¬ e.kind = 3) (F : Nat → Prop) (cv wv : Value) (l1 : e.call.words.length ≤ 1000000) (l2 : e.words.length ≤ 1000000) (w : World) (hT : Tabs w) (h : EvAt w F e cv wv) :
    Calls Tryd.prog 10 #[eventV e cv wv] w fun r w' => r = .returned (.string (sb (lineL e))) ∧ Below w.heap.size w w' := by
  obtain ⟨Ac, nc, rfl⟩ := h.call.slice
  obtain ⟨Aw, nw, rfl⟩ := h.words.slice
  have hbw : Below w.heap.size w (w.alloc (.cells #[.int .i64 e.kind, .int .i64 e.step, .int .i64 e.core, .int .i64 e.thread, .int .i64 e.call.kind, .int .i64 e.call.handle, .int .i64 e.call.a, .int .i64 e.call.b, .slice Ac e.call.words.length nc, .int .i64 e.call.timeout, .int .i64 e.code, .int .i64 e.count, .slice Aw e.words.length nw] 27)) := (Below.refl _ _).alloc (Nat.le_refl _) _
  have HW := Lib.hid (what_any e he F _ _ l1 l2 _ (hT.on hbw) (h.on hbw))
  have HI := Lib.hid (fun (n : Int) (hn : I64 n) (W : World) (hb : Below w.heap.size w W) => itoaGo_any n hn W (hT.on hb))
  have HE := Lib.hid he
  have ls := itoa_len he.step
  have lc := itoa_len he.core
  have lt := itoa_len he.thread
  have lw := whatL_len he
  have EL : Hid (lineL e = (Lib.itoa e.step ++ ([32, 99, 111, 114, 101, 32] ++ (Lib.itoa e.core ++ [32]))) ++ (([116, 104, 114, 101, 97, 100, 32] ++ (Lib.itoa e.thread ++ [32])) ++ (whatL e ++ [10]))) := Lib.hid (by simp [lineL, frontL, hi, hk])
  generalize whatL e = xw at *
  obtain ⟨z1, E1, b1, s1, e1⟩ := catK (Lib.itoa e.step) [32, 99, 111, 114, 101, 32] (ByteArray.mk #[32, 99, 111, 114, 101, 32]) 6 rfl rfl (by omega)
  obtain ⟨z2, E2, b2, s2, e2⟩ := cat z1 (Lib.itoa e.core) (by omega)
  obtain ⟨z3, E3, b3, s3, e3⟩ := catK z2 [32] (ByteArray.mk #[32]) 1 rfl rfl (by omega)
  obtain ⟨zt1, Et1, bt1, st1, et1⟩ := catL [116, 104, 114, 101, 97, 100, 32] (Lib.itoa e.thread) (ByteArray.mk #[116, 104, 114, 101, 97, 100, 32]) 7 rfl rfl (by omega)
  obtain ⟨zt2, Et2, bt2, st2, et2⟩ := catK zt1 [32] (ByteArray.mk #[32]) 1 rfl rfl (by omega)
  obtain ⟨zf1, Ef1, bf1, sf1, ef1⟩ := cat z3 zt2 (by omega)
  obtain ⟨zf2, Ef2, bf2, sf2, ef2⟩ := cat zf1 xw (by omega)
  obtain ⟨zf3, Ef3, bf3, sf3, ef3⟩ := catK zf2 [10] (ByteArray.mk #[10]) 1 rfl rfl (by omega)
  have HZ : Hid (lineL e = zf3) := by rw [EL.out, Ef3.out, Ef2.out, Ef1.out, Et2.out, Et1.out, E3.out, E2.out, E1.out]; exact Lib.hid (by simp)
  clear EL E1 E2 E3 b1 b2 b3 ls lc lt lw
  have HB := Lib.hid hbw
  have k3 : (e.kind == 3) = false := by simpa using hk
  have k4 : (e.kind != 3) = true := by simpa using hk
  clear hk
  clear hbw he h hT l1 l2
  unfold eventV at *
  go_enter Tryd.func10, Tryd.ntmps10
  go_wp2_with (go_at_call 24; refine HW.out.mono ?_; rintro r w1 ⟨rfl, hb1⟩; refine Hid.out ?_)
  have c0 := keep_cell hb1 (b := w.heap.size) (j := 0) (by simp; rfl)
  have c1 := keep_cell hb1 (b := w.heap.size) (j := 1) (by simp; rfl)
  have c2 := keep_cell hb1 (b := w.heap.size) (j := 2) (by simp; rfl)
  have c3 := keep_cell hb1 (b := w.heap.size) (j := 3) (by simp; rfl)
  have hbw := keep_below HB.out (Nat.le_refl _) hb1
  clear hb1 HW HB
  refine Lib.hid ?_
  go_upto_region 4 with (fail)
  go_region_held3 (fun w' => Below w.heap.size w w' ∧ w'.cell? ⟨w.heap.size, 0, none⟩ = some (.int .i64 e.kind) ∧ w'.cell? ⟨w.heap.size, 1, none⟩ = some (.int .i64 e.step) ∧ w'.cell? ⟨w.heap.size, 2, none⟩ = some (.int .i64 e.core) ∧ w'.cell? ⟨w.heap.size, 3, none⟩ = some (.int .i64 e.thread))
    (((try dsimp only); (try go_split_ands); (with_reducible repeat' apply And.intro); all_goals (first | assumption | exact Below.drew (by assumption) | exact keep_cell (by assumption) (by assumption) | exact keep_below (by assumption) (Nat.le_refl _) (by assumption) | exact keep_alloc (by assumption) (Nat.le_refl _) _ | go_keep)))
    (first
      | (go_at_call 25; refine (HI.out e.step HE.out.step _ ?_).mono ?_; (first | assumption | exact Below.drew (by assumption) | exact (‹Below _ _ _ ∧ _›).1); rintro r w' ⟨rfl, hb⟩)
      | (go_at_call 25; refine (HI.out e.core HE.out.core _ ?_).mono ?_; (first | assumption | exact (‹Below _ _ _ ∧ _›).1); rintro r w' ⟨rfl, hb⟩))
  rename_i hH
  obtain ⟨q0, q1, q2, q3, q4⟩ := hH
  clear c0 c1 c2 c3 hbw
  go_wp2_with (go_at_call 25; refine (HI.out e.thread HE.out.thread _ q0).mono ?_; rintro r w2 ⟨rfl, hb2⟩)
  go_ret
  exact ⟨ret_str (by rw [HZ.out]), keep_below q0 (Nat.le_refl _) hb2⟩

theorem reportLine_any (e : EventD) (he : EventOk e) (F : Nat → Prop) (cv wv : Value) (l1 : e.call.words.length ≤ 1000000) (l2 : e.words.length ≤ 1000000) (w : World) (hT : Tabs w) (h : EvAt w F e cv wv) :
    Calls Tryd.prog 10 #[eventV e cv wv] w fun r w' => r = .returned (.string (sb (lineL e))) ∧ Below w.heap.size w w' := by
  by_cases hi : isEv e = true
  · by_cases hk : e.kind = 3
    · exact reportLine_tick e he hi hk F cv wv l1 l2 w hT h
    · exact reportLine_more e he hi hk F cv wv l1 l2 w hT h
  · exact reportLine_bad e he (by simpa using hi) F cv wv l1 l2 w hT h

end Go.Proofs.YtpmafppcccbmaaaDoor
