/-
  The law's own line of an event.
-/
import Derived.Test.YtpmafppcccbmaaaDoorLine
set_option linter.unusedVariables false
set_option linter.unusedSimpArgs false
namespace Go.Proofs.YtpmafppcccbmaaaDoor
open Go.RowKit

set_option maxRecDepth 100000 in
set_option maxHeartbeats 3200000 in
theorem lineLaw_bad (e : EventD) (he : EventOk e) (hi : isEv e = false) (F : Nat → Prop) (cv wv : Value) (l1 : e.call.words.length ≤ 1000000) (l2 : e.words.length ≤ 1000000) (w : World) (h : EvAt w F e cv wv) :
    Calls Tryd.prog 11 #[eventV e cv wv] w fun r w' => r = .returned (.string (sb (lineL e))) ∧ Below w.heap.size w w' := by
  obtain ⟨Ac, nc, rfl⟩ := h.call.slice
  obtain ⟨Aw, nw, rfl⟩ := h.words.slice
  have HE := Lib.hid he
  have HV := Lib.hid h
  have HZ : Hid (lineL e = [63, 10]) := Lib.hid (by simp [lineL, hi])
  have hk : e.kind < 0 ∨ 4 < e.kind := by
    simp only [isEv, Bool.and_eq_false_iff, decide_eq_false_iff_not] at hi
    omega
  clear he h hi l1 l2
  unfold eventV at *
  rcases hk with hk | hk
  · go_enter Tryd.func11, Tryd.ntmps11
    go_wp2
    go_ret
    refine ⟨ret_str ?_, (Below.refl _ _).alloc (Nat.le_refl _) _⟩
    rw [HZ.out]; rfl
  · have hk0 : 0 ≤ e.kind := by omega
    go_enter Tryd.func11, Tryd.ntmps11
    go_wp2
    go_ret
    refine ⟨ret_str ?_, (Below.refl _ _).alloc (Nat.le_refl _) _⟩
    rw [HZ.out]; rfl

set_option maxRecDepth 100000 in
set_option maxHeartbeats 3200000 in
theorem lineLaw_tick (e : EventD) (he : EventOk e) (hk : e.kind = 3) (F : Nat → Prop) (cv wv : Value) (l1 : e.call.words.length ≤ 1000000) (l2 : e.words.length ≤ 1000000) (w : World) (h : EvAt w F e cv wv) :
    Calls Tryd.prog 11 #[eventV e cv wv] w fun r w' => r = .returned (.string (sb (lineL e))) ∧ Below w.heap.size w w' := by
  obtain ⟨Ac, nc, rfl⟩ := h.call.slice
  obtain ⟨Aw, nw, rfl⟩ := h.words.slice
  have HE := Lib.hid he
  have HV := Lib.hid h
  have g0 : (e.kind == 0) = false := by simp [hk]
  have g1 : (e.kind == 1) = false := by simp [hk]
  have g2 : (e.kind == 2) = false := by simp [hk]
  have g3 : (e.kind == 3) = true := by simp [hk]
  have g4 : (e.kind == 4) = false := by simp [hk]
  have k0 : 0 ≤ e.kind := by omega
  have k4 : e.kind ≤ 4 := by omega
  have ls := itoa_len he.step
  have lc := itoa_len he.core
  have lt := itoa_len he.thread
  obtain ⟨z1, E1, b1, s1, e1⟩ := catK (Lib.itoa e.step) [32, 99, 111, 114, 101, 32] (ByteArray.mk #[32, 99, 111, 114, 101, 32]) 6 rfl rfl (by omega)
  obtain ⟨z2, E2, b2, s2, e2⟩ := cat z1 (Lib.itoa e.core) (by omega)
  obtain ⟨z3, E3, b3, s3, e3⟩ := catK z2 [32] (ByteArray.mk #[32]) 1 rfl rfl (by omega)
  obtain ⟨zf1, Ef1, bf1, sf1, ef1⟩ := catK z3 [116, 105, 99, 107, 10] (ByteArray.mk #[116, 105, 99, 107, 10]) 5 rfl rfl (by omega)
  have HZ : Hid (lineL e = zf1) := by
    rw [Ef1.out, E3.out, E2.out, E1.out]
    exact Lib.hid (by simp [lineL, frontL, whatL, isEv, hk])
  clear E1 E2 E3 Ef1 b1 b2 b3 bf1 ls lc lt hk he h l1 l2
  unfold eventV at *
  go_enter Tryd.func11, Tryd.ntmps11
  go_upto_region 3 with (fail)
  go_region_held3 (fun w' => Below w.heap.size w w' ∧ w'.cell? ⟨w.heap.size, 0, none⟩ = some (.int .i64 e.kind) ∧ w'.cell? ⟨w.heap.size, 1, none⟩ = some (.int .i64 e.step) ∧ w'.cell? ⟨w.heap.size, 2, none⟩ = some (.int .i64 e.core))
    (((try dsimp only); (try go_split_ands); (with_reducible repeat' apply And.intro); all_goals (first | assumption | exact ((Below.refl _ _).alloc (Nat.le_refl _) _).drew | exact Below.drew (by assumption) | exact keep_cell (by assumption) (by assumption) | exact keep_below (by assumption) (Nat.le_refl _) (by assumption) | exact keep_alloc (by assumption) (Nat.le_refl _) _ | go_keep)))
    (first
      | (go_at_call 26; (with_reducible refine (number_i64 e.step HE.out.step _).mono ?_); rintro r w' ⟨rfl, hb⟩)
      | (go_at_call 26; (with_reducible refine (number_i64 e.core HE.out.core _).mono ?_); rintro r w' ⟨rfl, hb⟩))
  rename_i hH
  obtain ⟨q0, q1, q2, q3⟩ := hH
  go_wp2
  go_ret
  exact ⟨ret_str (by rw [HZ.out]), q0⟩

set_option maxRecDepth 100000 in
set_option maxHeartbeats 3200000 in
theorem lineLaw_commit (e : EventD) (he : EventOk e) (hk : e.kind = 1) (F : Nat → Prop) (cv wv : Value) (l1 : e.call.words.length ≤ 1000000) (l2 : e.words.length ≤ 1000000) (w : World) (h : EvAt w F e cv wv) :
    Calls Tryd.prog 11 #[eventV e cv wv] w fun r w' => r = .returned (.string (sb (lineL e))) ∧ Below w.heap.size w w' := by
  obtain ⟨Ac, nc, rfl⟩ := h.call.slice
  obtain ⟨Aw, nw, rfl⟩ := h.words.slice
  have HE := Lib.hid he
  have HV := Lib.hid h
  have g0 : (e.kind == 0) = false := by simp [hk]
  have g1 : (e.kind == 1) = true := by simp [hk]
  have g2 : (e.kind == 2) = false := by simp [hk]
  have g3 : (e.kind == 3) = false := by simp [hk]
  have g4 : (e.kind == 4) = false := by simp [hk]
  have k0 : 0 ≤ e.kind := by omega
  have k4 : e.kind ≤ 4 := by omega
  have ls := itoa_len he.step
  have lc := itoa_len he.core
  have lt := itoa_len he.thread
  obtain ⟨z1, E1, b1, s1, e1⟩ := catK (Lib.itoa e.step) [32, 99, 111, 114, 101, 32] (ByteArray.mk #[32, 99, 111, 114, 101, 32]) 6 rfl rfl (by omega)
  obtain ⟨z2, E2, b2, s2, e2⟩ := cat z1 (Lib.itoa e.core) (by omega)
  obtain ⟨z3, E3, b3, s3, e3⟩ := catK z2 [32] (ByteArray.mk #[32]) 1 rfl rfl (by omega)
  obtain ⟨zt1, Et1, bt1, st1, et1⟩ := catK z3 [116, 104, 114, 101, 97, 100, 32] (ByteArray.mk #[116, 104, 114, 101, 97, 100, 32]) 7 rfl rfl (by omega)
  obtain ⟨zt2, Et2, bt2, st2, et2⟩ := cat zt1 (Lib.itoa e.thread) (by omega)
  obtain ⟨zt3, Et3, bt3, st3, et3⟩ := catK zt2 [32] (ByteArray.mk #[32]) 1 rfl rfl (by omega)
  obtain ⟨zf1, Ef1, bf1, sf1, ef1⟩ := catK zt3 [99, 111, 109, 109, 105, 116, 10] (ByteArray.mk #[99, 111, 109, 109, 105, 116, 10]) 7 rfl rfl (by omega)
  have HZ : Hid (lineL e = zf1) := by
    rw [Ef1.out, Et3.out, Et2.out, Et1.out, E3.out, E2.out, E1.out]
    exact Lib.hid (by simp [lineL, frontL, whatL, isEv, hk])
  clear E1 E2 E3 Et1 Et2 Et3 Ef1 b1 b2 b3 bt1 bt2 bt3 bf1 ls lc lt hk he h l1 l2
  unfold eventV at *
  go_enter Tryd.func11, Tryd.ntmps11
  go_upto_region 3 with (fail)
  go_region_held3 (fun w' => Below w.heap.size w w' ∧ w'.cell? ⟨w.heap.size, 0, none⟩ = some (.int .i64 e.kind) ∧ w'.cell? ⟨w.heap.size, 1, none⟩ = some (.int .i64 e.step) ∧ w'.cell? ⟨w.heap.size, 2, none⟩ = some (.int .i64 e.core) ∧ w'.cell? ⟨w.heap.size, 3, none⟩ = some (.int .i64 e.thread))
    (((try dsimp only); (try go_split_ands); (with_reducible repeat' apply And.intro); all_goals (first | assumption | exact ((Below.refl _ _).alloc (Nat.le_refl _) _).drew | exact Below.drew (by assumption) | exact keep_cell (by assumption) (by assumption) | exact keep_below (by assumption) (Nat.le_refl _) (by assumption) | exact keep_alloc (by assumption) (Nat.le_refl _) _ | go_keep)))
    (first
      | (go_at_call 26; (with_reducible refine (number_i64 e.step HE.out.step _).mono ?_); rintro r w' ⟨rfl, hb⟩)
      | (go_at_call 26; (with_reducible refine (number_i64 e.core HE.out.core _).mono ?_); rintro r w' ⟨rfl, hb⟩))
  rename_i hH
  obtain ⟨q0, q1, q2, q3, q4⟩ := hH
  go_wp2_with (go_at_call 26; refine (number_i64 e.thread HE.out.thread _).mono ?_; rintro r w2 ⟨rfl, hb2⟩; refine Hid.out ?_)
  have d0 := keep_cell hb2 q1
  have hb := keep_below q0 (Nat.le_refl _) hb2
  clear hb2
  refine Lib.hid ?_
  go_wp2
  go_ret
  exact ⟨ret_str (by rw [HZ.out]), hb⟩

set_option maxRecDepth 100000 in
set_option maxHeartbeats 3200000 in
theorem lineLaw_exit (e : EventD) (he : EventOk e) (hk : e.kind = 4) (F : Nat → Prop) (cv wv : Value) (l1 : e.call.words.length ≤ 1000000) (l2 : e.words.length ≤ 1000000) (w : World) (h : EvAt w F e cv wv) :
    Calls Tryd.prog 11 #[eventV e cv wv] w fun r w' => r = .returned (.string (sb (lineL e))) ∧ Below w.heap.size w w' := by
  obtain ⟨Ac, nc, rfl⟩ := h.call.slice
  obtain ⟨Aw, nw, rfl⟩ := h.words.slice
  have HE := Lib.hid he
  have HV := Lib.hid h
  have g0 : (e.kind == 0) = false := by simp [hk]
  have g1 : (e.kind == 1) = false := by simp [hk]
  have g2 : (e.kind == 2) = false := by simp [hk]
  have g3 : (e.kind == 3) = false := by simp [hk]
  have g4 : (e.kind == 4) = true := by simp [hk]
  have k0 : 0 ≤ e.kind := by omega
  have k4 : e.kind ≤ 4 := by omega
  have ls := itoa_len he.step
  have lc := itoa_len he.core
  have lt := itoa_len he.thread
  obtain ⟨z1, E1, b1, s1, e1⟩ := catK (Lib.itoa e.step) [32, 99, 111, 114, 101, 32] (ByteArray.mk #[32, 99, 111, 114, 101, 32]) 6 rfl rfl (by omega)
  obtain ⟨z2, E2, b2, s2, e2⟩ := cat z1 (Lib.itoa e.core) (by omega)
  obtain ⟨z3, E3, b3, s3, e3⟩ := catK z2 [32] (ByteArray.mk #[32]) 1 rfl rfl (by omega)
  obtain ⟨zt1, Et1, bt1, st1, et1⟩ := catK z3 [116, 104, 114, 101, 97, 100, 32] (ByteArray.mk #[116, 104, 114, 101, 97, 100, 32]) 7 rfl rfl (by omega)
  obtain ⟨zt2, Et2, bt2, st2, et2⟩ := cat zt1 (Lib.itoa e.thread) (by omega)
  obtain ⟨zt3, Et3, bt3, st3, et3⟩ := catK zt2 [32] (ByteArray.mk #[32]) 1 rfl rfl (by omega)
  obtain ⟨zf1, Ef1, bf1, sf1, ef1⟩ := catK zt3 [101, 120, 105, 116, 10] (ByteArray.mk #[101, 120, 105, 116, 10]) 5 rfl rfl (by omega)
  have HZ : Hid (lineL e = zf1) := by
    rw [Ef1.out, Et3.out, Et2.out, Et1.out, E3.out, E2.out, E1.out]
    exact Lib.hid (by simp [lineL, frontL, whatL, isEv, hk])
  clear E1 E2 E3 Et1 Et2 Et3 Ef1 b1 b2 b3 bt1 bt2 bt3 bf1 ls lc lt hk he h l1 l2
  unfold eventV at *
  go_enter Tryd.func11, Tryd.ntmps11
  go_upto_region 3 with (fail)
  go_region_held3 (fun w' => Below w.heap.size w w' ∧ w'.cell? ⟨w.heap.size, 0, none⟩ = some (.int .i64 e.kind) ∧ w'.cell? ⟨w.heap.size, 1, none⟩ = some (.int .i64 e.step) ∧ w'.cell? ⟨w.heap.size, 2, none⟩ = some (.int .i64 e.core) ∧ w'.cell? ⟨w.heap.size, 3, none⟩ = some (.int .i64 e.thread))
    (((try dsimp only); (try go_split_ands); (with_reducible repeat' apply And.intro); all_goals (first | assumption | exact ((Below.refl _ _).alloc (Nat.le_refl _) _).drew | exact Below.drew (by assumption) | exact keep_cell (by assumption) (by assumption) | exact keep_below (by assumption) (Nat.le_refl _) (by assumption) | exact keep_alloc (by assumption) (Nat.le_refl _) _ | go_keep)))
    (first
      | (go_at_call 26; (with_reducible refine (number_i64 e.step HE.out.step _).mono ?_); rintro r w' ⟨rfl, hb⟩)
      | (go_at_call 26; (with_reducible refine (number_i64 e.core HE.out.core _).mono ?_); rintro r w' ⟨rfl, hb⟩))
  rename_i hH
  obtain ⟨q0, q1, q2, q3, q4⟩ := hH
  go_wp2_with (go_at_call 26; refine (number_i64 e.thread HE.out.thread _).mono ?_; rintro r w2 ⟨rfl, hb2⟩; refine Hid.out ?_)
  have d0 := keep_cell hb2 q1
  have hb := keep_below q0 (Nat.le_refl _) hb2
  clear hb2
  refine Lib.hid ?_
  go_wp2
  go_ret
  exact ⟨ret_str (by rw [HZ.out]), hb⟩

set_option maxRecDepth 100000 in
set_option maxHeartbeats 3200000 in
theorem lineLaw_invoke (e : EventD) (he : EventOk e) (hk : e.kind = 0) (F : Nat → Prop) (cv wv : Value) (l1 : e.call.words.length ≤ 1000000) (l2 : e.words.length ≤ 1000000) (w : World) (h : EvAt w F e cv wv) :
    Calls Tryd.prog 11 #[eventV e cv wv] w fun r w' => r = .returned (.string (sb (lineL e))) ∧ Below w.heap.size w w' := by
  obtain ⟨Ac, nc, rfl⟩ := h.call.slice
  obtain ⟨Aw, nw, rfl⟩ := h.words.slice
  have HE := Lib.hid he
  have HV := Lib.hid h
  have g0 : (e.kind == 0) = true := by simp [hk]
  have g1 : (e.kind == 1) = false := by simp [hk]
  have g2 : (e.kind == 2) = false := by simp [hk]
  have g3 : (e.kind == 3) = false := by simp [hk]
  have g4 : (e.kind == 4) = false := by simp [hk]
  have k0 : 0 ≤ e.kind := by omega
  have k4 : e.kind ≤ 4 := by omega
  have ls := itoa_len he.step
  have lc := itoa_len he.core
  have lt := itoa_len he.thread
  have lw := callL_len he.call
  obtain ⟨z1, E1, b1, s1, e1⟩ := catK (Lib.itoa e.step) [32, 99, 111, 114, 101, 32] (ByteArray.mk #[32, 99, 111, 114, 101, 32]) 6 rfl rfl (by omega)
  obtain ⟨z2, E2, b2, s2, e2⟩ := cat z1 (Lib.itoa e.core) (by omega)
  obtain ⟨z3, E3, b3, s3, e3⟩ := catK z2 [32] (ByteArray.mk #[32]) 1 rfl rfl (by omega)
  obtain ⟨zt1, Et1, bt1, st1, et1⟩ := catK z3 [116, 104, 114, 101, 97, 100, 32] (ByteArray.mk #[116, 104, 114, 101, 97, 100, 32]) 7 rfl rfl (by omega)
  obtain ⟨zt2, Et2, bt2, st2, et2⟩ := cat zt1 (Lib.itoa e.thread) (by omega)
  obtain ⟨zt3, Et3, bt3, st3, et3⟩ := catK zt2 [32] (ByteArray.mk #[32]) 1 rfl rfl (by omega)
  obtain ⟨zf1, Ef1, bf1, sf1, ef1⟩ := catK zt3 [105, 110, 118, 111, 107, 101, 32] (ByteArray.mk #[105, 110, 118, 111, 107, 101, 32]) 7 rfl rfl (by omega)
  obtain ⟨zf2, Ef2, bf2, sf2, ef2⟩ := cat zf1 (callL e.call) (by omega)
  obtain ⟨zf3, Ef3, bf3, sf3, ef3⟩ := catK zf2 [10] (ByteArray.mk #[10]) 1 rfl rfl (by omega)
  have HZ : Hid (lineL e = zf3) := by
    rw [Ef3.out, Ef2.out, Ef1.out, Et3.out, Et2.out, Et1.out, E3.out, E2.out, E1.out]
    exact Lib.hid (by simp [lineL, frontL, whatL, isEv, hk])
  have HC := Lib.hid (fun (W : World) (hb : Below w.heap.size w W) => callsLaw_any e.call he.call F _ l1 W (h.on hb).call)
  clear E1 E2 E3 Et1 Et2 Et3 Ef1 Ef2 Ef3 b1 b2 b3 bt1 bt2 bt3 bf1 bf2 bf3 ls lc lt lw hk he h l1 l2
  unfold callV at HC
  unfold eventV at *
  go_enter Tryd.func11, Tryd.ntmps11
  go_upto_region 3 with (fail)
  go_region_held3 (fun w' => Below w.heap.size w w' ∧ w'.cell? ⟨w.heap.size, 0, none⟩ = some (.int .i64 e.kind) ∧ w'.cell? ⟨w.heap.size, 1, none⟩ = some (.int .i64 e.step) ∧ w'.cell? ⟨w.heap.size, 2, none⟩ = some (.int .i64 e.core) ∧ w'.cell? ⟨w.heap.size, 3, none⟩ = some (.int .i64 e.thread) ∧ w'.cell? ⟨w.heap.size, 4, none⟩ = some (.int .i64 e.call.kind) ∧ w'.cell? ⟨w.heap.size, 5, none⟩ = some (.int .i64 e.call.handle) ∧ w'.cell? ⟨w.heap.size, 6, none⟩ = some (.int .i64 e.call.a) ∧ w'.cell? ⟨w.heap.size, 7, none⟩ = some (.int .i64 e.call.b) ∧ w'.cell? ⟨w.heap.size, 8, none⟩ = some (.slice Ac e.call.words.length nc) ∧ w'.cell? ⟨w.heap.size, 9, none⟩ = some (.int .i64 e.call.timeout))
    (((try dsimp only); (try go_split_ands); (with_reducible repeat' apply And.intro); all_goals (first | assumption | exact ((Below.refl _ _).alloc (Nat.le_refl _) _).drew | exact Below.drew (by assumption) | exact keep_cell (by assumption) (by assumption) | exact keep_below (by assumption) (Nat.le_refl _) (by assumption) | exact keep_alloc (by assumption) (Nat.le_refl _) _ | go_keep)))
    (first
      | (go_at_call 26; (with_reducible refine (number_i64 e.step HE.out.step _).mono ?_); rintro r w' ⟨rfl, hb⟩)
      | (go_at_call 26; (with_reducible refine (number_i64 e.core HE.out.core _).mono ?_); rintro r w' ⟨rfl, hb⟩))
  rename_i hH
  obtain ⟨q0, q1, q2, q3, q4, q5, q6, q7, q8, q9, q10⟩ := hH
  go_wp2_with (go_at_call 26; refine (number_i64 e.thread HE.out.thread _).mono ?_; rintro r w2 ⟨rfl, hb2⟩; refine Hid.out ?_)
  have d0 := keep_cell hb2 q1
  have d4 := keep_cell hb2 q5
  have d5 := keep_cell hb2 q6
  have d6 := keep_cell hb2 q7
  have d7 := keep_cell hb2 q8
  have d8 := keep_cell hb2 q9
  have d9 := keep_cell hb2 q10
  have hb := keep_below q0 (Nat.le_refl _) hb2
  clear hb2 q1 q2 q3 q4 q5 q6 q7 q8 q9 q10
  refine Lib.hid ?_
  go_wp2_with (go_at_call 13; refine (HC.out _ hb).mono ?_; rintro r w3 ⟨rfl, hb3⟩)
  go_ret
  exact ⟨ret_str (by rw [HZ.out]), keep_below hb (Nat.le_refl _) hb3⟩

set_option maxRecDepth 100000 in
set_option maxHeartbeats 3200000 in
theorem lineLaw_return (e : EventD) (he : EventOk e) (hk : e.kind = 2) (F : Nat → Prop) (cv wv : Value) (l1 : e.call.words.length ≤ 1000000) (l2 : e.words.length ≤ 1000000) (w : World) (h : EvAt w F e cv wv) :
    Calls Tryd.prog 11 #[eventV e cv wv] w fun r w' => r = .returned (.string (sb (lineL e))) ∧ Below w.heap.size w w' := by
  obtain ⟨Ac, nc, rfl⟩ := h.call.slice
  obtain ⟨Aw, nw, rfl⟩ := h.words.slice
  have HE := Lib.hid he
  have HV := Lib.hid h
  have g0 : (e.kind == 0) = false := by simp [hk]
  have g1 : (e.kind == 1) = false := by simp [hk]
  have g2 : (e.kind == 2) = true := by simp [hk]
  have g3 : (e.kind == 3) = false := by simp [hk]
  have g4 : (e.kind == 4) = false := by simp [hk]
  have k0 : 0 ≤ e.kind := by omega
  have k4 : e.kind ≤ 4 := by omega
  have ls := itoa_len he.step
  have lc := itoa_len he.core
  have lt := itoa_len he.thread
  have lo := itoa_len he.code
  obtain ⟨z1, E1, b1, s1, e1⟩ := catK (Lib.itoa e.step) [32, 99, 111, 114, 101, 32] (ByteArray.mk #[32, 99, 111, 114, 101, 32]) 6 rfl rfl (by omega)
  obtain ⟨z2, E2, b2, s2, e2⟩ := cat z1 (Lib.itoa e.core) (by omega)
  obtain ⟨z3, E3, b3, s3, e3⟩ := catK z2 [32] (ByteArray.mk #[32]) 1 rfl rfl (by omega)
  obtain ⟨zt1, Et1, bt1, st1, et1⟩ := catK z3 [116, 104, 114, 101, 97, 100, 32] (ByteArray.mk #[116, 104, 114, 101, 97, 100, 32]) 7 rfl rfl (by omega)
  obtain ⟨zt2, Et2, bt2, st2, et2⟩ := cat zt1 (Lib.itoa e.thread) (by omega)
  obtain ⟨zt3, Et3, bt3, st3, et3⟩ := catK zt2 [32] (ByteArray.mk #[32]) 1 rfl rfl (by omega)
  obtain ⟨zf1, Ef1, bf1, sf1, ef1⟩ := catK zt3 [114, 101, 116, 117, 114, 110, 32] (ByteArray.mk #[114, 101, 116, 117, 114, 110, 32]) 7 rfl rfl (by omega)
  obtain ⟨zf2, Ef2, bf2, sf2, ef2⟩ := cat zf1 (Lib.itoa e.code) (by omega)
  have hz2 : zf2.length ≤ 200 := by omega
  have HZ : Hid (lineL e = zf2 ++ (spacedL e.words ++ [10])) := by
    rw [Ef2.out, Ef1.out, Et3.out, Et2.out, Et1.out, E3.out, E2.out, E1.out]
    exact Lib.hid (by simp [lineL, frontL, whatL, isEv, hk, spacedL])
  clear E1 E2 E3 Et1 Et2 Et3 Ef1 Ef2 b1 b2 b3 bt1 bt2 bt3 bf1 bf2 ls lc lt lo hk he h l1
  unfold eventV at *
  go_enter Tryd.func11, Tryd.ntmps11
  go_upto_region 3 with (fail)
  go_region_held3 (fun w' => Below w.heap.size w w' ∧ w'.cell? ⟨w.heap.size, 0, none⟩ = some (.int .i64 e.kind) ∧ w'.cell? ⟨w.heap.size, 1, none⟩ = some (.int .i64 e.step) ∧ w'.cell? ⟨w.heap.size, 2, none⟩ = some (.int .i64 e.core) ∧ w'.cell? ⟨w.heap.size, 3, none⟩ = some (.int .i64 e.thread) ∧ w'.cell? ⟨w.heap.size, 10, none⟩ = some (.int .i64 e.code) ∧ w'.cell? ⟨w.heap.size, 12, none⟩ = some (.slice Aw e.words.length nw))
    (((try dsimp only); (try go_split_ands); (with_reducible repeat' apply And.intro); all_goals (first | assumption | exact ((Below.refl _ _).alloc (Nat.le_refl _) _).drew | exact Below.drew (by assumption) | exact keep_cell (by assumption) (by assumption) | exact keep_below (by assumption) (Nat.le_refl _) (by assumption) | exact keep_alloc (by assumption) (Nat.le_refl _) _ | go_keep)))
    (first
      | (go_at_call 26; (with_reducible refine (number_i64 e.step HE.out.step _).mono ?_); rintro r w' ⟨rfl, hb⟩)
      | (go_at_call 26; (with_reducible refine (number_i64 e.core HE.out.core _).mono ?_); rintro r w' ⟨rfl, hb⟩))
  rename_i hH
  obtain ⟨q0, q1, q2, q3, q4, q11, q13⟩ := hH
  go_wp2_with (go_at_call 26; refine (number_i64 e.thread HE.out.thread _).mono ?_; rintro r w2 ⟨rfl, hb2⟩; refine Hid.out ?_)
  have d0 := keep_cell hb2 q1
  have d10 := keep_cell hb2 q11
  have d12 := keep_cell hb2 q13
  have hb := keep_below q0 (Nat.le_refl _) hb2
  clear hb2 q0 q1 q2 q3 q4 q11 q13
  refine Lib.hid ?_
  go_wp2_with (go_at_call 26; refine (number_i64 e.code HE.out.code _).mono ?_; rintro r w3 ⟨rfl, hb3⟩; refine Hid.out ?_)
  have cw := keep_cell hb3 d12
  have hw := keep_below hb (Nat.le_refl _) hb3
  clear hb3 d0 d10 d12 hb s1 s2 s3 st1 st2 st3 sf1 e1 e2 e3 et1 et2 et3 ef1
  refine Lib.hid ?_
  go_wp2
  go_loopw [3, 4, 62] (fun s _ i wr => ∃ (k : Nat) (z : List UInt8), k ≤ e.words.length ∧ i = .int .i64 k ∧ s = .string (sb z) ∧ Hid (z = zf2 ++ spacedL (e.words.take k)) ∧ Hid (Below w.heap.size w wr) ∧ wr.cell? ⟨w.heap.size, 12, none⟩ = some (.slice Aw e.words.length nw)) (fun _ _ i _ => e.words.length - (intOf i).toNat)
  case atStart => exact ⟨0, zf2, Nat.zero_le _, rfl, rfl, Lib.hid (by simp [spacedL]), Lib.hid hw, cw⟩
  case round =>
    clear hw cw sf2 ef2
    obtain ⟨k, z, hk, rfl, rfl, EZk, hw, cw⟩ := hrel
    have hsz := hw.out.size
    have hzk : z.length ≤ 200 + 22 * e.words.length := by
      have := spacedL_len (e.words.take k) (fun y hy => HE.out.words y (List.mem_of_mem_take hy))
      rw [List.length_take] at this
      rw [EZk.out, List.length_append]
      omega
    by_cases hlt : k < e.words.length
    · obtain ⟨b, o, c', ev, hF, hcells⟩ := IntsAt.cells HV.out.words (by omega)
      cases ev
      have d := hcells k e.words[k] (List.getElem?_eq_getElem hlt)
      have lb := World.block_lt_of_cell? w _ d
      rw [← hw.out.cell (p := ⟨b, o + k, none⟩) lb] at d
      have hxk := HE.out.words e.words[k] (List.getElem_mem hlt)
      have HS := Lib.hid (spacedL_snoc e.words k hlt)
      have hil := itoa_len hxk
      have hlc : (k : Int) < (e.words.length : Int) := by omega
      clear hcells
      generalize e.words[k] = x at *
      obtain ⟨y1, E1, b1, s1, e1⟩ := catK z [32] (ByteArray.mk #[32]) 1 rfl rfl (by omega)
      obtain ⟨y2, E2, b2, s2, e2⟩ := cat y1 (Lib.itoa x) (by omega)
      have EY : Hid (y2 = zf2 ++ spacedL (e.words.take (k + 1))) := by
        rw [E2.out, E1.out, EZk.out, HS.out]
        exact Lib.hid (by simp)
      clear E1 E2 HS EZk
      go_wp2_with (go_at_call 26; refine (number_i64 _ hxk _).mono ?_; rintro r w2 ⟨rfl, hb2⟩; refine Hid.out ?_)
      have cw2 := keep_cell hb2 cw
      have hw2 := Lib.hid (keep_below hw.out (Nat.le_refl _) hb2)
      clear hb2 cw
      refine Lib.hid ?_
      go_wp2
      go_roundw
      case rel => exact ⟨k + 1, y2, by omega, by go_num, rfl, EY, hw2, cw2⟩
      case measure => simp [intOf]; omega
    · have ev : e.words.take k = e.words := List.take_of_length_le (by omega)
      rw [ev] at EZk
      clear ev
      obtain ⟨y1, E1, b1, s1, e1⟩ := catK z [10] (ByteArray.mk #[10]) 1 rfl rfl (by omega)
      have EY : Hid (lineL e = y1) := by
        rw [E1.out, EZk.out, HZ.out]
        exact Lib.hid (by simp)
      clear E1 EZk HZ
      go_wp2
      go_ret
      exact ⟨ret_str (by rw [EY.out]), hw.out⟩

theorem lineLaw_any (e : EventD) (he : EventOk e) (F : Nat → Prop) (cv wv : Value) (l1 : e.call.words.length ≤ 1000000) (l2 : e.words.length ≤ 1000000) (w : World) (h : EvAt w F e cv wv) :
    Calls Tryd.prog 11 #[eventV e cv wv] w fun r w' => r = .returned (.string (sb (lineL e))) ∧ Below w.heap.size w w' := by
  by_cases hi : isEv e = true
  · simp only [isEv, Bool.and_eq_true, decide_eq_true_eq] at hi
    obtain hk | hk | hk | hk | hk : e.kind = 0 ∨ e.kind = 1 ∨ e.kind = 2 ∨ e.kind = 3 ∨ e.kind = 4 := by omega
    · exact lineLaw_invoke e he hk F cv wv l1 l2 w h
    · exact lineLaw_commit e he hk F cv wv l1 l2 w h
    · exact lineLaw_return e he hk F cv wv l1 l2 w h
    · exact lineLaw_tick e he hk F cv wv l1 l2 w h
    · exact lineLaw_exit e he hk F cv wv l1 l2 w h
  · exact lineLaw_bad e he (by simpa using hi) F cv wv l1 l2 w h

end Go.Proofs.YtpmafppcccbmaaaDoor
