/-
  report.what, report.Line, and the law's own line of an event.
-/
import Derived.Test.YtpmafppcccbmaaaDoorCall
set_option linter.unusedVariables false
set_option linter.unusedSimpArgs false
namespace Go.Proofs.YtpmafppcccbmaaaDoor
open Go.RowKit

structure EventD where
  kind : Int
  step : Int
  core : Int
  thread : Int
  call : CallD
  code : Int
  count : Int
  words : List Int
structure EventOk (e : EventD) : Prop where
  kind : I64 e.kind
  step : I64 e.step
  core : I64 e.core
  thread : I64 e.thread
  call : CallOk e.call
  code : I64 e.code
  words : ∀ x ∈ e.words, I64 x
def eventV (e : EventD) (cv wv : Value) : Value := .agg #[.int .i64 e.kind, .int .i64 e.step, .int .i64 e.core, .int .i64 e.thread, .int .i64 e.call.kind, .int .i64 e.call.handle, .int .i64 e.call.a, .int .i64 e.call.b, cv, .int .i64 e.call.timeout, .int .i64 e.code, .int .i64 e.count, wv]
def isEv (e : EventD) : Bool := decide (0 ≤ e.kind) && decide (e.kind ≤ 4)
def whatL (e : EventD) : List UInt8 :=
  if e.kind = 0 then [105, 110, 118, 111, 107, 101, 32] ++ callL e.call
  else if e.kind = 1 then [99, 111, 109, 109, 105, 116]
  else if e.kind = 2 then [114, 101, 116, 117, 114, 110] ++ (spacedL [e.code] ++ spacedL e.words)
  else if e.kind = 3 then [116, 105, 99, 107]
  else if e.kind = 4 then [101, 120, 105, 116]
  else []
def frontL (e : EventD) : List UInt8 := Lib.itoa e.step ++ ([32, 99, 111, 114, 101, 32] ++ (Lib.itoa e.core ++ [32]))
def lineL (e : EventD) : List UInt8 :=
  if isEv e = true then frontL e ++ ((if e.kind = 3 then [] else [116, 104, 114, 101, 97, 100, 32] ++ (Lib.itoa e.thread ++ [32])) ++ (whatL e ++ [10])) else [63, 10]
theorem callL_len {c : CallD} (hc : CallOk c) : (callL c).length ≤ 200 + 22 * c.words.length := by
  have h1 := spacedL_len [c.handle, c.a, c.b, c.timeout] (by simp [hc.handle, hc.a, hc.b, hc.timeout])
  have h2 := spacedL_len c.words hc.words
  have h3 := kindL_len c.kind
  simp only [callL, List.length_append, List.length_cons, List.length_nil] at *
  omega
/-- What a contract of an event is given: its two slices. -/
structure EvAt (w : World) (F : Nat → Prop) (e : EventD) (cv wv : Value) : Prop where
  call : IntsAt w F cv e.call.words
  words : IntsAt w F wv e.words
theorem EvAt.on {w w' : World} {F : Nat → Prop} {e : EventD} {cv wv : Value} (h : EvAt w F e cv wv) (hb : Below w.heap.size w w') : EvAt w' F e cv wv :=
  ⟨IntsAt.kept (fun k hk _ => hb.block k hk) h.call, IntsAt.kept (fun k hk _ => hb.block k hk) h.words⟩

set_option maxRecDepth 100000 in
set_option maxHeartbeats 3200000 in
theorem what_commit (e : EventD) (he : EventOk e) (hk : e.kind = 1) (F : Nat → Prop) (cv wv : Value) (l1 : e.call.words.length ≤ 1000000) (l2 : e.words.length ≤ 1000000) (w : World) (hT : Tabs w) (h : EvAt w F e cv wv) :
    Calls Tryd.prog 24 #[eventV e cv wv] w fun r w' => r = .returned (.tuple #[.string (sb (whatL e)), .bool (isEv e)]) ∧ Below w.heap.size w w' := by
  obtain ⟨Ac, nc, rfl⟩ := h.call.slice
  obtain ⟨Aw, nw, rfl⟩ := h.words.slice
  have hw : whatL e = [99, 111, 109, 109, 105, 116] := by simp [whatL, hk]
  have hi : isEv e = true := by simp [isEv, hk]
  have HW := Lib.hid hw
  have HI := Lib.hid hi
  clear hw hi h hT he l1 l2
  unfold eventV
  go_enter Tryd.func24, Tryd.ntmps24
  go_wp2
  go_ret2
  refine ⟨?_, (Below.refl _ _).alloc (Nat.le_refl _) _⟩
  rw [HW.out, HI.out]; rfl

set_option maxRecDepth 100000 in
set_option maxHeartbeats 3200000 in
theorem what_tick (e : EventD) (he : EventOk e) (hk : e.kind = 3) (F : Nat → Prop) (cv wv : Value) (l1 : e.call.words.length ≤ 1000000) (l2 : e.words.length ≤ 1000000) (w : World) (hT : Tabs w) (h : EvAt w F e cv wv) :
    Calls Tryd.prog 24 #[eventV e cv wv] w fun r w' => r = .returned (.tuple #[.string (sb (whatL e)), .bool (isEv e)]) ∧ Below w.heap.size w w' := by
  obtain ⟨Ac, nc, rfl⟩ := h.call.slice
  obtain ⟨Aw, nw, rfl⟩ := h.words.slice
  have hw : whatL e = [116, 105, 99, 107] := by simp [whatL, hk]
  have hi : isEv e = true := by simp [isEv, hk]
  have HW := Lib.hid hw
  have HI := Lib.hid hi
  clear hw hi h hT he l1 l2
  unfold eventV
  go_enter Tryd.func24, Tryd.ntmps24
  go_wp2
  go_ret2
  refine ⟨?_, (Below.refl _ _).alloc (Nat.le_refl _) _⟩
  rw [HW.out, HI.out]; rfl

set_option maxRecDepth 100000 in
set_option maxHeartbeats 3200000 in
theorem what_exit (e : EventD) (he : EventOk e) (hk : e.kind = 4) (F : Nat → Prop) (cv wv : Value) (l1 : e.call.words.length ≤ 1000000) (l2 : e.words.length ≤ 1000000) (w : World) (hT : Tabs w) (h : EvAt w F e cv wv) :
    Calls Tryd.prog 24 #[eventV e cv wv] w fun r w' => r = .returned (.tuple #[.string (sb (whatL e)), .bool (isEv e)]) ∧ Below w.heap.size w w' := by
  obtain ⟨Ac, nc, rfl⟩ := h.call.slice
  obtain ⟨Aw, nw, rfl⟩ := h.words.slice
  have hw : whatL e = [101, 120, 105, 116] := by simp [whatL, hk]
  have hi : isEv e = true := by simp [isEv, hk]
  have HW := Lib.hid hw
  have HI := Lib.hid hi
  clear hw hi h hT he l1 l2
  unfold eventV
  go_enter Tryd.func24, Tryd.ntmps24
  go_wp2
  go_ret2
  refine ⟨?_, (Below.refl _ _).alloc (Nat.le_refl _) _⟩
  rw [HW.out, HI.out]; rfl

set_option maxRecDepth 100000 in
set_option maxHeartbeats 3200000 in
theorem what_none (e : EventD) (he : EventOk e) (hk : isEv e = false) (F : Nat → Prop) (cv wv : Value) (l1 : e.call.words.length ≤ 1000000) (l2 : e.words.length ≤ 1000000) (w : World) (hT : Tabs w) (h : EvAt w F e cv wv) :
    Calls Tryd.prog 24 #[eventV e cv wv] w fun r w' => r = .returned (.tuple #[.string (sb (whatL e)), .bool (isEv e)]) ∧ Below w.heap.size w w' := by
  obtain ⟨Ac, nc, rfl⟩ := h.call.slice
  obtain ⟨Aw, nw, rfl⟩ := h.words.slice
  have hw : whatL e = [] := by
    simp only [isEv, Bool.and_eq_false_iff, decide_eq_false_iff_not] at hk
    unfold whatL
    rw [if_neg (by omega), if_neg (by omega), if_neg (by omega), if_neg (by omega), if_neg (by omega)]
  have HW := Lib.hid hw
  have HI := Lib.hid hk
  have k0 : ¬ e.kind = 0 := by intro h; simp [isEv, h] at hk
  have k1 : ¬ e.kind = 1 := by intro h; simp [isEv, h] at hk
  have k2 : ¬ e.kind = 2 := by intro h; simp [isEv, h] at hk
  have k3 : ¬ e.kind = 3 := by intro h; simp [isEv, h] at hk
  have k4 : ¬ e.kind = 4 := by intro h; simp [isEv, h] at hk
  have g0 : (e.kind == 0) = false := by simpa using k0
  have g1 : (e.kind == 1) = false := by simpa using k1
  have g2 : (e.kind == 2) = false := by simpa using k2
  have g3 : (e.kind == 3) = false := by simpa using k3
  have g4 : (e.kind == 4) = false := by simpa using k4
  clear hw hk h hT he l1 l2
  unfold eventV
  go_enter Tryd.func24, Tryd.ntmps24
  go_wp2
  go_ret2
  refine ⟨?_, (Below.refl _ _).alloc (Nat.le_refl _) _⟩
  rw [HW.out, HI.out]; rfl

set_option maxRecDepth 100000 in
set_option maxHeartbeats 3200000 in
theorem what_invoke (e : EventD) (he : EventOk e) (hk : e.kind = 0) (F : Nat → Prop) (cv wv : Value) (l1 : e.call.words.length ≤ 1000000) (l2 : e.words.length ≤ 1000000) (w : World) (hT : Tabs w) (h : EvAt w F e cv wv) :
    Calls Tryd.prog 24 #[eventV e cv wv] w fun r w' => r = .returned (.tuple #[.string (sb (whatL e)), .bool (isEv e)]) ∧ Below w.heap.size w w' := by
  obtain ⟨Ac, nc, rfl⟩ := h.call.slice
  obtain ⟨Aw, nw, rfl⟩ := h.words.slice
  have hi : isEv e = true := by simp [isEv, hk]
  have HI := Lib.hid hi
  have hbw := fun (o : Obj) => (Below.refl w.heap.size w).alloc (Nat.le_refl _) o
  have HC := Lib.hid (fun (o : Obj) => callGo_any e.call he.call F _ l1 _ (hT.on (hbw o)) (h.on (hbw o)).call)
  have HB := Lib.hid hbw
  have lc := callL_len he.call
  obtain ⟨z1, E1, b1, s1, e1⟩ := catL [105, 110, 118, 111, 107, 101, 32] (callL e.call) (ByteArray.mk #[105, 110, 118, 111, 107, 101, 32]) 7 rfl rfl (by omega)
  have HZ : Hid (whatL e = z1) := by rw [E1.out]; exact Lib.hid (by simp [whatL, hk])
  clear E1 b1 lc hbw hi h hT he l1 l2
  unfold eventV
  go_enter Tryd.func24, Tryd.ntmps24
  go_wp2_with (go_at_call 12; refine (HC.out _).mono ?_; rintro e w1 ⟨rfl, hb1⟩)
  go_ret2
  refine ⟨?_, (HB.out _).trans (hb1.mono (by simp))⟩
  rw [HZ.out, HI.out]; rfl

set_option maxRecDepth 100000 in
set_option maxHeartbeats 3200000 in
theorem what_return (e : EventD) (he : EventOk e) (hk : e.kind = 2) (F : Nat → Prop) (cv wv : Value) (l1 : e.call.words.length ≤ 1000000) (l2 : e.words.length ≤ 1000000) (w : World) (hT : Tabs w) (h : EvAt w F e cv wv) :
    Calls Tryd.prog 24 #[eventV e cv wv] w fun r w' => r = .returned (.tuple #[.string (sb (whatL e)), .bool (isEv e)]) ∧ Below w.heap.size w w' := by
  obtain ⟨Ac, nc, rfl⟩ := h.call.slice
  obtain ⟨Aw, nw, rfl⟩ := h.words.slice
  have hi : isEv e = true := by simp [isEv, hk]
  have HI := Lib.hid hi
  have hx1 : ∀ x ∈ [e.code], I64 x := by simp [he.code]
  have H1 := Lib.hid (fun (W : World) (hb : Below w.heap.size w W) (v4 : Value) (hi : IntsAt W (fun _ => True) v4 [e.code]) => spaced_any _ hx1 _ v4 (by simp) W (hT.on hb) hi)
  have HW := Lib.hid (fun (W : World) (hb : Below w.heap.size w W) => spaced_any e.words he.words F _ l2 W (hT.on hb) (h.on hb).words)
  have la := spacedL_len _ hx1
  have lw := spacedL_len e.words he.words
  simp only [List.length_cons, List.length_nil] at la
  have EW : Hid (whatL e = [114, 101, 116, 117, 114, 110] ++ (spacedL [e.code] ++ spacedL e.words)) := Lib.hid (by simp [whatL, hk])
  generalize spacedL [e.code] = y1 at *
  generalize spacedL e.words = yw at *
  obtain ⟨z1, E1, b1, s1, e1⟩ := catL [114, 101, 116, 117, 114, 110] y1 (ByteArray.mk #[114, 101, 116, 117, 114, 110]) 6 rfl rfl (by omega)
  obtain ⟨z2, E2, b2, s2, e2⟩ := cat z1 yw (by omega)
  have HZ : Hid (whatL e = z2) := by rw [EW.out, E2.out, E1.out]; exact Lib.hid (by simp)
  clear E1 E2 EW b1 b2 la lw hx1 hi h hT he l1 l2
  unfold eventV
  go_enter Tryd.func24, Tryd.ntmps24
  go_upto_region 7 with (fail)
  go_region_held3 (fun w' => Below w.heap.size w w' ∧ w'.cell? ⟨w.heap.size, 10, none⟩ = some (.int .i64 e.code) ∧ w'.cell? ⟨w.heap.size, 12, none⟩ = some (.slice Aw e.words.length nw))
    (((try dsimp only); (try go_split_ands); (with_reducible repeat' apply And.intro); all_goals (first | assumption | exact ((Below.refl _ _).alloc (Nat.le_refl _) _).drew | exact Below.drew (by assumption) | exact keep_cell (by assumption) (by assumption) | exact keep_below (by assumption) (Nat.le_refl _) (by assumption) | exact keep_alloc (by assumption) (Nat.le_refl _) _ | go_keep)))
    (first
      | (go_at_call 28; (with_reducible refine (HW.out _ ?_).mono ?_); (first | assumption | exact (‹Below _ _ _ ∧ _›).1 | exact keep_alloc (by assumption) (Nat.le_refl _) _); rintro r w' ⟨rfl, hb⟩)
      | (go_at_call 28; (with_reducible refine (H1.out _ ?_ _ (ints_one _ _ _ ?_)).mono ?_); (first | exact (((Below.refl _ _).alloc (Nat.le_refl _) _).alloc (by simp) _).drew | assumption); (first | exact heap_alloc_new _ _ | exact heap_alloc2_new _ _ _); rintro r w' ⟨rfl, hb⟩))
  all_goals
    rename_i hH
    obtain ⟨q1, q2, q3⟩ := hH
    go_wp2
    go_ret2
    refine ⟨?_, q1⟩
    rw [HZ.out, HI.out]; rfl

theorem what_any (e : EventD) (he : EventOk e) (F : Nat → Prop) (cv wv : Value) (l1 : e.call.words.length ≤ 1000000) (l2 : e.words.length ≤ 1000000) (w : World) (hT : Tabs w) (h : EvAt w F e cv wv) :
    Calls Tryd.prog 24 #[eventV e cv wv] w fun r w' => r = .returned (.tuple #[.string (sb (whatL e)), .bool (isEv e)]) ∧ Below w.heap.size w w' := by
  by_cases hi : isEv e = true
  · simp only [isEv, Bool.and_eq_true, decide_eq_true_eq] at hi
    obtain hk | hk | hk | hk | hk : e.kind = 0 ∨ e.kind = 1 ∨ e.kind = 2 ∨ e.kind = 3 ∨ e.kind = 4 := by omega
    · exact what_invoke e he hk F cv wv l1 l2 w hT h
    · exact what_commit e he hk F cv wv l1 l2 w hT h
    · exact what_return e he hk F cv wv l1 l2 w hT h
    · exact what_tick e he hk F cv wv l1 l2 w hT h
    · exact what_exit e he hk F cv wv l1 l2 w hT h
  · exact what_none e he (by simpa using hi) F cv wv l1 l2 w hT h

end Go.Proofs.YtpmafppcccbmaaaDoor
