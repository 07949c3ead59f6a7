/-
  What a boot leaves in memory: the whole. Plain Lean: no Go here.
-/
import Derived.Test.YtpflejobkjdhdaaBootLaw2
set_option linter.unusedVariables false
set_option linter.unusedSimpArgs false
namespace Go.Proofs.Ytpflejobkjdhdaa
open Go.RowKit

theorem firstAt_at {α : Type} [DecidableEq α] (x : α) : ∀ (xs : List α) (k j : Nat), xs.Nodup → xs[j]? = some x → firstAt (fun y => decide (x = y)) xs k = ((k + j : Nat) : Int)
  | [], k, j, _, h => by simp at h
  | y :: xs, k, j, hn, h => by
    unfold firstAt
    cases j with
    | zero => simp at h; subst h; simp
    | succ j =>
      have hx : xs[j]? = some x := by simpa using h
      have hne : x ≠ y := by
        intro e
        have := List.mem_of_getElem? hx
        rw [e] at this
        exact (List.nodup_cons.1 hn).1 this
      rw [if_neg (by simpa using hne), firstAt_at x xs (k + 1) j (List.nodup_cons.1 hn).2 hx]
      omega
theorem thAts_nodup (n : Nat) : (thAts n).Nodup := by
  unfold thAts
  exact List.Pairwise.map _ (fun a b h e => h (by unfold thAt at e; omega)) List.nodup_range
theorem numOf_at (n j : Nat) (h : j < n) : numOf n (thAt j) = j + 1 := by
  have := firstAt_at (thAt j) (thAts n) 0 j (thAts_nodup n) (by simp [thAts, h])
  unfold numOf ofNode
  have e : (fun y => thAt (j : Int) == y) = fun y => decide (thAt (j : Int) = y) := by funext y; rfl
  rw [e, this]; omega

/-- Who runs on a core behind a boot: his number and 1; 0: nobody. -/
def coreV (n : Nat) (o : List (Int × Nat)) (c : Nat) : Int := match o[c]? with
  | some y => numOf n y.1
  | none => 0

theorem does_cores {N : Nat} {L : Nat → List Int} {V : Nat} {m : Mem} (nt : Nat) (h : QAt (rdM m) N L V) (hm : 41 ≤ m.length) (h0 : rdM m 3 = 0) (h5 : rdM m 5 = 0) :
    ∃ g, Does (kCores nt 2 0 (headR (ord L 16)).1 (headR (ord L 16)).2.1 (headR (ord L 16)).2.2) m () g 8 ∧ g 3 = coreV nt (ord L 16) 0 ∧ g 5 = coreV nt (ord L 16) 1 ∧ ∀ x, x ≠ 3 → x ≠ 5 → g x = rdM m x := by
  have hq : ∀ m' : Mem, (∀ x, x ≠ 3 → x ≠ 5 → rdM m' x = rdM m x) → QAt (rdM m') N L V := fun m' hx => h.congr (fun x hx' => hx x (fun e => hx' ⟨by omega, fun j _ => by rw [e]; unfold thAt; omega⟩) (fun e => hx' ⟨by omega, fun j _ => by rw [e]; unfold thAt; omega⟩))
  cases ho : ord L 16 with
  | nil => exact ⟨rdM m, Does.ff rfl (Does.pure _ _ _), by rw [h0]; rfl, by rw [h5]; rfl, fun x _ _ => rfl⟩
  | cons a post =>
    obtain ⟨x, q⟩ := a
    obtain ⟨m1, c1, e1, r1, l1, b1⟩ := Does.st 3 (numOf nt x) m ⟨by omega, by omega⟩
    have q1 : QAt (rdM m1) N L V := hq m1 (fun y h1 h2 => by rw [r1, upd_other _ _ _ _ h1])
    obtain ⟨m2, c2, e2, r2, l2, b2⟩ := does_qAfter q1 (pre := []) (post := post) (x := x) (q := q) (by simpa using ho)
    cases post with
    | nil =>
      refine ⟨rdM m2, ⟨m2, c1 + (c2 + 0), ?_, rfl, by omega, by omega⟩, ?_, ?_, fun y h1 h2 => by rw [r2, r1, upd_other _ _ _ _ h1]⟩
      · show srun (kCores nt 2 0 x q true) m = _
        unfold kCores
        rw [if_pos rfl]
        exact srun_seq e1 (srun_seq e2 rfl)
      · rw [r2, r1, upd_same]; rfl
      · rw [r2, r1, upd_other _ _ _ _ (by omega), h5]; rfl
    | cons b rest =>
      obtain ⟨y, q2⟩ := b
      obtain ⟨m3, c3, e3, r3, l3, b3⟩ := Does.st 5 (numOf nt y) m2 ⟨by omega, by omega⟩
      have q3 : QAt (rdM m3) N L V := hq m3 (fun z h1 h2 => by rw [r3, upd_other _ _ _ _ h2, r2, r1, upd_other _ _ _ _ h1])
      obtain ⟨m4, c4, e4, r4, l4, b4⟩ := does_qAfter q3 (pre := [(x, q)]) (post := rest) (x := y) (q := q2) (by simpa using ho)
      refine ⟨rdM m4, ⟨m4, c1 + (c2 + (c3 + (c4 + 0))), ?_, rfl, by omega, by omega⟩, ?_, ?_, fun z h1 h2 => by rw [r4, r3, upd_other _ _ _ _ h2, r2, r1, upd_other _ _ _ _ h1]⟩
      · show srun (kCores nt 2 0 x q true) m = _
        unfold kCores
        rw [if_pos rfl]
        refine srun_seq e1 (srun_seq e2 ?_)
        show srun (kCores nt 1 1 y q2 true) m2 = _
        unfold kCores
        rw [if_pos rfl]
        exact srun_seq e3 (srun_seq e4 rfl)
      · rw [r4, r3, upd_other _ _ _ _ (by omega), r2, r1, upd_same]; rfl
      · rw [r4, r3, upd_same]; rfl

theorem rdM_zeros (n : Nat) (x : Int) : rdM (List.replicate n 0) x = 0 := by
  unfold rdM
  split
  · rename_i h
    rw [List.getD_eq_getElem?_getD, List.getElem?_replicate]
    split <;> rfl
  · rfl

/-- The order of those that are ready behind a boot. -/
def bootOrd (P : PartD) : List (Int × Nat) := ord (blist P.thr 0 fun _ => []) 16
/-- What a boot's memory reads. -/
structure BootAt (P : PartD) (g : Int → Int) : Prop where
  q : QAt g P.thr.length (blist P.thr 0 fun _ => []) (bword P.thr 0)
  field : ∀ (j : Nat) (t : ThreadD), P.thr[j]? = some t → ∀ c : Int, 0 ≤ c → c < 19 → g (thAt j + 5 + c) = if c = 1 ∨ c = 2 then t.prio else 0
  core0 : g 3 = coreV P.thr.length (bootOrd P) 0
  core1 : g 5 = coreV P.thr.length (bootOrd P) 1
  low : ∀ x, (0 ≤ x ∧ x < 8 ∨ 43 ≤ x ∧ x < 51) → x ≠ 3 → x ≠ 5 → g x = 0

theorem does_boot (P : PartD) (hn : P.thr.length ≤ 6) (hn2 : P.obj.length ≤ 8) (hp : PriosOk P.thr) : ∃ g, Does (kBoot P) (List.replicate (planWords P) 0) () g 400 ∧ BootAt P g := by
  have hw : (List.replicate (planWords P) (0 : Int)).length = planWords P := by simp
  have hpw : planWords P = 51 + 24 * (P.thr.length + P.obj.length) := rfl
  obtain ⟨g1, ⟨m1, c1, e1, r1, l1, b1⟩, q1, o1⟩ := does_qInit P.thr.length (List.replicate (planWords P) 0) (by omega)
  obtain ⟨m2, c2, e2, r2, l2, b2⟩ := does_init 41 m1 ⟨by omega, by omega⟩ ⟨by omega, by omega⟩ (by omega)
  have k2 : ∀ x, x ≠ 41 → x ≠ 42 → rdM m2 x = rdM m1 x := fun x h1 h2 => by rw [r2, upd_other _ _ _ _ (by omega), upd_other _ _ _ _ h1]
  have z2 : ∀ x, x < 8 ∨ 43 ≤ x → rdM m2 x = 0 := fun x hx => by rw [k2 x (by omega) (by omega), r1, o1 x (by omega), rdM_zeros]
  have q2 : QAt (rdM m2) P.thr.length (fun _ => []) 0 := by
    rw [← r1] at q1
    exact q1.congr (fun x hx => k2 x (fun e => hx ⟨by omega, fun j _ => by rw [e]; unfold thAt; omega⟩) (fun e => hx ⟨by omega, fun j _ => by rw [e]; unfold thAt; omega⟩))
  obtain ⟨g3, ⟨m3, c3, e3, r3, l3, b3⟩, q3, w3, o3⟩ := does_bootThr P.thr.length hn P.thr 0 m2 (fun _ => []) 0 (by omega) hp (by omega) q2 (fun q _ j _ h => by simp at h)
  obtain ⟨g4, ⟨m4, c4, e4, r4, l4, b4⟩, o4⟩ := does_bootObj P.thr.length hn P.obj 0 m3 (by omega) (by omega)
  have ho0 : obAt P.thr.length ((0 : Nat) : Int) = 51 + 24 * (P.thr.length : Int) := by unfold obAt; omega
  have q4 : QAt (rdM m4) P.thr.length (blist P.thr 0 fun _ => []) (bword P.thr 0) := by
    rw [← r3] at q3
    refine q3.congr (fun x hx => ?_)
    have hx4 : x < obAt P.thr.length ((0 : Nat) : Int) := by
      rw [ho0]
      rcases Classical.em (x < 51 + 24 * (P.thr.length : Int)) with h | h
      · exact h
      · exact (hx ⟨by omega, fun j hj => by unfold thAt; omega⟩).elim
    rw [r4, o4 x hx4]
  have z4 : ∀ x, (0 ≤ x ∧ x < 8 ∨ 43 ≤ x ∧ x < 51) → rdM m4 x = 0 := by
    intro x hx
    have ht : thAt ((0 : Nat) : Int) = 51 := by unfold thAt; omega
    rw [r4, o4 x (by rw [ho0]; omega), r3, o3 x ⟨by omega, fun j hj => by unfold thAt; omega⟩ (by left; rw [ht]; omega), z2 x (by omega)]
  obtain ⟨m5, c5, e5, r5, l5, b5⟩ := does_qFirst q4
  have q5 : QAt (rdM m5) P.thr.length (blist P.thr 0 fun _ => []) (bword P.thr 0) := by rw [r5]; exact q4
  obtain ⟨g, ⟨m6, c6, e6, r6, l6, b6⟩, v3, v5, o6⟩ := does_cores P.thr.length q5 (by omega) (by rw [r5]; exact z4 3 (by omega)) (by rw [r5]; exact z4 5 (by omega))
  refine ⟨g, ⟨m6, c1 + (c2 + (c3 + (c4 + (c5 + c6)))), ?_, r6, by omega, by omega⟩, ?_, ?_, v3, v5, ?_⟩
  · unfold kBoot
    exact srun_seq e1 (srun_seq e2 (srun_seq e3 (srun_seq e4 (srun_seq e5 e6))))
  · refine q5.congr (fun x hx => ?_)
    exact o6 x (fun e => hx ⟨by omega, fun j _ => by rw [e]; unfold thAt; omega⟩) (fun e => hx ⟨by omega, fun j _ => by rw [e]; unfold thAt; omega⟩)
  · intro j t ht c h0 h1
    have hj := (List.getElem?_eq_some_iff.1 ht).1
    have hw := w3 j t ht c h0 h1
    rw [Nat.zero_add] at hw
    rw [o6 _ (by unfold thAt; omega) (by unfold thAt; omega), r5, r4, o4 _ (by rw [ho0]; unfold thAt; omega), r3, hw]
    split
    · rfl
    · exact z2 _ (by unfold thAt; omega)
  · intro x hx h3 h5
    rw [o6 x h3 h5, r5, z4 x hx]

theorem bootM_at (P : PartD) (hn : P.thr.length ≤ 6) (hn2 : P.obj.length ≤ 8) (hp : PriosOk P.thr) : BootAt P (rdM (bootM P)) := by
  obtain ⟨g, hd, hb⟩ := does_boot P hn hn2 hp
  obtain ⟨s, h1, h2, h3, h4⟩ := hd.runs (tot_boot P) (most := 4000) (by omega) (by omega)
  have e : bootM P = s.mem := by
    have h1' : bootRun P = some (some (), s) := h1
    unfold bootM
    rw [h1']; rfl
  rw [e, h3]; exact hb
end Go.Proofs.Ytpflejobkjdhdaa
