/-
  script.writer.part.
-/
import Derived.Test.YtpmafppcccbmaaaDoorWriter
import Derived.Test.YtpmafppcccbmaaaDoorNum31
import Derived.Test.YtpmafppcccbmaaaDoorWhat
set_option linter.unusedVariables false
set_option linter.unusedSimpArgs false
namespace Go.Proofs.YtpmafppcccbmaaaDoor
open Go.RowKit

def bitI (b : Bool) : Int := if b then 1 else 0
def objL (o : ObjD) : List UInt8 := wlineL [111, 98, 106, 101, 99, 116] [o.kind, o.size, bitI o.prio]
def thrL (t : ThreadD) : List UInt8 := wlineL [116, 104, 114, 101, 97, 100] [t.prio, t.caps, bitI t.control]
def callLn (c : CallD) : List UInt8 := wlineL ([99, 97, 108, 108, 32] ++ callL c) []
def partWord : List UInt8 := wlineL [112, 97, 114, 116] []
def thrLs (ts : List ThreadD) : List UInt8 := ts.flatMap fun t => thrL t ++ t.prog.flatMap callLn
def partL (P : PartD) : List UInt8 := partWord ++ (P.obj.flatMap objL ++ thrLs P.thr)

def progOk (cs : List CallD) : Bool := cs.all fun c => !(nameL c.kind == [])
def partOk (P : PartD) : Bool := P.thr.all fun t => progOk t.prog
def ThrOk (t : ThreadD) : Prop := I64 t.prio ∧ 0 ≤ t.caps ∧ t.caps ≤ 4294967295 ∧ (∀ c ∈ t.prog, CallOk c ∧ c.words.length ≤ 1000) ∧ t.prog.length ≤ 1000
theorem take_thrLs (ts : List ThreadD) (k : Nat) (hk : k < ts.length) : thrLs (ts.take (k + 1)) = thrLs (ts.take k) ++ (thrL ts[k] ++ ts[k].prog.flatMap callLn) := by
  unfold thrLs
  rw [List.take_succ_eq_append_getElem hk, List.flatMap_append]; simp
theorem take_all {α : Type} (f : α → Bool) (xs : List α) (k : Nat) (hk : k < xs.length) (h : (xs.take k).all f = true) (h1 : f xs[k] = true) : (xs.take (k + 1)).all f = true := by
  rw [List.take_succ_eq_append_getElem hk, List.all_append, h]; simp [h1]
theorem not_all {α : Type} (f : α → Bool) (xs : List α) (k : Nat) (hk : k < xs.length) (h1 : f xs[k] = false) : xs.all f = false :=
  List.all_eq_false.2 ⟨xs[k], List.getElem_mem hk, by simp [h1]⟩
theorem flat_len {α : Type} (f : α → List UInt8) (n : Nat) (xs : List α) (h : ∀ x ∈ xs, (f x).length ≤ n) : (xs.flatMap f).length ≤ n * xs.length := by
  induction xs with
  | nil => simp
  | cons x xs ih =>
    have := ih (fun y hy => h y (by simp [hy]))
    have := h x (by simp)
    rw [List.flatMap_cons, List.length_append, List.length_cons, Nat.mul_add]
    omega
theorem callsLn_len (cs : List CallD) (j : Nat) (h : ∀ c ∈ cs, CallOk c ∧ c.words.length ≤ 1000) (hl : cs.length ≤ 1000) : ((cs.take j).flatMap callLn).length ≤ 23000000 := by
  have h1 := flat_len callLn 23000 (cs.take j) (fun c hc => by
    obtain ⟨h1, h2⟩ := h c (List.mem_of_mem_take hc)
    have := callL_len h1
    unfold callLn wlineL
    simp only [List.length_append, List.length_cons, List.length_nil, spacedL, List.flatMap_nil]
    omega)
  rw [List.length_take] at h1
  have : min j cs.length ≤ 1000 := by omega
  have := Nat.mul_le_mul_left 23000 this
  omega
theorem thrL_len {t : ThreadD} (h : ThrOk t) : (thrL t).length ≤ 100 := by
  have := spacedL_len [t.prio, t.caps, bitI t.control] (by
    obtain ⟨h1, h2, h3, _⟩ := h
    intro x hx
    simp at hx
    rcases hx with rfl | rfl | rfl
    · exact h1
    · exact ⟨by omega, by omega⟩
    · cases t.control <;> (unfold bitI I64; simp))
  unfold thrL wlineL
  simp only [List.length_append, List.length_cons, List.length_nil] at *
  omega
theorem thrLs_len (ts : List ThreadD) (k : Nat) (h : ∀ t ∈ ts, ThrOk t) (hl : ts.length ≤ 1000) : (thrLs (ts.take k)).length ≤ 24000000000 := by
  have h1 := flat_len (fun t : ThreadD => thrL t ++ t.prog.flatMap callLn) 24000000 (ts.take k) (fun t ht => by
    have hk := h t (List.mem_of_mem_take ht)
    have a := thrL_len hk
    have b := callsLn_len t.prog t.prog.length hk.2.2.2.1 hk.2.2.2.2
    rw [List.take_length] at b
    rw [List.length_append]; omega)
  rw [List.length_take] at h1
  have : min k ts.length ≤ 1000 := by omega
  have := Nat.mul_le_mul_left 24000000 this
  unfold thrLs
  omega
theorem calls_cells {w : World} {F : Nat → Prop} {v : Value} {cs : List CallD} (h : CallsAt w F v cs) (hn : 0 < cs.length) :
    ∃ b o c, v = .slice (some ⟨b, o, none⟩) cs.length c ∧ F b ∧ ∀ i x, cs[i]? = some x → ∃ u, IntsAt w F u x.words ∧ w.cell? ⟨b, o + i * 6, none⟩ = some (.int .i64 x.kind) ∧ w.cell? ⟨b, o + i * 6 + 1, none⟩ = some (.int .i64 x.handle) ∧
      w.cell? ⟨b, o + i * 6 + 2, none⟩ = some (.int .i64 x.a) ∧ w.cell? ⟨b, o + i * 6 + 3, none⟩ = some (.int .i64 x.b) ∧ w.cell? ⟨b, o + i * 6 + 4, none⟩ = some u ∧ w.cell? ⟨b, o + i * 6 + 5, none⟩ = some (.int .i64 x.timeout) := by
  obtain ⟨ws, hl, ⟨_, A, c, e, h3⟩, hi⟩ := h
  obtain ⟨b, o, rfl, hF, hc⟩ := h3 hn
  refine ⟨b, o, c, e, hF, fun i x hx => ?_⟩
  have hil : i < ws.length := by rw [hl]; exact (List.getElem?_eq_some_iff.1 hx).1
  have g := encCalls_get cs ws i x ws[i] hx (List.getElem?_eq_getElem hil)
  refine ⟨ws[i], hi i x ws[i] hx (List.getElem?_eq_getElem hil), hc (i * 6) _ ?_, hc (i * 6 + 1) _ ?_, hc (i * 6 + 2) _ ?_, hc (i * 6 + 3) _ ?_, hc (i * 6 + 4) _ ?_, hc (i * 6 + 5) _ ?_⟩
  · have := g 0 (by omega); simpa [callCells] using this
  · have := g 1 (by omega); simpa [callCells] using this
  · have := g 2 (by omega); simpa [callCells] using this
  · have := g 3 (by omega); simpa [callCells] using this
  · have := g 4 (by omega); simpa [callCells] using this
  · have := g 5 (by omega); simpa [callCells] using this
theorem bld_lt {T : TypeId} {B b : Nat} {l : List UInt8} {w : World} (h : Bld T B b l w) : b < w.heap.size ∧ B ≤ b := by
  rcases h with ⟨hB, v, hb, _⟩ | ⟨hB, v, hb, _⟩
  · exact ⟨(Array.getElem?_eq_some_iff.1 hb).1, hB⟩
  · exact ⟨(Array.getElem?_eq_some_iff.1 hb).1, hB⟩
theorem others_block {b k : Nat} {w w' : World} {cs : Array Value} {t : TypeId} {fz : Nat × Nat} (h : Others b w w') (hk : w.heap[k]? = some (.cells cs t fz)) (hkb : k ≠ b) (ht : t ≠ 5) : w'.heap[k]? = some (.cells cs t fz) :=
  h k _ hk (fun e => hkb (Option.some.inj e)) (fun c f e => ht (by cases e; rfl))
theorem take_flat {α : Type} (f : α → List UInt8) (xs : List α) (k : Nat) (hk : k < xs.length) : (xs.take (k + 1)).flatMap f = (xs.take k).flatMap f ++ f xs[k] := by
  rw [List.take_succ_eq_append_getElem hk, List.flatMap_append]; simp

theorem bitI_any (b : Bool) (w : World) :
    Calls Tryd.prog 60 #[.bool b] w fun e w' => e = .returned (.int .i64 (bitI b)) ∧ w = w' := bit_any b w
theorem row_two (Wa : World) (b : Nat) (x y : Int) (hb : Wa.heap.size ≠ b) (W : World) (ho : Others b (Wa.alloc (.cells #[.int .i64 x, .int .i64 y] 2)) W) : RowAt W (some ⟨Wa.heap.size, 0, none⟩) [x, y] := by
  have z := others_block ho (heap_alloc_new Wa (.cells #[.int .i64 x, .int .i64 y] 2)) hb (by decide)
  intro i u hu
  refine ⟨_, 0, rfl, ?_⟩
  rw [cell_of_row _ _ _ _ _ _ z]
  match i, hu with
  | 0, hu => simp at hu; subst hu; rfl
  | 1, hu => simp at hu; subst hu; rfl
theorem row_three (Wa : World) (b : Nat) (x y c : Int) (hb : Wa.heap.size ≠ b) (W : World) (ho : Others b (Wa.alloc (.cells #[.int .i64 x, .int .i64 y, .int .i64 c] 2)) W) : RowAt W (some ⟨Wa.heap.size, 0, none⟩) [x, y, c] := by
  have z := others_block ho (heap_alloc_new Wa (.cells #[.int .i64 x, .int .i64 y, .int .i64 c] 2)) hb (by decide)
  intro i u hu
  refine ⟨_, 0, rfl, ?_⟩
  rw [cell_of_row _ _ _ _ _ _ z]
  match i, hu with
  | 0, hu => simp at hu; subst hu; rfl
  | 1, hu => simp at hu; subst hu; rfl
  | 2, hu => simp at hu; subst hu; rfl
theorem row_cells {w : World} {b : Nat} {cs : Array Value} {t : TypeId} (h : w.heap[b]? = some (.cells cs t (0, 0))) : ∀ k, w.cell? ⟨b, k, none⟩ = cs[k]? := fun k => cell_of_row _ _ _ _ _ _ h
theorem wline3 (B b : Nat) (l name : List UInt8) (x y z : Int) (wr : World) (o : Array Value) (tb : TypeId) (hto : tb ≠ 5) (hB : Bld 80 B b l wr) (hBw : B ≤ wr.heap.size) (hT : ∀ W, Below B wr W → Tabs W)
    (hx : I64 x) (hy : I64 y) (hz : I64 z) (hl : l.length + name.length + 100 ≤ 140737488355328) :
    Calls Tryd.prog 40 #[.pointer (some ⟨b, 0, none⟩), .string (sb name), .slice (some ⟨wr.heap.size + 1, 0, none⟩) 3 3] (((wr.alloc (.cells o tb)).alloc (.cells #[.int .i64 x, .int .i64 y, .int .i64 z] 2)).drew)
      fun e w2 => e = .returned (.tuple #[]) ∧ Bld 80 B b (l ++ wlineL name [x, y, z]) w2 ∧ Below B wr w2 ∧ Others b wr w2 ∧ w2.heap[wr.heap.size]? = some (.cells o tb (0, 0)) := by
  have hbl := bld_lt hB
  have hs1 : (wr.alloc (.cells o tb)).heap.size = wr.heap.size + 1 := by simp
  have hbw : Below wr.heap.size wr (((wr.alloc (.cells o tb)).alloc (.cells #[.int .i64 x, .int .i64 y, .int .i64 z] 2)).drew) := Below.drew (Below.alloc (Below.alloc (Below.refl _ _) (Nat.le_refl _) _) (by omega) _)
  have hbB := hbw.mono hBw
  have h := wline_any B b l name [x, y, z] (some ⟨(wr.alloc (.cells o tb)).heap.size, 0, none⟩) 3 _ (bld_kept hB hbw) (Nat.le_trans hBw hbw.size) (fun W hW => hT W (hbB.trans hW)) (by intro u hu; simp at hu; rcases hu with rfl | rfl | rfl; exact hx; exact hy; exact hz) (by simp only [List.length_cons, List.length_nil]; omega) (by simp) (fun W _ ho => row_three (wr.alloc (.cells o tb)) b x y z (by omega) W ho)
  rw [hs1] at h
  refine h.mono ?_
  rintro e w2 ⟨rfl, hb2, hw2, ho2⟩
  have z0 : (((wr.alloc (.cells o tb)).alloc (.cells #[.int .i64 x, .int .i64 y, .int .i64 z] 2)).drew).heap[wr.heap.size]? = some (.cells o tb (0, 0)) := heap_alloc2_old _ _ _
  exact ⟨rfl, hb2, hbB.trans hw2, (others_below (Lib.OthersKept.refl _ _ _) hbw).trans ho2, others_block ho2 z0 (by omega) hto⟩
def ObjOk (o : ObjD) : Prop := I64 o.kind ∧ I64 o.size
theorem bitI_i64 (b : Bool) : I64 (bitI b) := by cases b <;> (unfold bitI I64; simp)
theorem objL_len {o : ObjD} (h : ObjOk o) : (objL o).length ≤ 100 := by
  have := spacedL_len [o.kind, o.size, bitI o.prio] (by simp [h.1, h.2, bitI_i64])
  unfold objL wlineL
  simp only [List.length_append, List.length_cons, List.length_nil] at *
  omega
set_option maxRecDepth 100000 in
set_option maxHeartbeats 3200000 in
theorem wpart_any (P : PartD) (B b : Nat) (l : List UInt8) (v : Value) (w : World) (hB : Bld 80 B b l w) (hl : l.length ≤ 70000000000000) (hBw : B ≤ w.heap.size) (hT : ∀ W, Below B w W → Tabs W) (hP : PartAt w (fun k => k < B) v P) (hok : ∀ o ∈ P.obj, ObjOk o) (hol : P.obj.length ≤ 1000000) (htk : ∀ t ∈ P.thr, ThrOk t) (htl : P.thr.length ≤ 1000) :
    Calls Tryd.prog 39 #[.pointer (some ⟨b, 0, none⟩), v] w fun e w' => e = .returned (.bool (partOk P)) ∧ Below B w w' ∧ Others b w w' ∧ (partOk P = true → Bld 80 B b (l ++ partL P) w') := by
  obtain ⟨v1, v2, rfl, h1, h2⟩ := hP
  obtain ⟨A2, c2, rfl⟩ : ∃ A c, v2 = .slice A P.obj.length c := by obtain ⟨_, A, c, e, _⟩ := h2; exact ⟨A, c, e⟩
  have HB := Lib.hid hB
  have HT := Lib.hid hT
  clear hB hT
  go_enter Tryd.func39, Tryd.ntmps39
  go_wp2_with fail
  go_at_call 40
  refine (wline_any B b l [112, 97, 114, 116] [] none 0 _ (bld_kept HB.out ?_) ?_ ?_ ?_ ?_ ?_ ?_).mono ?_
  · exact (Below.refl _ _).alloc (Nat.le_refl _) _
  · simp; omega
  · intro W hW; exact HT.out W (((Below.refl B w).alloc hBw _).trans hW)
  · simp
  · simp; omega
  · simp
  · intro W _ _ i x hx; simp at hx
  rintro e w1 ⟨rfl, hb1, hw1, ho1⟩
  have hbl := bld_lt HB.out
  have z1 := others_block ho1 (heap_alloc_new w (.cells #[v1, .slice A2 P.obj.length c2] 73)) (by omega) (by decide)
  have c0 : w1.cell? ⟨w.heap.size, 0, none⟩ = some v1 := by rw [cell_of_row _ _ _ _ _ _ z1]; rfl
  have c1 : w1.cell? ⟨w.heap.size, 1, none⟩ = some (.slice A2 P.obj.length c2) := by rw [cell_of_row _ _ _ _ _ _ z1]; rfl
  have Z1 := Lib.hid z1
  clear z1
  have H1 := Lib.hid hb1
  have W1 := Lib.hid ((((Below.refl B w).alloc hBw _)).trans hw1)
  have O1 : Hid (Others b w w1) := Lib.hid ((others_below (Lib.OthersKept.refl _ _ _) ((Below.refl w.heap.size w).alloc (Nat.le_refl _) _)).trans ho1)
  clear hb1 hw1 ho1
  have HO := Lib.hid h2
  have HOk := Lib.hid hok
  have HTk := Lib.hid htk
  have HTh := Lib.hid h1
  clear h1 h2 HB hok htk
  go_wp2
  go_loopw [6, 16] (fun _ i wr => ∃ k : Nat, k ≤ P.obj.length ∧ i = .int .i64 k ∧ Hid (Bld 80 B b (l ++ partWord ++ (P.obj.take k).flatMap objL) wr) ∧ Hid (Below B w wr) ∧ Hid (Others b w wr) ∧ Hid (wr.heap[w.heap.size]? = some (.cells #[v1, .slice A2 P.obj.length c2] 73 (0, 0)))) (fun _ i _ => P.obj.length - (intOf i).toNat)
  case atStart => exact ⟨0, Nat.zero_le _, rfl, by simpa [partWord] using H1, W1, O1, Z1⟩
  case round =>
    obtain ⟨k, hk, rfl, hb, hw, ho, hz⟩ := hrel
    have hsz := hw.out.size
    by_cases hlt : k < P.obj.length
    · have hlc : (k : Int) < (P.obj.length : Int) := by omega
      obtain ⟨g, o, c', e, hg, hcells⟩ := HO.out.cells (by omega)
      cases e
      obtain ⟨d0, d1, d2⟩ := hcells k P.obj[k] (List.getElem?_eq_getElem hlt)
      have hgB : g < B := hg
      rw [← hw.out.cell (p := ⟨g, o + k * 3, none⟩) hgB] at d0
      rw [← hw.out.cell (p := ⟨g, o + k * 3 + 1, none⟩) hgB] at d1
      rw [← hw.out.cell (p := ⟨g, o + k * 3 + 2, none⟩) hgB] at d2
      clear hcells hg
      have HS := Lib.hid (take_flat objL P.obj k hlt)
      have hoo := HOk.out P.obj[k] (List.getElem_mem hlt)
      have hfl := flat_len objL 100 (P.obj.take k) (fun x hx => objL_len (HOk.out x (List.mem_of_mem_take hx)))
      rw [List.length_take] at hfl
      have hpw : partWord.length = 5 := rfl
      have hll : (l ++ partWord ++ (P.obj.take k).flatMap objL).length + 1000 ≤ 140737488355328 := by rw [List.length_append, List.length_append, hpw]; omega
      clear hfl hpw
      generalize P.obj[k] = ob at *
      have hbk : b < wr.heap.size := by omega
      have HX := Lib.hid (And.intro hoo.1 hoo.2)
      clear hoo
      go_wp2_with fail
      have HL := Lib.hid (wline3 B b _ [111, 98, 106, 101, 99, 116] ob.kind ob.size (bitI ob.prio) wr #[.int .i64 ob.kind, .int .i64 ob.size, .bool ob.prio] 86 (by decide) hb.out (by omega) (fun W hW => HT.out W (hw.out.trans hW)) HX.out.1 HX.out.2 (bitI_i64 _) (by simp only [List.length_cons, List.length_nil]; omega))
      rw [show sb [111, 98, 106, 101, 99, 116] = ByteArray.mk #[111, 98, 106, 101, 99, 116] from rfl] at HL
      have e0 : (wr.alloc (.cells #[.int .i64 ob.kind, .int .i64 ob.size, .bool ob.prio] 86)).cell? ⟨wr.heap.size, 0, none⟩ = some (.int .i64 ob.kind) := by simp
      have e1 : (wr.alloc (.cells #[.int .i64 ob.kind, .int .i64 ob.size, .bool ob.prio] 86)).cell? ⟨wr.heap.size, 1, none⟩ = some (.int .i64 ob.size) := by simp
      have e2 : (wr.alloc (.cells #[.int .i64 ob.kind, .int .i64 ob.size, .bool ob.prio] 86)).cell? ⟨wr.heap.size, 2, none⟩ = some (.bool ob.prio) := by simp
      clear d0 d1 d2
      go_region_held3 (fun w' => w'.cell? ⟨wr.heap.size, 0, none⟩ = some (.int .i64 ob.kind) ∧ w'.cell? ⟨wr.heap.size, 1, none⟩ = some (.int .i64 ob.size) ∧ w'.cell? ⟨wr.heap.size, 2, none⟩ = some (.bool ob.prio))
        (((try dsimp only); (try go_split_ands); (with_reducible repeat' apply And.intro); all_goals (first | (with_reducible assumption) | (simp [*]; done))))
        (first
          | (go_at_call 60; refine (bitI_any _ _).mono ?_; rintro e w' ⟨rfl, rfl⟩)
          | (go_at_call 40; (with_reducible refine HL.out.mono ?_); rintro e w2 ⟨rfl, hb2, hw2, ho2, hz2⟩; have g0 : w2.cell? ⟨wr.heap.size, 0, none⟩ = some (.int .i64 ob.kind) := row_cells hz2 0; have g1 : w2.cell? ⟨wr.heap.size, 1, none⟩ = some (.int .i64 ob.size) := row_cells hz2 1; have g2 : w2.cell? ⟨wr.heap.size, 2, none⟩ = some (.bool ob.prio) := row_cells hz2 2; have HZ2 := Lib.hid hz2; have HB2 := Lib.hid hb2; have HW2 := Lib.hid hw2; have HO2 := Lib.hid ho2; clear hz2 hb2 hw2 ho2))
      rename_i hH
      go_wp2_with fail
      have hbn : Hid (Bld 80 B b (l ++ partWord ++ (P.obj.take (k + 1)).flatMap objL) w2) := by
        rw [HS.out, ← List.append_assoc]; exact HB2
      have hwn : Hid (Below B w w2) := Lib.hid (hw.out.trans HW2.out)
      have hzn := Lib.hid (others_block HO2.out hz.out (by omega) (by decide))
      go_roundw
      case rel => exact ⟨k + 1, by omega, by go_num, hbn, hwn, Lib.hid (ho.out.trans HO2.out), hzn⟩
      case measure => simp [intOf]; omega
    · have e : P.obj.take k = P.obj := List.take_of_length_le (by omega)
      rw [e] at hb
      clear e
      obtain ⟨w2, rfl⟩ : ∃ x, x = wr := ⟨wr, rfl⟩
      obtain ⟨A1, c1', rfl⟩ : ∃ A c, v1 = .slice A P.thr.length c := by obtain ⟨_, _, ⟨_, A, c, e, _⟩, _⟩ := HTh.out; exact ⟨A, c, e⟩
      have f0 : w2.cell? ⟨w.heap.size, 0, none⟩ = some (.slice A1 P.thr.length c1') := row_cells hz.out 0
      clear c0 c1
      have HL0 : Hid ((l ++ partWord ++ P.obj.flatMap objL).length ≤ 70000200000000) := by
        have hfl := flat_len objL 100 P.obj (fun x hx => objL_len (HOk.out x hx))
        have hpw : partWord.length = 5 := rfl
        exact Lib.hid (by rw [List.length_append, List.length_append, hpw]; omega)
      generalize hq : l ++ partWord ++ P.obj.flatMap objL = q at *
      have HQ := Lib.hid hq
      clear hq
      go_wp2
      go_loopw [8, 34] (fun _ i wr => ∃ k : Nat, k ≤ P.thr.length ∧ i = .int .i64 k ∧ Hid (Bld 80 B b (q ++ thrLs (P.thr.take k)) wr) ∧ Hid (Below B w wr) ∧ Hid (Others b w wr) ∧ Hid ((P.thr.take k).all (fun t => progOk t.prog) = true)) (fun _ i _ => P.thr.length - (intOf i).toNat)
      case atStart => exact ⟨0, Nat.zero_le _, rfl, by simpa [thrLs] using hb, hw, ho, Lib.hid rfl⟩
      case round =>
        obtain ⟨k, hk, rfl, hb, hw, ho, hall⟩ := hrel
        have hsz := hw.out.size
        by_cases hlt : k < P.thr.length
        · have hlc : (k : Int) < (P.thr.length : Int) := by omega
          obtain ⟨g, o, c', e, hg, hcells⟩ := HTh.out.cells (by omega)
          cases e
          obtain ⟨pv, hcs, d0, d1, d2, d3⟩ := hcells k P.thr[k] (List.getElem?_eq_getElem hlt)
          have hgB : g < B := hg
          rw [← hw.out.cell (p := ⟨g, o + k * 4, none⟩) hgB] at d0
          rw [← hw.out.cell (p := ⟨g, o + k * 4 + 1, none⟩) hgB] at d1
          rw [← hw.out.cell (p := ⟨g, o + k * 4 + 2, none⟩) hgB] at d2
          rw [← hw.out.cell (p := ⟨g, o + k * 4 + 3, none⟩) hgB] at d3
          clear hcells hg
          have HS := Lib.hid (take_thrLs P.thr k hlt)
          have htk := HTk.out P.thr[k] (List.getElem_mem hlt)
          have HSA := Lib.hid (take_all (fun t : ThreadD => progOk t.prog) P.thr k hlt)
          have HNA := Lib.hid (not_all (fun t : ThreadD => progOk t.prog) P.thr k hlt)
          have hll : (q ++ thrLs (P.thr.take k)).length + 1000000000000 ≤ 140737488355328 := by have := thrLs_len P.thr k HTk.out htl; have := HL0.out; rw [List.length_append]; omega
          generalize P.thr[k] = th at *
          have hbk : b < wr.heap.size := by omega
          have HTO := Lib.hid htk
          have hcp := htk.2.1
          have hcp2 := htk.2.2.1
          obtain ⟨Ap, cp, rfl⟩ := hcs.slice
          have HCS := Lib.hid hcs
          have HBI := hb
          clear htk hcs
          go_wp2_with fail
          have HL := Lib.hid (wline3 B b _ [116, 104, 114, 101, 97, 100] th.prio th.caps (bitI th.control) wr #[.int .i64 th.prio, .int .u32 th.caps, .bool th.control, .slice Ap th.prog.length cp] 91 (by decide) hb.out (by omega) (fun W hW => HT.out W (hw.out.trans hW)) HTO.out.1 ⟨by omega, by omega⟩ (bitI_i64 _) (by simp only [List.length_cons, List.length_nil]; omega))
          rw [show sb [116, 104, 114, 101, 97, 100] = ByteArray.mk #[116, 104, 114, 101, 97, 100] from rfl] at HL
          have e0 : (wr.alloc (.cells #[.int .i64 th.prio, .int .u32 th.caps, .bool th.control, .slice Ap th.prog.length cp] 91)).cell? ⟨wr.heap.size, 0, none⟩ = some (.int .i64 th.prio) := by simp
          have e1 : (wr.alloc (.cells #[.int .i64 th.prio, .int .u32 th.caps, .bool th.control, .slice Ap th.prog.length cp] 91)).cell? ⟨wr.heap.size, 1, none⟩ = some (.int .u32 th.caps) := by simp
          have e2 : (wr.alloc (.cells #[.int .i64 th.prio, .int .u32 th.caps, .bool th.control, .slice Ap th.prog.length cp] 91)).cell? ⟨wr.heap.size, 2, none⟩ = some (.bool th.control) := by simp
          have hwrap : IntKind.i64.wrap th.caps = th.caps := Go.IntWalk.i64_in _ (by omega)
          clear d0 d1 d2 d3
          go_region_held3 (fun w' => w'.cell? ⟨wr.heap.size, 0, none⟩ = some (.int .i64 th.prio) ∧ w'.cell? ⟨wr.heap.size, 1, none⟩ = some (.int .u32 th.caps) ∧ w'.cell? ⟨wr.heap.size, 2, none⟩ = some (.bool th.control))
            (((try dsimp only); (try go_split_ands); (with_reducible repeat' apply And.intro); all_goals (first | (with_reducible assumption) | (simp [*]; done))))
            (first
              | (go_at_call 60; refine (bitI_any _ _).mono ?_; rintro e w' ⟨rfl, rfl⟩)
              | (go_at_call 40; (with_reducible refine HL.out.mono ?_); rintro e w2 ⟨rfl, hb2, hw2, ho2, hz2⟩; have g0 : w2.cell? ⟨wr.heap.size, 0, none⟩ = some (.int .i64 th.prio) := row_cells hz2 0; have g1 : w2.cell? ⟨wr.heap.size, 1, none⟩ = some (.int .u32 th.caps) := row_cells hz2 1; have g2 : w2.cell? ⟨wr.heap.size, 2, none⟩ = some (.bool th.control) := row_cells hz2 2; have HZ2 := Lib.hid hz2; have HB2 := Lib.hid hb2; have HW2 := Lib.hid hw2; have HO2 := Lib.hid ho2; clear hz2 hb2 hw2 ho2))
          clear hwrap
          rename_i hH
          have f3 : w2.cell? ⟨wr.heap.size, 3, none⟩ = some (.slice Ap th.prog.length cp) := row_cells HZ2.out 3
          obtain ⟨w3, rfl⟩ : ∃ x, x = w2 := ⟨w2, rfl⟩
          have HB3 : Hid (Bld 80 B b (q ++ thrLs (P.thr.take k) ++ thrL th) w3) := HB2
          have HW3 := Lib.hid (hw.out.trans HW2.out)
          have HO3 := Lib.hid (ho.out.trans HO2.out)
          clear HB2 HW2 HO2 HZ2 hb hw ho HBI HL e0 e1 e2 hH
          generalize hr : q ++ thrLs (P.thr.take k) ++ thrL th = r at *
          have hrl : r.length + 500000000000 ≤ 140737488355328 := by have := thrL_len HTO.out; rw [← hr, List.length_append]; omega
          have HR := Lib.hid hr
          clear hr hll
          go_wp2
          go_loopw [10, 52] (fun _ i wr => ∃ j : Nat, j ≤ th.prog.length ∧ i = .int .i64 j ∧ Hid (Bld 80 B b (r ++ (th.prog.take j).flatMap callLn) wr) ∧ Hid (Below B w wr) ∧ Hid (Others b w wr) ∧ Hid ((th.prog.take j).all (fun c => !(nameL c.kind == [])) = true)) (fun _ i _ => th.prog.length - (intOf i).toNat)
          case atStart => exact ⟨0, Nat.zero_le _, rfl, by simpa using HB3, HW3, HO3, Lib.hid rfl⟩
          case round =>
            obtain ⟨j, hj, rfl, hb, hw, ho, hallc⟩ := hrel
            have hsz := hw.out.size
            have hpl := HTO.out.2.2.2.2
            by_cases hjt : j < th.prog.length
            · have hjc : (j : Int) < (th.prog.length : Int) := by omega
              obtain ⟨g2, o2, c2', e, hg, hcells⟩ := calls_cells HCS.out (by omega)
              cases e
              obtain ⟨u, hu, d0, d1, d2, d3, d4, d5⟩ := hcells j th.prog[j] (List.getElem?_eq_getElem hjt)
              have hgB2 : g2 < B := hg
              rw [← hw.out.cell (p := ⟨g2, o2 + j * 6, none⟩) hgB2] at d0
              rw [← hw.out.cell (p := ⟨g2, o2 + j * 6 + 1, none⟩) hgB2] at d1
              rw [← hw.out.cell (p := ⟨g2, o2 + j * 6 + 2, none⟩) hgB2] at d2
              rw [← hw.out.cell (p := ⟨g2, o2 + j * 6 + 3, none⟩) hgB2] at d3
              rw [← hw.out.cell (p := ⟨g2, o2 + j * 6 + 4, none⟩) hgB2] at d4
              rw [← hw.out.cell (p := ⟨g2, o2 + j * 6 + 5, none⟩) hgB2] at d5
              have hcok := HTO.out.2.2.2.1 th.prog[j] (List.getElem_mem hjt)
              have HSC := Lib.hid (take_flat callLn th.prog j hjt)
              have HSB := Lib.hid (take_all (fun c : CallD => !(nameL c.kind == [])) th.prog j hjt)
              have HNB := Lib.hid (not_all (fun c : CallD => !(nameL c.kind == [])) th.prog j hjt)
              obtain ⟨Au, cu, rfl⟩ := hu.slice
              have HU := Lib.hid hu
              have HCO := Lib.hid hcok
              clear hcells hg hu hcok
              generalize th.prog[j] = cl at *
              have HNm := Lib.hid (fun W (hW : Below B w W) => name_any cl.kind W (HT.out W hW))
              by_cases hnm : nameL cl.kind = []
              · have HF := Lib.hid (HNB.out (by simp [hnm]))
                rw [hnm] at HNm
                have e0 : (sb ([] : List UInt8)).toList.isEmpty = true := sb_isEmpty []
                clear hnm
                have HPO : Hid (partOk P = false) := Lib.hid (HNA.out HF.out)
                have hw2 := Lib.hid (hw.out.alloc (show B ≤ wr.heap.size by omega) (.cells #[.int .i64 cl.kind, .int .i64 cl.handle, .int .i64 cl.a, .int .i64 cl.b, .slice Au cl.words.length cu, .int .i64 cl.timeout] 24))
                have ho2 : Hid (Others b w (wr.alloc (.cells #[.int .i64 cl.kind, .int .i64 cl.handle, .int .i64 cl.a, .int .i64 cl.b, .slice Au cl.words.length cu, .int .i64 cl.timeout] 24))) := Lib.hid (Lib.OthersKept.alloc ho.out _)
                go_wp2_with (go_at_call 27; refine (HNm.out _ hw2.out).mono ?_; rintro e w4 ⟨rfl, rfl⟩)
                go_ret
                exact ⟨by rw [HPO.out]; rfl, hw2.out, ho2.out, fun h => by rw [HPO.out] at h; cases h⟩
              · have hne : (sb (nameL cl.kind)).toList.isEmpty = false := by rw [sb_isEmpty]; simpa using hnm
                have hne2 := sb_bne hnm
                have HCl := Lib.hid (fun (W : World) (hW : Below B w W) => callGo_any cl HCO.out.1 (fun k => k < B) (.slice Au cl.words.length cu) (Nat.le_trans HCO.out.2 (by decide)) W (HT.out W hW) (IntsAt.kept (fun k hk hkB => hW.block k hkB) HU.out))
                unfold callV at HCl
                have hw2 := Lib.hid (hw.out.alloc (show B ≤ wr.heap.size by omega) (.cells #[.int .i64 cl.kind, .int .i64 cl.handle, .int .i64 cl.a, .int .i64 cl.b, .slice Au cl.words.length cu, .int .i64 cl.timeout] 24))
                have hcl := callL_len HCO.out.1
                have hcw := HCO.out.2
                have HNK := Lib.hid hnm
                obtain ⟨z, EZ, bz, sz, ez⟩ := catL [99, 97, 108, 108, 32] (callL cl) (ByteArray.mk #[99, 97, 108, 108, 32]) 5 rfl rfl (by omega)
                clear hnm
                go_wp2_with (go_at_call 27; refine (HNm.out _ hw2.out).mono ?_; rintro e w4 ⟨rfl, rfl⟩)
                go_at_call 12
                refine (HCl.out _ hw2.out).mono ?_
                rintro e w4 ⟨rfl, hb4⟩
                have hw4 := Lib.hid (hw2.out.trans (hb4.mono (show B ≤ _ by have := hw2.out.size; omega)))
                have hbA : Below wr.heap.size wr w4 := keep_below (Below.alloc (Below.refl _ _) (Nat.le_refl _) _) (Nat.le_refl _) hb4
                have HBA := Lib.hid hbA
                have hzl : z.length ≤ 100000000 := by omega
                have hll2 := callsLn_len th.prog j (fun c hc => HTO.out.2.2.2.1 c hc) HTO.out.2.2.2.2
                clear hb4 hbA HCl hne2 hne hcl bz
                have HL := Lib.hid (wline_any B b (r ++ (th.prog.take j).flatMap callLn) z [] none 0 w4 (bld_kept hb.out HBA.out) (Nat.le_trans hBw hw4.out.size) (fun W hW => HT.out W (hw4.out.trans hW)) (by simp) (by simp only [List.length_append, List.length_nil]; omega) (by simp) (fun W _ _ i x hx => by simp at hx))
                rw [List.length_nil] at HL
                go_wp2_with (go_at_call 40; (with_reducible refine HL.out.mono ?_); rintro e w5 ⟨rfl, hb5, hw5, ho5⟩)
                have hbn : Hid (Bld 80 B b (r ++ (th.prog.take (j + 1)).flatMap callLn) w5) := by
                  rw [HSC.out, ← List.append_assoc]
                  have e9 : callLn cl = wlineL z [] := by unfold callLn; rw [EZ.out]
                  rw [e9]; exact Lib.hid hb5
                have hwn := Lib.hid (hw4.out.trans hw5)
                have hon : Hid (Others b w w5) := Lib.hid ((others_below ho.out HBA.out).trans ho5)
                have han := Lib.hid (HSB.out hallc.out (by simpa using HNK.out))
                clear hb5 hw5 ho5 HL HSB HNB
                go_wp2
                go_roundw
                case rel => exact ⟨j + 1, by omega, by go_num, hbn, hwn, hon, han⟩
                case measure => simp [intOf]; omega
            · have e : th.prog.take j = th.prog := List.take_of_length_le (by omega)
              rw [e] at hb hallc
              clear e
              have hbn : Hid (Bld 80 B b (q ++ thrLs (P.thr.take (k + 1))) wr) := by
                have := hb.out
                rw [← HR.out] at this
                rw [HS.out]
                exact Lib.hid (by simpa [List.append_assoc] using this)
              have han := Lib.hid (HSA.out hall.out hallc.out)
              clear HSA HNA
              go_wp2
              go_roundw
              case rel => exact ⟨k + 1, by omega, by go_num, hbn, hw, ho, han⟩
              case measure => simp [intOf]; omega
        · have e : P.thr.take k = P.thr := List.take_of_length_le (by omega)
          rw [e] at hb hall
          clear e
          have HPO : Hid (partOk P = true) := Lib.hid hall.out
          have hbn : Hid (Bld 80 B b (l ++ partL P) wr) := by
            have := hb.out
            rw [← HQ.out] at this
            unfold partL
            exact Lib.hid (by simpa [List.append_assoc] using this)
          clear hall
          go_wp2
          go_ret
          exact ⟨by rw [HPO.out]; rfl, hw.out, ho.out, fun _ => hbn.out⟩
end Go.Proofs.YtpmafppcccbmaaaDoor
