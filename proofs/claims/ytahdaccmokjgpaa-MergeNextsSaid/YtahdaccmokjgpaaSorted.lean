/-
  WALKS: does a list of entries rise, by the program and by the document; are two lists the same.
-/
import Derived.Test.YtahdaccmokjgpaaCmp
import Derived.Test.YtahdaccmokjgpaaArgK
import Derived.Deep.RegionHeld3
import Derived.Outline
import Derived.RegionTactic
import Derived.ChangeAlike
import Derived.BigRegion
namespace Go.Proofs.Ytahdaccmokjgpaa
open Go.RowKit ArgK
set_option linter.unusedVariables false

/-- Entries can be read so. -/
def ESl (w : World) (v : Value) (L : List Ent) : Prop :=
  ∃ (p : Option Addr) (cap : Nat), v = .slice p L.length cap ∧ ∀ (i : Nat) (x : Ent), L[i]? = some x → ∃ a, p = some a ∧ ∀ k, k < 5 → w.cell? (a.add (i * 5 + k)) = x.cells[k]?
theorem ESl.below {w w' : World} {v : Value} {L : List Ent} (h : ESl w v L) (hb : Below w.heap.size w w') : ESl w' v L := by
  obtain ⟨p, cap, rfl, hp⟩ := h
  refine ⟨p, cap, rfl, fun i x hx => ?_⟩
  obtain ⟨a, rfl, hc⟩ := hp i x hx
  refine ⟨a, rfl, fun k hk => ?_⟩
  have h0 := hc k hk
  have hlt : (a.add (i * 5 + k)).block < w.heap.size := by
    rcases Nat.lt_or_ge (a.add (i * 5 + k)).block w.heap.size with h' | h'
    · exact h'
    · rw [World.cell?, Array.getElem?_eq_none h'] at h0
      simp only at h0
      rw [List.getElem?_eq_getElem (by simpa [Ent.cells] using hk)] at h0
      cases h0
  rw [hb.cell (p := a.add (i * 5 + k)) hlt, h0]
theorem ESl.of_own {w : World} {base : Nat} {e : TypeId} {v : Value} {n : Nat} {L : List Ent} (h : w.ownsRow base e 5 v n (encE L)) : ESl w v L := by
  have hl := h.1
  rw [encE_length] at hl
  have hn : L.length = n := Nat.eq_of_mul_eq_mul_right (by decide) hl
  obtain ⟨p, c, rfl, _, _, hr⟩ := own_rd h
  refine ⟨p, c, by rw [hn], fun i x hx => ?_⟩
  have hi := (List.getElem?_eq_some_iff.1 hx).1
  obtain ⟨g, rfl, _, _, hc, _⟩ := hr (by omega)
  exact ⟨_, rfl, fun k hk => by rw [show (⟨g, 0, none⟩ : Addr).add (i * 5 + k) = ⟨g, i * 5 + k, none⟩ by unfold Addr.add; split <;> simp_all, hc (i * 5 + k) (by omega)]; exact encE_get L i x hx k hk⟩

theorem add_field (a : Addr) (i k : Nat) (hk : k ≠ 0) : (⟨(a.add i).block, (a.add i).off + k, none⟩ : Addr) = a.add (i + k) := by
  unfold Addr.add
  by_cases hi : i = 0
  · subst hi; simp [hk]
  · simp [hi, hk, Nat.add_assoc]
/-- The five cells of an entry in a list. -/
def Five (w : World) (p : Addr) (x : Ent) : Prop :=
  w.cell? p = some (.int .i64 x.v) ∧ w.cell? ⟨p.block, p.off + 1, none⟩ = some (.string x.c) ∧ w.cell? ⟨p.block, p.off + 2, none⟩ = some (.int .i64 x.i) ∧ w.cell? ⟨p.block, p.off + 3, none⟩ = some (.int .i64 x.s) ∧ w.cell? ⟨p.block, p.off + 4, none⟩ = some (.bool x.d)
theorem Five.of {w : World} {a : Addr} {i : Nat} {x : Ent} (h : ∀ k, k < 5 → w.cell? (a.add (i * 5 + k)) = x.cells[k]?) : Five w (a.add (i * 5)) x := by
  refine ⟨h 0 (by decide), ?_, ?_, ?_, ?_⟩
  · rw [add_field _ _ _ (by decide)]; exact h 1 (by decide)
  · rw [add_field _ _ _ (by decide)]; exact h 2 (by decide)
  · rw [add_field _ _ _ (by decide)]; exact h 3 (by decide)
  · rw [add_field _ _ _ (by decide)]; exact h 4 (by decide)
theorem cell_lt {w : World} {p : Addr} {v : Value} (h : w.cell? p = some v) : p.block < w.heap.size := by
  rcases Nat.lt_or_ge p.block w.heap.size with h' | h'
  · exact h'
  · simp [World.cell?, Array.getElem?_eq_none h'] at h
theorem Five.lt {w : World} {p : Addr} {x : Ent} (h : Five w p x) : p.block < w.heap.size := cell_lt h.1
theorem Five.below {w w' : World} {p : Addr} {x : Ent} (h : Five w p x) {B : Nat} (hb : Below B w w') (hB : p.block < B) : Five w' p x :=
  ⟨(hb.cell (p := p) hB).trans h.1, (hb.cell (p := ⟨p.block, p.off + 1, none⟩) hB).trans h.2.1, (hb.cell (p := ⟨p.block, p.off + 2, none⟩) hB).trans h.2.2.1, (hb.cell (p := ⟨p.block, p.off + 3, none⟩) hB).trans h.2.2.2.1, (hb.cell (p := ⟨p.block, p.off + 4, none⟩) hB).trans h.2.2.2.2⟩
theorem Five.by {W w' : World} {p : Addr} {x : Ent} {B : Nat} (hb : Below B W w') (hB : p.block < B) (h : Five W p x) : Five w' p x := h.below hb hB
theorem Five.belowAll {w w' : World} {p : Addr} {x : Ent} (h : Five w p x) (hb : Below w.heap.size w w') : Five w' p x := h.below hb h.lt

theorem and10 {w : World} {p q : Addr} {x y : Ent} (h : Five w p x) (k : Five w q y) :
    w.cell? (p) = some (.int .i64 x.v) ∧ w.cell? ⟨(p).block, (p).off + 1, none⟩ = some (.string x.c) ∧ w.cell? ⟨(p).block, (p).off + 2, none⟩ = some (.int .i64 x.i) ∧ w.cell? ⟨(p).block, (p).off + 3, none⟩ = some (.int .i64 x.s) ∧ w.cell? ⟨(p).block, (p).off + 4, none⟩ = some (.bool x.d) ∧ w.cell? (q) = some (.int .i64 y.v) ∧ w.cell? ⟨(q).block, (q).off + 1, none⟩ = some (.string y.c) ∧ w.cell? ⟨(q).block, (q).off + 2, none⟩ = some (.int .i64 y.i) ∧ w.cell? ⟨(q).block, (q).off + 3, none⟩ = some (.int .i64 y.s) ∧ w.cell? ⟨(q).block, (q).off + 4, none⟩ = some (.bool y.d) :=
  ⟨h.1, h.2.1, h.2.2.1, h.2.2.2.1, h.2.2.2.2, k⟩

theorem encE_drop (L : List Ent) (j : Nat) : (encE L).drop (j * 5) = encE (L.drop j) := by
  induction L generalizing j with
  | nil => simp [encE]
  | cons x L ih =>
    cases j with
    | zero => simp
    | succ j =>
      rw [encE_cons, show (j + 1) * 5 = x.cells.length + j * 5 by simp [Ent.cells]; omega, List.drop_append, List.drop_of_length_le (Nat.le_add_right _ _), Nat.add_sub_cancel_left, List.nil_append, ih]
      rfl
theorem encE_take (L : List Ent) (j : Nat) : (encE L).take (j * 5) = encE (L.take j) := by
  induction L generalizing j with
  | nil => simp [encE]
  | cons x L ih =>
    cases j with
    | zero => simp [encE]
    | succ j =>
      rw [encE_cons, show (j + 1) * 5 = x.cells.length + j * 5 by simp [Ent.cells]; omega, List.take_append, List.take_of_length_le (Nat.le_add_right _ _), Nat.add_sub_cancel_left, ih]
      rfl
theorem encE_set (F : List Ent) (j : Nat) (hj : j < F.length) (x : Ent) :
    ((((((encE F).set (j * 5) (.int .i64 x.v)).set (j * 5 + 1) (.string x.c)).set (j * 5 + 2) (.int .i64 x.i)).set (j * 5 + 3) (.int .i64 x.s)).set (j * 5 + 4) (.bool x.d)) = encE (F.set j x) := by
  have hF : F = F.take j ++ F.drop j := (List.take_append_drop j F).symm
  have hs : F.set j x = F.take j ++ x :: F.drop (j + 1) := by rw [List.set_eq_take_append_cons_drop, if_pos hj]
  have h5 : (encE (F.drop j)).drop 5 = encE (F.drop (j + 1)) := by
    have := encE_drop (F.drop j) 1
    rw [List.drop_drop] at this
    simpa using this
  have hl : (encE (F.take j)).length = j * 5 := by rw [encE_length, List.length_take, Nat.min_eq_left (Nat.le_of_lt hj)]
  have := setsAt_app x.cells (encE (F.take j)) (encE (F.drop j)) (by rw [encE_length, List.length_drop]; simp [Ent.cells]; omega)
  rw [← encE_append, ← hF, hl, show x.cells.length = 5 from rfl, h5] at this
  rw [hs, encE_append, encE_cons, ← List.append_assoc, ← this]
  rfl
theorem own_setE {w : World} {base : Nat} {e : TypeId} {g m c : Nat} {F : List Ent} (h : w.ownsRow base e 5 (.slice (some ⟨g, 0, none⟩) m c) m (encE F)) {j : Nat} (hj : j < m) (x : Ent) :
    (((((w.setCell ⟨g, j * 5, none⟩ (.int .i64 x.v)).setCell ⟨g, j * 5 + 1, none⟩ (.string x.c)).setCell ⟨g, j * 5 + 2, none⟩ (.int .i64 x.i)).setCell ⟨g, j * 5 + 3, none⟩ (.int .i64 x.s)).setCell ⟨g, j * 5 + 4, none⟩ (.bool x.d)).ownsRow base e 5 (.slice (some ⟨g, 0, none⟩) m c) m (encE (F.set j x)) := by
  have hl := h.1
  rw [encE_length] at hl
  have hn : F.length = m := Nat.eq_of_mul_eq_mul_right (by decide) hl
  rw [← encE_set F j (by omega) x]
  exact ((((((h.stored (j * 5) _).1.stored (j * 5 + 1) _).1).stored (j * 5 + 2) _).1.stored (j * 5 + 3) _).1.stored (j * 5 + 4) _).1
theorem own_lenE {w : World} {base : Nat} {e : TypeId} {v : Value} {m : Nat} {F : List Ent} (h : w.ownsRow base e 5 v m (encE F)) : F.length = m := by
  have hl := h.1
  rw [encE_length] at hl
  exact Nat.eq_of_mul_eq_mul_right (by decide) hl
/-- The five cells of an entry of a row. -/
theorem own_fiveE {w : World} {base : Nat} {e : TypeId} {g m c : Nat} {F : List Ent} (h : w.ownsRow base e 5 (.slice (some ⟨g, 0, none⟩) m c) m (encE F)) {j : Nat} {x : Ent} (hx : F[j]? = some x) :
    w.cell? ⟨g, j * 5, none⟩ = some (.int .i64 x.v) ∧ w.cell? ⟨g, j * 5 + 1, none⟩ = some (.string x.c) ∧ w.cell? ⟨g, j * 5 + 2, none⟩ = some (.int .i64 x.i) ∧ w.cell? ⟨g, j * 5 + 3, none⟩ = some (.int .i64 x.s) ∧ w.cell? ⟨g, j * 5 + 4, none⟩ = some (.bool x.d) := by
  have hn := own_lenE h
  have hj := (List.getElem?_eq_some_iff.1 hx).1
  have hg := encE_get F j x hx
  exact ⟨by rw [h.cellAt _ (by omega)]; exact hg 0 (by decide), by rw [h.cellAt _ (by omega)]; exact hg 1 (by decide), by rw [h.cellAt _ (by omega)]; exact hg 2 (by decide), by rw [h.cellAt _ (by omega)]; exact hg 3 (by decide), by rw [h.cellAt _ (by omega)]; exact hg 4 (by decide)⟩
theorem own_takeE {w : World} {base : Nat} {e : TypeId} {g n cap : Nat} {F : List Ent} (h : w.ownsRow base e 5 (.slice (some ⟨g, 0, none⟩) n cap) n (encE F)) {k : Nat} (hk : k ≤ n) :
    w.ownsRow base e 5 (.slice (some ⟨g, 0, none⟩) k cap) k (encE (F.take k)) := by
  rw [← encE_take]; exact own_take h hk

/-- Does a list rise? -/
def rises (L : List Ent) : Prop := ∀ (j : Nat) (x y : Ent), L[j]? = some x → L[j + 1]? = some y → eless x y
open Classical in
noncomputable def sortedR (L : List Ent) : Int := if rises L then 0 else 50
theorem sortedR_ok {L : List Ent} (h : rises L) : sortedR L = 0 := if_pos h
theorem sortedR_no {L : List Ent} {j : Nat} {x y : Ent} (hx : L[j]? = some x) (hy : L[j + 1]? = some y) (h : ¬ eless x y) : sortedR L = 50 := if_neg (fun k => h (k j x y hx hy))

set_option maxRecDepth 100000 in
set_option maxHeartbeats 1000000 in
theorem Sorted_calls (v : Value) (L : List Ent) (hL : L.length < 4611686018427387904) (w : World) (h : ESl w v L) :
    Calls Try.prog 13 #[v] w fun e w' => e = .returned (.int .i64 (sortedR L)) ∧ Below w.heap.size w w' := by
  obtain ⟨p, cap, rfl, hp⟩ := h
  obtain ⟨n, hn⟩ : ∃ n, L.length = n := ⟨_, rfl⟩
  rw [hn] at hL ⊢
  have h1 := fun h => sortedR_ok (L := L) h
  have h2 := fun j x y => sortedR_no (L := L) (j := j) (x := x) (y := y)
  obtain ⟨r, hr⟩ : ∃ r, sortedR L = r := ⟨_, rfl⟩
  rw [hr] at h1 ⊢
  simp only [hr] at h2
  have H1 := Lib.hid h1
  have H2 := Lib.hid h2
  have HP := Lib.hid hp
  have HN := Lib.hid hn
  clear h1 h2 hr hp hn
  go_enter Try.func13, Try.ntmps13
  go_wp2
  go_loopw [3] (fun i wr => ∃ k q : Nat, (k = 0 ∨ k < n) ∧ q = k + 1 ∧ i = .int .i64 (q : Nat) ∧ Hid (∀ (j : Nat) (x y : Ent), j < k → L[j]? = some x → L[j + 1]? = some y → eless x y) ∧ Below w.heap.size w wr) (fun i _ => n + 1 - (intOf i).toNat)
  case atStart => exact ⟨0, 1, .inl rfl, rfl, rfl, Lib.hid (fun j x y hj => by omega), Below.refl _ _⟩
  case round =>
    obtain ⟨k, q, hk, hq, rfl, HZ, hbl⟩ := hrel
    by_cases hlt : q < n
    · obtain ⟨x, hx⟩ : ∃ x, L[k]? = some x := ⟨_, List.getElem?_eq_getElem (by rw [HN.out]; omega)⟩
      obtain ⟨y, hy⟩ : ∃ y, L[q]? = some y := ⟨_, List.getElem?_eq_getElem (by rw [HN.out]; exact hlt)⟩
      obtain ⟨a, rfl, cx⟩ := HP.out k x hx
      obtain ⟨a2, he, cy⟩ := HP.out q y hy
      cases he
      have fx := (Five.of cx)
      have fy := (Five.of cy)
      have lx := fx.lt
      have ly := fy.lt
      have gx := fx.below hbl lx
      have gy := fy.below hbl ly
      clear cx cy fx fy
      have CC := fun W => Compare_calls x y W
      have HM := Lib.hid (cmpE_neg (a := x) (b := y))
      have hb3 := cmpE_bound x y
      have H2' := H2.out k x y hx (by rw [← hq]; exact hy)
      have HZ2 : eless x y → Hid (∀ (j : Nat) (x y : Ent), j < k + 1 → L[j]? = some x → L[j + 1]? = some y → eless x y) := fun h => Lib.hid (fun j x' y' hj h1 h2 => by
        rcases Nat.lt_or_ge j k with hj' | hj'
        · exact HZ.out j x' y' hj' h1 h2
        · obtain rfl : j = k := by omega
          rw [hx] at h1; rw [← hq, hy] at h2
          cases h1; cases h2
          exact h)
      obtain ⟨c, hc⟩ : ∃ c, cmpE x y = c := ⟨_, rfl⟩
      simp only [hc] at CC HM
      rw [hc] at hb3
      have HC := Lib.hid CC
      have HGX := Lib.hid gx
      have HGY := Lib.hid gy
      obtain ⟨x0, x1, x2, x3, x4⟩ := gx
      obtain ⟨y0, y1, y2, y3, y4⟩ := gy
      have hk1 : IntKind.i64.wrap ((q : Int) - 1) = (k : Int) := by rw [IntKind.wrap_i64]; omega
      have i0 : (0 : Int) ≤ (k : Int) := by omega
      have i1 : (k : Int) < (n : Int) := by omega
      have i2 : (0 : Int) ≤ (q : Int) := by omega
      have i3 : (q : Int) < (n : Int) := by omega
      have lx2 := Nat.lt_of_lt_of_le lx hbl.size
      have ly2 := Nat.lt_of_lt_of_le ly hbl.size
      have HQ := Lib.hid hq
      clear CC hx hy hc hq
      by_cases hneg : c < 0
      · obtain rfl : c = -1 := by omega
        have HZ3 := HZ2 (HM.out.1 hneg)
        go_wp2
        go_region_held3 (fun W => W.cell? (a.add (k * 5)) = some (.int .i64 x.v) ∧ W.cell? ⟨(a.add (k * 5)).block, (a.add (k * 5)).off + 1, none⟩ = some (.string x.c) ∧ W.cell? ⟨(a.add (k * 5)).block, (a.add (k * 5)).off + 2, none⟩ = some (.int .i64 x.i) ∧ W.cell? ⟨(a.add (k * 5)).block, (a.add (k * 5)).off + 3, none⟩ = some (.int .i64 x.s) ∧ W.cell? ⟨(a.add (k * 5)).block, (a.add (k * 5)).off + 4, none⟩ = some (.bool x.d) ∧ W.cell? (a.add (q * 5)) = some (.int .i64 y.v) ∧ W.cell? ⟨(a.add (q * 5)).block, (a.add (q * 5)).off + 1, none⟩ = some (.string y.c) ∧ W.cell? ⟨(a.add (q * 5)).block, (a.add (q * 5)).off + 2, none⟩ = some (.int .i64 y.i) ∧ W.cell? ⟨(a.add (q * 5)).block, (a.add (q * 5)).off + 3, none⟩ = some (.int .i64 y.s) ∧ W.cell? ⟨(a.add (q * 5)).block, (a.add (q * 5)).off + 4, none⟩ = some (.bool y.d)) (first | exact ⟨x0, x1, x2, x3, x4, y0, y1, y2, y3, y4⟩ | exact and10 (Five.by hc1 lx2 HGX.out) (Five.by hc1 ly2 HGY.out)) (first | (go_at_call 10; refine (HC.out _).mono ?_; rintro e w2 ⟨rfl, hc1⟩))
        have hbn := hbl.trans ((show Below wr.heap.size wr w2 from ⟨hc1.os, hc1.tape, hc1.output, hc1.size, hc1.block⟩).mono hbl.size)
        go_wp2
        go_roundw
        case rel => exact ⟨k + 1, q + 1, .inr (by have := HQ.out; omega), by rw [HQ.out], by go_num, HZ3, hbn⟩
        case measure => simp [intOf]; omega
      · have hr50 := H2' (fun h => hneg (HM.out.2 h))
        have hge : decide (0 ≤ c) = true := by simp; omega
        clear hb3
        go_wp2
        go_region_held3 (fun W => W.cell? (a.add (k * 5)) = some (.int .i64 x.v) ∧ W.cell? ⟨(a.add (k * 5)).block, (a.add (k * 5)).off + 1, none⟩ = some (.string x.c) ∧ W.cell? ⟨(a.add (k * 5)).block, (a.add (k * 5)).off + 2, none⟩ = some (.int .i64 x.i) ∧ W.cell? ⟨(a.add (k * 5)).block, (a.add (k * 5)).off + 3, none⟩ = some (.int .i64 x.s) ∧ W.cell? ⟨(a.add (k * 5)).block, (a.add (k * 5)).off + 4, none⟩ = some (.bool x.d) ∧ W.cell? (a.add (q * 5)) = some (.int .i64 y.v) ∧ W.cell? ⟨(a.add (q * 5)).block, (a.add (q * 5)).off + 1, none⟩ = some (.string y.c) ∧ W.cell? ⟨(a.add (q * 5)).block, (a.add (q * 5)).off + 2, none⟩ = some (.int .i64 y.i) ∧ W.cell? ⟨(a.add (q * 5)).block, (a.add (q * 5)).off + 3, none⟩ = some (.int .i64 y.s) ∧ W.cell? ⟨(a.add (q * 5)).block, (a.add (q * 5)).off + 4, none⟩ = some (.bool y.d)) (first | exact ⟨x0, x1, x2, x3, x4, y0, y1, y2, y3, y4⟩ | exact and10 (Five.by hc1 lx2 HGX.out) (Five.by hc1 ly2 HGY.out)) (first | (go_at_call 10; refine (HC.out _).mono ?_; rintro e w2 ⟨rfl, hc1⟩))
        have hbn := hbl.trans ((show Below wr.heap.size wr w2 from ⟨hc1.os, hc1.tape, hc1.output, hc1.size, hc1.block⟩).mono hbl.size)
        go_wp2
        go_ret
        exact ⟨by first | rfl | (rw [hr50]; rfl), hbn⟩
    · have hr0 : r = 0 := H1.out (fun j x y hx hy => HZ.out j x y (by
        have h1 := (List.getElem?_eq_some_iff.1 hy).1
        have h2 := HN.out
        omega) hx hy)
      go_wp2
      go_ret
      exact ⟨by first | rfl | (rw [hr0]; rfl), hbl⟩
set_option maxRecDepth 100000 in
set_option maxHeartbeats 1000000 in
theorem RefSorted_calls (v : Value) (L : List Ent) (hL : L.length < 4611686018427387904) (w : World) (h : ESl w v L) :
    Calls Try.prog 15 #[v] w fun e w' => e = .returned (.int .i64 (sortedR L)) ∧ Below w.heap.size w w' := by
  obtain ⟨p, cap, rfl, hp⟩ := h
  obtain ⟨n, hn⟩ : ∃ n, L.length = n := ⟨_, rfl⟩
  rw [hn] at hL ⊢
  have h1 := fun h => sortedR_ok (L := L) h
  have h2 := fun j x y => sortedR_no (L := L) (j := j) (x := x) (y := y)
  obtain ⟨r, hr⟩ : ∃ r, sortedR L = r := ⟨_, rfl⟩
  rw [hr] at h1 ⊢
  simp only [hr] at h2
  have H1 := Lib.hid h1
  have H2 := Lib.hid h2
  have HP := Lib.hid hp
  have HN := Lib.hid hn
  clear h1 h2 hr hp hn
  go_enter Try.func15, Try.ntmps15
  go_wp2
  go_loopw [3] (fun i wr => ∃ k q : Nat, (k = 0 ∨ k < n) ∧ q = k + 1 ∧ i = .int .i64 (q : Nat) ∧ Hid (∀ (j : Nat) (x y : Ent), j < k → L[j]? = some x → L[j + 1]? = some y → eless x y) ∧ Below w.heap.size w wr) (fun i _ => n + 1 - (intOf i).toNat)
  case atStart => exact ⟨0, 1, .inl rfl, rfl, rfl, Lib.hid (fun j x y hj => by omega), Below.refl _ _⟩
  case round =>
    obtain ⟨k, q, hk, hq, rfl, HZ, hbl⟩ := hrel
    by_cases hlt : q < n
    · obtain ⟨x, hx⟩ : ∃ x, L[k]? = some x := ⟨_, List.getElem?_eq_getElem (by rw [HN.out]; omega)⟩
      obtain ⟨y, hy⟩ : ∃ y, L[q]? = some y := ⟨_, List.getElem?_eq_getElem (by rw [HN.out]; exact hlt)⟩
      obtain ⟨a, rfl, cx⟩ := HP.out k x hx
      obtain ⟨a2, he, cy⟩ := HP.out q y hy
      cases he
      have fx := (Five.of cx)
      have fy := (Five.of cy)
      have lx := fx.lt
      have ly := fy.lt
      have gx := fx.below hbl lx
      have gy := fy.below hbl ly
      clear cx cy fx fy
      have CC := fun W => RefCompare_calls x y W
      have HM := Lib.hid (cmpE_neg (a := x) (b := y))
      have hb3 := cmpE_bound x y
      have H2' := H2.out k x y hx (by rw [← hq]; exact hy)
      have HZ2 : eless x y → Hid (∀ (j : Nat) (x y : Ent), j < k + 1 → L[j]? = some x → L[j + 1]? = some y → eless x y) := fun h => Lib.hid (fun j x' y' hj h1 h2 => by
        rcases Nat.lt_or_ge j k with hj' | hj'
        · exact HZ.out j x' y' hj' h1 h2
        · obtain rfl : j = k := by omega
          rw [hx] at h1; rw [← hq, hy] at h2
          cases h1; cases h2
          exact h)
      obtain ⟨c, hc⟩ : ∃ c, cmpE x y = c := ⟨_, rfl⟩
      simp only [hc] at CC HM
      rw [hc] at hb3
      have HC := Lib.hid CC
      have HGX := Lib.hid gx
      have HGY := Lib.hid gy
      obtain ⟨x0, x1, x2, x3, x4⟩ := gx
      obtain ⟨y0, y1, y2, y3, y4⟩ := gy
      have hk1 : IntKind.i64.wrap ((q : Int) - 1) = (k : Int) := by rw [IntKind.wrap_i64]; omega
      have i0 : (0 : Int) ≤ (k : Int) := by omega
      have i1 : (k : Int) < (n : Int) := by omega
      have i2 : (0 : Int) ≤ (q : Int) := by omega
      have i3 : (q : Int) < (n : Int) := by omega
      have lx2 := Nat.lt_of_lt_of_le lx hbl.size
      have ly2 := Nat.lt_of_lt_of_le ly hbl.size
      have HQ := Lib.hid hq
      clear CC hx hy hc hq
      by_cases hneg : c < 0
      · obtain rfl : c = -1 := by omega
        have HZ3 := HZ2 (HM.out.1 hneg)
        go_wp2
        go_region_held3 (fun W => W.cell? (a.add (k * 5)) = some (.int .i64 x.v) ∧ W.cell? ⟨(a.add (k * 5)).block, (a.add (k * 5)).off + 1, none⟩ = some (.string x.c) ∧ W.cell? ⟨(a.add (k * 5)).block, (a.add (k * 5)).off + 2, none⟩ = some (.int .i64 x.i) ∧ W.cell? ⟨(a.add (k * 5)).block, (a.add (k * 5)).off + 3, none⟩ = some (.int .i64 x.s) ∧ W.cell? ⟨(a.add (k * 5)).block, (a.add (k * 5)).off + 4, none⟩ = some (.bool x.d) ∧ W.cell? (a.add (q * 5)) = some (.int .i64 y.v) ∧ W.cell? ⟨(a.add (q * 5)).block, (a.add (q * 5)).off + 1, none⟩ = some (.string y.c) ∧ W.cell? ⟨(a.add (q * 5)).block, (a.add (q * 5)).off + 2, none⟩ = some (.int .i64 y.i) ∧ W.cell? ⟨(a.add (q * 5)).block, (a.add (q * 5)).off + 3, none⟩ = some (.int .i64 y.s) ∧ W.cell? ⟨(a.add (q * 5)).block, (a.add (q * 5)).off + 4, none⟩ = some (.bool y.d)) (first | exact ⟨x0, x1, x2, x3, x4, y0, y1, y2, y3, y4⟩ | exact and10 (Five.by hc1 lx2 HGX.out) (Five.by hc1 ly2 HGY.out)) (first | (go_at_call 11; refine (HC.out _).mono ?_; rintro e w2 ⟨rfl, hc1⟩))
        have hbn := hbl.trans ((show Below wr.heap.size wr w2 from ⟨hc1.os, hc1.tape, hc1.output, hc1.size, hc1.block⟩).mono hbl.size)
        go_wp2
        go_roundw
        case rel => exact ⟨k + 1, q + 1, .inr (by have := HQ.out; omega), by rw [HQ.out], by go_num, HZ3, hbn⟩
        case measure => simp [intOf]; omega
      · have hr50 := H2' (fun h => hneg (HM.out.2 h))
        have hge : decide (0 ≤ c) = true := by simp; omega
        clear hb3
        go_wp2
        go_region_held3 (fun W => W.cell? (a.add (k * 5)) = some (.int .i64 x.v) ∧ W.cell? ⟨(a.add (k * 5)).block, (a.add (k * 5)).off + 1, none⟩ = some (.string x.c) ∧ W.cell? ⟨(a.add (k * 5)).block, (a.add (k * 5)).off + 2, none⟩ = some (.int .i64 x.i) ∧ W.cell? ⟨(a.add (k * 5)).block, (a.add (k * 5)).off + 3, none⟩ = some (.int .i64 x.s) ∧ W.cell? ⟨(a.add (k * 5)).block, (a.add (k * 5)).off + 4, none⟩ = some (.bool x.d) ∧ W.cell? (a.add (q * 5)) = some (.int .i64 y.v) ∧ W.cell? ⟨(a.add (q * 5)).block, (a.add (q * 5)).off + 1, none⟩ = some (.string y.c) ∧ W.cell? ⟨(a.add (q * 5)).block, (a.add (q * 5)).off + 2, none⟩ = some (.int .i64 y.i) ∧ W.cell? ⟨(a.add (q * 5)).block, (a.add (q * 5)).off + 3, none⟩ = some (.int .i64 y.s) ∧ W.cell? ⟨(a.add (q * 5)).block, (a.add (q * 5)).off + 4, none⟩ = some (.bool y.d)) (first | exact ⟨x0, x1, x2, x3, x4, y0, y1, y2, y3, y4⟩ | exact and10 (Five.by hc1 lx2 HGX.out) (Five.by hc1 ly2 HGY.out)) (first | (go_at_call 11; refine (HC.out _).mono ?_; rintro e w2 ⟨rfl, hc1⟩))
        have hbn := hbl.trans ((show Below wr.heap.size wr w2 from ⟨hc1.os, hc1.tape, hc1.output, hc1.size, hc1.block⟩).mono hbl.size)
        go_wp2
        go_ret
        exact ⟨by first | rfl | (rw [hr50]; rfl), hbn⟩
    · have hr0 : r = 0 := H1.out (fun j x y hx hy => HZ.out j x y (by
        have h1 := (List.getElem?_eq_some_iff.1 hy).1
        have h2 := HN.out
        omega) hx hy)
      go_wp2
      go_ret
      exact ⟨by first | rfl | (rw [hr0]; rfl), hbl⟩

set_option maxHeartbeats 1000000 in
/-- Two lists of the same entries. -/
theorem sameE_true (v1 v2 : Value) (L : List Ent) (hn : L.length < 4611686018427387904) (w : World) (h1 : ESl w v1 L) (h2 : ESl w v2 L) :
    Calls Try.prog 14 #[v1, v2] w fun e w' => e = .returned (.bool true) ∧ Below w.heap.size w w' := by
  obtain ⟨p1, c1, rfl, hp⟩ := h1
  obtain ⟨p2, c2, rfl, hq⟩ := h2
  obtain ⟨n, hnn⟩ : ∃ n, L.length = n := ⟨_, rfl⟩
  rw [hnn] at hn ⊢
  have HN := Lib.hid hnn
  have HP := Lib.hid hp
  have HQ := Lib.hid hq
  clear hp hq hnn
  go_enter Try.func14, Try.ntmps14
  go_wp2
  go_loopw [5] (fun i wr => ∃ k : Nat, k ≤ n ∧ i = .int .i64 k ∧ Below w.heap.size w wr) (fun i _ => n - (intOf i).toNat)
  case atStart => exact ⟨0, Nat.zero_le _, rfl, Below.refl _ _⟩
  case round =>
    obtain ⟨k, hk, rfl, hbl⟩ := hrel
    by_cases hlt : k < n
    · obtain ⟨x, hx⟩ : ∃ x, L[k]? = some x := ⟨_, List.getElem?_eq_getElem (by rw [HN.out]; exact hlt)⟩
      obtain ⟨a, rfl, ca⟩ := HP.out k x hx
      obtain ⟨b, rfl, cb⟩ := HQ.out k x hx
      have fa := Five.of ca
      have fb := Five.of cb
      obtain ⟨x0, x1, x2, x3, x4⟩ := fa.below hbl fa.lt
      obtain ⟨y0, y1, y2, y3, y4⟩ := fb.below hbl fb.lt
      clear ca cb fa fb hx
      go_wp2
      go_quiet (fail)
      go_wp2
      go_roundw
      case rel => exact ⟨k + 1, by omega, by go_num, below_drewN hbl _⟩
      case measure => simp [intOf]; omega
    · obtain rfl : k = n := by omega
      go_wp2
      go_ret
      exact ⟨rfl, hbl⟩
end Go.Proofs.Ytahdaccmokjgpaa
