/-
  LISTS OF ENTRIES in memory, for any seat.
-/
import Derived.Test.YtihgjihdmlomaaaDoorArgEn
import Derived.Test.YtihgjihdmlomaaaDoorKit
import Derived.StillTailTactics
import Derived.Deep.QuietTactic
import Derived.BigQuiet
import Derived.Laws.StructEq
import Derived.BigRegion
namespace Go.Proofs.YtihgjihdmlomaaaDoor
open Go.RowKit ArgK
set_option linter.unusedVariables false

/-- Entries can be read so. -/
def ESl (w : World) (v : Value) (L : List Ent) : Prop :=
  ∃ (p : Option Addr) (cap : Nat), v = .slice p L.length cap ∧ ∀ (i : Nat) (x : Ent), L[i]? = some x → ∃ a, p = some a ∧ ∀ k, k < 5 → w.cell? (a.add (i * 5 + k)) = x.cells[k]?

theorem ESl.below {w w' : World} {v : Value} {L : List Ent} (h : ESl w v L) (hb : Below w.heap.size w w') : ESl w' v L := by
  obtain ⟨p, cap, rfl, hp⟩ := h
  refine ⟨p, cap, rfl, fun i x hx => ?_⟩
  obtain ⟨a, rfl, hc⟩ := hp i x hx
  refine ⟨a, rfl, fun k hk => ?_⟩
  have h0 := hc k hk
  have hlt : (a.add (i * 5 + k)).block < w.heap.size := by
    rcases Nat.lt_or_ge (a.add (i * 5 + k)).block w.heap.size with h' | h'
    · exact h'
    · rw [World.cell?, Array.getElem?_eq_none h'] at h0
      simp only at h0
      rw [List.getElem?_eq_getElem (by simpa [Ent.cells] using hk)] at h0
      cases h0
  rw [hb.cell (p := a.add (i * 5 + k)) hlt, h0]

theorem ESl.of_own {w : World} {base : Nat} {e : TypeId} {v : Value} {n : Nat} {L : List Ent} (h : w.ownsRow base e 5 v n (encE L)) : ESl w v L := by
  have hl := h.1
  rw [encE_length] at hl
  have hn : L.length = n := Nat.eq_of_mul_eq_mul_right (by decide) hl
  obtain ⟨p, c, rfl, _, _, hr⟩ := own_rd h
  refine ⟨p, c, by rw [hn], fun i x hx => ?_⟩
  have hi := (List.getElem?_eq_some_iff.1 hx).1
  obtain ⟨g, rfl, _, _, hc, _⟩ := hr (by omega)
  exact ⟨_, rfl, fun k hk => by rw [show (⟨g, 0, none⟩ : Addr).add (i * 5 + k) = ⟨g, i * 5 + k, none⟩ by unfold Addr.add; split <;> simp_all, hc (i * 5 + k) (by omega)]; exact encE_get L i x hx k hk⟩

theorem add_field (a : Addr) (i k : Nat) (hk : k ≠ 0) : (⟨(a.add i).block, (a.add i).off + k, none⟩ : Addr) = a.add (i + k) := by
  unfold Addr.add
  by_cases hi : i = 0
  · subst hi; simp [hk]
  · simp [hi, hk, Nat.add_assoc]

/-- The five cells of an entry in a list. -/
def Five (w : World) (p : Addr) (x : Ent) : Prop :=
  w.cell? p = some (.int .i64 x.v) ∧ w.cell? ⟨p.block, p.off + 1, none⟩ = some (.string x.c) ∧ w.cell? ⟨p.block, p.off + 2, none⟩ = some (.int .i64 x.i) ∧ w.cell? ⟨p.block, p.off + 3, none⟩ = some (.int .i64 x.s) ∧ w.cell? ⟨p.block, p.off + 4, none⟩ = some (.bool x.d)

theorem Five.of {w : World} {a : Addr} {i : Nat} {x : Ent} (h : ∀ k, k < 5 → w.cell? (a.add (i * 5 + k)) = x.cells[k]?) : Five w (a.add (i * 5)) x := by
  refine ⟨h 0 (by decide), ?_, ?_, ?_, ?_⟩
  · rw [add_field _ _ _ (by decide)]; exact h 1 (by decide)
  · rw [add_field _ _ _ (by decide)]; exact h 2 (by decide)
  · rw [add_field _ _ _ (by decide)]; exact h 3 (by decide)
  · rw [add_field _ _ _ (by decide)]; exact h 4 (by decide)

theorem cell_lt {w : World} {p : Addr} {v : Value} (h : w.cell? p = some v) : p.block < w.heap.size := by
  rcases Nat.lt_or_ge p.block w.heap.size with h' | h'
  · exact h'
  · simp [World.cell?, Array.getElem?_eq_none h'] at h

theorem Five.lt {w : World} {p : Addr} {x : Ent} (h : Five w p x) : p.block < w.heap.size := cell_lt h.1

theorem Five.below {w w' : World} {p : Addr} {x : Ent} (h : Five w p x) {B : Nat} (hb : Below B w w') (hB : p.block < B) : Five w' p x :=
  ⟨(hb.cell (p := p) hB).trans h.1, (hb.cell (p := ⟨p.block, p.off + 1, none⟩) hB).trans h.2.1, (hb.cell (p := ⟨p.block, p.off + 2, none⟩) hB).trans h.2.2.1, (hb.cell (p := ⟨p.block, p.off + 3, none⟩) hB).trans h.2.2.2.1, (hb.cell (p := ⟨p.block, p.off + 4, none⟩) hB).trans h.2.2.2.2⟩

theorem Five.by {W w' : World} {p : Addr} {x : Ent} {B : Nat} (hb : Below B W w') (hB : p.block < B) (h : Five W p x) : Five w' p x := h.below hb hB

theorem Five.belowAll {w w' : World} {p : Addr} {x : Ent} (h : Five w p x) (hb : Below w.heap.size w w') : Five w' p x := h.below hb h.lt

theorem and10 {w : World} {p q : Addr} {x y : Ent} (h : Five w p x) (k : Five w q y) :
    w.cell? (p) = some (.int .i64 x.v) ∧ w.cell? ⟨(p).block, (p).off + 1, none⟩ = some (.string x.c) ∧ w.cell? ⟨(p).block, (p).off + 2, none⟩ = some (.int .i64 x.i) ∧ w.cell? ⟨(p).block, (p).off + 3, none⟩ = some (.int .i64 x.s) ∧ w.cell? ⟨(p).block, (p).off + 4, none⟩ = some (.bool x.d) ∧ w.cell? (q) = some (.int .i64 y.v) ∧ w.cell? ⟨(q).block, (q).off + 1, none⟩ = some (.string y.c) ∧ w.cell? ⟨(q).block, (q).off + 2, none⟩ = some (.int .i64 y.i) ∧ w.cell? ⟨(q).block, (q).off + 3, none⟩ = some (.int .i64 y.s) ∧ w.cell? ⟨(q).block, (q).off + 4, none⟩ = some (.bool y.d) :=
  ⟨h.1, h.2.1, h.2.2.1, h.2.2.2.1, h.2.2.2.2, k⟩

theorem encE_drop (L : List Ent) (j : Nat) : (encE L).drop (j * 5) = encE (L.drop j) := by
  induction L generalizing j with
  | nil => simp [encE]
  | cons x L ih =>
    cases j with
    | zero => simp
    | succ j =>
      rw [encE_cons, show (j + 1) * 5 = x.cells.length + j * 5 by simp [Ent.cells]; omega, List.drop_append, List.drop_of_length_le (Nat.le_add_right _ _), Nat.add_sub_cancel_left, List.nil_append, ih]
      rfl

theorem encE_take (L : List Ent) (j : Nat) : (encE L).take (j * 5) = encE (L.take j) := by
  induction L generalizing j with
  | nil => simp [encE]
  | cons x L ih =>
    cases j with
    | zero => simp [encE]
    | succ j =>
      rw [encE_cons, show (j + 1) * 5 = x.cells.length + j * 5 by simp [Ent.cells]; omega, List.take_append, List.take_of_length_le (Nat.le_add_right _ _), Nat.add_sub_cancel_left, ih]
      rfl

theorem encE_set (F : List Ent) (j : Nat) (hj : j < F.length) (x : Ent) :
    ((((((encE F).set (j * 5) (.int .i64 x.v)).set (j * 5 + 1) (.string x.c)).set (j * 5 + 2) (.int .i64 x.i)).set (j * 5 + 3) (.int .i64 x.s)).set (j * 5 + 4) (.bool x.d)) = encE (F.set j x) := by
  have hF : F = F.take j ++ F.drop j := (List.take_append_drop j F).symm
  have hs : F.set j x = F.take j ++ x :: F.drop (j + 1) := by rw [List.set_eq_take_append_cons_drop, if_pos hj]
  have h5 : (encE (F.drop j)).drop 5 = encE (F.drop (j + 1)) := by
    have := encE_drop (F.drop j) 1
    rw [List.drop_drop] at this
    simpa using this
  have hl : (encE (F.take j)).length = j * 5 := by rw [encE_length, List.length_take, Nat.min_eq_left (Nat.le_of_lt hj)]
  have := setsAt_app x.cells (encE (F.take j)) (encE (F.drop j)) (by rw [encE_length, List.length_drop]; simp [Ent.cells]; omega)
  rw [← encE_append, ← hF, hl, show x.cells.length = 5 from rfl, h5] at this
  rw [hs, encE_append, encE_cons, ← List.append_assoc, ← this]
  rfl

theorem own_setE {w : World} {base : Nat} {e : TypeId} {g m c : Nat} {F : List Ent} (h : w.ownsRow base e 5 (.slice (some ⟨g, 0, none⟩) m c) m (encE F)) {j : Nat} (hj : j < m) (x : Ent) :
    (((((w.setCell ⟨g, j * 5, none⟩ (.int .i64 x.v)).setCell ⟨g, j * 5 + 1, none⟩ (.string x.c)).setCell ⟨g, j * 5 + 2, none⟩ (.int .i64 x.i)).setCell ⟨g, j * 5 + 3, none⟩ (.int .i64 x.s)).setCell ⟨g, j * 5 + 4, none⟩ (.bool x.d)).ownsRow base e 5 (.slice (some ⟨g, 0, none⟩) m c) m (encE (F.set j x)) := by
  have hl := h.1
  rw [encE_length] at hl
  have hn : F.length = m := Nat.eq_of_mul_eq_mul_right (by decide) hl
  rw [← encE_set F j (by omega) x]
  exact ((((((h.stored (j * 5) _).1.stored (j * 5 + 1) _).1).stored (j * 5 + 2) _).1.stored (j * 5 + 3) _).1.stored (j * 5 + 4) _).1

theorem own_lenE {w : World} {base : Nat} {e : TypeId} {v : Value} {m : Nat} {F : List Ent} (h : w.ownsRow base e 5 v m (encE F)) : F.length = m := by
  have hl := h.1
  rw [encE_length] at hl
  exact Nat.eq_of_mul_eq_mul_right (by decide) hl

/-- The five cells of an entry of a row. -/
theorem own_fiveE {w : World} {base : Nat} {e : TypeId} {g m c : Nat} {F : List Ent} (h : w.ownsRow base e 5 (.slice (some ⟨g, 0, none⟩) m c) m (encE F)) {j : Nat} {x : Ent} (hx : F[j]? = some x) :
    w.cell? ⟨g, j * 5, none⟩ = some (.int .i64 x.v) ∧ w.cell? ⟨g, j * 5 + 1, none⟩ = some (.string x.c) ∧ w.cell? ⟨g, j * 5 + 2, none⟩ = some (.int .i64 x.i) ∧ w.cell? ⟨g, j * 5 + 3, none⟩ = some (.int .i64 x.s) ∧ w.cell? ⟨g, j * 5 + 4, none⟩ = some (.bool x.d) := by
  have hn := own_lenE h
  have hj := (List.getElem?_eq_some_iff.1 hx).1
  have hg := encE_get F j x hx
  exact ⟨by rw [h.cellAt _ (by omega)]; exact hg 0 (by decide), by rw [h.cellAt _ (by omega)]; exact hg 1 (by decide), by rw [h.cellAt _ (by omega)]; exact hg 2 (by decide), by rw [h.cellAt _ (by omega)]; exact hg 3 (by decide), by rw [h.cellAt _ (by omega)]; exact hg 4 (by decide)⟩

theorem own_takeE {w : World} {base : Nat} {e : TypeId} {g n cap : Nat} {F : List Ent} (h : w.ownsRow base e 5 (.slice (some ⟨g, 0, none⟩) n cap) n (encE F)) {k : Nat} (hk : k ≤ n) :
    w.ownsRow base e 5 (.slice (some ⟨g, 0, none⟩) k cap) k (encE (F.take k)) := by
  rw [← encE_take]; exact own_take h hk


/-- A readable list of entries that lies below block B. -/
def EL (w : World) (B : Nat) (p : Option Addr) (L : List Ent) : Prop := ∀ i x, L[i]? = some x → ∃ a : Addr, p = some a ∧ a.block < B ∧ Five w (a.add (i * 5)) x

theorem add_blockE (a : Addr) (i : Nat) : (a.add i).block = a.block := by unfold Addr.add; split <;> rfl

theorem EL.below {w w' : World} {B B' : Nat} {p : Option Addr} {L : List Ent} (h : EL w B p L) (hb : Below B' w w') (hB : B ≤ B') : EL w' B p L := by
  intro i x hx
  obtain ⟨a, rfl, ha, h5⟩ := h i x hx
  exact ⟨a, rfl, ha, h5.below hb (by rw [add_blockE]; omega)⟩

theorem EL.mono {w : World} {B B' : Nat} {p : Option Addr} {L : List Ent} (h : EL w B p L) (hB : B ≤ B') : EL w B' p L := by
  intro i x hx
  obtain ⟨a, rfl, ha, h5⟩ := h i x hx
  exact ⟨a, rfl, by omega, h5⟩

theorem EL.nil {w : World} {B : Nat} {p : Option Addr} : EL w B p [] := fun i x hx => by simp at hx

theorem EL.esl {w : World} {B : Nat} {q : Option Addr} {L : List Ent} (h : EL w B q L) (c : Nat) : ESl w (.slice q L.length c) L := by
  refine ⟨q, c, rfl, fun i x hx => ?_⟩
  obtain ⟨a, rfl, _, h0, h1, h2, h3, h4⟩ := h i x hx
  refine ⟨a, rfl, fun k hk => ?_⟩
  rw [add_field _ _ _ (by decide)] at h1 h2 h3 h4
  rcases (show k = 0 ∨ k = 1 ∨ k = 2 ∨ k = 3 ∨ k = 4 by omega) with rfl | rfl | rfl | rfl | rfl
  · exact h0
  · exact h1
  · exact h2
  · exact h3
  · exact h4


theorem cell_ltE {w : World} {a : Addr} {v : Value} (h : w.cell? a = some v) : a.block < w.heap.size := by
  rcases Nat.lt_or_ge a.block w.heap.size with h' | h'
  · exact h'
  · rw [World.cell?, Array.getElem?_eq_none h'] at h
    simp at h

theorem esl_arg {w : World} {v : Value} {z : List Ent} (h : IsSl w 5 48 IsEnt [v] z) : ESl w v z ∧ z.length ≤ 4398046511104 ∧ ∀ x ∈ z, (Lit.int .i64 x.s).wf = true := by
  obtain ⟨hz1, hz2⟩ := h
  refine ⟨?_, by omega, ?_⟩
  · rcases hz2 with ⟨h, rfl⟩ | ⟨a, cap, h, _, _, hc⟩
    · cases h
      exact ⟨none, 0, rfl, fun i x hx => by simp at hx⟩
    · cases h
      refine ⟨some a, cap, rfl, fun i x hx => ?_⟩
      obtain ⟨c, _, hr, hcell⟩ := hc i x hx
      obtain ⟨rfl, _⟩ := hr
      exact ⟨a, rfl, hcell⟩
  · intro x hx
    obtain ⟨i, hi⟩ := List.getElem?_of_mem hx
    rcases hz2 with ⟨h, rfl⟩ | ⟨a, cap, h, _, _, hc⟩
    · simp at hx
    · obtain ⟨c, _, hr, _⟩ := hc i x hi
      exact hr.2.2.2.2

theorem row_below {w W : World} {v : Value} {z : List Int} (h : XKit.IsRow w v z) (hb : Below w.heap.size w W) : XKit.IsRow W v z := by
  obtain ⟨h1, h2, h3⟩ := h
  refine ⟨h1, h2, ?_⟩
  rcases h3 with h | ⟨a, cap, rfl, hc1, hc2, h⟩
  · exact .inl h
  · exact .inr ⟨a, cap, rfl, hc1, hc2, fun i hi => (hb.cell (cell_ltE (h i hi))).trans (h i hi)⟩

theorem el_block {W : World} {B g : Nat} {K : List Ent} (hg : g < B) (h : ∀ j, j < K.length * 5 → W.cell? ⟨g, j, none⟩ = (encE K)[j]?) : EL W B (some ⟨g, 0, none⟩) K := by
  intro i x hx
  have hi := (List.getElem?_eq_some_iff.1 hx).1
  refine ⟨⟨g, 0, none⟩, rfl, hg, Five.of (fun k hk => ?_)⟩
  rw [show (⟨g, 0, none⟩ : Addr).add (i * 5 + k) = ⟨g, i * 5 + k, none⟩ by unfold Addr.add; split <;> simp_all, h (i * 5 + k) (by omega)]
  exact encE_get K i x hx k hk

theorem el_own {W : World} {base n : Nat} {p : Option Addr} {c : Nat} {L : List Ent} (h : W.ownsRow base 33 5 (.slice p n c) n (encE L)) (hn : L.length = n) : EL W W.heap.size p L := by
  obtain ⟨q, d, e, _, _, hr⟩ := own_rd h
  simp only [Value.slice.injEq] at e
  obtain ⟨rfl, _, rfl⟩ := e
  by_cases h0 : 0 < n
  · obtain ⟨g, rfl, _, hg, hc, _⟩ := hr h0
    exact el_block hg (fun j hj => hc j (by omega))
  · intro i x hx
    have := (List.getElem?_eq_some_iff.1 hx).1
    omega


set_option maxHeartbeats 1000000 in
/-- Two lists of the same entries. -/
theorem sameE_true (v1 v2 : Value) (L : List Ent) (hn : L.length < 4611686018427387904) (w : World) (h1 : ESl w v1 L) (h2 : ESl w v2 L) :
    Calls Tryd.prog 14 #[v1, v2] w fun e w' => e = .returned (.bool true) ∧ Below w.heap.size w w' := by
  obtain ⟨p1, c1, rfl, hp⟩ := h1
  obtain ⟨p2, c2, rfl, hq⟩ := h2
  obtain ⟨n, hnn⟩ : ∃ n, L.length = n := ⟨_, rfl⟩
  rw [hnn] at hn ⊢
  have HN := Lib.hid hnn
  have HP := Lib.hid hp
  have HQ := Lib.hid hq
  clear hp hq hnn
  go_enter Tryd.func14, Tryd.ntmps14
  go_wp2
  go_loopw [5] (fun i wr => ∃ k : Nat, k ≤ n ∧ i = .int .i64 k ∧ Below w.heap.size w wr) (fun i _ => n - (intOf i).toNat)
  case atStart => exact ⟨0, Nat.zero_le _, rfl, Below.refl _ _⟩
  case round =>
    obtain ⟨k, hk, rfl, hbl⟩ := hrel
    by_cases hlt : k < n
    · obtain ⟨x, hx⟩ : ∃ x, L[k]? = some x := ⟨_, List.getElem?_eq_getElem (by rw [HN.out]; exact hlt)⟩
      obtain ⟨a, rfl, ca⟩ := HP.out k x hx
      obtain ⟨b, rfl, cb⟩ := HQ.out k x hx
      have fa := Five.of ca
      have fb := Five.of cb
      obtain ⟨x0, x1, x2, x3, x4⟩ := fa.below hbl fa.lt
      obtain ⟨y0, y1, y2, y3, y4⟩ := fb.below hbl fb.lt
      clear ca cb fa fb hx
      go_wp2
      go_quiet (fail)
      go_wp2
      go_roundw
      case rel => exact ⟨k + 1, by omega, by go_num, below_drewN hbl _⟩
      case measure => simp [intOf]; omega
    · obtain rfl : k = n := by omega
      go_wp2
      go_ret
      exact ⟨rfl, hbl⟩
end Go.Proofs.YtihgjihdmlomaaaDoor
