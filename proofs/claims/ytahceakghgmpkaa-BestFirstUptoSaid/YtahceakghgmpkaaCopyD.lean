/-
  THE TWIN, written over: the loops' relation; the other lists as they lie in memory.
-/
import Derived.Test.YtahceakghgmpkaaCopyC
import Derived.Test.YtahceakghgmpkaaRefB
namespace Go.Proofs.Ytahceakghgmpkaa
open Go.RowKit ArgK
set_option linter.unusedVariables false

theorem own_frpF {w w' : World} {F : Nat → Prop} {base : Nat} {e : TypeId} {size : Nat} {v : Value} {n : Nat} {xs : List Value} (h : w.ownsRow base e size v n xs) (hf : FrP w w' F) (hd : ∀ g, v.ownBlock = some g → ¬ F g) : w'.ownsRow base e size v n xs := by
  refine ⟨h.1, ?_⟩
  rcases h.2 with hn | ⟨g, cap, cur, rfl, hbg, hg, rest⟩
  · exact .inl hn
  · exact .inr ⟨g, cap, cur, rfl, hbg, (hf.2.2.2.2 g (Array.getElem?_eq_some_iff.1 hg).1 (hd g rfl)).trans hg, rest⟩

/-- The blocks of the twin. -/
def TwB (B N : Nat) (b : Nat) : Prop := B ≤ b ∧ b < N

/-- A list of lists that lies behind the twin's blocks. -/
theorem Lists.frp {w w' : World} {B N B' : Nat} {tl te : TypeId} {sz k : Nat} {l : Value} {L : Nat → Value} {Nn : Nat → Nat} {X : Nat → List Value} (h : Lists w B' tl te sz k l L Nn X) (hf : FrP w w' (TwB B N)) (hB : N ≤ B') : Lists w' B' tl te sz k l L Nn X :=
  ⟨own_frpF h.1 hf (fun g hg k => by have := (h.1.lt g hg).1; have := k.2; omega), fun j hj => own_frpF (h.2.1 j hj) hf (fun g hg k => by have := ((h.2.1 j hj).lt g hg).1; have := k.2; omega), h.2.2⟩

theorem FrP.setTw {w : World} {B N g : Nat} (hg : TwB B N g) (j : Nat) (x : Hv) :
    FrP w (((w.setCell ⟨g, j * 3, none⟩ (.int .i64 x.d)).setCell ⟨g, j * 3 + 1, none⟩ (.int .i64 x.i)).setCell ⟨g, j * 3 + 2, none⟩ (.string x.c)) (TwB B N) := by
  refine ⟨rfl, rfl, rfl, by simp [World.setCell], fun b hb hn => ?_⟩
  have hne : b ≠ g := fun e => hn (e ▸ hg)
  exact ((Below.heap_setCell _ _ _ _ hne).trans (Below.heap_setCell _ _ _ _ hne)).trans (Below.heap_setCell _ _ _ _ hne)

/-- While the twin is written over: x lists of `now` and y hits of the next are done. -/
def CopRel (w wr : World) (N1 m : Nat) (twin : Value) (LT : Nat → Value) (now : List (List Hv)) (x y : Nat) (ws : World) : Prop :=
  ∃ yy, Cop now yy x y ∧ TwIs ws w.heap.size (m + 64) yy twin LT ∧ FrP wr ws (TwB w.heap.size N1)

section
variable {w wr ws : World} {N1 m gT capT : Nat} {LT : Nat → Value} {now : List (List Hv)} {x y : Nat}

theorem CopRel.row (h : CopRel w wr N1 m (.slice (some ⟨gT, 0, none⟩) (m + 64) capT) LT now x y ws) (hm : now.length = m) (hx : x < m) :
    ∃ g c, ws.cell? ⟨gT, x, none⟩ = some (.slice (some ⟨g, 0, none⟩) (now.getD x []).length c) ∧ LT x = .slice (some ⟨g, 0, none⟩) ((now.getD x []).length + 64) c ∧ ∀ j, ws.frozen? ⟨g, j, none⟩ = false := by
  obtain ⟨yy, hc, hT, hF⟩ := h
  have hxl : x < yy.length := by rw [hc.len, hm]; exact hx
  obtain ⟨z, hz⟩ : ∃ z, yy[x]? = some z := ⟨_, List.getElem?_eq_getElem hxl⟩
  have hgD : yy.getD x [] = z := by rw [List.getD_eq_getElem?_getD, hz]; rfl
  have hln := hc.lens x
  rw [hgD] at hln
  obtain ⟨g, c, h1, h2, h3, h4, h5⟩ := hT.row hz (by omega)
  rw [hln] at h1 h2
  refine ⟨g, c, h1, h2, fun j => ?_⟩
  have hr := hT.2.1 x (by omega)
  have e1 : twN yy x = (now.getD x []).length + 64 := by unfold twN; rw [if_pos hxl, hgD, hln]
  simp only [h2, e1] at hr
  exact World.ownsRow.frozenAt hr j

theorem CopRel.cells (h : CopRel w wr N1 m (.slice (some ⟨gT, 0, none⟩) (m + 64) capT) LT now x y ws) (hm : now.length = m) (hx : x < m) (hy : y < (now.getD x []).length) {g c : Nat} (hL : LT x = .slice (some ⟨g, 0, none⟩) ((now.getD x []).length + 64) c) :
    ∃ u0 u1 u2, ws.cell? ⟨g, y * 3, none⟩ = some u0 ∧ ws.cell? ⟨g, y * 3 + 1, none⟩ = some u1 ∧ ws.cell? ⟨g, y * 3 + 2, none⟩ = some u2 := by
  obtain ⟨yy, hc, hT, hF⟩ := h
  have hxl : x < yy.length := by rw [hc.len, hm]; exact hx
  obtain ⟨z, hz⟩ : ∃ z, yy[x]? = some z := ⟨_, List.getElem?_eq_getElem hxl⟩
  have hgD : yy.getD x [] = z := by rw [List.getD_eq_getElem?_getD, hz]; rfl
  have hln := hc.lens x
  rw [hgD] at hln
  obtain ⟨g', c', h1, h2, h3, h4, h5⟩ := hT.row hz (by omega)
  rw [hL] at h2
  obtain ⟨k1, _, k3⟩ := Value.slice.inj h2
  cases k1
  obtain ⟨a, e, u0, u1, u2⟩ := h5.front y _ (hd_get (by omega : y < z.length))
  cases e
  rw [add_zeroH] at u0 u1 u2
  exact ⟨_, _, _, u0, u1, u2⟩

theorem CopRel.store (h : CopRel w wr N1 m (.slice (some ⟨gT, 0, none⟩) (m + 64) capT) LT now x y ws) (hm : now.length = m) (hx : x < m) (hy : y < (now.getD x []).length) {g c : Nat} (hL : LT x = .slice (some ⟨g, 0, none⟩) ((now.getD x []).length + 64) c) (hg : TwB w.heap.size N1 g) :
    CopRel w wr N1 m (.slice (some ⟨gT, 0, none⟩) (m + 64) capT) LT now x (y + 1) (((ws.setCell ⟨g, y * 3, none⟩ (.int .i64 (hd (now.getD x []) y).d)).setCell ⟨g, y * 3 + 1, none⟩ (.int .i64 (hd (now.getD x []) y).i)).setCell ⟨g, y * 3 + 2, none⟩ (.string (hd (now.getD x []) y).c)) := by
  obtain ⟨yy, hc, hT, hF⟩ := h
  have hln := hc.lens x
  refine ⟨_, hc.step (by omega) hy, hT.store (by rw [hc.len]; omega) (by rw [hc.len]; omega) (by omega) _ (by rw [hln]; exact hL), hF.trans (FrP.setTw hg y _) (fun b hb => .inl hb)⟩

theorem CopRel.next (h : CopRel w wr N1 m (.slice (some ⟨gT, 0, none⟩) (m + 64) capT) LT now x (now.getD x []).length ws) : CopRel w wr N1 m (.slice (some ⟨gT, 0, none⟩) (m + 64) capT) LT now (x + 1) 0 ws := by
  obtain ⟨yy, hc, hT, hF⟩ := h
  exact ⟨yy, hc.next, hT, hF⟩

theorem CopRel.all (h : CopRel w wr N1 m (.slice (some ⟨gT, 0, none⟩) (m + 64) capT) LT now m 0 ws) (hm : now.length = m) : TwIs ws w.heap.size (m + 64) now (.slice (some ⟨gT, 0, none⟩) (m + 64) capT) LT ∧ FrP wr ws (TwB w.heap.size N1) := by
  obtain ⟨yy, hc, hT, hF⟩ := h
  subst hm
  have := hc.all
  subst this
  exact ⟨hT, hF⟩
end

/-- What First leaves, refused or not. -/
def FirstE (w : World) (T : List Hv) (ec : Int) (e : Ending) (w' : World) : Prop :=
  ∃ v', e = .returned (.tuple #[v', .int .i64 ec]) ∧ w'.ownsRow w.heap.size 34 3 v' T.length (encH T) ∧ Below w.heap.size w w'

theorem wrap64_wf (n : Int) : (Lit.int .i64 (wrap64 n)).wf = true := by
  unfold wrap64
  simp only [Lit.wf]
  have := Int.emod_nonneg (n + 9223372036854775808) (by decide : (18446744073709551616 : Int) ≠ 0)
  have := Int.emod_lt_of_pos (n + 9223372036854775808) (by decide : (0 : Int) < 18446744073709551616)
  have e1 : IntKind.i64.min = -9223372036854775808 := by decide
  have e2 : IntKind.i64.max = 9223372036854775807 := by decide
  rw [e1, e2]
  simp only [Bool.and_eq_true, decide_eq_true_eq]
  omega

theorem movedZ_length (i : Nat) (z : List Hv) : (movedZ i z).length = z.length := by simp [movedZ]

theorem movedOf_length (zz : List (List Hv)) : (movedOf zz).length = zz.length := by simp [movedOf]

theorem movedOf_getD (zz : List (List Hv)) (j : Nat) : (movedOf zz).getD j [] = movedZ j (zz.getD j []) := by
  unfold movedOf
  rw [List.getD_eq_getElem?_getD, List.getElem?_map]
  by_cases h : j < zz.length
  · simp [h]
  · simp [h, movedZ]

theorem movedOf_get {zz : List (List Hv)} {j : Nat} {y : List Hv} (h : (movedOf zz)[j]? = some y) : j < zz.length ∧ y = movedZ j (zz.getD j []) := by
  have h2 := (List.getElem?_eq_some_iff.1 h).1
  rw [movedOf_length] at h2
  refine ⟨h2, ?_⟩
  rw [← movedOf_getD, List.getD_eq_getElem?_getD, h]
  rfl

theorem flat_lens (zz : List (List Hv)) : zz.flatten.length = ((List.range zz.length).map fun j => (zz.getD j []).length).sum := by
  induction zz with
  | nil => rfl
  | cons z zz ih =>
    rw [List.flatten_cons, List.length_append, ih, List.length_cons, List.range_succ_eq_map, List.map_cons, List.sum_cons, List.map_map]
    rfl

theorem movedOf_flat (zz : List (List Hv)) : (movedOf zz).flatten.length = zz.flatten.length := by
  rw [flat_lens, flat_lens, movedOf_length]
  congr 1
  apply List.map_congr_left
  intro j _
  rw [movedOf_getD, movedZ_length]

theorem movedOf_good {zz : List (List Hv)} (h : GoodLL zz) : GoodLL (movedOf zz) := by
  intro z hz
  obtain ⟨j, hj⟩ := List.mem_iff_getElem?.1 hz
  obtain ⟨hl, rfl⟩ := movedOf_get hj
  have hm : zz.getD j [] ∈ zz := by
    rw [List.getD_eq_getElem?_getD, List.getElem?_eq_getElem hl]
    exact List.getElem_mem hl
  obtain ⟨h1, h2⟩ := h _ hm
  refine ⟨by rw [movedZ_length]; exact h1, fun x hx => ?_⟩
  obtain ⟨a, ha, rfl⟩ := List.mem_map.1 hx
  exact ⟨wrap64_wf _, (h2 a ha).2⟩

/-- The other lists, as they lie in memory. -/
theorem moved_hll {w : World} {B m : Nat} {zz : List (List Hv)} {l : Value} {L : Nat → Value} (hm : zz.length = m)
    (h : Lists w B 23 34 3 m l L (fun j => (zz.getD j []).length) (fun j => encH (movedZ j (zz.getD j [])))) :
    ∃ p c, l = .slice p m c ∧ HLL w p (movedOf zz) := by
  obtain ⟨h1, h2, _⟩ := h
  obtain ⟨p, c, rfl, _, _, hr⟩ := own_rd h1
  refine ⟨p, c, rfl, fun i y hy => ?_⟩
  obtain ⟨hi, rfl⟩ := movedOf_get hy
  rw [hm] at hi
  obtain ⟨g, rfl, _, _, hc, _⟩ := hr (by omega)
  have hci := hc i (by omega)
  have hri := h2 i hi
  simp only [← movedZ_length i (zz.getD i [])] at hri
  obtain ⟨q, cq, e, _, _, hq⟩ := own_rd hri
  refine ⟨_, q, cq, rfl, ?_, HL.of_own (e ▸ hri), fun hn => ?_⟩
  · rw [add_zeroH, hci, ← e]
    simp [hi]
  · subst hn
    rcases hri.2 with ⟨e2, e3⟩ | ⟨g', _, _, e2, _⟩
    · rw [e] at e2
      obtain ⟨_, h5, h6⟩ := Value.slice.inj e2
      exact ⟨h5, h6⟩
    · rw [e] at e2; cases e2
end Go.Proofs.Ytahceakghgmpkaa
