/-
  WALK: the law MergeOrder: the order of entries, and whether a list rises.
-/
import Derived.Test.YtahdaccmokjgpaaSorted
import Derived.Test.YtahdaccmokjgpaaArgEn
namespace Go.Proofs.Ytahdaccmokjgpaa
open Go.RowKit ArgK
set_option linter.unusedVariables false

theorem entinfo : (Try.prog.info? 24).map (fun i => (i.zero, i.size, i.bytes)) = some (some (.agg #[.int .i64 0, .string ⟨#[]⟩, .int .i64 0, .int .i64 0, .bool false]), 5, 48) := by kernel_rfl
theorem results_cell1 {fn : Func} {p : Tmp} {ty : TypeId} (h : fn.results = #[.cell p ty]) (tmps : Array Value) (P : Program) (w : World) :
    (results fn tmps).run P w = ((asAddr (tmps.getD p undef)).run P w).andThen fun a w₁ => (loadVar ty a).run P w₁ := by
  simp only [results, h]
  simp [Sem.run_bind, Result.andThen]
/-- A mark. -/
def markE (n : Int) : Ent := ⟨-n, ⟨#[109, 97, 114, 107]⟩, -n, -n, false⟩
set_option maxRecDepth 100000 in
set_option maxHeartbeats 1000000 in
theorem mark_calls (n : Int) (h1 : -4611686018427387904 < n) (h2 : n < 4611686018427387904) (w : World) : Calls Try.prog 12 #[.int .i64 n] w fun e w' => e = .returned (markE n).val ∧ Below w.heap.size w w' := by
  have hw : IntKind.i64.wrap (-n) = -n := by rw [IntKind.wrap_i64]; omega
  unfold markE Ent.val
  go_enter Try.func12, Try.ntmps12
  have hbu : ∀ W : World, (Instr.build 24 #[(0, .int .i64 (-n)), (1, .string ⟨#[109, 97, 114, 107]⟩), (2, .int .i64 (-n)), (3, .int .i64 (-n))]).run Try.prog W = .ok (.agg #[.int .i64 (-n), .string ⟨#[109, 97, 114, 107]⟩, .int .i64 (-n), .int .i64 (-n), .bool false]) W :=
    fun W => run_build W _ _ _ (by kernel_rfl)
  go_wp2
  refine bodyPost_ret (v := .agg #[.int .i64 (-n), .string ⟨#[109, 97, 114, 107]⟩, .int .i64 (-n), .int .i64 (-n), .bool false]) ?_ rfl ?_
  · rw [results_cell1 rfl]
    go_simp
  · exact ⟨rfl, (Below.refl _ w).alloc (Nat.le_refl _) _⟩

theorem keepBox {W W' : World} {b0 b1 : Nat} {x y : Ent} (hb : Below W.heap.size W W') (h : W.cell? ⟨b0, 0, none⟩ = some (.int .i64 x.v) ∧ W.cell? ⟨b0, 1, none⟩ = some (.string x.c) ∧ W.cell? ⟨b0, 2, none⟩ = some (.int .i64 x.i) ∧ W.cell? ⟨b0, 3, none⟩ = some (.int .i64 x.s) ∧ W.cell? ⟨b0, 4, none⟩ = some (.bool x.d) ∧ W.cell? ⟨b1, 0, none⟩ = some (.int .i64 y.v) ∧ W.cell? ⟨b1, 1, none⟩ = some (.string y.c) ∧ W.cell? ⟨b1, 2, none⟩ = some (.int .i64 y.i) ∧ W.cell? ⟨b1, 3, none⟩ = some (.int .i64 y.s) ∧ W.cell? ⟨b1, 4, none⟩ = some (.bool y.d)) :
    W'.cell? ⟨b0, 0, none⟩ = some (.int .i64 x.v) ∧ W'.cell? ⟨b0, 1, none⟩ = some (.string x.c) ∧ W'.cell? ⟨b0, 2, none⟩ = some (.int .i64 x.i) ∧ W'.cell? ⟨b0, 3, none⟩ = some (.int .i64 x.s) ∧ W'.cell? ⟨b0, 4, none⟩ = some (.bool x.d) ∧ W'.cell? ⟨b1, 0, none⟩ = some (.int .i64 y.v) ∧ W'.cell? ⟨b1, 1, none⟩ = some (.string y.c) ∧ W'.cell? ⟨b1, 2, none⟩ = some (.int .i64 y.i) ∧ W'.cell? ⟨b1, 3, none⟩ = some (.int .i64 y.s) ∧ W'.cell? ⟨b1, 4, none⟩ = some (.bool y.d) := by
  obtain ⟨a0, a1, a2, a3, a4, c0, c1, c2, c3, c4⟩ := h
  have l0 := cell_lt a0
  have l1 := cell_lt c0
  exact ⟨(hb.cell (p := ⟨b0, 0, none⟩) l0).trans a0, (hb.cell (p := ⟨b0, 1, none⟩) l0).trans a1, (hb.cell (p := ⟨b0, 2, none⟩) l0).trans a2, (hb.cell (p := ⟨b0, 3, none⟩) l0).trans a3, (hb.cell (p := ⟨b0, 4, none⟩) l0).trans a4,
    (hb.cell (p := ⟨b1, 0, none⟩) l1).trans c0, (hb.cell (p := ⟨b1, 1, none⟩) l1).trans c1, (hb.cell (p := ⟨b1, 2, none⟩) l1).trans c2, (hb.cell (p := ⟨b1, 3, none⟩) l1).trans c3, (hb.cell (p := ⟨b1, 4, none⟩) l1).trans c4⟩
/-- The list that is handed in in round i. -/
def turnE (z : List Ent) (i : Nat) : List Ent := if i = 1 then z.reverse else z
theorem turnE_length (z : List Ent) (i : Nat) : (turnE z i).length = z.length := by unfold turnE; split <;> simp
theorem turnE_one (z : List Ent) (j : Nat) (x : Ent) (h : z[z.length - 1 - j]? = some x) (hj : j < z.length) : (turnE z 1)[j]? = some x := by
  unfold turnE
  rw [if_pos rfl, List.getElem?_reverse hj]
  exact h
theorem turnE_not (z : List Ent) (i j : Nat) (hi : i ≠ 1) : (turnE z i)[j]? = z[j]? := by unfold turnE; rw [if_neg hi]
def zeroE : Ent := ⟨0, ⟨#[]⟩, 0, 0, false⟩
theorem made_zero (m : Nat) : (madeCells #[.int .i64 0, .string ⟨#[]⟩, .int .i64 0, .int .i64 0, .bool false] (m * 5)).toList = encE (List.replicate m zeroE) := by
  induction m with
  | zero => simp [madeCells, encE]
  | succ m ih =>
    rw [List.replicate_succ', encE_snoc, ← ih]
    unfold madeCells
    rw [show (m + 1) * 5 = m * 5 + 1 + 1 + 1 + 1 + 1 by omega]
    simp only [Array.range_succ, Array.toList_map, Array.toList_append, List.map_append, List.append_assoc]
    congr 1
    simp [zeroE, Ent.cells, Nat.add_mod]
/-- What the first rows of the memory hold, and the marks behind. -/
def FullE (z : List Ent) (n k t s : Nat) (F : List Ent) : Prop := F.length = n + 64 ∧ F.take t = (turnE z k).take t ∧ ∀ j, j < s → F[n + j]? = some (markE 998)
theorem FullE.step {z : List Ent} {n k t : Nat} {F : List Ent} (h : FullE z n k t 0 F) (hz : z.length = n) (ht : t < n) {x : Ent} (hx : (turnE z k)[t]? = some x) : FullE z n k (t + 1) 0 (F.set t x) := by
  obtain ⟨h1, h2, _⟩ := h
  refine ⟨by simpa using h1, ?_, fun j hj => absurd hj (Nat.not_lt_zero _)⟩
  rw [List.take_add_one, List.take_add_one, List.take_set_of_le (Nat.le_refl _), h2, hx, List.getElem?_set_self (by omega)]
theorem FullE.mark {z : List Ent} {n k s : Nat} {F : List Ent} (h : FullE z n k n s F) (hs : s < 64) : FullE z n k n (s + 1) (F.set (n + s) (markE 998)) := by
  obtain ⟨h1, h2, h3⟩ := h
  refine ⟨by simpa using h1, by rw [List.take_set_of_le (Nat.le_add_right _ _)]; exact h2, fun j hj => ?_⟩
  by_cases e : j = s
  · subst e; exact List.getElem?_set_self (by omega)
  · rw [List.getElem?_set_ne (by omega)]; exact h3 j (by omega)

theorem below_set5 {B : Nat} {a w : World} (h : Below B a w) {g j : Nat} (hg : B ≤ g) (u0 u1 u2 u3 u4 : Value) : Below B a (((((w.setCell ⟨g, j * 5, none⟩ u0).setCell ⟨g, j * 5 + 1, none⟩ u1).setCell ⟨g, j * 5 + 2, none⟩ u2).setCell ⟨g, j * 5 + 3, none⟩ u3).setCell ⟨g, j * 5 + 4, none⟩ u4) :=
  ((((h.setCell (p := ⟨g, j * 5, none⟩) hg u0).setCell (p := ⟨g, j * 5 + 1, none⟩) hg u1).setCell (p := ⟨g, j * 5 + 2, none⟩) hg u2).setCell (p := ⟨g, j * 5 + 3, none⟩) hg u3).setCell (p := ⟨g, j * 5 + 4, none⟩) hg u4
theorem own_set5 {w : World} {base : Nat} {e : TypeId} {size : Nat} {v : Value} {n : Nat} {xs : List Value} (h : w.ownsRow base e size v n xs) {g j : Nat} (hp : v.ownBlock ≠ some g) (u0 u1 u2 u3 u4 : Value) : (((((w.setCell ⟨g, j * 5, none⟩ u0).setCell ⟨g, j * 5 + 1, none⟩ u1).setCell ⟨g, j * 5 + 2, none⟩ u2).setCell ⟨g, j * 5 + 3, none⟩ u3).setCell ⟨g, j * 5 + 4, none⟩ u4).ownsRow base e size v n xs :=
  own_setCell (own_setCell (own_setCell (own_setCell (own_setCell h (p := ⟨g, j * 5, none⟩) hp u0) (p := ⟨g, j * 5 + 1, none⟩) hp u1) (p := ⟨g, j * 5 + 2, none⟩) hp u2) (p := ⟨g, j * 5 + 3, none⟩) hp u3) (p := ⟨g, j * 5 + 4, none⟩) hp u4
/-- A round of the filling. -/
theorem turnRound {y1 : World} {te : TypeId} {z : List Ent} {n k t g gn capn : Nat} {F : List Ent} {x : Ent} (hF : FullE z n k (t + 1) 0 (F.set t x)) (ht : t < n) (hS : (turnE z k).take (t + 1) = (turnE z k).take t ++ [x])
    (hfn : y1.ownsRow g te 5 (.slice (some ⟨g, 0, none⟩) (n + 64) (n + 64)) (n + 64) (encE F)) (hnow : y1.ownsRow (g + 1) te 5 (.slice (some ⟨gn, 0, none⟩) (t + 1) capn) (t + 1) (encE ((turnE z k).take t) ++ x.cells)) :
    ∃ F', FullE z n k (t + 1) 0 F' ∧ (((((y1.setCell ⟨g, t * 5, none⟩ (.int .i64 x.v)).setCell ⟨g, t * 5 + 1, none⟩ (.string x.c)).setCell ⟨g, t * 5 + 2, none⟩ (.int .i64 x.i)).setCell ⟨g, t * 5 + 3, none⟩ (.int .i64 x.s)).setCell ⟨g, t * 5 + 4, none⟩ (.bool x.d)).ownsRow g te 5 (.slice (some ⟨g, 0, none⟩) (n + 64) (n + 64)) (n + 64) (encE F')
      ∧ (((((y1.setCell ⟨g, t * 5, none⟩ (.int .i64 x.v)).setCell ⟨g, t * 5 + 1, none⟩ (.string x.c)).setCell ⟨g, t * 5 + 2, none⟩ (.int .i64 x.i)).setCell ⟨g, t * 5 + 3, none⟩ (.int .i64 x.s)).setCell ⟨g, t * 5 + 4, none⟩ (.bool x.d)).ownsRow (g + 1) te 5 (.slice (some ⟨gn, 0, none⟩) (t + 1) capn) (t + 1) (encE ((turnE z k).take (t + 1))) := by
  refine ⟨_, hF, own_setE hfn (by omega) x, ?_⟩
  rw [hS, encE_snoc]
  refine own_set5 hnow (fun e => ?_) _ _ _ _ _
  have := (hnow.lt _ e).1
  omega
theorem FullE.all {z : List Ent} {n k s : Nat} {F : List Ent} (h : FullE z n k n s F) (hz : z.length = n) : F.take n = turnE z k := by
  rw [h.2.1, List.take_of_length_le (by rw [turnE_length, hz]; exact Nat.le_refl _)]
theorem boxLies {wr y1 : World} {g gn capn t : Nat} {te : TypeId} {lv : Value} {L : List Value} {x : Ent} {te1 te2 : TypeId} (hnow : wr.ownsRow (g + 1) te 5 lv t L) (hg : g < wr.heap.size)
    (hl : Lies ((wr.alloc (Obj.cells #[.int .i64 x.v, .string x.c, .int .i64 x.i, .int .i64 x.s, .bool x.d] te1)).alloc (Obj.cells #[.int .i64 x.v, .string x.c, .int .i64 x.i, .int .i64 x.s, .bool x.d] te2)) y1 lv t gn capn) :
    y1.cell? ⟨wr.heap.size, 0, none⟩ = some (.int .i64 x.v) ∧ y1.cell? ⟨wr.heap.size, 1, none⟩ = some (.string x.c) ∧ y1.cell? ⟨wr.heap.size, 2, none⟩ = some (.int .i64 x.i) ∧ y1.cell? ⟨wr.heap.size, 3, none⟩ = some (.int .i64 x.s) ∧ y1.cell? ⟨wr.heap.size, 4, none⟩ = some (.bool x.d) := by
  have hb := hl.block (k := wr.heap.size) (by simp; omega) (fun e => by have := (hnow.lt _ e).2; omega)
  have h : ∀ j, y1.cell? ⟨wr.heap.size, j, none⟩ = (#[.int .i64 x.v, .string x.c, .int .i64 x.i, .int .i64 x.s, .bool x.d] : Array Value)[j]? := fun j => by
    rw [← alloc2_fst wr #[.int .i64 x.v, .string x.c, .int .i64 x.i, .int .i64 x.s, .bool x.d] #[.int .i64 x.v, .string x.c, .int .i64 x.i, .int .i64 x.s, .bool x.d] te1 te2 j]
    exact World.cell?_of_block hb
  exact ⟨h 0, h 1, h 2, h 3, h 4⟩

set_option maxRecDepth 100000 in
set_option maxHeartbeats 4000000 in
theorem MergeOrder_walk (sa0 : Array Value) (z0 : Ent) (sa1 : Array Value) (z1 : Ent) (v : Value) (z : List Ent) (w : World) (h0 : IsEnt sa0.toList z0) (h1 : IsEnt sa1.toList z1) (h2 : IsSl w 5 48 IsEnt [v] z) :
    Calls Try.prog 4 #[.agg sa0, .agg sa1, v] w fun e w' => e = .returned (.bool true) ∧ Below w.heap.size w w' := by
  obtain ⟨hz1, hz2⟩ := h2
  obtain ⟨p, cap, rfl, hp⟩ : ∃ (p : Option Addr) (cap : Nat), v = .slice p z.length cap ∧ ∀ (i : Nat) (x : Ent), z[i]? = some x → ∃ a, p = some a ∧ Five w (a.add (i * 5)) x := by
    rcases hz2 with ⟨h, rfl⟩ | ⟨a, cap, h, _, _, hc⟩
    · cases h
      exact ⟨none, 0, rfl, fun i x hx => by simp at hx⟩
    · cases h
      refine ⟨some a, cap, rfl, fun i x hx => ?_⟩
      obtain ⟨c, _, hr, hcell⟩ := hc i x hx
      obtain ⟨rfl, _⟩ := hr
      exact ⟨a, rfl, Five.of hcell⟩
  obtain rfl : sa0 = #[.int .i64 z0.v, .string z0.c, .int .i64 z0.i, .int .i64 z0.s, .bool z0.d] := by rw [← Array.toList_inj, h0.1]; rfl
  obtain rfl : sa1 = #[.int .i64 z1.v, .string z1.c, .int .i64 z1.i, .int .i64 z1.s, .bool z1.d] := by rw [← Array.toList_inj, h1.1]; rfl
  obtain ⟨n, hn⟩ : ∃ n, z.length = n := ⟨_, rfl⟩
  rw [hn] at hz1 ⊢
  obtain ⟨i0, hi, hy0, hy1, hy2⟩ := info_parts entinfo
  have hmk := fun W : World => run_make (P := Try.prog) W 25 24 i0 _ Try.underlying25 hi hy0 .i64 .i64 (n + 64) (n + 64) (by omega) (by omega) (by rw [hy2]; omega) (by omega)
  simp only [hy1] at hmk
  have HN := Lib.hid hn
  have HP := Lib.hid hp
  have C01 := Lib.hid (fun W => Compare_calls z0 z1 W)
  have C10 := Lib.hid (fun W => Compare_calls z1 z0 W)
  have C00 := Lib.hid (fun W => Compare_calls z0 z0 W)
  have R01 := Lib.hid (fun W => RefCompare_calls z0 z1 W)
  have R10 := Lib.hid (fun W => RefCompare_calls z1 z0 W)
  rw [cmpE_refl] at C00
  obtain ⟨k01, hk01⟩ : ∃ k, cmpE z0 z1 = k := ⟨_, rfl⟩
  obtain ⟨k10, hk10⟩ : ∃ k, cmpE z1 z0 = k := ⟨_, rfl⟩
  rw [hk01] at C01 R01
  rw [hk10] at C10 R10
  clear hk01 hk10 hn hp hz2 h0 h1
  go_enter Try.func4, Try.ntmps4
  go_wp2
  obtain ⟨W, hW, hbl, hx, hy⟩ := box2 w #[.int .i64 z0.v, .string z0.c, .int .i64 z0.i, .int .i64 z0.s, .bool z0.d] #[.int .i64 z1.v, .string z1.c, .int .i64 z1.i, .int .i64 z1.s, .bool z1.d] 24 24
  have x0 := hx 0
  have x1 := hx 1
  have x2 := hx 2
  have x3 := hx 3
  have x4 := hx 4
  have y0 := hy 0
  have y1 := hy 1
  have y2 := hy 2
  have y3 := hy 3
  have y4 := hy 4
  simp only [List.getElem?_toArray, List.getElem?_cons_zero, List.getElem?_cons_succ] at x0 x1 x2 x3 x4 y0 y1 y2 y3 y4
  have l0 : w.heap.size < W.heap.size := cell_lt x0
  have l1 : w.heap.size + 1 < W.heap.size := cell_lt y0
  rw [hW]
  clear hW hx hy
  go_region_held3 (fun W => W.cell? ⟨w.heap.size, 0, none⟩ = some (.int .i64 z0.v) ∧ W.cell? ⟨w.heap.size, 1, none⟩ = some (.string z0.c) ∧ W.cell? ⟨w.heap.size, 2, none⟩ = some (.int .i64 z0.i) ∧ W.cell? ⟨w.heap.size, 3, none⟩ = some (.int .i64 z0.s) ∧ W.cell? ⟨w.heap.size, 4, none⟩ = some (.bool z0.d) ∧ W.cell? ⟨w.heap.size + 1, 0, none⟩ = some (.int .i64 z1.v) ∧ W.cell? ⟨w.heap.size + 1, 1, none⟩ = some (.string z1.c) ∧ W.cell? ⟨w.heap.size + 1, 2, none⟩ = some (.int .i64 z1.i) ∧ W.cell? ⟨w.heap.size + 1, 3, none⟩ = some (.int .i64 z1.s) ∧ W.cell? ⟨w.heap.size + 1, 4, none⟩ = some (.bool z1.d))
    (first | exact sE | exact sD | exact sC | exact sB | exact sA | exact ⟨x0, x1, x2, x3, x4, y0, y1, y2, y3, y4⟩)
    (first | (have _t := sD; clear _t; go_at_call 10; refine (C00.out _).mono ?_; rintro e wE ⟨rfl, hE⟩; have sE := keepBox hE sD) | (have _t := sC; clear _t; go_at_call 11; refine (R10.out _).mono ?_; rintro e wD ⟨rfl, hD⟩; have sD := keepBox hD sC) | (have _t := sB; clear _t; go_at_call 10; refine (C10.out _).mono ?_; rintro e wC ⟨rfl, hC⟩; have sC := keepBox hC sB) | (have _t := sA; clear _t; go_at_call 11; refine (R01.out _).mono ?_; rintro e wB ⟨rfl, hB⟩; have sB := keepBox hB sA) | (go_at_call 10; refine (C01.out _).mono ?_; rintro e wA ⟨rfl, hA⟩; have sA := keepBox hA ⟨x0, x1, x2, x3, x4, y0, y1, y2, y3, y4⟩))
  have hs1 : w.heap.size + 1 < wE.heap.size := Nat.lt_of_lt_of_le l1 (Nat.le_trans hA.size (Nat.le_trans hB.size (Nat.le_trans hC.size (Nat.le_trans hD.size hE.size))))
  have hb0 : Below W.heap.size W wE := by
    have a1 : Below W.heap.size W wA := (drewN_below W.heap.size W 1).trans hA
    have a2 := a1.trans (hB.mono a1.size)
    have a3 := a2.trans (hC.mono a2.size)
    have a4 := a3.trans (hD.mono a3.size)
    exact a4.trans (hE.mono a4.size)
  have hb1 : Below w.heap.size w wE := hbl.trans (hb0.mono (Nat.le_of_lt l0))
  clear sA sB sC sD sE hA hB hC hD hE hb0 x0 x1 x2 x3 x4 y0 y1 y2 y3 y4 l0 l1 hbl C01 C10 C00 R01 R10
  obtain ⟨g, hg⟩ : ∃ g, wE.heap.size = g := ⟨_, rfl⟩
  have hwg : w.heap.size ≤ g := by omega
  have hmk0 := hmk wE
  clear hmk
  rw [hg] at hmk0
  go_wp2
  obtain ⟨w1, hw1⟩ : ∃ w1, wE.alloc (.cells (madeCells #[.int .i64 0, .string ⟨#[]⟩, .int .i64 0, .int .i64 0, .bool false] ((n + 64) * 5)) 24) = w1 := ⟨_, rfl⟩
  have hf1 : w1.ownsRow g 24 5 (.slice (some ⟨g, 0, none⟩) (n + 64) (n + 64)) (n + 64) (encE (List.replicate (n + 64) zeroE)) := by
    rw [← hw1, ← hg, ← made_zero]
    exact World.ownsRow_lit wE _ (n + 64) (Nat.le_refl _) (by unfold maxLen; omega) (by simp [madeCells])
  have hb2 : Below w.heap.size w w1 := by rw [← hw1]; exact hb1.alloc (by omega) _
  have hs2 : g < w1.heap.size := by rw [← hw1, ← hg]; simp
  have HF1 := Lib.hid hf1
  rw [hw1]
  clear hw1 hf1 hmk0 hb1 hs1 hg
  have HTL : ∀ k, Hid ((turnE z k).length = n) := fun k => Lib.hid (by rw [turnE_length, HN.out])
  go_loopw [9] (fun i ws => ∃ (k : Nat), k ≤ 3 ∧ i = .int .i64 k ∧ Below w.heap.size w ws ∧ g < ws.heap.size ∧ Hid (∃ F, ws.ownsRow g 24 5 (.slice (some ⟨g, 0, none⟩) (n + 64) (n + 64)) (n + 64) (encE F))) (fun i _ => 3 - (intOf i).toNat)
  case atStart => exact ⟨0, by omega, rfl, hb2, hs2, Lib.hid ⟨_, HF1.out⟩⟩
  case round =>
    obtain ⟨k, hk, rfl, hbl, hsz, HF⟩ := hrel
    obtain ⟨wo, rfl⟩ : ∃ wo : World, wo = wr := ⟨_, rfl⟩
    clear hb2 hs2 HF1
    by_cases hlt : k < 3
    · have hd3 : decide ((k : Int) < 3) = true := by simp; omega
      go_wp2
      go_loopw [10, 11] (fun v j ws => ∃ (t : Nat) (lv : Value), t ≤ n ∧ j = .int .i64 t ∧ lv = v ∧ Below w.heap.size w ws ∧ g < ws.heap.size ∧ Hid (∃ F, FullE z n k t 0 F ∧ ws.ownsRow g 24 5 (.slice (some ⟨g, 0, none⟩) (n + 64) (n + 64)) (n + 64) (encE F) ∧ ws.ownsRow (g + 1) 24 5 v t (encE ((turnE z k).take t)))) (fun _ j _ => n - (intOf j).toNat)
      case atStart => exact ⟨0, _, Nat.zero_le _, rfl, rfl, hbl, hsz, Lib.hid (by
        obtain ⟨F, hF⟩ := HF.out
        exact ⟨F, ⟨own_lenE hF, rfl, fun j hj => absurd hj (Nat.not_lt_zero _)⟩, hF, World.ownsRow_nil _ _ _ _⟩)⟩
      case round =>
        obtain ⟨t, lv, ht, rfl, rfl, hbl2, hsz2, HH⟩ := hrel
        by_cases hltt : t < n
        · obtain ⟨F, hFE, hfull, hnow⟩ := HH.out
          obtain ⟨x, hx⟩ : ∃ x, (turnE z k)[t]? = some x := ⟨_, List.getElem?_eq_getElem (by rw [(HTL k).out]; exact hltt)⟩
          have HS : Hid ((turnE z k).take (t + 1) = (turnE z k).take t ++ [x]) := Lib.hid (by rw [List.take_add_one, hx]; rfl)
          have HFN := Lib.hid (hFE.step HN.out hltt hx)
          have hnf : ∀ b, lv.ownBlock = some b → (Value.slice (some (⟨g, 0, none⟩ : Addr)) (n + 64) (n + 64)).ownBlock ≠ some b := fun b hb e => by
            have := (hnow.lt b hb).1
            have : g = b := Option.some.inj e
            omega
          by_cases hk1 : k = 1
          · have hk1b : ((k : Int) == 1) = true := by rw [beq_iff_eq]; omega
            obtain ⟨d, hd⟩ : ∃ d, n - 1 - t = d := ⟨_, rfl⟩
            have hdi : (n : Int) - 1 - (t : Int) = (d : Int) := by omega
            have hdn : d < n := by omega
            obtain ⟨x', hx'⟩ : ∃ x', z[t]? = some x' := ⟨_, List.getElem?_eq_getElem (by rw [HN.out]; exact hltt)⟩
            obtain ⟨x2, hx2⟩ : ∃ x2, z[d]? = some x2 := ⟨_, List.getElem?_eq_getElem (by rw [HN.out]; exact hdn)⟩
            obtain rfl : x2 = x := by
              have := turnE_one z t x2 (by rw [HN.out, hd]; exact hx2) (by rw [HN.out]; exact hltt)
              rw [← hk1, hx] at this
              exact (Option.some.inj this).symm
            obtain ⟨ad, rfl, f0⟩ := HP.out t x' hx'
            obtain ⟨ad1, he, f1⟩ := HP.out d x2 hx2
            cases he
            obtain ⟨u0, u1, u2, u3, u4⟩ := f0.below hbl2 f0.lt
            obtain ⟨v0, v1, v2, v3, v4⟩ := f1.below (hbl2.alloc (o := .cells #[.int .i64 x'.v, .string x'.c, .int .i64 x'.i, .int .i64 x'.s, .bool x'.d] 24) (by omega)) f1.lt
            clear f0 f1 hx hx' hx2 hd hFE hk1
            obtain ⟨xo, hxo⟩ : ∃ xo, F[t]? = some xo := ⟨_, List.getElem?_eq_getElem (by rw [own_lenE hfull]; omega)⟩
            go_wp2_with (at_builtin; refine wpList_append_two _ rfl _ _ 25 rfl (g + 1) 24 i0 _ 5 48 Try.underlying25 hi hy0 hy1 hy2 rfl (by decide) lv t _ rfl ((hnow.alloc _).alloc _) ⟨wr.heap.size + 1, 0, none⟩ 1 1 x2.cells rfl rfl (World.news_of_block (by simpa using heap_alloc_new (wr.alloc _) _)) (by simp [Ent.cells, Value.oneCell']) (by decide) (by unfold maxLen; omega) (by omega) (by simp; omega) ?_; intro gn capn y1 hown' hold hlies hlt2; have hfn := hlies.own ((hfull.alloc _).alloc _) (fun b hb e => hnf b e hb); obtain ⟨q0, q1, q2, q3, q4⟩ := own_fiveE hfn hxo; have g0 := hfn.frozenAt (t * 5); have g1 := hfn.frozenAt (t * 5 + 1); have g2 := hfn.frozenAt (t * 5 + 2); have g3 := hfn.frozenAt (t * 5 + 3); have g4 := hfn.frozenAt (t * 5 + 4); obtain ⟨b0, b1, b2, b3, b4⟩ := boxLies hnow hsz2 hlies)
            have hbn := below_set5 (j := t) (hlies.below ((hbl2.alloc (by omega) _).alloc (by simp; omega) _) (by simp; omega) (fun b hb => by have := (hnow.lt b hb).1; omega)) hwg (.int .i64 x2.v) (.string x2.c) (.int .i64 x2.i) (.int .i64 x2.s) (.bool x2.d)
            have hzs : g < y1.heap.size := by have := hlies.row.size; simp at this; omega
            have HNN := Lib.hid (turnRound HFN.out hltt HS.out hfn hown')
            go_roundw
            case rel => exact ⟨t + 1, _, by omega, by go_num, rfl, hbn, by simpa using hzs, HNN⟩
            case measure => simp [intOf]; omega
          · have hk1b : ((k : Int) == 1) = false := by rw [beq_eq_false_iff_ne]; omega
            obtain ⟨ad, rfl, f0⟩ := HP.out t x (by rw [← turnE_not z k t hk1]; exact hx)
            obtain ⟨u0, u1, u2, u3, u4⟩ := f0.below hbl2 f0.lt
            clear f0 hx hFE hk1
            obtain ⟨xo, hxo⟩ : ∃ xo, F[t]? = some xo := ⟨_, List.getElem?_eq_getElem (by rw [own_lenE hfull]; omega)⟩
            go_wp2_with (at_builtin; refine wpList_append_two _ rfl _ _ 25 rfl (g + 1) 24 i0 _ 5 48 Try.underlying25 hi hy0 hy1 hy2 rfl (by decide) lv t _ rfl ((hnow.alloc _).alloc _) ⟨wr.heap.size + 1, 0, none⟩ 1 1 x.cells rfl rfl (World.news_of_block (by simpa using heap_alloc_new (wr.alloc _) _)) (by simp [Ent.cells, Value.oneCell']) (by decide) (by unfold maxLen; omega) (by omega) (by simp; omega) ?_; intro gn capn y1 hown' hold hlies hlt2; have hfn := hlies.own ((hfull.alloc _).alloc _) (fun b hb e => hnf b e hb); obtain ⟨q0, q1, q2, q3, q4⟩ := own_fiveE hfn hxo; have g0 := hfn.frozenAt (t * 5); have g1 := hfn.frozenAt (t * 5 + 1); have g2 := hfn.frozenAt (t * 5 + 2); have g3 := hfn.frozenAt (t * 5 + 3); have g4 := hfn.frozenAt (t * 5 + 4); obtain ⟨b0, b1, b2, b3, b4⟩ := boxLies hnow hsz2 hlies)
            have hbn := below_set5 (j := t) (hlies.below ((hbl2.alloc (by omega) _).alloc (by simp; omega) _) (by simp; omega) (fun b hb => by have := (hnow.lt b hb).1; omega)) hwg (.int .i64 x.v) (.string x.c) (.int .i64 x.i) (.int .i64 x.s) (.bool x.d)
            have hzs : g < y1.heap.size := by have := hlies.row.size; simp at this; omega
            have HNN := Lib.hid (turnRound HFN.out hltt HS.out hfn hown')
            go_roundw
            case rel => exact ⟨t + 1, _, by omega, by go_num, rfl, hbn, by simpa using hzs, HNN⟩
            case measure => simp [intOf]; omega
        · obtain rfl : t = n := by omega
          clear hltt ht
          have HM : Hid (∀ W : World, Calls Try.prog 12 #[.int .i64 998] W fun e w' => e = .returned (.agg #[.int .i64 (-998), .string ⟨#[109, 97, 114, 107]⟩, .int .i64 (-998), .int .i64 (-998), .bool false]) ∧ Below W.heap.size W w') := Lib.hid (fun W => mark_calls 998 (by decide) (by decide) W)
          obtain ⟨wp, rfl⟩ : ∃ wp : World, wp = wr := ⟨_, rfl⟩
          go_wp2
          go_loopw [13] (fun j ws => ∃ (s q : Nat), s ≤ 64 ∧ Hid (q = t + s) ∧ j = .int .i64 (q : Nat) ∧ Below w.heap.size w ws ∧ g < ws.heap.size ∧ Hid (∃ F, FullE z t k t s F ∧ ws.ownsRow g 24 5 (.slice (some ⟨g, 0, none⟩) (t + 64) (t + 64)) (t + 64) (encE F) ∧ ws.ownsRow (g + 1) 24 5 lv t (encE ((turnE z k).take t)))) (fun j _ => t + 64 - (intOf j).toNat)
          case atStart => exact ⟨0, t, by omega, Lib.hid rfl, rfl, hbl2, hsz2, HH⟩
          case round =>
            obtain ⟨s, q, hs, hq, rfl, hbl3, hsz3, HH⟩ := hrel
            by_cases hls : s < 64
            · obtain ⟨F, hFE, hfull, hnow⟩ := HH.out
              have hqq := hq.out
              have hii : (q : Int) < (t : Int) + 64 := by omega
              have hqn : q < t + 64 := by omega
              have hd6 : decide ((q : Int) < (t : Int) + 64) = true := by simp; omega
              obtain ⟨xo, hxo⟩ : ∃ xo, F[q]? = some xo := ⟨_, List.getElem?_eq_getElem (by rw [own_lenE hfull]; omega)⟩
              have HFN := Lib.hid (hqq ▸ hFE.mark hls : FullE z t k t (s + 1) (F.set q (markE 998)))
              clear hqq hFE
              go_wp2_with (refine (HM.out _).mono ?_; rintro e y1 ⟨rfl, hb9⟩; have hfn := own_belowAll hfull hb9; have hnn := own_belowAll hnow hb9; obtain ⟨q0, q1, q2, q3, q4⟩ := own_fiveE hfn hxo; have g0 := hfn.frozenAt (q * 5); have g1 := hfn.frozenAt (q * 5 + 1); have g2 := hfn.frozenAt (q * 5 + 2); have g3 := hfn.frozenAt (q * 5 + 3); have g4 := hfn.frozenAt (q * 5 + 4))
              have hsz4 : g < y1.heap.size := Nat.lt_of_lt_of_le hsz3 hb9.size
              have hbn := below_set5 (j := q) (hbl3.trans (hb9.mono (by omega))) hwg (.int .i64 (-998)) (.string ⟨#[109, 97, 114, 107]⟩) (.int .i64 (-998)) (.int .i64 (-998)) (.bool false)
              have hN1 := own_setE hfn hqn (markE 998)
              have hN2 := own_set5 (g := g) (j := q) hnn (fun e => by have := (hnn.lt _ e).1; omega) (.int .i64 (-998)) (.string ⟨#[109, 97, 114, 107]⟩) (.int .i64 (-998)) (.int .i64 (-998)) (.bool false)
              have HNN := Lib.hid (And.intro hN1 hN2)
              clear hN1 hN2
              go_roundw
              case rel => exact ⟨s + 1, q + 1, by omega, Lib.hid (by have := hq.out; omega), by go_num, hbn, by simpa using hsz4, Lib.hid ⟨_, HFN.out, HNN.out.1, HNN.out.2⟩⟩
              case measure => simp [intOf]; omega
            · obtain rfl : s = 64 := by omega
              obtain ⟨F, hFE, hfull, hnow⟩ := HH.out
              obtain rfl : q = t + 64 := hq.out
              have hview := own_takeE hfull (k := t) (by omega)
              rw [hFE.all HN.out] at hview
              rw [List.take_of_length_le (by rw [turnE_length, HN.out]; exact Nat.le_refl _)] at hnow
              have e1 := ESl.of_own hview
              have e2 := ESl.of_own hnow
              have hL : (turnE z k).length < 4611686018427387904 := by rw [turnE_length, HN.out]; omega
              have HCS := Lib.hid (Sorted_calls _ _ hL wr e1)
              have HCE := Lib.hid (fun W (h : Below wr.heap.size wr W) => sameE_true _ _ _ hL W (e1.below h) (e2.below h))
              have HCR := Lib.hid (fun W (h : Below wr.heap.size wr W) => RefSorted_calls _ _ hL W (e2.below h))
              have htail : ∀ j, j < 64 → F[t + j]? = some (markE 998) := hFE.2.2
              have HTA := Lib.hid htail
              have HFU := Lib.hid hfull
              obtain ⟨sr, hsr⟩ : ∃ r, sortedR (turnE z k) = r := ⟨_, rfl⟩
              rw [hsr] at HCS HCR
              obtain ⟨pl, cl, rfl, _, _, _⟩ := own_rd hnow
              clear htail hfull hnow hview e1 e2 hFE HH hsr hL hq
              go_wp2_with fail
              refine HCS.out.mono ?_
              rintro e y1 ⟨rfl, hb1⟩
              go_wp2_with fail
              refine (HCE.out y1 hb1).mono ?_
              rintro e y2 ⟨rfl, hb2⟩
              have hb12 := hb1.trans (hb2.mono hb1.size)
              go_wp2_with fail
              refine (HCR.out y2 hb12).mono ?_
              rintro e y3 ⟨rfl, hb3⟩
              have hb123 := hb12.trans (hb3.mono hb12.size)
              clear hb1 hb2 hb12 hb3
              go_wp2
              go_loopw [16] (fun j ws => ∃ (s q : Nat), s ≤ 64 ∧ Hid (q = t + s) ∧ j = .int .i64 (q : Nat) ∧ Below wr.heap.size wr ws) (fun j _ => t + 64 - (intOf j).toNat)
              case atStart => exact ⟨0, t, by omega, Lib.hid rfl, rfl, hb123⟩
              case round =>
                obtain ⟨s, q, hs, hq, rfl, hb4⟩ := hrel
                by_cases hls : s < 64
                · have hqq := hq.out
                  have hii : (q : Int) < (t : Int) + 64 := by omega
                  have hqn : q < t + 64 := by omega
                  have hd6 : decide ((q : Int) < (t : Int) + 64) = true := by simp; omega
                  have hfn := own_belowAll HFU.out hb4
                  have hFq : F[q]? = some (markE 998) := hqq ▸ HTA.out s hls
                  obtain ⟨q0, q1, q2, q3, q4⟩ := own_fiveE hfn hFq
                  simp only [markE] at q0 q1 q2 q3 q4
                  have hgw : g < wr.heap.size := Nat.lt_of_lt_of_le hsz3 hb4.size
                  obtain ⟨wq, rfl⟩ : ∃ wq : World, wq = wr := ⟨_, rfl⟩
                  clear hfn hFq hqq
                  go_wp2
                  go_region_held3 (fun W => W.cell? ⟨g, q * 5, none⟩ = some (.int .i64 (-998)) ∧ W.cell? ⟨g, q * 5 + 1, none⟩ = some (.string ⟨#[109, 97, 114, 107]⟩) ∧ W.cell? ⟨g, q * 5 + 2, none⟩ = some (.int .i64 (-998)) ∧ W.cell? ⟨g, q * 5 + 3, none⟩ = some (.int .i64 (-998)) ∧ W.cell? ⟨g, q * 5 + 4, none⟩ = some (.bool false))
                    (first | exact ⟨(hb9.cell (p := ⟨g, q * 5, none⟩) hgw).trans q0, (hb9.cell (p := ⟨g, q * 5 + 1, none⟩) hgw).trans q1, (hb9.cell (p := ⟨g, q * 5 + 2, none⟩) hgw).trans q2, (hb9.cell (p := ⟨g, q * 5 + 3, none⟩) hgw).trans q3, (hb9.cell (p := ⟨g, q * 5 + 4, none⟩) hgw).trans q4⟩ | exact ⟨q0, q1, q2, q3, q4⟩)
                    (first | (go_at_call 12; refine (HM.out _).mono ?_; rintro e y9 ⟨rfl, hb9⟩))
                  have hb5 := (below_drewN hb4 1).trans ((show Below wq.drew.heap.size wq.drew y9 from hb9).mono hb4.size)
                  clear hb9
                  go_wp2
                  go_roundw
                  case rel => exact ⟨s + 1, q + 1, by omega, Lib.hid (by have := hq.out; omega), by go_num, hb5⟩
                  case measure => simp [intOf]; omega
                · obtain rfl : s = 64 := by omega
                  obtain rfl : q = t + 64 := hq.out
                  go_wp2
                  go_roundw
                  case rel => exact ⟨k + 1, by omega, by go_num, hbl3.trans (hb4.mono (by omega)), Nat.lt_of_lt_of_le hsz3 hb4.size, Lib.hid ⟨_, own_belowAll HFU.out hb4⟩⟩
                  case measure => simp [intOf]; omega
    · obtain rfl : k = 3 := by omega
      go_wp2
      go_ret
      exact ⟨rfl, hbl⟩
end Go.Proofs.Ytahdaccmokjgpaa
