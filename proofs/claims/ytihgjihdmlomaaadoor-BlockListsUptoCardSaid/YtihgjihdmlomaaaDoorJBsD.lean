/-
  WALK: the iterator over a file's blocks (the function that blocks hands out), for every loop body: it counts in the file's own cell and keeps its place in a cell, so its contract says which stores it makes.
-/
import Derived.Test.YtihgjihdmlomaaaDoorJI
import Derived.RangeFuncNested
import Derived.RangeFuncBound
import Derived.RangeFuncCalls
import Derived.RangeFuncLeaves
import Derived.Shelf.Abstract
import Derived.Shelf.RegionOpen
import Derived.WalkKit
import Derived.OwnWalkIn
import Derived.TacticsInMore
import Derived.LoopNIn
import Derived.LoopIn
namespace Go.Proofs.YtihgjihdmlomaaaDoor
open Go.RowKit ArgK Go.Shelf
set_option linter.unusedVariables false
attribute [local go_sem] Oper.semAt_some

/-- The iterator's cells, at block i, r blocks read. -/
def ItAt (W : World) (base fb b6 b2 b7 first : Nat) (h : Hd) (l : List Ent) (i : Nat) (r : Nat) : Prop :=
  W.heap[b6]? = some (.cells #[.int .i64 (first : Int)] 3 (0, 0)) ∧ W.heap[b2]? = some (.cells #[.pointer (some ⟨fb, 0, none⟩)] 36 (0, 0)) ∧ W.heap[b7]? = some (.cells #[.int .i64 ((offL (linesB h l) i : Nat) : Int)] 3 (0, 0)) ∧ FileAt W base fb h l r

/-- The slice of block i. -/
def blkV (g lc : Nat) (ls : List Ln) (i : Nat) : Value := .slice (some ⟨g, offL ls i * 5, none⟩) (offL ls (i + 1) - offL ls i) (lc - offL ls i)

/-- What the steps between two rounds are to be borne by. -/
structure Bears (base fb b6 b2 b7 first : Nat) (h : Hd) (l : List Ent) (lp : Option Addr) (lc r0 N : Nat) (J J1 J2 : Nat → World → Prop) : Prop where
  it : ∀ i W, J i W → first ≤ i ∧ ItAt W base fb b6 b2 b7 first h l i (r0 + (i - first)) ∧ ∃ q c, W.heap[fb]? = some (.cells #[.int .i64 h.w, .int .i64 h.t, .int .i64 h.b, .int .i64 h.lo, .int .i64 h.hi, .int .i64 h.n, .slice lp l.length lc, .slice q N c, .int .i64 ((r0 + (i - first) : Nat) : Int)] 87 (0, 0))
  s1 : ∀ i W n, J i W → i < N → J1 i ((W.setCell ⟨fb, 8, none⟩ (.int .i64 ((r0 + (i - first) : Nat) + 1 : Int))).drewN n)
  it1 : ∀ i W, J1 i W → first ≤ i ∧ ItAt W base fb b6 b2 b7 first h l i (r0 + (i - first) + 1) ∧ ∃ q c, W.heap[fb]? = some (.cells #[.int .i64 h.w, .int .i64 h.t, .int .i64 h.b, .int .i64 h.lo, .int .i64 h.hi, .int .i64 h.n, .slice lp l.length lc, .slice q N c, .int .i64 ((r0 + (i - first) + 1 : Nat) : Int)] 87 (0, 0))
  d1 : ∀ i W n, J1 i W → J1 i (W.drewN n)
  it2 : ∀ i W, J2 i W → ∃ v, W.heap[b7]? = some (.cells #[v] 3 (0, 0))
  s2 : ∀ i W, J2 i W → i < N → J (i + 1) (W.setCell ⟨b7, 0, none⟩ (.int .i64 ((offL (linesB h l) (i + 1) : Nat) : Int)))

set_option maxRecDepth 100000 in
set_option maxHeartbeats 4000000 in
theorem iter_calls (base fb b6 b2 b7 first : Nat) (h : Hd) (l : List Ent) (lp : Option Addr) (g lc r0 N : Nat) (hlp : 0 < N → lp = some ⟨g, 0, none⟩) (hN : (linesB h l).length = N) (hN2 : N ≤ 2097152) (hsum : ((linesB h l).map Ln.count).sum = l.length) (hl2 : l.length ≤ 2097152) (hlc : l.length ≤ lc) (hcp : ∀ x ∈ linesB h l, 0 < x.count) (hr0 : r0 ≤ 4611686018427387904)
    (J J1 J2 Jx : Nat → World → Prop) (hB : Bears base fb b6 b2 b7 first h l lp lc r0 N J J1 J2) (L n : Nat)
    (hY : ∀ i W, J1 i W → i < N → YieldAt Fence.wide (n - 1) Tryd.prog L #[blkV g lc (linesB h l) i] W fun e W' => (e = .returned (.bool true) ∧ J2 i W') ∨ (e = .returned (.bool false) ∧ Jx i W')) (W : World) (h0 : J first W) :
    Calls Tryd.prog 77 #[.func (.yield L) #[] #[], .pointer (some ⟨b6, 0, none⟩), .pointer (some ⟨b2, 0, none⟩), .pointer (some ⟨b7, 0, none⟩)] W fun e W' => (∃ v, e = .returned v) ∧ ((∃ i, N ≤ i ∧ J i W') ∨ (∃ i, i < N ∧ Jx i W')) := by
  obtain ⟨ls, hls⟩ : ∃ ls, linesB h l = ls := ⟨_, rfl⟩
  have HB := Lib.hid hB
  have HY := Lib.hid hY
  have H0 := Lib.hid h0
  have HLS := Lib.hid hls
  have hfirst : W.cell? ⟨b6, 0, none⟩ = some (.int .i64 (first : Int)) := (arr_cell (hB.it _ _ h0).2.1.1 (k := 0) rfl).1
  clear hB hY h0 hls
  go_enter Tryd.func77, Tryd.ntmps77
  go_wp2
  go_loopw [5] (fun iv wr => ∃ i : Nat, iv = .int .i64 i ∧ J i wr) (fun iv _ => N - (intOf iv).toNat)
  case atStart => exact ⟨first, rfl, H0.out⟩
  case round =>
    obtain ⟨i, rfl, hJ⟩ := hrel
    obtain ⟨hfi, ⟨k6, k2, k7, hF⟩, q, c, hfb⟩ := HB.out.it i wr hJ
    obtain ⟨x2, _⟩ := arr_cell k2 (k := 0) rfl
    obtain ⟨f7, _⟩ := arr_cell hfb (k := 7) rfl
    obtain ⟨f8, g8⟩ := arr_cell hfb (k := 8) rfl
    by_cases hlt : i < N
    · obtain rfl := hlp (by omega)
      have hJ1 := fun n => HB.out.s1 i wr n hJ hlt
      have HJ1 := Lib.hid hJ1
      obtain ⟨r, hr⟩ : ∃ r, r0 + (i - first) = r := ⟨_, rfl⟩
      rw [hr] at f8
      have hwr : IntKind.i64.wrap ((r : Int) + 1) = (r : Int) + 1 := by rw [IntKind.wrap_i64]; omega
      rw [hr] at hJ1
      have HJ1 := Lib.hid hJ1
      clear hJ1 k6 k2 k7 hF hfb
      go_upto_region 4 with fail
      generalize wr.setCell ⟨fb, 8, none⟩ (.int .i64 ((r : Int) + 1)) = W1 at HJ1 ⊢
      obtain ⟨_, ⟨k6, k2, k7, hF⟩, q, c, hfb⟩ := HB.out.it1 i _ (HJ1.out 0)
      change W1.heap[b2]? = _ at k2
      change W1.heap[b7]? = _ at k7
      change W1.heap[fb]? = _ at hfb
      obtain ⟨lp', lc', q', c', e, hown, hlin, _⟩ := hF
      change W1.heap[fb]? = _ at e
      change W1.ownsRow _ _ _ _ _ _ at hlin
      rw [hfb] at e
      simp only [Option.some.injEq, Obj.cells.injEq, Array.mk.injEq, List.cons.injEq, Value.slice.injEq, and_true, true_and] at e
      rw [HLS.out] at e hlin k7
      obtain ⟨⟨rfl, rfl⟩, rfl, hNl, rfl⟩ := e
      rw [← hNl] at hlin
      obtain ⟨x, hx⟩ : ∃ x, ls[i]? = some x := ⟨_, List.getElem?_eq_getElem (by rw [← hNl]; exact hlt)⟩
      obtain ⟨q', c', e', _, _, hq⟩ := own_rd hlin
      simp only [Value.slice.injEq] at e'
      obtain ⟨rfl, _, rfl⟩ := e'
      obtain ⟨gl, rfl, _, _, _, _⟩ := hq (by omega)
      obtain ⟨_, _, _, _, _, y5, _⟩ := line_cells hlin hx
      obtain ⟨x2, _⟩ := arr_cell k2 (k := 0) rfl
      obtain ⟨x7, _⟩ := arr_cell k7 (k := 0) rfl
      obtain ⟨f6, _⟩ := arr_cell hfb (k := 6) rfl
      obtain ⟨f7, _⟩ := arr_cell hfb (k := 7) rfl
      have i0' : (0 : Int) ≤ (i : Int) := by omega
      have i1' : (i : Int) < (N : Int) := by omega
      have hos := offL_succ hx
      have hol := offL_le ls (i + 1)
      have hxc : 0 < x.count := hcp x (by rw [HLS.out]; exact List.mem_of_getElem? hx)
      rw [HLS.out] at hsum
      obtain ⟨O, hO⟩ : ∃ O, offL ls i = O := ⟨_, rfl⟩
      obtain ⟨O2, hO2⟩ : ∃ O, offL ls (i + 1) = O := ⟨_, rfl⟩
      rw [hO] at x7 hos
      rw [hO2] at hos hol
      have hwO : IntKind.i64.wrap ((O : Int) + (x.count : Int)) = (O2 : Int) := by rw [IntKind.wrap_i64]; omega
      have HO := Lib.hid hO
      have HO2 := Lib.hid hO2
      clear hO hO2 hlin hq hfb k6 k2 k7 hown hx f8 g8
      go_quiet (fail)
      have HJ2 : Hid (J1 i (W1.drewN nq).drew) := Lib.hid (HB.out.d1 i _ 1 (HB.out.d1 i _ nq (HB.out.d1 i _ 0 (HJ1.out 0))))
      have HYi := HY.out i _ HJ2.out hlt
      have z2 : (W1.drewN nq).cell? ⟨b2, 0, none⟩ = some (.pointer (some ⟨fb, 0, none⟩)) := x2
      have z7 : (W1.drewN nq).cell? ⟨b7, 0, none⟩ = some (.int .i64 (O : Int)) := x7
      have z6 : (W1.drewN nq).cell? ⟨fb, 6, none⟩ = some (.slice (some ⟨g, 0, none⟩) l.length lc) := f6
      clear x2 x7 f6 f7 y5
      generalize W1.drewN nq = W2 at *
      obtain ⟨fn, tmps, assign, body, hy, hR⟩ := HYi
      unfold blkV at hy
      rw [HLS.out, HO.out, HO2.out, show O2 - O = x.count by omega] at hy
      have hR2 := hR.mono (R' := fun e W' => ∃ bb : Bool, e = .returned (.bool bb) ∧ ((bb = true ∧ J2 i W') ∨ (bb = false ∧ Jx i W'))) (by
        rintro e W' (⟨h1, h2⟩ | ⟨h1, h2⟩)
        · exact ⟨true, h1, .inl ⟨rfl, h2⟩⟩
        · exact ⟨false, h1, .inr ⟨rfl, h2⟩⟩)
      have ht : ((O : Int) + (x.count : Int)).toNat = O2 := by omega
      have hne : ¬ (lc = O) := by omega
      go_upto_region 5 with fail
      refine (wpIn_wide (n := n)).1 ?_
      have hmx : Tryd.prog.follows .mixedOrders = true := by kernel_rfl
      have l1 : (0 : Int) ≤ (O : Int) := by omega
      have l2 : (O : Int) ≤ (O : Int) + (x.count : Int) := by omega
      have l3 : (O : Int) + (x.count : Int) ≤ (lc : Int) := by omega
      gi_region_with_o (first | (refine ⟨fun h => (by cases h), ?_⟩; refine hR2.mono ?_; rintro e W3 ⟨bb, rfl, h3⟩))
      all_goals
        rcases h3 with ⟨rfl, h3⟩ | ⟨rfl, h3⟩
        · obtain ⟨v7, k7'⟩ := HB.out.it2 i _ h3
          obtain ⟨x7', y7'⟩ := arr_cell k7' (k := 0) rfl
          have hJn := HB.out.s2 i _ h3 hlt
          rw [HLS.out, HO2.out, show ((O2 : Nat) : Int) = (O : Int) + (x.count : Int) by omega] at hJn
          have HJn := Lib.hid hJn
          clear h3 hJn k7' hR2 hR hy z2 z6 z7
          go_wp2
          go_roundw
          case rel => exact ⟨i + 1, by go_num, HJn.out⟩
          case measure => simp [intOf]; omega
        · have HJx := Lib.hid h3
          clear h3 hR2 hR hy z2 z6 z7
          go_wp2
          refine bodyPost_ret (results_none rfl _ _ _) rfl ?_
          exact ⟨⟨_, rfl⟩, .inr ⟨i, hlt, HJx.out⟩⟩
    · have HJ := Lib.hid hJ
      clear k6 k2 k7 hF hfb
      go_wp2
      go_end0
      exact ⟨⟨_, rfl⟩, .inl ⟨i, by omega, HJ.out⟩⟩
end Go.Proofs.YtihgjihdmlomaaaDoor
