/-
  WALK: what the document says of a head and a list.
-/
import Derived.Test.YtihgjihdmlomaaaDoorJBlB
namespace Go.Proofs.YtihgjihdmlomaaaDoor
open Go.RowKit ArgK
set_option linter.unusedVariables false

set_option maxRecDepth 100000 in
set_option maxHeartbeats 4000000 in
theorem goes_bad (h : Hd) (p : Option Addr) (n c : Nat) (hh : headedR h ≠ 0) (w : World) :
    Calls Tryd.prog 35 #[h.val, .slice p n c] w fun e w' => e = .returned (.int .i64 (headedR h)) ∧ Below w.heap.size w w' := by
  obtain ⟨a, t, b, lo, hi, m⟩ := h
  obtain ⟨r, hr⟩ : ∃ r, headedR ⟨a, t, b, lo, hi, m⟩ = r := ⟨_, rfl⟩
  rw [hr] at hh ⊢
  have HR := Lib.hid hr
  have HH := Lib.hid hh
  unfold Hd.val
  simp only
  clear hr hh
  have hB : ∀ o : Obj, Below w.heap.size w (w.alloc o) := fun o => (Below.refl _ w).alloc (Nat.le_refl _) o
  have CW := fun W => RefWidth_calls a W
  rcases hw : widthB a with _ | _
  · have hr : r = 10 := by rw [← HR.out]; unfold headedR; simp [hw]
    subst hr
    rw [hw] at CW
    clear hw
    go_enter Tryd.func35, Tryd.ntmps35
    go_wp2_with fail
    refine (CW _).mono ?_
    rintro e w1 ⟨rfl, rfl⟩
    go_wp2
    go_ret
    exact ⟨rfl, hB _⟩
  · have hr : r = if t < 0 ∨ 128 ≤ t ∨ b < 1 ∨ 32 < b ∨ lo < 0 ∨ hi < lo ∨ 1152921504606846976 < hi then 13 else 0 := by rw [← HR.out]; unfold headedR; simp [hw]
    have H := Lib.hid hr
    rw [hw] at CW
    clear hr hw
    by_cases g1 : t < 0
    · obtain rfl : r = 13 := by rw [H.out, if_pos (by omega)]
      go_enter Tryd.func35, Tryd.ntmps35
      go_wp2_with fail
      refine (CW _).mono ?_
      rintro e w1 ⟨rfl, rfl⟩
      go_wp2
      go_ret
      exact ⟨rfl, hB _⟩
    by_cases g2 : 128 ≤ t
    · obtain rfl : r = 13 := by rw [H.out, if_pos (by omega)]
      go_enter Tryd.func35, Tryd.ntmps35
      go_wp2_with fail
      refine (CW _).mono ?_
      rintro e w1 ⟨rfl, rfl⟩
      go_wp2
      go_ret
      exact ⟨rfl, hB _⟩
    by_cases g3 : b < 1
    · obtain rfl : r = 13 := by rw [H.out, if_pos (by omega)]
      go_enter Tryd.func35, Tryd.ntmps35
      go_wp2_with fail
      refine (CW _).mono ?_
      rintro e w1 ⟨rfl, rfl⟩
      go_wp2
      go_ret
      exact ⟨rfl, hB _⟩
    by_cases g4 : 32 < b
    · obtain rfl : r = 13 := by rw [H.out, if_pos (by omega)]
      go_enter Tryd.func35, Tryd.ntmps35
      go_wp2_with fail
      refine (CW _).mono ?_
      rintro e w1 ⟨rfl, rfl⟩
      go_wp2
      go_ret
      exact ⟨rfl, hB _⟩
    by_cases g5 : lo < 0
    · obtain rfl : r = 13 := by rw [H.out, if_pos (by omega)]
      go_enter Tryd.func35, Tryd.ntmps35
      go_wp2_with fail
      refine (CW _).mono ?_
      rintro e w1 ⟨rfl, rfl⟩
      go_wp2
      go_ret
      exact ⟨rfl, hB _⟩
    by_cases g6 : hi < lo
    · obtain rfl : r = 13 := by rw [H.out, if_pos (by omega)]
      go_enter Tryd.func35, Tryd.ntmps35
      go_wp2_with fail
      refine (CW _).mono ?_
      rintro e w1 ⟨rfl, rfl⟩
      go_wp2
      go_ret
      exact ⟨rfl, hB _⟩
    by_cases g7 : 1152921504606846976 < hi
    · obtain rfl : r = 13 := by rw [H.out, if_pos (by omega)]
      go_enter Tryd.func35, Tryd.ntmps35
      go_wp2_with fail
      refine (CW _).mono ?_
      rintro e w1 ⟨rfl, rfl⟩
      go_wp2
      go_ret
      exact ⟨rfl, hB _⟩
    exact absurd (by rw [H.out, if_neg (by omega)]) HH.out

/-- At the head of each round. -/
def GoRel6 (w : World) (h : Hd) (list : List Ent) (R : Int) (b : Nat) (k : Nat) (wr : World) : Prop := GoRel w h list R b k wr

def IntPost (w : World) (r : Int) (e : Ending) (w' : World) : Prop := e = .returned (.int .i64 r) ∧ Below w.heap.size w w'

set_option maxRecDepth 100000 in
set_option maxHeartbeats 1000000 in
theorem goes_calls (h : Hd) (p : Option Addr) (n c : Nat) (list : List Ent) (hn : list.length = n) (hm : n ≤ 4398046511104) (hcs : ∀ e ∈ list, e.c.size ≤ 140737488351232) (w : World) (hE : EL w w.heap.size p list) :
    Calls Tryd.prog 35 #[h.val, .slice p n c] w (IntPost w (goesR h list)) := by
  by_cases hh : headedR h = 0
  · have HH := Lib.hid hh
    obtain ⟨m, hm1, hm2, hm3, hm4, hw, ht0, ht1, hb0, hb1, hl0, hl1, hl2⟩ := headedR_ok hh
    have CW := fun W => RefWidth_calls h.w W
    rw [hw] at CW
    clear hm1 hm2 hm3 hm4 m
    have HN := Lib.hid hn
    have HE := Lib.hid hE
    have HCS := Lib.hid hcs
    have HCW := Lib.hid CW
    by_cases hmany : 2097152 < n
    · have hg : goesR h list = 43 := by unfold goesR; rw [if_neg (by simpa using hh), if_pos (by rw [hn]; exact hmany)]
      rw [hg]
      have hB : ∀ o : Obj, Below w.heap.size w (w.alloc o) := fun o => (Below.refl _ w).alloc (Nat.le_refl _) o
      clear hh hn hE hcs CW hg hw
      unfold Hd.val
      go_enter Tryd.func35, Tryd.ntmps35
      go_wp2_with fail
      refine (HCW.out _).mono ?_
      rintro e w1 ⟨rfl, rfl⟩
      go_wp2
      go_ret
      exact ⟨rfl, hB _⟩
    · obtain ⟨R, hRR⟩ : ∃ R, goesGo h none list = R := ⟨_, rfl⟩
      have hg : goesR h list = R := by unfold goesR; rw [if_neg (by simpa using hh), if_neg (by rw [hn]; exact hmany), hRR]
      rw [hg]
      have hz0 := World.alloc_heap_new w (.cells #[.int .i64 h.w, .int .i64 h.t, .int .i64 h.b, .int .i64 h.lo, .int .i64 h.hi, .int .i64 h.n] 23)
      have H0 : Hid (GoRel w h list R w.heap.size 0 (w.alloc (.cells #[.int .i64 h.w, .int .i64 h.t, .int .i64 h.b, .int .i64 h.lo, .int .i64 h.hi, .int .i64 h.n] 23))) := Lib.hid ⟨Nat.zero_le _, hRR, (Below.refl _ w).alloc (Nat.le_refl _) _, hz0⟩
      have ht1' : h.t ≤ 127 := by omega
      clear hh hn hE hcs CW hg hw hRR hz0
      unfold Hd.val
      go_enter Tryd.func35, Tryd.ntmps35
      go_wp2_with fail
      refine (HCW.out _).mono ?_
      rintro e w1 ⟨rfl, rfl⟩
      go_wp2
      clear ht0 ht1 ht1' hb0 hb1 hl0 hl1 hl2
      go_loopw [5] (fun i wr => ∃ k : Nat, i = .int .i64 k ∧ GoRel w h list R w.heap.size k wr) (fun i _ => n - (intOf i).toNat)
      case atStart => exact ⟨0, rfl, H0.out⟩
      case round =>
        obtain ⟨k, rfl, hk, hgo, hbl, hz⟩ := hrel
        obtain ⟨wo, rfl⟩ : ∃ wo : World, wo = wr := ⟨_, rfl⟩
        rw [HN.out] at hk
        obtain ⟨d0, d1, d2, d3, d4, d5⟩ := cells6 hz
        have hdl := cell_lt d0
        have hbs := hbl.size
        by_cases hlt : k < n
        · obtain ⟨x, hx⟩ : ∃ x, list[k]? = some x := ⟨_, List.getElem?_eq_getElem (by rw [HN.out]; exact hlt)⟩
          obtain ⟨a, rfl, haB, h5⟩ := HE.out k x hx
          have h5o := h5.below hbl (by rw [add_blockE]; exact haB)
          have CF := fun W => one_calls h x HH.out (HCS.out x (List.mem_of_getElem? hx)) W
          obtain ⟨fr, hfr⟩ : ∃ fr, fitsR h x = fr := ⟨_, rfl⟩
          rw [hfr] at CF
          unfold Hd.val Ent.val at CF
          have HF := Lib.hid CF
          have HX := Lib.hid hx
          have HG := Lib.hid hgo
          have HBl := Lib.hid hbl
          have HZ := Lib.hid hz
          have HFr := Lib.hid hfr
          have hxl := h5o.lt
          have H5o := Lib.hid h5o
          obtain ⟨x0, x1, x2, x3, x4⟩ := h5o
          have i0' : (0 : Int) ≤ (k : Int) := by omega
          have i1' : (k : Int) < (n : Int) := by omega
          clear CF hx hgo hbl hz hfr h5
          have HK1 : Hid (∀ W, Below wo.heap.size wo W → W.cell? ⟨w.heap.size, 0, none⟩ = some (.int .i64 h.w) ∧ W.cell? ⟨w.heap.size, 1, none⟩ = some (.int .i64 h.t) ∧ W.cell? ⟨w.heap.size, 2, none⟩ = some (.int .i64 h.b) ∧ W.cell? ⟨w.heap.size, 3, none⟩ = some (.int .i64 h.lo) ∧ W.cell? ⟨w.heap.size, 4, none⟩ = some (.int .i64 h.hi) ∧ W.cell? ⟨w.heap.size, 5, none⟩ = some (.int .i64 h.n) ∧ W.cell? (a.add (k * 5)) = some (.int .i64 x.v) ∧ W.cell? ⟨(a.add (k * 5)).block, (a.add (k * 5)).off + 1, none⟩ = some (.string x.c) ∧ W.cell? ⟨(a.add (k * 5)).block, (a.add (k * 5)).off + 2, none⟩ = some (.int .i64 x.i) ∧ W.cell? ⟨(a.add (k * 5)).block, (a.add (k * 5)).off + 3, none⟩ = some (.int .i64 x.s) ∧ W.cell? ⟨(a.add (k * 5)).block, (a.add (k * 5)).off + 4, none⟩ = some (.bool x.d)) := Lib.hid (fun W hW => by
            obtain ⟨x0, x1, x2, x3, x4⟩ := H5o.out.belowAll hW
            obtain ⟨d0, d1, d2, d3, d4, d5⟩ := cells6 ((hW.block w.heap.size hdl).trans HZ.out)
            exact ⟨d0, d1, d2, d3, d4, d5, x0, x1, x2, x3, x4⟩)
          go_wp2_with fail
          go_region_held3 (fun W => W.cell? ⟨w.heap.size, 0, none⟩ = some (.int .i64 h.w) ∧ W.cell? ⟨w.heap.size, 1, none⟩ = some (.int .i64 h.t) ∧ W.cell? ⟨w.heap.size, 2, none⟩ = some (.int .i64 h.b) ∧ W.cell? ⟨w.heap.size, 3, none⟩ = some (.int .i64 h.lo) ∧ W.cell? ⟨w.heap.size, 4, none⟩ = some (.int .i64 h.hi) ∧ W.cell? ⟨w.heap.size, 5, none⟩ = some (.int .i64 h.n) ∧ W.cell? (a.add (k * 5)) = some (.int .i64 x.v) ∧ W.cell? ⟨(a.add (k * 5)).block, (a.add (k * 5)).off + 1, none⟩ = some (.string x.c) ∧ W.cell? ⟨(a.add (k * 5)).block, (a.add (k * 5)).off + 2, none⟩ = some (.int .i64 x.i) ∧ W.cell? ⟨(a.add (k * 5)).block, (a.add (k * 5)).off + 3, none⟩ = some (.int .i64 x.s) ∧ W.cell? ⟨(a.add (k * 5)).block, (a.add (k * 5)).off + 4, none⟩ = some (.bool x.d)) (first | exact ⟨d0, d1, d2, d3, d4, d5, x0, x1, x2, x3, x4⟩ | exact HK1.out _ (below_of hc0)) (first | (go_at_call 63; refine (HF.out _).mono ?_; rintro e w2 ⟨rfl, hc0⟩))
          have hb02 := below_of hc0
          have HB02 := Lib.hid hb02
          have HZ2 := Lib.hid ((hb02.block w.heap.size hdl).trans HZ.out)
          have HBW := Lib.hid (HBl.out.trans (hb02.mono hbs))
          have HGo : Hid (goesGo h (prevO list k) (x :: list.drop (k + 1)) = R) := Lib.hid (by rw [← drop_consE HX.out]; exact HG.out)
          have H5x : Hid (Five w2 (a.add (k * 5)) x) := Lib.hid (H5o.out.belowAll hb02)
          clear hc0 x0 x1 x2 x3 x4 hb02 hxl d0 d1 d2 d3 d4 d5
          by_cases hf0 : fr = 0
          · subst hf0
            have hstep : goesGo h (prevO list k) (x :: list.drop (k + 1)) = if badAfter (prevO list k) x then 50 else goesGo h (some x) (list.drop (k + 1)) := by rw [goesGo, HFr.out]; simp
            have hpx : prevO list (k + 1) = some x := by unfold prevO; rw [if_neg (by omega)]; exact HX.out
            have hdk : w.heap.size < w2.heap.size := Nat.lt_of_lt_of_le hdl HB02.out.size
            by_cases hk0 : k = 0
            · have HNx : Hid (∀ W, Below w2.heap.size w2 W → GoRel w h list R w.heap.size (k + 1) W) := Lib.hid (fun W hW => by
                refine ⟨by rw [HN.out]; omega, ?_, HBW.out.trans (hW.mono HBW.out.size), (hW.block _ hdk).trans HZ2.out⟩
                rw [hpx, ← HGo.out, hstep]
                subst hk0
                rfl)
              have hd : decide ((0 : Int) < (k : Int)) = false := by simp; omega
              have hd2 : decide (0 < k) = false := by simp; omega
              have hki : (k : Int) ≤ 0 := by omega
              clear hstep hpx hk0
              go_wp2
              go_quiet (fail)
              go_wp2
              go_roundw
              case rel => exact ⟨k + 1, by go_num, HNx.out _ (below_drewN (Below.refl _ w2) _)⟩
              case measure => simp [intOf]; omega
            · obtain ⟨j, hj⟩ : ∃ j, k - 1 = j := ⟨_, rfl⟩
              have hjk : k = j + 1 := by omega
              obtain ⟨y, hy⟩ : ∃ y, list[j]? = some y := ⟨_, List.getElem?_eq_getElem (by rw [HN.out]; omega)⟩
              have hpy : prevO list k = some y := by unfold prevO; rw [if_neg hk0, hj]; exact hy
              rw [hpy] at hstep
              obtain ⟨a2, e2, haB2, h5y⟩ := HE.out j y hy
              cases e2
              have h5y2 := h5y.below HBW.out (by rw [add_blockE]; exact haB)
              obtain ⟨y0, y1, y2, y3, y4⟩ := h5y2
              obtain ⟨x0, x1, x2, x3, x4⟩ := H5x.out
              have H5y := Lib.hid (show Five w2 (a.add (j * 5)) y from ⟨y0, y1, y2, y3, y4⟩)
              have HK2 : Hid (∀ W, Below w2.heap.size w2 W → W.cell? (a.add (j * 5)) = some (.int .i64 y.v) ∧ W.cell? ⟨(a.add (j * 5)).block, (a.add (j * 5)).off + 1, none⟩ = some (.string y.c) ∧ W.cell? ⟨(a.add (j * 5)).block, (a.add (j * 5)).off + 2, none⟩ = some (.int .i64 y.i) ∧ W.cell? ⟨(a.add (j * 5)).block, (a.add (j * 5)).off + 3, none⟩ = some (.int .i64 y.s) ∧ W.cell? ⟨(a.add (j * 5)).block, (a.add (j * 5)).off + 4, none⟩ = some (.bool y.d) ∧ W.cell? (a.add (k * 5)) = some (.int .i64 x.v) ∧ W.cell? ⟨(a.add (k * 5)).block, (a.add (k * 5)).off + 1, none⟩ = some (.string x.c) ∧ W.cell? ⟨(a.add (k * 5)).block, (a.add (k * 5)).off + 2, none⟩ = some (.int .i64 x.i) ∧ W.cell? ⟨(a.add (k * 5)).block, (a.add (k * 5)).off + 3, none⟩ = some (.int .i64 x.s) ∧ W.cell? ⟨(a.add (k * 5)).block, (a.add (k * 5)).off + 4, none⟩ = some (.bool x.d)) := Lib.hid (fun W hW => by
                obtain ⟨x0, x1, x2, x3, x4⟩ := H5x.out.belowAll hW
                obtain ⟨y0, y1, y2, y3, y4⟩ := H5y.out.belowAll hW
                exact ⟨y0, y1, y2, y3, y4, x0, x1, x2, x3, x4⟩)
              have CC := fun W => Less_calls y x W
              unfold Ent.val at CC
              have hd : decide ((0 : Int) < (k : Int)) = true := decide_eq_true (by omega)
              have hd0 : (0 : Int) < (k : Int) := by omega
              have hd2 : decide (0 < k) = true := decide_eq_true (by omega)
              have hd3 : 0 < k := by omega
              have hd4 : ¬ (k = 0) := by omega
              have hw1 : IntKind.i64.wrap ((k : Int) - 1) = (j : Int) := by rw [IntKind.wrap_i64]; omega
              have j0 : (0 : Int) ≤ (j : Int) := by omega
              have j1 : (j : Int) < (n : Int) := by omega
              cases hle : decide (eless y x) with
              | true =>
                have HNx : Hid (∀ W, Below w2.heap.size w2 W → GoRel w h list R w.heap.size (k + 1) W) := Lib.hid (fun W hW => by
                  refine ⟨by rw [HN.out]; omega, ?_, HBW.out.trans (hW.mono HBW.out.size), (hW.block _ hdk).trans HZ2.out⟩
                  rw [hpx, ← HGo.out, hpy, hstep]
                  have hb : badAfter (some y) x = false := by unfold badAfter; simpa using hle
                  rw [hb]
                  rfl)
                rw [hle] at CC
                have HCC := Lib.hid CC
                clear hstep hpx hpy hy h5y hle CC hj hjk
                go_wp2
                go_region_held3 (fun W => W.cell? (a.add (j * 5)) = some (.int .i64 y.v) ∧ W.cell? ⟨(a.add (j * 5)).block, (a.add (j * 5)).off + 1, none⟩ = some (.string y.c) ∧ W.cell? ⟨(a.add (j * 5)).block, (a.add (j * 5)).off + 2, none⟩ = some (.int .i64 y.i) ∧ W.cell? ⟨(a.add (j * 5)).block, (a.add (j * 5)).off + 3, none⟩ = some (.int .i64 y.s) ∧ W.cell? ⟨(a.add (j * 5)).block, (a.add (j * 5)).off + 4, none⟩ = some (.bool y.d) ∧ W.cell? (a.add (k * 5)) = some (.int .i64 x.v) ∧ W.cell? ⟨(a.add (k * 5)).block, (a.add (k * 5)).off + 1, none⟩ = some (.string x.c) ∧ W.cell? ⟨(a.add (k * 5)).block, (a.add (k * 5)).off + 2, none⟩ = some (.int .i64 x.i) ∧ W.cell? ⟨(a.add (k * 5)).block, (a.add (k * 5)).off + 3, none⟩ = some (.int .i64 x.s) ∧ W.cell? ⟨(a.add (k * 5)).block, (a.add (k * 5)).off + 4, none⟩ = some (.bool x.d)) (first | exact ⟨y0, y1, y2, y3, y4, x0, x1, x2, x3, x4⟩ | exact HK2.out _ (below_of hc1)) (first | (go_at_call 54; refine (HCC.out _).mono ?_; rintro e w3 ⟨rfl, hc1⟩))
                have HR3 := Lib.hid (HNx.out _ (below_of hc1))
                clear hc1
                go_wp2
                go_roundw
                case rel => exact ⟨k + 1, by go_num, HR3.out⟩
                case measure => simp [intOf]; omega
              | false =>
                have HEnd : Hid (∀ W, Below w2.heap.size w2 W → IntPost w R (.returned (.int .i64 50)) W) := Lib.hid (fun W hW => by
                  refine ⟨?_, HBW.out.trans (hW.mono HBW.out.size)⟩
                  rw [← HGo.out, hpy, hstep]
                  have hb : badAfter (some y) x = true := by unfold badAfter; simpa using hle
                  rw [hb]
                  rfl)
                rw [hle] at CC
                have HCC := Lib.hid CC
                clear hstep hpx hpy hy h5y hle CC hj hjk
                go_wp2
                go_region_held3 (fun W => W.cell? (a.add (j * 5)) = some (.int .i64 y.v) ∧ W.cell? ⟨(a.add (j * 5)).block, (a.add (j * 5)).off + 1, none⟩ = some (.string y.c) ∧ W.cell? ⟨(a.add (j * 5)).block, (a.add (j * 5)).off + 2, none⟩ = some (.int .i64 y.i) ∧ W.cell? ⟨(a.add (j * 5)).block, (a.add (j * 5)).off + 3, none⟩ = some (.int .i64 y.s) ∧ W.cell? ⟨(a.add (j * 5)).block, (a.add (j * 5)).off + 4, none⟩ = some (.bool y.d) ∧ W.cell? (a.add (k * 5)) = some (.int .i64 x.v) ∧ W.cell? ⟨(a.add (k * 5)).block, (a.add (k * 5)).off + 1, none⟩ = some (.string x.c) ∧ W.cell? ⟨(a.add (k * 5)).block, (a.add (k * 5)).off + 2, none⟩ = some (.int .i64 x.i) ∧ W.cell? ⟨(a.add (k * 5)).block, (a.add (k * 5)).off + 3, none⟩ = some (.int .i64 x.s) ∧ W.cell? ⟨(a.add (k * 5)).block, (a.add (k * 5)).off + 4, none⟩ = some (.bool x.d)) (first | exact ⟨y0, y1, y2, y3, y4, x0, x1, x2, x3, x4⟩ | exact HK2.out _ (below_of hc1)) (first | (go_at_call 54; refine (HCC.out _).mono ?_; rintro e w3 ⟨rfl, hc1⟩))
                have HR3 := Lib.hid (HEnd.out _ (below_of hc1))
                clear hc1
                go_wp2
                go_ret
                exact HR3.out
          · have HEnd : Hid (IntPost w R (.returned (.int .i64 fr)) w2) := Lib.hid (by
              refine ⟨?_, HBW.out⟩
              rw [← HGo.out, goesGo, HFr.out, if_pos hf0])
            have hne : (fr != 0) = true := by rw [bne_iff_ne]; exact hf0
            clear hf0
            go_wp2
            go_ret
            exact HEnd.out
        · obtain rfl : k = n := by omega
          rw [List.drop_eq_nil_of_le (by rw [HN.out]; exact Nat.le_refl _)] at hgo
          have hR0 : R = 0 := by
            rw [← hgo]
            unfold goesGo
            rfl
          have HEnd : Hid (IntPost w R (.returned (.int .i64 0)) wo) := Lib.hid ⟨by rw [hR0], hbl⟩
          clear hgo hR0 hbl hz
          go_wp2
          go_ret
          exact HEnd.out
  · have hg : goesR h list = headedR h := by unfold goesR; rw [if_pos hh]
    rw [hg]
    exact goes_bad h p n c hh w
end Go.Proofs.YtihgjihdmlomaaaDoor
