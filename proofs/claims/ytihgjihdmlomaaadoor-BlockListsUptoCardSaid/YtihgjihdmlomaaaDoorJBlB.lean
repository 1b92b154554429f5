/-
  WALK: a file built or refused, by the program.
-/
import Derived.Test.YtihgjihdmlomaaaDoorJBlA
namespace Go.Proofs.YtihgjihdmlomaaaDoor
open Go.RowKit ArgK
set_option linter.unusedVariables false

def badAfter (o : Option Ent) (x : Ent) : Bool := match o with
  | none => false
  | some y => !decide (eless y x)

/-- Why entries cannot stand in a file of this head, from one on. -/
def goesGo (h : Hd) : Option Ent → List Ent → Int
  | _, [] => 0
  | o, x :: l => if fitsR h x ≠ 0 then fitsR h x else if badAfter o x then 50 else goesGo h (some x) l

def goesR (h : Hd) (list : List Ent) : Int := if headedR h ≠ 0 then headedR h else if 2097152 < list.length then 43 else goesGo h none list

/-- What Build answers. -/
def builtR (h : Hd) (list : List Ent) : List UInt8 × Int := if goesR h list = 0 then (fileB h list, 0) else ([], goesR h list)

def prevO (list : List Ent) (k : Nat) : Option Ent := if k = 0 then none else list[k - 1]?

theorem fits_good {h : Hd} {e : Ent} (hh : headedR h = 0) (hf : fitsR h e = 0) : Good e := by
  obtain ⟨m, hm, h1, h2, h3, hw, ht0, ht1, hb0, hb1, hl0, hl1, hl2⟩ := headedR_ok hh
  unfold fitsR at hf
  split at hf
  · cases hf
  · next hc =>
    split at hf
    · cases hf
    · next hv =>
      have hp : (2 : Int) ^ h.b.toNat ≤ 4294967296 := by
        have := Nat.pow_le_pow_right (show 0 < 2 by decide) (show h.b.toNat ≤ 32 by omega)
        have e : (2 : Int) ^ h.b.toNat = ((2 ^ h.b.toNat : Nat) : Int) := by simp
        rw [e]
        omega
      refine ⟨by omega, by omega, ?_⟩
      rw [hm] at hc
      omega

theorem goesGo_fits {h : Hd} : ∀ (l : List Ent) (o : Option Ent), goesGo h o l = 0 → ∀ e ∈ l, fitsR h e = 0
  | [], _, _, e, he => by simp at he
  | x :: l, o, hg, e, he => by
    rw [goesGo] at hg
    split at hg
    · next h1 => exact absurd hg h1
    · next h1 =>
      split at hg
      · cases hg
      · rcases List.mem_cons.1 he with rfl | he
        · simpa using h1
        · exact goesGo_fits l _ hg e he

theorem goesR_good {h : Hd} {list : List Ent} (hg : goesR h list = 0) : headedR h = 0 ∧ list.length ≤ 2097152 ∧ ∀ e ∈ list, Good e := by
  unfold goesR at hg
  split at hg
  · next h1 => exact absurd hg h1
  · next h1 =>
    have hh : headedR h = 0 := by simpa using h1
    split at hg
    · cases hg
    · next h2 => exact ⟨hh, by omega, fun e he => fits_good hh (goesGo_fits list none hg e he)⟩

/-- At the head of each round. -/
def GoRel (w : World) (h : Hd) (list : List Ent) (R : Int) (b : Nat) (k : Nat) (wr : World) : Prop :=
  k ≤ list.length ∧ goesGo h (prevO list k) (list.drop k) = R ∧ Below w.heap.size w wr ∧ wr.heap[b]? = some (.cells #[.int .i64 h.w, .int .i64 h.t, .int .i64 h.b, .int .i64 h.lo, .int .i64 h.hi, .int .i64 h.n] 23 (0, 0))

def BuildPost (w : World) (r : List UInt8 × Int) (e : Ending) (w' : World) : Prop := e = .returned (.tuple #[.string ⟨r.1.toArray⟩, .int .i64 r.2]) ∧ Below w.heap.size w w'

set_option maxRecDepth 100000 in
set_option maxHeartbeats 4000000 in
theorem Build_calls (h : Hd) (p : Option Addr) (n c : Nat) (list : List Ent) (hn : list.length = n) (hm : n ≤ 4398046511104) (hnc : n ≤ c) (hcs : ∀ e ∈ list, e.c.size ≤ 140737488351232) (w : World) (hT : Tab w) (hE : EL w w.heap.size p list) :
    Calls Tryd.prog 12 #[h.val, .slice p n c] w (BuildPost w (builtR h list)) := by
  obtain ⟨r, hr⟩ : ∃ r, builtR h list = r := ⟨_, rfl⟩
  rw [hr]
  have HR := Lib.hid hr
  have HN := Lib.hid hn
  have HE := Lib.hid hE
  have HT := Lib.hid hT
  have HCS := Lib.hid hcs
  have CH := fun W => headed_calls h W
  by_cases hh : headedR h = 0
  · by_cases hmany : 2097152 < n
    · have hg : goesR h list = 43 := by unfold goesR; rw [if_neg (by simpa using hh), if_pos (by rw [hn]; exact hmany)]
      have hr2 : r = ([], 43) := by rw [← hr]; unfold builtR; rw [hg]; rfl
      subst hr2
      rw [hh] at CH
      unfold Hd.val at CH ⊢
      have HC := Lib.hid CH
      clear hr HR hg hn hE hT hcs CH hh
      go_enter Tryd.func12, Tryd.ntmps12
      go_wp2_with fail
      refine (HC.out _).mono ?_
      rintro e w1 ⟨rfl, hb1⟩
      have HB := Lib.hid (((Below.refl _ w).alloc (Nat.le_refl _) (.cells #[.int .i64 h.w, .int .i64 h.t, .int .i64 h.b, .int .i64 h.lo, .int .i64 h.hi, .int .i64 h.n] 23)).trans (hb1.mono (by simp)))
      clear hb1
      go_wp2
      go_ret2
      exact ⟨rfl, HB.out⟩
    · obtain ⟨R, hRR⟩ : ∃ R, goesGo h none list = R := ⟨_, rfl⟩
      have hg : goesR h list = R := by unfold goesR; rw [if_neg (by simpa using hh), if_neg (by rw [hn]; exact hmany), hRR]
      rw [hh] at CH
      have HH := Lib.hid hh
      have HC := Lib.hid CH
      have HGg := Lib.hid hg
      have hz0 := World.alloc_heap_new w (.cells #[.int .i64 h.w, .int .i64 h.t, .int .i64 h.b, .int .i64 h.lo, .int .i64 h.hi, .int .i64 h.n] 23)
      have HRR := Lib.hid hRR
      clear hr hg hn hE hT hcs CH hh hRR
      unfold Hd.val at HC ⊢
      go_enter Tryd.func12, Tryd.ntmps12
      go_wp2_with fail
      refine (HC.out _).mono ?_
      rintro e w1 ⟨rfl, hb1⟩
      have H0 : Hid (GoRel w h list R w.heap.size 0 w1) := Lib.hid ⟨Nat.zero_le _, HRR.out, ((Below.refl _ w).alloc (Nat.le_refl _) _).trans (hb1.mono (by simp)), (hb1.block _ (by simp)).trans hz0⟩
      clear hb1 hz0
      go_wp2
      go_loopw [22] (fun i wr => ∃ k : Nat, i = .int .i64 k ∧ GoRel w h list R w.heap.size k wr) (fun i _ => n - (intOf i).toNat)
      case atStart => exact ⟨0, rfl, H0.out⟩
      case round =>
        obtain ⟨k, rfl, hk, hgo, hbl, hz⟩ := hrel
        obtain ⟨wo, rfl⟩ : ∃ wo : World, wo = wr := ⟨_, rfl⟩
        rw [HN.out] at hk
        obtain ⟨d0, d1, d2, d3, d4, d5⟩ := cells6 hz
        have hdl := cell_lt d0
        have hbs := hbl.size
        by_cases hlt : k < n
        · obtain ⟨x, hx⟩ : ∃ x, list[k]? = some x := ⟨_, List.getElem?_eq_getElem (by rw [HN.out]; exact hlt)⟩
          obtain ⟨a, rfl, haB, h5⟩ := HE.out k x hx
          have h5o := h5.below hbl (by rw [add_blockE]; exact haB)
          have CF := fun W => fits_calls h x HH.out (HCS.out x (List.mem_of_getElem? hx)) W
          obtain ⟨fr, hfr⟩ : ∃ fr, fitsR h x = fr := ⟨_, rfl⟩
          rw [hfr] at CF
          unfold Hd.val Ent.val at CF
          have HF := Lib.hid CF
          have HX := Lib.hid hx
          have HG := Lib.hid hgo
          have HBl := Lib.hid hbl
          have HZ := Lib.hid hz
          have HFr := Lib.hid hfr
          obtain ⟨x0, x1, x2, x3, x4⟩ := h5o
          have xl := cell_lt x0
          have i0' : (0 : Int) ≤ (k : Int) := by omega
          have i1' : (k : Int) < (n : Int) := by omega
          clear CF hx hgo hbl hz hfr h5
          go_wp2_with fail
          refine (HF.out _).mono ?_
          rintro e w2 ⟨rfl, hb2⟩
          have hz2 := (hb2.block wo.heap.size (by simp)).trans (World.alloc_heap_new wo (.cells #[.int .i64 x.v, .string x.c, .int .i64 x.i, .int .i64 x.s, .bool x.d] 33))
          have hb02 : Below wo.heap.size wo w2 := ((Below.refl _ wo).alloc (Nat.le_refl _) _).trans (hb2.mono (by simp))
          have HB02 := Lib.hid hb02
          have HZ2 := Lib.hid hz2
          have HBW := Lib.hid (HBl.out.trans (hb02.mono hbs))
          have HGo : Hid (goesGo h (prevO list k) (x :: list.drop (k + 1)) = R) := Lib.hid (by rw [← drop_consE HX.out]; exact HG.out)
          clear hb2 x0 x1 x2 x3 x4 hz2 hb02
          by_cases hf0 : fr = 0
          · subst hf0
            have hstep : goesGo h (prevO list k) (x :: list.drop (k + 1)) = if badAfter (prevO list k) x then 50 else goesGo h (some x) (list.drop (k + 1)) := by rw [goesGo, HFr.out]; simp
            have hpx : prevO list (k + 1) = some x := by unfold prevO; rw [if_neg (by omega)]; exact HX.out
            by_cases hk0 : k = 0
            · have HNx : Hid (∀ W, Below w2.heap.size w2 W → GoRel w h list R w.heap.size (k + 1) W) := Lib.hid (fun W hW => by
                refine ⟨by rw [HN.out]; omega, ?_, HBW.out.trans (hW.mono HBW.out.size), ?_⟩
                · rw [hpx, ← HGo.out, hstep]
                  subst hk0
                  rfl
                · have := (HB02.out.block w.heap.size (Nat.lt_of_lt_of_le hdl (Nat.le_refl _))).trans HZ.out
                  exact (hW.block _ (Nat.lt_of_lt_of_le hdl HB02.out.size)).trans this)
              have hd : decide ((0 : Int) < (k : Int)) = false := by simp; omega
              have hd2 : decide (0 < k) = false := by simp; omega
              have hki : (k : Int) ≤ 0 := by omega
              clear hstep hpx hk0
              go_wp2
              go_quiet (fail)
              go_wp2
              go_roundw
              case rel => exact ⟨k + 1, by go_num, HNx.out _ (below_drewN (Below.refl _ w2) _)⟩
              case measure => simp [intOf]; omega
            · obtain ⟨j, hj⟩ : ∃ j, k - 1 = j := ⟨_, rfl⟩
              have hjk : k = j + 1 := by omega
              obtain ⟨y, hy⟩ : ∃ y, list[j]? = some y := ⟨_, List.getElem?_eq_getElem (by rw [HN.out]; omega)⟩
              have hpy : prevO list k = some y := by unfold prevO; rw [if_neg hk0, hj]; exact hy
              rw [hpy] at hstep
              obtain ⟨a2, e2, haB2, h5y⟩ := HE.out j y hy
              cases e2
              have h5y2 := h5y.below HBW.out (by rw [add_blockE]; exact haB)
              have hyl := h5y2.lt
              obtain ⟨y0, y1, y2, y3, y4⟩ := h5y2
              obtain ⟨z0, z1, z2, z3, z4⟩ := cells5 HZ2.out
              have hzl := cell_lt z0
              have CC := fun W => Compare_calls y x W
              unfold Ent.val at CC
              have HCC := Lib.hid CC
              have HKeep : Hid (∀ W, Below w2.heap.size w2 W → W.cell? (a.add (j * 5)) = some (.int .i64 y.v) ∧ W.cell? ⟨(a.add (j * 5)).block, (a.add (j * 5)).off + 1, none⟩ = some (.string y.c) ∧ W.cell? ⟨(a.add (j * 5)).block, (a.add (j * 5)).off + 2, none⟩ = some (.int .i64 y.i) ∧ W.cell? ⟨(a.add (j * 5)).block, (a.add (j * 5)).off + 3, none⟩ = some (.int .i64 y.s) ∧ W.cell? ⟨(a.add (j * 5)).block, (a.add (j * 5)).off + 4, none⟩ = some (.bool y.d) ∧ W.cell? ⟨wo.heap.size, 0, none⟩ = some (.int .i64 x.v) ∧ W.cell? ⟨wo.heap.size, 1, none⟩ = some (.string x.c) ∧ W.cell? ⟨wo.heap.size, 2, none⟩ = some (.int .i64 x.i) ∧ W.cell? ⟨wo.heap.size, 3, none⟩ = some (.int .i64 x.s) ∧ W.cell? ⟨wo.heap.size, 4, none⟩ = some (.bool x.d)) := Lib.hid (fun W hW => ⟨(hW.cell hyl).trans y0, (hW.cell (p := ⟨(a.add (j * 5)).block, (a.add (j * 5)).off + 1, none⟩) hyl).trans y1, (hW.cell (p := ⟨(a.add (j * 5)).block, (a.add (j * 5)).off + 2, none⟩) hyl).trans y2, (hW.cell (p := ⟨(a.add (j * 5)).block, (a.add (j * 5)).off + 3, none⟩) hyl).trans y3, (hW.cell (p := ⟨(a.add (j * 5)).block, (a.add (j * 5)).off + 4, none⟩) hyl).trans y4, (hW.cell (p := ⟨wo.heap.size, 0, none⟩) hzl).trans z0, (hW.cell (p := ⟨wo.heap.size, 1, none⟩) hzl).trans z1, (hW.cell (p := ⟨wo.heap.size, 2, none⟩) hzl).trans z2, (hW.cell (p := ⟨wo.heap.size, 3, none⟩) hzl).trans z3, (hW.cell (p := ⟨wo.heap.size, 4, none⟩) hzl).trans z4⟩)
              have hd : decide ((0 : Int) < (k : Int)) = true := decide_eq_true (by omega)
              have hd0 : (0 : Int) < (k : Int) := by omega
              have hd2 : decide (0 < k) = true := decide_eq_true (by omega)
              have hd3 : 0 < k := by omega
              have hd4 : ¬ (k = 0) := by omega
              have hw1 : IntKind.i64.wrap ((k : Int) - 1) = (j : Int) := by rw [IntKind.wrap_i64]; omega
              have j0 : (0 : Int) ≤ (j : Int) := by omega
              have j1 : (j : Int) < (n : Int) := by omega
              have hdk : w.heap.size < w2.heap.size := Nat.lt_of_lt_of_le hdl HB02.out.size
              have HZk : Hid (w2.heap[w.heap.size]? = some (.cells #[.int .i64 h.w, .int .i64 h.t, .int .i64 h.b, .int .i64 h.lo, .int .i64 h.hi, .int .i64 h.n] 23 (0, 0))) := Lib.hid ((HB02.out.block w.heap.size hdl).trans HZ.out)
              by_cases hle : eless y x
              · have hc : cmpE y x = -1 := cmpE_lt hle
                have HNx : Hid (∀ W, Below w2.heap.size w2 W → GoRel w h list R w.heap.size (k + 1) W) := Lib.hid (fun W hW => by
                  refine ⟨by rw [HN.out]; omega, ?_, HBW.out.trans (hW.mono HBW.out.size), (hW.block _ hdk).trans HZk.out⟩
                  rw [hpx, ← HGo.out, hpy, hstep]
                  have hb : badAfter (some y) x = false := by unfold badAfter; simp [hle]
                  rw [hb]
                  rfl)
                simp only [hc] at HCC
                clear hstep hpx hpy hy h5y hle hc CC hj hjk
                go_wp2
                go_region_held3 (fun W => W.cell? (a.add (j * 5)) = some (.int .i64 y.v) ∧ W.cell? ⟨(a.add (j * 5)).block, (a.add (j * 5)).off + 1, none⟩ = some (.string y.c) ∧ W.cell? ⟨(a.add (j * 5)).block, (a.add (j * 5)).off + 2, none⟩ = some (.int .i64 y.i) ∧ W.cell? ⟨(a.add (j * 5)).block, (a.add (j * 5)).off + 3, none⟩ = some (.int .i64 y.s) ∧ W.cell? ⟨(a.add (j * 5)).block, (a.add (j * 5)).off + 4, none⟩ = some (.bool y.d) ∧ W.cell? ⟨wo.heap.size, 0, none⟩ = some (.int .i64 x.v) ∧ W.cell? ⟨wo.heap.size, 1, none⟩ = some (.string x.c) ∧ W.cell? ⟨wo.heap.size, 2, none⟩ = some (.int .i64 x.i) ∧ W.cell? ⟨wo.heap.size, 3, none⟩ = some (.int .i64 x.s) ∧ W.cell? ⟨wo.heap.size, 4, none⟩ = some (.bool x.d)) (first | exact ⟨y0, y1, y2, y3, y4, z0, z1, z2, z3, z4⟩ | exact HKeep.out _ (below_of hc1)) (first | (go_at_call 33; refine (HCC.out _).mono ?_; rintro e w3 ⟨rfl, hc1⟩))
                have HR3 := Lib.hid (HNx.out _ (below_of hc1))
                clear hc1
                go_wp2
                go_roundw
                case rel => exact ⟨k + 1, by go_num, HR3.out⟩
                case measure => simp [intOf]; omega
              · have hcn : ¬ cmpE y x < 0 := fun h => hle (cmpE_neg.1 h)
                obtain ⟨cc, hcc⟩ : ∃ cc, cmpE y x = cc := ⟨_, rfl⟩
                rw [hcc] at hcn
                simp only [hcc] at HCC
                have hge : decide ((0 : Int) ≤ cc) = true := by simp; omega
                have hge2 : (0 : Int) ≤ cc := by omega
                have hR50 : R = 50 := by
                  rw [← HGo.out, hpy, hstep]
                  have hb : badAfter (some y) x = true := by unfold badAfter; simp [hle]
                  rw [hb]
                  rfl
                have HEnd : Hid (∀ W, Below w2.heap.size w2 W → BuildPost w r (.returned (.tuple #[.string ⟨#[]⟩, .int .i64 50])) W) := Lib.hid (fun W hW => by
                  refine ⟨?_, HBW.out.trans (hW.mono HBW.out.size)⟩
                  rw [← HR.out]
                  unfold builtR
                  rw [HGg.out, hR50]
                  rfl)
                clear hstep hpx hpy hy h5y hle hcc hcn CC hR50 hj hjk
                go_wp2
                go_region_held3 (fun W => W.cell? (a.add (j * 5)) = some (.int .i64 y.v) ∧ W.cell? ⟨(a.add (j * 5)).block, (a.add (j * 5)).off + 1, none⟩ = some (.string y.c) ∧ W.cell? ⟨(a.add (j * 5)).block, (a.add (j * 5)).off + 2, none⟩ = some (.int .i64 y.i) ∧ W.cell? ⟨(a.add (j * 5)).block, (a.add (j * 5)).off + 3, none⟩ = some (.int .i64 y.s) ∧ W.cell? ⟨(a.add (j * 5)).block, (a.add (j * 5)).off + 4, none⟩ = some (.bool y.d) ∧ W.cell? ⟨wo.heap.size, 0, none⟩ = some (.int .i64 x.v) ∧ W.cell? ⟨wo.heap.size, 1, none⟩ = some (.string x.c) ∧ W.cell? ⟨wo.heap.size, 2, none⟩ = some (.int .i64 x.i) ∧ W.cell? ⟨wo.heap.size, 3, none⟩ = some (.int .i64 x.s) ∧ W.cell? ⟨wo.heap.size, 4, none⟩ = some (.bool x.d)) (first | exact ⟨y0, y1, y2, y3, y4, z0, z1, z2, z3, z4⟩ | exact HKeep.out _ (below_of hc1)) (first | (go_at_call 33; refine (HCC.out _).mono ?_; rintro e w3 ⟨rfl, hc1⟩))
                have HR3 := Lib.hid (HEnd.out _ (below_of hc1))
                clear hc1
                go_wp2
                go_ret2
                exact HR3.out
          · have hRf : R = fr := by
              rw [← HGo.out, goesGo, HFr.out, if_pos hf0]
            have HEnd : Hid (BuildPost w r (.returned (.tuple #[.string ⟨#[]⟩, .int .i64 fr])) w2) := Lib.hid (by
              refine ⟨?_, HBW.out⟩
              rw [← HR.out]
              unfold builtR
              rw [HGg.out, hRf, if_neg hf0])
            have hne : (fr != 0) = true := by rw [bne_iff_ne]; exact hf0
            clear hRf hf0
            go_wp2
            go_ret2
            exact HEnd.out
        · obtain rfl : k = n := by omega
          rw [List.drop_eq_nil_of_le (by rw [HN.out]; exact Nat.le_refl _)] at hgo
          have hR0 : R = 0 := by
            rw [← hgo]
            unfold goesGo
            rfl
          have hg0 : goesR h list = 0 := by rw [HGg.out, hR0]
          obtain ⟨_, _, hgood⟩ := goesR_good hg0
          have CB := build_calls h p k c list HN.out (by omega) hnc hgood wo (HT.out.below hbl) ((HE.out.below hbl (Nat.le_refl _)).mono hbs)
          have CB2 : Calls Tryd.prog 34 #[h.val, .slice p k c] wo (fun e w' => ∃ q m c', e = .returned (.tuple #[.string ⟨r.1.toArray⟩, .slice q m c']) ∧ BuildPost w r (.returned (.tuple #[.string ⟨r.1.toArray⟩, .int .i64 0])) w') := CB.mono (fun e w' ⟨q, c', h1, h2, _⟩ => by
            have hrr : r = (fileB h list, 0) := by
              rw [← HR.out]
              unfold builtR
              rw [if_pos hg0]
            subst hrr
            exact ⟨q, _, c', h1, rfl, hbl.trans (h2.mono hbs)⟩)
          generalize (⟨r.1.toArray⟩ : ByteArray) = RS at CB2
          unfold Hd.val at CB2
          have HCB := Lib.hid CB2
          clear CB CB2 hgo hR0 hg0 hgood hbl hz
          go_wp2_with fail
          refine HCB.out.mono ?_
          rintro e w2 ⟨q, m, c', rfl, hp2⟩
          have HP2 := Lib.hid hp2
          clear hp2
          go_wp2
          go_ret2
          exact HP2.out
  · have hg : goesR h list = headedR h := by unfold goesR; rw [if_pos hh]
    obtain ⟨E, hEE⟩ : ∃ E, headedR h = E := ⟨_, rfl⟩
    rw [hEE] at hg hh CH
    have hr2 : r = ([], E) := by rw [← hr]; unfold builtR; rw [hg, if_neg hh]
    subst hr2
    unfold Hd.val at CH ⊢
    have HC := Lib.hid CH
    have hne : (E != 0) = true := by rw [bne_iff_ne]; exact hh
    clear hr HR hg hn hE hT hcs CH hh hEE
    go_enter Tryd.func12, Tryd.ntmps12
    go_wp2_with fail
    refine (HC.out _).mono ?_
    rintro e w1 ⟨rfl, hb1⟩
    have HB := Lib.hid (((Below.refl _ w).alloc (Nat.le_refl _) (.cells #[.int .i64 h.w, .int .i64 h.t, .int .i64 h.b, .int .i64 h.lo, .int .i64 h.hi, .int .i64 h.n] 23)).trans (hb1.mono (by simp)))
    clear hb1
    go_wp2
    go_ret2
    exact ⟨rfl, HB.out⟩
end Go.Proofs.YtihgjihdmlomaaaDoor
