/-
  WALKS: topped and balled: what two tops (balls) answer, five times asked, is as the document says, and shares nothing. (Printed by toppedgen.py.)
-/
import Derived.Test.YtahceakghgmpkaaApartB
import Derived.Test.YtahceakghgmpkaaRefT
namespace Go.Proofs.Ytahceakghgmpkaa
open Go.RowKit
set_option linter.unusedVariables false

theorem sameO {b1 b2 : Nat} {p1 p2 : Option Addr} {c1 c2 n : Nat} {T : List Hv} (hn : T.length = n) (hb : n ≤ 4611686018427387904) (w : World) (h1 : w.ownsRow b1 34 3 (.slice p1 n c1) n (encH T)) (h2 : w.ownsRow b2 34 3 (.slice p2 n c2) n (encH T)) :
    Calls Try.prog 20 #[.slice p1 n c1, .slice p2 n c2] w fun x w' => x = .returned (.bool true) ∧ Below w.heap.size w w' := by
  subst hn
  exact (same_calls p1 p2 c1 c2 T hb w (HL.of_own h1) (HL.of_own h2)).mono fun e w' ⟨he, hg⟩ => ⟨he, hg.below⟩

set_option maxRecDepth 100000 in
set_option maxHeartbeats 4000000 in
theorem topped_calls (ta tq ub pb : Nat) (T O : List Hv) (hT : T.length ≤ 4398046510976) (hO : O.length ≤ 4398046510976) (w : World)
    (hA : ∀ W, Below w.heap.size w W → Calls Try.prog 19 #[.pointer (some ⟨ta, 0, none⟩)] W (ListPost W T)) (hOo : ∀ W, Below w.heap.size w W → Calls Try.prog 19 #[.pointer (some ⟨tq, 0, none⟩)] W (ListPost W O))
    (hU : ∀ W, Below w.heap.size w W → Calls Try.prog 44 #[.pointer (some ⟨ub, 0, none⟩)] W (ListPost W T)) (hP : ∀ W, Below w.heap.size w W → Calls Try.prog 44 #[.pointer (some ⟨pb, 0, none⟩)] W (ListPost W O)) :
    Calls Try.prog 27 #[.pointer (some ⟨ta, 0, none⟩), .pointer (some ⟨tq, 0, none⟩), .pointer (some ⟨ub, 0, none⟩), .pointer (some ⟨pb, 0, none⟩)] w fun e w' => e = .returned (.bool true) ∧ Below w.heap.size w w' := by
  obtain ⟨i1, hj, hy0, hy1, hy2⟩ := info_parts hitsinfo
  obtain ⟨N1, hN1⟩ : ∃ n, T.length = n := ⟨_, rfl⟩
  obtain ⟨N2, hN2⟩ : ∃ n, O.length = n := ⟨_, rfl⟩
  rw [hN1] at hT
  rw [hN2] at hO
  have HN1 := Lib.hid hN1
  have HN2 := Lib.hid hN2
  have HA0 := Lib.hid hA
  have HO0 := Lib.hid hOo
  have HU := Lib.hid hU
  have HP := Lib.hid hP
  clear hN1 hN2 hA hOo hU hP
  go_enter Try.func27, Try.ntmps27
  go_wp2_with fail
  refine (HU.out w (Below.refl _ _)).mono ?_
  rintro e x1 ⟨vb, rfl, hrb, hb1⟩
  go_wp2_with fail
  refine (HP.out x1 hb1).mono ?_
  rintro e x2 ⟨vc, rfl, hrc, hb2⟩
  rw [HN1.out] at hrb
  rw [HN2.out] at hrc
  have hbl2 := hb1.trans (hb2.mono hb1.size)
  obtain ⟨B, hBe⟩ : ∃ B, x2.heap.size = B := ⟨_, rfl⟩
  have hs2 : w.heap.size ≤ B := by rw [← hBe]; exact hbl2.size
  have HBS := Lib.hid hBe
  have HB := Lib.hid (own_belowAll hrb hb2)
  have HC := Lib.hid hrc
  have HA : Hid (∀ W, Below B x2 W → Calls Try.prog 19 #[.pointer (some ⟨ta, 0, none⟩)] W (ListPost W T)) := Lib.hid (fun W hW => HA0.out W (hbl2.trans (hW.mono hs2)))
  have HO : Hid (∀ W, Below B x2 W → Calls Try.prog 19 #[.pointer (some ⟨tq, 0, none⟩)] W (ListPost W O)) := Lib.hid (fun W hW => HO0.out W (hbl2.trans (hW.mono hs2)))
  obtain ⟨pb', cb', rfl, _⟩ := own_rd HB.out
  obtain ⟨pc', cc', rfl, _⟩ := own_rd HC.out
  clear hrb hrc hb1 hb2 hBe
  go_wp2
  go_loopw [9, 12] (fun l i ws => ∃ (k : Nat) (L : Nat → Value) (lv : Value), k ≤ 5 ∧ i = .int .i64 k ∧ lv = l ∧ Below B x2 ws ∧ B ≤ ws.heap.size ∧ Hid (Lists ws B 23 34 3 k l L (q4 N1 N2) (q4 (encH T) (encH O)))) (fun _ i _ => 5 - (intOf i).toNat)
  case atStart => exact ⟨0, fun _ => undef, _, by omega, rfl, rfl, Below.refl _ _, by rw [HBS.out]; exact Nat.le_refl _, Lib.hid (Lists.none_ _ _ _ _ _ _ _ _)⟩
  case round =>
    obtain ⟨k, L, lv, hk, rfl, rfl, hbl, hsz, HH⟩ := hrel
    by_cases hlt : k < 5
    · by_cases hq : k = 2 ∨ k = 3
      · rcases hq with rfl | rfl
        · have HQ : True := trivial
          go_wp2_with fail
          refine (HA.out wr hbl).mono ?_
          rintro e y0 ⟨vz, rfl, _, hb0⟩
          have hbz := hbl.trans (hb0.mono hsz)
          have hzz := hb0.size
          go_wp2_with fail
          refine (HO.out y0 hbz).mono ?_
          rintro e y1 ⟨va, rfl, hra, hb1'⟩
          have hra' := own_le (base' := wr.heap.size) hra hzz
          have hb1 := hb0.trans (hb1'.mono hzz)
          clear hra hb1' hb0 hbz
          have hra := hra'
          clear hra'
          rw [HN2.out] at hra
          have hb1' := hbl.trans (hb1.mono hsz)
          have hz1 := hb1.size
          obtain ⟨pa, ca, rfl, _, _, _⟩ := own_rd hra
          go_wp2_with fail
          refine (sameO HN2.out (by omega) y1 hra (own_below HC.out hb1' (fun g hg => by have := (HC.out.lt g hg).2; have := HBS.out; omega))).mono ?_
          rintro e y2 ⟨rfl, hb2⟩
          have hra2 := own_belowAll hra hb2
          have hl2 := (HH.out.below hb1).below hb2
          have hnew := HH.out.fresh (va := .slice pa N2 ca) (H := wr.heap.size) (Nat.le_refl _) (fun b hb => by have := (hra.lt b hb).1; omega)
          have hb2' := hb1'.trans (hb2.mono (by omega))
          have hz2 := hb2.size
          have hraB := own_le (base' := B) hra2 (by omega)
          have HR := Lib.hid (And.intro hl2 (And.intro hraB hnew))
          have hlr := hl2.1
          clear hra hra2 hl2 hnew hb1 hb2 hraB
          go_wp2_with (at_builtin; refine wpList_append_two _ rfl _ _ 50 rfl B 23 i1 (.slice none 0 0) 1 24 Try.underlying50 hj hy0 hy1 hy2 rfl (by decide) lv 2 _ rfl (hlr.alloc _) ⟨y2.heap.size, 0, none⟩ 1 1 [.slice pa N2 ca] rfl rfl (World.news_of_block (heap_alloc_new y2 _)) (by simp [Value.oneCell']) (by decide) (by unfold maxLen; omega) (by omega) (by simp; omega) ?_; intro g' capn y3 hown' hold hlies hlt2)
          have hln := Lists.step HR.out.1 (by rw [q4_y _ _ (by decide), q4_y _ _ (by decide)]; exact HR.out.2.1) HR.out.2.2 (by decide) _ hown' hlies
          have hbn : Below B x2 y3 := hlies.below (hb2'.alloc (by omega) _) (by simp; omega) (fun b hb => (hlr.lt b hb).1)
          have hzn : B ≤ y3.heap.size := Nat.le_trans (by simp; omega) hlies.row.size
          have HLN := Lib.hid hln
          clear hln
          go_roundw
          case rel => exact ⟨2 + 1, _, _, by omega, by go_num, rfl, hbn, hzn, Lib.hid HLN.out⟩
          case measure => simp [intOf]
        · have HQ : True := trivial
          go_wp2_with fail
          refine (HA.out wr hbl).mono ?_
          rintro e y0 ⟨vz, rfl, _, hb0⟩
          have hbz := hbl.trans (hb0.mono hsz)
          have hzz := hb0.size
          go_wp2_with fail
          refine (HO.out y0 hbz).mono ?_
          rintro e y1 ⟨va, rfl, hra, hb1'⟩
          have hra' := own_le (base' := wr.heap.size) hra hzz
          have hb1 := hb0.trans (hb1'.mono hzz)
          clear hra hb1' hb0 hbz
          have hra := hra'
          clear hra'
          rw [HN2.out] at hra
          have hb1' := hbl.trans (hb1.mono hsz)
          have hz1 := hb1.size
          obtain ⟨pa, ca, rfl, _, _, _⟩ := own_rd hra
          go_wp2_with fail
          refine (sameO HN2.out (by omega) y1 hra (own_below HC.out hb1' (fun g hg => by have := (HC.out.lt g hg).2; have := HBS.out; omega))).mono ?_
          rintro e y2 ⟨rfl, hb2⟩
          have hra2 := own_belowAll hra hb2
          have hl2 := (HH.out.below hb1).below hb2
          have hnew := HH.out.fresh (va := .slice pa N2 ca) (H := wr.heap.size) (Nat.le_refl _) (fun b hb => by have := (hra.lt b hb).1; omega)
          have hb2' := hb1'.trans (hb2.mono (by omega))
          have hz2 := hb2.size
          have hraB := own_le (base' := B) hra2 (by omega)
          have HR := Lib.hid (And.intro hl2 (And.intro hraB hnew))
          have hlr := hl2.1
          clear hra hra2 hl2 hnew hb1 hb2 hraB
          go_wp2_with (at_builtin; refine wpList_append_two _ rfl _ _ 50 rfl B 23 i1 (.slice none 0 0) 1 24 Try.underlying50 hj hy0 hy1 hy2 rfl (by decide) lv 3 _ rfl (hlr.alloc _) ⟨y2.heap.size, 0, none⟩ 1 1 [.slice pa N2 ca] rfl rfl (World.news_of_block (heap_alloc_new y2 _)) (by simp [Value.oneCell']) (by decide) (by unfold maxLen; omega) (by omega) (by simp; omega) ?_; intro g' capn y3 hown' hold hlies hlt2)
          have hln := Lists.step HR.out.1 (by rw [q4_y _ _ (by decide), q4_y _ _ (by decide)]; exact HR.out.2.1) HR.out.2.2 (by decide) _ hown' hlies
          have hbn : Below B x2 y3 := hlies.below (hb2'.alloc (by omega) _) (by simp; omega) (fun b hb => (hlr.lt b hb).1)
          have hzn : B ≤ y3.heap.size := Nat.le_trans (by simp; omega) hlies.row.size
          have HLN := Lib.hid hln
          clear hln
          go_roundw
          case rel => exact ⟨3 + 1, _, _, by omega, by go_num, rfl, hbn, hzn, Lib.hid HLN.out⟩
          case measure => simp [intOf]
      · have e2 : ((k : Int) == 2) = false := by rw [beq_eq_false_iff_ne]; omega
        have e3 : ((k : Int) == 3) = false := by rw [beq_eq_false_iff_ne]; omega
        have HQ := Lib.hid hq
        clear hq
        go_wp2_with fail
        refine (HA.out wr hbl).mono ?_
        rintro e y1 ⟨va, rfl, hra, hb1⟩
        rw [HN1.out] at hra
        have hb1' := hbl.trans (hb1.mono hsz)
        have hz1 := hb1.size
        obtain ⟨pa, ca, rfl, _, _, _⟩ := own_rd hra
        go_wp2_with fail
        refine (sameO HN1.out (by omega) y1 hra (own_below HB.out hb1' (fun g hg => by have := (HB.out.lt g hg).2; have := HBS.out; omega))).mono ?_
        rintro e y2 ⟨rfl, hb2⟩
        have hra2 := own_belowAll hra hb2
        have hl2 := (HH.out.below hb1).below hb2
        have hnew := HH.out.fresh (va := .slice pa N1 ca) (H := wr.heap.size) (Nat.le_refl _) (fun b hb => by have := (hra.lt b hb).1; omega)
        have hb2' := hb1'.trans (hb2.mono (by omega))
        have hz2 := hb2.size
        have hraB := own_le (base' := B) hra2 (by omega)
        have HR := Lib.hid (And.intro hl2 (And.intro hraB hnew))
        have hlr := hl2.1
        clear hra hra2 hl2 hnew hb1 hb2 hraB
        go_wp2_with (at_builtin; refine wpList_append_two _ rfl _ _ 50 rfl B 23 i1 (.slice none 0 0) 1 24 Try.underlying50 hj hy0 hy1 hy2 rfl (by decide) lv k _ rfl (hlr.alloc _) ⟨y2.heap.size, 0, none⟩ 1 1 [.slice pa N1 ca] rfl rfl (World.news_of_block (heap_alloc_new y2 _)) (by simp [Value.oneCell']) (by decide) (by unfold maxLen; omega) (by omega) (by simp; omega) ?_; intro g' capn y3 hown' hold hlies hlt2)
        have hln := Lists.step HR.out.1 (by rw [q4_x _ _ HQ.out, q4_x _ _ HQ.out]; exact HR.out.2.1) HR.out.2.2 (by decide) _ hown' hlies
        have hbn : Below B x2 y3 := hlies.below (hb2'.alloc (by omega) _) (by simp; omega) (fun b hb => (hlr.lt b hb).1)
        have hzn : B ≤ y3.heap.size := Nat.le_trans (by simp; omega) hlies.row.size
        have HLN := Lib.hid hln
        clear hln
        go_roundw
        case rel => exact ⟨k + 1, _, _, by omega, by go_num, rfl, hbn, hzn, Lib.hid HLN.out⟩
        case measure => simp [intOf]; omega
    · obtain rfl : k = 5 := by omega
      obtain ⟨gl, cl, rfl, hgl1, hgl2⟩ := HH.out.1.form (by decide)
      have r0 := HH.out.2.1 0 (by decide)
      rw [q4_x _ _ (by decide), q4_x _ _ (by decide)] at r0
      have k0 : wr.cell? ⟨gl, 0, none⟩ = some (L 0) := by rw [HH.out.1.cellAt 0 (by decide)]; rfl
      obtain ⟨p0, c0, e0, _, _, _⟩ := own_rd r0
      rw [e0] at r0 k0
      have r1 := HH.out.2.1 1 (by decide)
      rw [q4_x _ _ (by decide), q4_x _ _ (by decide)] at r1
      have k1 : wr.cell? ⟨gl, 1, none⟩ = some (L 1) := by rw [HH.out.1.cellAt 1 (by decide)]; rfl
      obtain ⟨p1, c1, e1, _, _, _⟩ := own_rd r1
      rw [e1] at r1 k1
      have r2 := HH.out.2.1 2 (by decide)
      rw [q4_y _ _ (by decide), q4_y _ _ (by decide)] at r2
      have k2 : wr.cell? ⟨gl, 2, none⟩ = some (L 2) := by rw [HH.out.1.cellAt 2 (by decide)]; rfl
      obtain ⟨p2, c2, e2, _, _, _⟩ := own_rd r2
      rw [e2] at r2 k2
      have r3 := HH.out.2.1 3 (by decide)
      rw [q4_y _ _ (by decide), q4_y _ _ (by decide)] at r3
      have k3 : wr.cell? ⟨gl, 3, none⟩ = some (L 3) := by rw [HH.out.1.cellAt 3 (by decide)]; rfl
      obtain ⟨p3, c3, e3, _, _, _⟩ := own_rd r3
      rw [e3] at r3 k3
      have r4 := HH.out.2.1 4 (by decide)
      rw [q4_x _ _ (by decide), q4_x _ _ (by decide)] at r4
      have k4 : wr.cell? ⟨gl, 4, none⟩ = some (L 4) := by rw [HH.out.1.cellAt 4 (by decide)]; rfl
      obtain ⟨p4, c4, e4, _, _, _⟩ := own_rd r4
      rw [e4] at r4 k4
      have K : Hid (∀ z, Below wr.heap.size wr z → (z.cell? ⟨gl, 0, none⟩ = some (.slice p0 N1 c0) ∧ z.cell? ⟨gl, 1, none⟩ = some (.slice p1 N1 c1) ∧ z.cell? ⟨gl, 2, none⟩ = some (.slice p2 N2 c2) ∧ z.cell? ⟨gl, 3, none⟩ = some (.slice p3 N2 c3) ∧ z.cell? ⟨gl, 4, none⟩ = some (.slice p4 N1 c4))) := Lib.hid (fun z hz => ⟨(hz.cell (p := ⟨gl, 0, none⟩) hgl2).trans k0, (hz.cell (p := ⟨gl, 1, none⟩) hgl2).trans k1, (hz.cell (p := ⟨gl, 2, none⟩) hgl2).trans k2, (hz.cell (p := ⟨gl, 3, none⟩) hgl2).trans k3, (hz.cell (p := ⟨gl, 4, none⟩) hgl2).trans k4⟩)
      have R : Hid ((wr.ownsRow B 34 3 (.slice p0 N1 c0) N1 (encH T) ∧ wr.ownsRow B 34 3 (.slice p1 N1 c1) N1 (encH T) ∧ wr.ownsRow B 34 3 (.slice p2 N2 c2) N2 (encH O) ∧ wr.ownsRow B 34 3 (.slice p3 N2 c3) N2 (encH O) ∧ wr.ownsRow B 34 3 (.slice p4 N1 c4) N1 (encH T))) := Lib.hid ⟨r0, r1, r2, r3, r4⟩
      have RB : Hid (∀ z, Below wr.heap.size wr z → z.ownsRow _ 34 3 (.slice pb' N1 cb') N1 (encH T) ∧ z.ownsRow _ 34 3 (.slice pc' N2 cc') N2 (encH O)) := Lib.hid (fun z hz => ⟨own_below HB.out (hbl.trans (hz.mono hsz)) (fun g hg => by have := (HB.out.lt g hg).2; have := HBS.out; omega), own_below HC.out (hbl.trans (hz.mono hsz)) (fun g hg => by have := (HC.out.lt g hg).2; have := HBS.out; omega)⟩)
      clear r0 k0 e0 r1 k1 e1 r2 k2 e2 r3 k3 e3 r4 k4 e4
      obtain ⟨k0, k1, k2, k3, k4⟩ := K.out wr (Below.refl _ _)
      go_wp2_with fail
      refine (sameO HN1.out (by omega) wr (own_belowAll R.out.1 (Below.refl _ _)) (RB.out wr (Below.refl _ _)).1).mono ?_
      rintro e z0 ⟨rfl, hz0⟩
      have hy0 := hz0
      clear k0 k1 k2 k3 k4 hz0
      obtain ⟨k0, k1, k2, k3, k4⟩ := K.out z0 hy0
      go_wp2_with fail
      refine (sameO HN1.out (by omega) z0 (own_belowAll R.out.2.1 hy0) (RB.out z0 hy0).1).mono ?_
      rintro e z1 ⟨rfl, hz1⟩
      have hy1 := hy0.trans (hz1.mono hy0.size)
      clear k0 k1 k2 k3 k4 hz1
      obtain ⟨k0, k1, k2, k3, k4⟩ := K.out z1 hy1
      go_wp2_with fail
      refine (sameO HN1.out (by omega) z1 (own_belowAll R.out.2.2.2.2 hy1) (RB.out z1 hy1).1).mono ?_
      rintro e z2 ⟨rfl, hz2⟩
      have hy2 := hy1.trans (hz2.mono hy1.size)
      clear k0 k1 k2 k3 k4 hz2
      obtain ⟨k0, k1, k2, k3, k4⟩ := K.out z2 hy2
      go_wp2_with fail
      refine (sameO HN2.out (by omega) z2 (own_belowAll R.out.2.2.1 hy2) (RB.out z2 hy2).2).mono ?_
      rintro e z3 ⟨rfl, hz3⟩
      have hy3 := hy2.trans (hz3.mono hy2.size)
      clear k0 k1 k2 k3 k4 hz3
      obtain ⟨k0, k1, k2, k3, k4⟩ := K.out z3 hy3
      go_wp2_with fail
      refine (sameO HN2.out (by omega) z3 (own_belowAll R.out.2.2.2.1 hy3) (RB.out z3 hy3).2).mono ?_
      rintro e z4 ⟨rfl, hz4⟩
      have hy4 := hy3.trans (hz4.mono hy3.size)
      clear k0 k1 k2 k3 k4 hz4
      obtain ⟨k0, k1, k2, k3, k4⟩ := K.out z4 hy4
      have hly := HH.out.below hy4
      have hbz := hbl.trans (hy4.mono hsz)
      go_wp2_with fail
      refine (apartB_calls (.slice (some ⟨gl, 0, none⟩) 5 cl) 5 L (q4 N1 N2) B (by decide) (fun i _ => by unfold q4; split <;> omega) z4 (by have := hy4.size; omega) hly.1 (fun i hi => ⟨_, hly.2.1 i hi⟩) hly.2.2).mono ?_
      rintro e z5 ⟨rfl, hz5⟩
      have hb5 := hbz.trans hz5
      go_wp2
      go_ret
      exact ⟨rfl, hbl2.trans (hb5.mono hs2)⟩

set_option maxRecDepth 100000 in
set_option maxHeartbeats 4000000 in
theorem balled_calls (ta tq ub pb : Nat) (T O : List Hv) (hT : T.length ≤ 4398046510976) (hO : O.length ≤ 4398046510976) (w : World)
    (hA : ∀ W, Below w.heap.size w W → Calls Try.prog 35 #[.pointer (some ⟨ta, 0, none⟩)] W (ListPost W T)) (hOo : ∀ W, Below w.heap.size w W → Calls Try.prog 35 #[.pointer (some ⟨tq, 0, none⟩)] W (ListPost W O))
    (hU : ∀ W, Below w.heap.size w W → Calls Try.prog 37 #[.pointer (some ⟨ub, 0, none⟩)] W (ListPost W T)) (hP : ∀ W, Below w.heap.size w W → Calls Try.prog 37 #[.pointer (some ⟨pb, 0, none⟩)] W (ListPost W O)) :
    Calls Try.prog 13 #[.pointer (some ⟨ta, 0, none⟩), .pointer (some ⟨tq, 0, none⟩), .pointer (some ⟨ub, 0, none⟩), .pointer (some ⟨pb, 0, none⟩)] w fun e w' => e = .returned (.bool true) ∧ Below w.heap.size w w' := by
  obtain ⟨i1, hj, hy0, hy1, hy2⟩ := info_parts hitsinfo
  obtain ⟨N1, hN1⟩ : ∃ n, T.length = n := ⟨_, rfl⟩
  obtain ⟨N2, hN2⟩ : ∃ n, O.length = n := ⟨_, rfl⟩
  rw [hN1] at hT
  rw [hN2] at hO
  have HN1 := Lib.hid hN1
  have HN2 := Lib.hid hN2
  have HA0 := Lib.hid hA
  have HO0 := Lib.hid hOo
  have HU := Lib.hid hU
  have HP := Lib.hid hP
  clear hN1 hN2 hA hOo hU hP
  go_enter Try.func13, Try.ntmps13
  go_wp2_with fail
  refine (HU.out w (Below.refl _ _)).mono ?_
  rintro e x1 ⟨vb, rfl, hrb, hb1⟩
  go_wp2_with fail
  refine (HP.out x1 hb1).mono ?_
  rintro e x2 ⟨vc, rfl, hrc, hb2⟩
  rw [HN1.out] at hrb
  rw [HN2.out] at hrc
  have hbl2 := hb1.trans (hb2.mono hb1.size)
  obtain ⟨B, hBe⟩ : ∃ B, x2.heap.size = B := ⟨_, rfl⟩
  have hs2 : w.heap.size ≤ B := by rw [← hBe]; exact hbl2.size
  have HBS := Lib.hid hBe
  have HB := Lib.hid (own_belowAll hrb hb2)
  have HC := Lib.hid hrc
  have HA : Hid (∀ W, Below B x2 W → Calls Try.prog 35 #[.pointer (some ⟨ta, 0, none⟩)] W (ListPost W T)) := Lib.hid (fun W hW => HA0.out W (hbl2.trans (hW.mono hs2)))
  have HO : Hid (∀ W, Below B x2 W → Calls Try.prog 35 #[.pointer (some ⟨tq, 0, none⟩)] W (ListPost W O)) := Lib.hid (fun W hW => HO0.out W (hbl2.trans (hW.mono hs2)))
  obtain ⟨pb', cb', rfl, _⟩ := own_rd HB.out
  obtain ⟨pc', cc', rfl, _⟩ := own_rd HC.out
  clear hrb hrc hb1 hb2 hBe
  go_wp2
  go_loopw [9, 12] (fun l i ws => ∃ (k : Nat) (L : Nat → Value) (lv : Value), k ≤ 5 ∧ i = .int .i64 k ∧ lv = l ∧ Below B x2 ws ∧ B ≤ ws.heap.size ∧ Hid (Lists ws B 23 34 3 k l L (q4 N1 N2) (q4 (encH T) (encH O)))) (fun _ i _ => 5 - (intOf i).toNat)
  case atStart => exact ⟨0, fun _ => undef, _, by omega, rfl, rfl, Below.refl _ _, by rw [HBS.out]; exact Nat.le_refl _, Lib.hid (Lists.none_ _ _ _ _ _ _ _ _)⟩
  case round =>
    obtain ⟨k, L, lv, hk, rfl, rfl, hbl, hsz, HH⟩ := hrel
    by_cases hlt : k < 5
    · by_cases hq : k = 2 ∨ k = 3
      · rcases hq with rfl | rfl
        · have HQ : True := trivial
          go_wp2_with fail
          refine (HA.out wr hbl).mono ?_
          rintro e y0 ⟨vz, rfl, _, hb0⟩
          have hbz := hbl.trans (hb0.mono hsz)
          have hzz := hb0.size
          go_wp2_with fail
          refine (HO.out y0 hbz).mono ?_
          rintro e y1 ⟨va, rfl, hra, hb1'⟩
          have hra' := own_le (base' := wr.heap.size) hra hzz
          have hb1 := hb0.trans (hb1'.mono hzz)
          clear hra hb1' hb0 hbz
          have hra := hra'
          clear hra'
          rw [HN2.out] at hra
          have hb1' := hbl.trans (hb1.mono hsz)
          have hz1 := hb1.size
          obtain ⟨pa, ca, rfl, _, _, _⟩ := own_rd hra
          go_wp2_with fail
          refine (sameO HN2.out (by omega) y1 hra (own_below HC.out hb1' (fun g hg => by have := (HC.out.lt g hg).2; have := HBS.out; omega))).mono ?_
          rintro e y2 ⟨rfl, hb2⟩
          have hra2 := own_belowAll hra hb2
          have hl2 := (HH.out.below hb1).below hb2
          have hnew := HH.out.fresh (va := .slice pa N2 ca) (H := wr.heap.size) (Nat.le_refl _) (fun b hb => by have := (hra.lt b hb).1; omega)
          have hb2' := hb1'.trans (hb2.mono (by omega))
          have hz2 := hb2.size
          have hraB := own_le (base' := B) hra2 (by omega)
          have HR := Lib.hid (And.intro hl2 (And.intro hraB hnew))
          have hlr := hl2.1
          clear hra hra2 hl2 hnew hb1 hb2 hraB
          go_wp2_with (at_builtin; refine wpList_append_two _ rfl _ _ 50 rfl B 23 i1 (.slice none 0 0) 1 24 Try.underlying50 hj hy0 hy1 hy2 rfl (by decide) lv 2 _ rfl (hlr.alloc _) ⟨y2.heap.size, 0, none⟩ 1 1 [.slice pa N2 ca] rfl rfl (World.news_of_block (heap_alloc_new y2 _)) (by simp [Value.oneCell']) (by decide) (by unfold maxLen; omega) (by omega) (by simp; omega) ?_; intro g' capn y3 hown' hold hlies hlt2)
          have hln := Lists.step HR.out.1 (by rw [q4_y _ _ (by decide), q4_y _ _ (by decide)]; exact HR.out.2.1) HR.out.2.2 (by decide) _ hown' hlies
          have hbn : Below B x2 y3 := hlies.below (hb2'.alloc (by omega) _) (by simp; omega) (fun b hb => (hlr.lt b hb).1)
          have hzn : B ≤ y3.heap.size := Nat.le_trans (by simp; omega) hlies.row.size
          have HLN := Lib.hid hln
          clear hln
          go_roundw
          case rel => exact ⟨2 + 1, _, _, by omega, by go_num, rfl, hbn, hzn, Lib.hid HLN.out⟩
          case measure => simp [intOf]
        · have HQ : True := trivial
          go_wp2_with fail
          refine (HA.out wr hbl).mono ?_
          rintro e y0 ⟨vz, rfl, _, hb0⟩
          have hbz := hbl.trans (hb0.mono hsz)
          have hzz := hb0.size
          go_wp2_with fail
          refine (HO.out y0 hbz).mono ?_
          rintro e y1 ⟨va, rfl, hra, hb1'⟩
          have hra' := own_le (base' := wr.heap.size) hra hzz
          have hb1 := hb0.trans (hb1'.mono hzz)
          clear hra hb1' hb0 hbz
          have hra := hra'
          clear hra'
          rw [HN2.out] at hra
          have hb1' := hbl.trans (hb1.mono hsz)
          have hz1 := hb1.size
          obtain ⟨pa, ca, rfl, _, _, _⟩ := own_rd hra
          go_wp2_with fail
          refine (sameO HN2.out (by omega) y1 hra (own_below HC.out hb1' (fun g hg => by have := (HC.out.lt g hg).2; have := HBS.out; omega))).mono ?_
          rintro e y2 ⟨rfl, hb2⟩
          have hra2 := own_belowAll hra hb2
          have hl2 := (HH.out.below hb1).below hb2
          have hnew := HH.out.fresh (va := .slice pa N2 ca) (H := wr.heap.size) (Nat.le_refl _) (fun b hb => by have := (hra.lt b hb).1; omega)
          have hb2' := hb1'.trans (hb2.mono (by omega))
          have hz2 := hb2.size
          have hraB := own_le (base' := B) hra2 (by omega)
          have HR := Lib.hid (And.intro hl2 (And.intro hraB hnew))
          have hlr := hl2.1
          clear hra hra2 hl2 hnew hb1 hb2 hraB
          go_wp2_with (at_builtin; refine wpList_append_two _ rfl _ _ 50 rfl B 23 i1 (.slice none 0 0) 1 24 Try.underlying50 hj hy0 hy1 hy2 rfl (by decide) lv 3 _ rfl (hlr.alloc _) ⟨y2.heap.size, 0, none⟩ 1 1 [.slice pa N2 ca] rfl rfl (World.news_of_block (heap_alloc_new y2 _)) (by simp [Value.oneCell']) (by decide) (by unfold maxLen; omega) (by omega) (by simp; omega) ?_; intro g' capn y3 hown' hold hlies hlt2)
          have hln := Lists.step HR.out.1 (by rw [q4_y _ _ (by decide), q4_y _ _ (by decide)]; exact HR.out.2.1) HR.out.2.2 (by decide) _ hown' hlies
          have hbn : Below B x2 y3 := hlies.below (hb2'.alloc (by omega) _) (by simp; omega) (fun b hb => (hlr.lt b hb).1)
          have hzn : B ≤ y3.heap.size := Nat.le_trans (by simp; omega) hlies.row.size
          have HLN := Lib.hid hln
          clear hln
          go_roundw
          case rel => exact ⟨3 + 1, _, _, by omega, by go_num, rfl, hbn, hzn, Lib.hid HLN.out⟩
          case measure => simp [intOf]
      · have e2 : ((k : Int) == 2) = false := by rw [beq_eq_false_iff_ne]; omega
        have e3 : ((k : Int) == 3) = false := by rw [beq_eq_false_iff_ne]; omega
        have HQ := Lib.hid hq
        clear hq
        go_wp2_with fail
        refine (HA.out wr hbl).mono ?_
        rintro e y1 ⟨va, rfl, hra, hb1⟩
        rw [HN1.out] at hra
        have hb1' := hbl.trans (hb1.mono hsz)
        have hz1 := hb1.size
        obtain ⟨pa, ca, rfl, _, _, _⟩ := own_rd hra
        go_wp2_with fail
        refine (sameO HN1.out (by omega) y1 hra (own_below HB.out hb1' (fun g hg => by have := (HB.out.lt g hg).2; have := HBS.out; omega))).mono ?_
        rintro e y2 ⟨rfl, hb2⟩
        have hra2 := own_belowAll hra hb2
        have hl2 := (HH.out.below hb1).below hb2
        have hnew := HH.out.fresh (va := .slice pa N1 ca) (H := wr.heap.size) (Nat.le_refl _) (fun b hb => by have := (hra.lt b hb).1; omega)
        have hb2' := hb1'.trans (hb2.mono (by omega))
        have hz2 := hb2.size
        have hraB := own_le (base' := B) hra2 (by omega)
        have HR := Lib.hid (And.intro hl2 (And.intro hraB hnew))
        have hlr := hl2.1
        clear hra hra2 hl2 hnew hb1 hb2 hraB
        go_wp2_with (at_builtin; refine wpList_append_two _ rfl _ _ 50 rfl B 23 i1 (.slice none 0 0) 1 24 Try.underlying50 hj hy0 hy1 hy2 rfl (by decide) lv k _ rfl (hlr.alloc _) ⟨y2.heap.size, 0, none⟩ 1 1 [.slice pa N1 ca] rfl rfl (World.news_of_block (heap_alloc_new y2 _)) (by simp [Value.oneCell']) (by decide) (by unfold maxLen; omega) (by omega) (by simp; omega) ?_; intro g' capn y3 hown' hold hlies hlt2)
        have hln := Lists.step HR.out.1 (by rw [q4_x _ _ HQ.out, q4_x _ _ HQ.out]; exact HR.out.2.1) HR.out.2.2 (by decide) _ hown' hlies
        have hbn : Below B x2 y3 := hlies.below (hb2'.alloc (by omega) _) (by simp; omega) (fun b hb => (hlr.lt b hb).1)
        have hzn : B ≤ y3.heap.size := Nat.le_trans (by simp; omega) hlies.row.size
        have HLN := Lib.hid hln
        clear hln
        go_roundw
        case rel => exact ⟨k + 1, _, _, by omega, by go_num, rfl, hbn, hzn, Lib.hid HLN.out⟩
        case measure => simp [intOf]; omega
    · obtain rfl : k = 5 := by omega
      obtain ⟨gl, cl, rfl, hgl1, hgl2⟩ := HH.out.1.form (by decide)
      have r0 := HH.out.2.1 0 (by decide)
      rw [q4_x _ _ (by decide), q4_x _ _ (by decide)] at r0
      have k0 : wr.cell? ⟨gl, 0, none⟩ = some (L 0) := by rw [HH.out.1.cellAt 0 (by decide)]; rfl
      obtain ⟨p0, c0, e0, _, _, _⟩ := own_rd r0
      rw [e0] at r0 k0
      have r1 := HH.out.2.1 1 (by decide)
      rw [q4_x _ _ (by decide), q4_x _ _ (by decide)] at r1
      have k1 : wr.cell? ⟨gl, 1, none⟩ = some (L 1) := by rw [HH.out.1.cellAt 1 (by decide)]; rfl
      obtain ⟨p1, c1, e1, _, _, _⟩ := own_rd r1
      rw [e1] at r1 k1
      have r2 := HH.out.2.1 2 (by decide)
      rw [q4_y _ _ (by decide), q4_y _ _ (by decide)] at r2
      have k2 : wr.cell? ⟨gl, 2, none⟩ = some (L 2) := by rw [HH.out.1.cellAt 2 (by decide)]; rfl
      obtain ⟨p2, c2, e2, _, _, _⟩ := own_rd r2
      rw [e2] at r2 k2
      have r3 := HH.out.2.1 3 (by decide)
      rw [q4_y _ _ (by decide), q4_y _ _ (by decide)] at r3
      have k3 : wr.cell? ⟨gl, 3, none⟩ = some (L 3) := by rw [HH.out.1.cellAt 3 (by decide)]; rfl
      obtain ⟨p3, c3, e3, _, _, _⟩ := own_rd r3
      rw [e3] at r3 k3
      have r4 := HH.out.2.1 4 (by decide)
      rw [q4_x _ _ (by decide), q4_x _ _ (by decide)] at r4
      have k4 : wr.cell? ⟨gl, 4, none⟩ = some (L 4) := by rw [HH.out.1.cellAt 4 (by decide)]; rfl
      obtain ⟨p4, c4, e4, _, _, _⟩ := own_rd r4
      rw [e4] at r4 k4
      have K : Hid (∀ z, Below wr.heap.size wr z → (z.cell? ⟨gl, 0, none⟩ = some (.slice p0 N1 c0) ∧ z.cell? ⟨gl, 1, none⟩ = some (.slice p1 N1 c1) ∧ z.cell? ⟨gl, 2, none⟩ = some (.slice p2 N2 c2) ∧ z.cell? ⟨gl, 3, none⟩ = some (.slice p3 N2 c3) ∧ z.cell? ⟨gl, 4, none⟩ = some (.slice p4 N1 c4))) := Lib.hid (fun z hz => ⟨(hz.cell (p := ⟨gl, 0, none⟩) hgl2).trans k0, (hz.cell (p := ⟨gl, 1, none⟩) hgl2).trans k1, (hz.cell (p := ⟨gl, 2, none⟩) hgl2).trans k2, (hz.cell (p := ⟨gl, 3, none⟩) hgl2).trans k3, (hz.cell (p := ⟨gl, 4, none⟩) hgl2).trans k4⟩)
      have R : Hid ((wr.ownsRow B 34 3 (.slice p0 N1 c0) N1 (encH T) ∧ wr.ownsRow B 34 3 (.slice p1 N1 c1) N1 (encH T) ∧ wr.ownsRow B 34 3 (.slice p2 N2 c2) N2 (encH O) ∧ wr.ownsRow B 34 3 (.slice p3 N2 c3) N2 (encH O) ∧ wr.ownsRow B 34 3 (.slice p4 N1 c4) N1 (encH T))) := Lib.hid ⟨r0, r1, r2, r3, r4⟩
      have RB : Hid (∀ z, Below wr.heap.size wr z → z.ownsRow _ 34 3 (.slice pb' N1 cb') N1 (encH T) ∧ z.ownsRow _ 34 3 (.slice pc' N2 cc') N2 (encH O)) := Lib.hid (fun z hz => ⟨own_below HB.out (hbl.trans (hz.mono hsz)) (fun g hg => by have := (HB.out.lt g hg).2; have := HBS.out; omega), own_below HC.out (hbl.trans (hz.mono hsz)) (fun g hg => by have := (HC.out.lt g hg).2; have := HBS.out; omega)⟩)
      clear r0 k0 e0 r1 k1 e1 r2 k2 e2 r3 k3 e3 r4 k4 e4
      obtain ⟨k0, k1, k2, k3, k4⟩ := K.out wr (Below.refl _ _)
      go_wp2_with fail
      refine (sameO HN1.out (by omega) wr (own_belowAll R.out.1 (Below.refl _ _)) (RB.out wr (Below.refl _ _)).1).mono ?_
      rintro e z0 ⟨rfl, hz0⟩
      have hy0 := hz0
      clear k0 k1 k2 k3 k4 hz0
      obtain ⟨k0, k1, k2, k3, k4⟩ := K.out z0 hy0
      go_wp2_with fail
      refine (sameO HN1.out (by omega) z0 (own_belowAll R.out.2.1 hy0) (RB.out z0 hy0).1).mono ?_
      rintro e z1 ⟨rfl, hz1⟩
      have hy1 := hy0.trans (hz1.mono hy0.size)
      clear k0 k1 k2 k3 k4 hz1
      obtain ⟨k0, k1, k2, k3, k4⟩ := K.out z1 hy1
      go_wp2_with fail
      refine (sameO HN1.out (by omega) z1 (own_belowAll R.out.2.2.2.2 hy1) (RB.out z1 hy1).1).mono ?_
      rintro e z2 ⟨rfl, hz2⟩
      have hy2 := hy1.trans (hz2.mono hy1.size)
      clear k0 k1 k2 k3 k4 hz2
      obtain ⟨k0, k1, k2, k3, k4⟩ := K.out z2 hy2
      go_wp2_with fail
      refine (sameO HN2.out (by omega) z2 (own_belowAll R.out.2.2.1 hy2) (RB.out z2 hy2).2).mono ?_
      rintro e z3 ⟨rfl, hz3⟩
      have hy3 := hy2.trans (hz3.mono hy2.size)
      clear k0 k1 k2 k3 k4 hz3
      obtain ⟨k0, k1, k2, k3, k4⟩ := K.out z3 hy3
      go_wp2_with fail
      refine (sameO HN2.out (by omega) z3 (own_belowAll R.out.2.2.2.1 hy3) (RB.out z3 hy3).2).mono ?_
      rintro e z4 ⟨rfl, hz4⟩
      have hy4 := hy3.trans (hz4.mono hy3.size)
      clear k0 k1 k2 k3 k4 hz4
      obtain ⟨k0, k1, k2, k3, k4⟩ := K.out z4 hy4
      have hly := HH.out.below hy4
      have hbz := hbl.trans (hy4.mono hsz)
      go_wp2_with fail
      refine (apartB_calls (.slice (some ⟨gl, 0, none⟩) 5 cl) 5 L (q4 N1 N2) B (by decide) (fun i _ => by unfold q4; split <;> omega) z4 (by have := hy4.size; omega) hly.1 (fun i hi => ⟨_, hly.2.1 i hi⟩) hly.2.2).mono ?_
      rintro e z5 ⟨rfl, hz5⟩
      have hb5 := hbz.trans hz5
      go_wp2
      go_ret
      exact ⟨rfl, hbl2.trans (hb5.mono hs2)⟩

end Go.Proofs.Ytahceakghgmpkaa
