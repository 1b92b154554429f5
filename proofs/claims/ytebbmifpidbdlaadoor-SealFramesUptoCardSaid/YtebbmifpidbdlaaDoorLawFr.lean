/-
  WALK: the law SealFrames: the frames of a text; the lists are the caller's. The text is of at most 1048576 bytes.
-/
import Derived.Test.YtebbmifpidbdlaaDoorApartF
import Derived.Test.YtebbmifpidbdlaaDoorFrame
import Derived.Test.YtebbmifpidbdlaaDoorRefParse
import Derived.BigQuiet
namespace Go.Proofs.YtebbmifpidbdlaaDoor
open Go.RowKit
set_option linter.unusedVariables false

set_option maxHeartbeats 1000000 in
/-- Two lists of the same frames. -/
theorem sameF_true (v1 v2 : Value) (b1 b2 n : Nat) (xs : List Value) (hn : n < 4611686018427387904) (hk : ∀ j, j < n → ∃ (x : Int) (s : ByteArray) (y : Int), xs[j * 3]? = some (.int .i64 x) ∧ xs[j * 3 + 1]? = some (.string s) ∧ xs[j * 3 + 2]? = some (.int .i64 y)) (w : World)
    (h1 : w.ownsRow b1 51 3 v1 n xs) (h2 : w.ownsRow b2 51 3 v2 n xs) :
    Calls Tryd.prog 21 #[v1, v2] w fun e w' => e = .returned (.bool true) ∧ Below w.heap.size w w' := by
  obtain ⟨p1, c1, rfl, k1, m1, r1⟩ := own_rd h1
  obtain ⟨p2, c2, rfl, k2, m2, r2⟩ := own_rd h2
  have R1 := Lib.hid r1
  have R2 := Lib.hid r2
  have HK := Lib.hid hk
  clear h1 h2 r1 r2 hk
  go_enter Tryd.func21, Tryd.ntmps21
  go_wp2
  go_loopw [5] (fun i wr => ∃ k : Nat, k ≤ n ∧ i = .int .i64 k ∧ Below w.heap.size w wr) (fun i _ => n - (intOf i).toNat)
  case atStart => exact ⟨0, Nat.zero_le _, rfl, Below.refl _ _⟩
  case round =>
    obtain ⟨k, hk, rfl, hbl⟩ := hrel
    by_cases hlt : k < n
    · obtain ⟨g1, rfl, _, hg1, q1, _⟩ := R1.out (by omega)
      obtain ⟨g2, rfl, _, hg2, q2, _⟩ := R2.out (by omega)
      obtain ⟨x, s, y, e1, e2, e3⟩ := HK.out k hlt
      have d1 := (hbl.cell (p := ⟨g1, k * 3, none⟩) hg1).trans ((q1 (k * 3) (by omega)).trans e1)
      have d2 := (hbl.cell (p := ⟨g1, k * 3 + 1, none⟩) hg1).trans ((q1 (k * 3 + 1) (by omega)).trans e2)
      have d3 := (hbl.cell (p := ⟨g1, k * 3 + 2, none⟩) hg1).trans ((q1 (k * 3 + 2) (by omega)).trans e3)
      have d4 := (hbl.cell (p := ⟨g2, k * 3, none⟩) hg2).trans ((q2 (k * 3) (by omega)).trans e1)
      have d5 := (hbl.cell (p := ⟨g2, k * 3 + 1, none⟩) hg2).trans ((q2 (k * 3 + 1) (by omega)).trans e2)
      have d6 := (hbl.cell (p := ⟨g2, k * 3 + 2, none⟩) hg2).trans ((q2 (k * 3 + 2) (by omega)).trans e3)
      clear q1 q2 e1 e2 e3
      go_wp2
      go_quiet (fail)
      go_wp2
      go_roundw
      case rel => exact ⟨k + 1, by omega, by go_num, below_drewN hbl _⟩
      case measure => simp [intOf]; omega
    · obtain rfl : k = n := by omega
      go_wp2
      go_ret
      exact ⟨rfl, hbl⟩
theorem encF_kinds (L : List (Int × List UInt8 × Nat)) (j : Nat) (h : j < L.length) : ∃ (x : Int) (s : ByteArray) (y : Int), (encF L)[j * 3]? = some (.int .i64 x) ∧ (encF L)[j * 3 + 1]? = some (.string s) ∧ (encF L)[j * 3 + 2]? = some (.int .i64 y) := by
  obtain ⟨x, _, h1, h2, h3⟩ := encF_get L j h
  exact ⟨_, _, _, h1, h2, h3⟩

set_option maxRecDepth 100000 in
set_option maxHeartbeats 2000000 in
theorem SealFrames_walk (a0 : ByteArray) (s0 : a0.size ≤ 140737488351232) (w : World) (hL : TabLaid w) (hbulk : a0.size + 1 ≤ 1048576) :
    Calls Tryd.prog 6 #[.string a0] w fun e w' => e = .returned (.bool true) ∧ Below w.heap.size w w' := by
  have hT := tab_of_laid hL
  have C0 := RefFrame_calls 7 ⟨#[97, 110, 111, 116, 104, 101, 114, 32, 116, 101, 120, 116]⟩ (by decide) w
  obtain ⟨O, hO, hOl⟩ : ∃ s : ByteArray, (⟨(frameR 7 (ByteArray.mk #[97, 110, 111, 116, 104, 101, 114, 32, 116, 101, 120, 116]).data.toList).1.toArray⟩ : ByteArray) = s ∧ s.size ≤ 26 := ⟨_, rfl, by
    rw [size_data]
    unfold frameR
    rw [if_neg (by decide), if_neg (by decide)]
    simp [frameB_length]⟩
  obtain ⟨oe, hoe⟩ : ∃ e, (frameR 7 (ByteArray.mk #[97, 110, 111, 116, 104, 101, 114, 32, 116, 101, 120, 116]).data.toList).2 = e := ⟨_, rfl⟩
  rw [hO, hoe] at C0
  have f1 := framesR_le a0.data.toList
  have f2 := framesR_le O.data.toList
  rw [show a0.data.toList.length = a0.size from rfl] at f1
  rw [show O.data.toList.length = O.size from rfl] at f2
  have R1 := fun W => RefFrames_calls a0 (by omega) W
  have R2 := fun W => RefFrames_calls O (by omega) W
  have P1 := fun W hT => Frames_calls a0 (by omega) W hT
  have P2 := fun W hT => Frames_calls O (by omega) W hT
  have K1 := encF_kinds (framesR a0.data.toList).1
  have K2 := encF_kinds (framesR O.data.toList).1
  obtain ⟨X1, hX1⟩ : ∃ X, encF (framesR a0.data.toList).1 = X := ⟨_, rfl⟩
  obtain ⟨X2, hX2⟩ : ∃ X, encF (framesR O.data.toList).1 = X := ⟨_, rfl⟩
  obtain ⟨N1, hN1⟩ : ∃ X, (framesR a0.data.toList).1.length = X := ⟨_, rfl⟩
  obtain ⟨N2, hN2⟩ : ∃ X, (framesR O.data.toList).1.length = X := ⟨_, rfl⟩
  obtain ⟨E1, hE1⟩ : ∃ X, (framesR a0.data.toList).2 = X := ⟨_, rfl⟩
  obtain ⟨E2, hE2⟩ : ∃ X, (framesR O.data.toList).2 = X := ⟨_, rfl⟩
  simp only [hX1, hN1, hE1] at R1 P1 K1 f1
  simp only [hX2, hN2, hE2] at R2 P2 K2 f2
  have HR1 := Lib.hid R1
  have HR2 := Lib.hid R2
  have HP1 := Lib.hid P1
  have HP2 := Lib.hid P2
  have HK1 := Lib.hid K1
  have HK2 := Lib.hid K2
  have HC0 := Lib.hid C0
  obtain ⟨f1a, f1b⟩ := f1
  obtain ⟨f2a, f2b⟩ := f2
  have e1 : ((E1 : Int) == (E1 : Int)) = true := by simp
  clear hL R1 R2 P1 P2 K1 K2 C0 hX1 hX2 hN1 hN2 hE1 hE2 hO hoe
  go_enter Tryd.func6, Tryd.ntmps6
  go_wp2_with fail
  refine HC0.out.mono ?_
  rintro e x1 ⟨rfl, b1⟩
  go_wp2_with fail
  refine (HR1.out x1).mono ?_
  rintro e x2 ⟨vb, rfl, hrb, c2⟩
  have b2 := b1.trans (c2.mono b1.size)
  have z2 := c2.size
  clear c2
  go_wp2_with fail
  refine (HR2.out x2).mono ?_
  rintro e x3 ⟨vc, rfl, hrc, c3⟩
  have HVB : Hid (∀ g, vb.ownBlock = some g → g < x3.heap.size) := Lib.hid (fun g hg => Nat.lt_of_lt_of_le (hrb.lt g hg).2 c3.size)
  have hrb' := own_belowAll hrb c3
  clear hrb
  have hrb := hrb'
  clear hrb'
  have b3 := b2.trans (c3.mono b2.size)
  have z3 := c3.size
  clear c3
  go_wp2_with fail
  refine (HP1.out x3 (hT.below b3)).mono ?_
  rintro e x4 ⟨v1, rfl, r1, c4⟩
  have hrb' := own_belowAll hrb c4
  clear hrb
  have hrb := hrb'
  clear hrb'
  have hrc' := own_belowAll hrc c4
  clear hrc
  have hrc := hrc'
  clear hrc'
  have b4 := b3.trans (c4.mono b3.size)
  have z4 := c4.size
  have l1 : ∀ b, v1.ownBlock = some b → x3.heap.size ≤ b ∧ b < x4.heap.size := fun b hb => r1.lt b hb
  clear c4
  go_wp2_with fail
  refine (HP1.out x4 (hT.below b4)).mono ?_
  rintro e x5 ⟨v2, rfl, r2, c5⟩
  have hrb' := own_belowAll hrb c5
  clear hrb
  have hrb := hrb'
  clear hrb'
  have hrc' := own_belowAll hrc c5
  clear hrc
  have hrc := hrc'
  clear hrc'
  have r1' := own_belowAll r1 c5
  clear r1
  have r1 := r1'
  clear r1'
  have b5 := b4.trans (c5.mono b4.size)
  have z5 := c5.size
  have l2 : ∀ b, v2.ownBlock = some b → x4.heap.size ≤ b ∧ b < x5.heap.size := fun b hb => r2.lt b hb
  clear c5
  go_wp2_with fail
  refine (HP2.out x5 (hT.below b5)).mono ?_
  rintro e x6 ⟨v3, rfl, r3, c6⟩
  have hrb' := own_belowAll hrb c6
  clear hrb
  have hrb := hrb'
  clear hrb'
  have hrc' := own_belowAll hrc c6
  clear hrc
  have hrc := hrc'
  clear hrc'
  have r1' := own_belowAll r1 c6
  clear r1
  have r1 := r1'
  clear r1'
  have r2' := own_belowAll r2 c6
  clear r2
  have r2 := r2'
  clear r2'
  have b6 := b5.trans (c6.mono b5.size)
  have z6 := c6.size
  have l3 : ∀ b, v3.ownBlock = some b → x5.heap.size ≤ b ∧ b < x6.heap.size := fun b hb => r3.lt b hb
  clear c6
  go_wp2_with fail
  refine (HP2.out x6 (hT.below b6)).mono ?_
  rintro e x7 ⟨v4, rfl, r4, c7⟩
  have hrb' := own_belowAll hrb c7
  clear hrb
  have hrb := hrb'
  clear hrb'
  have hrc' := own_belowAll hrc c7
  clear hrc
  have hrc := hrc'
  clear hrc'
  have r1' := own_belowAll r1 c7
  clear r1
  have r1 := r1'
  clear r1'
  have r2' := own_belowAll r2 c7
  clear r2
  have r2 := r2'
  clear r2'
  have r3' := own_belowAll r3 c7
  clear r3
  have r3 := r3'
  clear r3'
  have b7 := b6.trans (c7.mono b6.size)
  have z7 := c7.size
  have l4 : ∀ b, v4.ownBlock = some b → x6.heap.size ≤ b ∧ b < x7.heap.size := fun b hb => r4.lt b hb
  clear c7
  go_wp2_with fail
  refine (HP1.out x7 (hT.below b7)).mono ?_
  rintro e x8 ⟨v5, rfl, r5, c8⟩
  have hrb' := own_belowAll hrb c8
  clear hrb
  have hrb := hrb'
  clear hrb'
  have hrc' := own_belowAll hrc c8
  clear hrc
  have hrc := hrc'
  clear hrc'
  have r1' := own_belowAll r1 c8
  clear r1
  have r1 := r1'
  clear r1'
  have r2' := own_belowAll r2 c8
  clear r2
  have r2 := r2'
  clear r2'
  have r3' := own_belowAll r3 c8
  clear r3
  have r3 := r3'
  clear r3'
  have r4' := own_belowAll r4 c8
  clear r4
  have r4 := r4'
  clear r4'
  have b8 := b7.trans (c8.mono b7.size)
  have z8 := c8.size
  have l5 : ∀ b, v5.ownBlock = some b → x7.heap.size ≤ b ∧ b < x8.heap.size := fun b hb => r5.lt b hb
  clear c8
  obtain ⟨p1, c1, rfl, _, _, _⟩ := own_rd r1
  obtain ⟨p2, c2, rfl, _, _, _⟩ := own_rd r2
  obtain ⟨p3, c3, rfl, _, _, _⟩ := own_rd r3
  obtain ⟨p4, c4, rfl, _, _, _⟩ := own_rd r4
  obtain ⟨p5, c5, rfl, _, _, _⟩ := own_rd r5
  have HRW := Lib.hid (And.intro hrb (And.intro hrc (And.intro r1 (And.intro r2 (And.intro r3 (And.intro r4 r5))))))
  have HLL := Lib.hid (And.intro l1 (And.intro l2 (And.intro l3 (And.intro l4 l5))))
  clear hrb hrc r1 r2 r3 r4 r5 l1 l2 l3 l4 l5
  go_wp2_with fail
  refine (sameF_true _ _ _ _ N1 X1 (by omega) HK1.out x8 (own_belowAll HRW.out.2.2.1 (Below.refl _ _)) (own_belowAll HRW.out.1 (Below.refl _ _))).mono ?_
  rintro e y0 ⟨rfl, c⟩
  have hy0 := c
  clear c
  go_wp2_with fail
  refine (sameF_true _ _ _ _ N1 X1 (by omega) HK1.out y0 (own_belowAll HRW.out.2.2.2.1 hy0) (own_belowAll HRW.out.1 hy0)).mono ?_
  rintro e y1 ⟨rfl, c⟩
  have hy1 := hy0.trans (c.mono hy0.size)
  clear c
  go_wp2_with fail
  refine (sameF_true _ _ _ _ N1 X1 (by omega) HK1.out y1 (own_belowAll HRW.out.2.2.2.2.2.2 hy1) (own_belowAll HRW.out.1 hy1)).mono ?_
  rintro e y2 ⟨rfl, c⟩
  have hy2 := hy1.trans (c.mono hy1.size)
  clear c
  go_wp2_with fail
  refine (sameF_true _ _ _ _ N2 X2 (by omega) HK2.out y2 (own_belowAll HRW.out.2.2.2.2.1 hy2) (own_belowAll HRW.out.2.1 hy2)).mono ?_
  rintro e y3 ⟨rfl, c⟩
  have hy3 := hy2.trans (c.mono hy2.size)
  clear c
  go_wp2_with fail
  refine (sameF_true _ _ _ _ N2 X2 (by omega) HK2.out y3 (own_belowAll HRW.out.2.2.2.2.2.1 hy3) (own_belowAll HRW.out.2.1 hy3)).mono ?_
  rintro e y4 ⟨rfl, c⟩
  have hy4 := hy3.trans (c.mono hy3.size)
  clear c
  have b9 := b8.trans (hy4.mono b8.size)
  have z9 := hy4.size
  go_wp2_with fail
  obtain ⟨L, hLd⟩ : ∃ L : Nat → Value, L = fun j => [Value.slice p1 N1 c1, Value.slice p2 N1 c2, Value.slice p3 N2 c3, Value.slice p4 N2 c4, Value.slice p5 N1 c5].getD j undef := ⟨_, rfl⟩
  have hap : ApartL 5 L := ApartL_of_lo (fun j => [x3.heap.size, x4.heap.size, x5.heap.size, x6.heap.size, x7.heap.size, x8.heap.size].getD j 0)
    (fun j hj => match j, hj with | 0, _ => z4 | 1, _ => z5 | 2, _ => z6 | 3, _ => z7 | 4, _ => z8)
    (fun j hj b hb => by
      subst hLd
      match j, hj with
      | 0, _ => exact HLL.out.1 b hb
      | 1, _ => exact HLL.out.2.1 b hb
      | 2, _ => exact HLL.out.2.2.1 b hb
      | 3, _ => exact HLL.out.2.2.2.1 b hb
      | 4, _ => exact HLL.out.2.2.2.2 b hb)
  have hrows : ∀ W, Below x8.heap.size x8 W → ∀ j, j < 5 → ∃ xs, W.ownsRow x3.heap.size 51 3 (L j) (q4 N1 N2 j) xs := fun W hW j hj => by
    subst hLd
    match j, hj with
    | 0, _ => exact ⟨_, own_le (own_belowAll HRW.out.2.2.1 hW) (by omega)⟩
    | 1, _ => exact ⟨_, own_le (own_belowAll HRW.out.2.2.2.1 hW) (by omega)⟩
    | 2, _ => exact ⟨_, own_le (own_belowAll HRW.out.2.2.2.2.1 hW) (by omega)⟩
    | 3, _ => exact ⟨_, own_le (own_belowAll HRW.out.2.2.2.2.2.1 hW) (by omega)⟩
    | 4, _ => exact ⟨_, own_le (own_belowAll HRW.out.2.2.2.2.2.2 hW) (by omega)⟩
  obtain ⟨wa, hwa⟩ : ∃ wa, y4.alloc (.cells #[.slice p1 N1 c1, .slice p2 N1 c2, .slice p3 N2 c3, .slice p4 N2 c4, .slice p5 N1 c5] 37) = wa := ⟨_, rfl⟩
  have hra : wa.ownsRow x3.heap.size 37 1 (.slice (some ⟨y4.heap.size, 0, none⟩) 5 5) 5 ((List.range 5).map L) := by
    rw [← hwa]
    subst hLd
    exact World.ownsRow_lit y4 #[.slice p1 N1 c1, .slice p2 N1 c2, .slice p3 N2 c3, .slice p4 N2 c4, .slice p5 N1 c5] 5 (by omega) (by decide) rfl
  have hya : Below x8.heap.size x8 wa := by rw [← hwa]; exact hy4.alloc z9 _
  have hza : x8.heap.size ≤ wa.heap.size := hya.size
  have hxa : x3.heap.size ≤ wa.heap.size := by omega
  have ba := b8.trans (hya.mono b8.size)
  rw [hwa]
  clear hwa hLd
  refine (apartF_calls (.slice (some ⟨y4.heap.size, 0, none⟩) 5 5) 5 L (q4 N1 N2) x3.heap.size (by decide) (fun i _ => by unfold q4; split <;> omega) wa hxa hra (hrows wa hya) hap).mono ?_
  rintro e wb ⟨rfl, hwb⟩
  have hzb := hwb.size
  have hvb : wb.ownsRow _ 51 3 vb N1 X1 := own_below (own_belowAll HRW.out.1 hya) hwb (fun g hg => by
    have := HVB.out g hg
    exact this)
  have bb := ba.trans (hwb.mono b3.size)
  clear hrows hap hra
  go_wp2_with fail
  refine (HP1.out wb (hT.below bb)).mono ?_
  rintro e wc ⟨va, rfl, hra, hc⟩
  have hvb2 := own_belowAll hvb hc
  have bc := bb.trans (hc.mono bb.size)
  go_wp2_with fail
  refine (sameF_true _ _ _ _ N1 X1 (by omega) HK1.out wc hra hvb2).mono ?_
  rintro e wd ⟨rfl, hd⟩
  have bd := bc.trans (hd.mono bc.size)
  go_wp2
  go_ret
  exact ⟨rfl, bd⟩
end Go.Proofs.YtebbmifpidbdlaaDoor
