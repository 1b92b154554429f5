/-
  WALK: the law BitsChunks, its second part: Split.
-/
import Derived.Test.YtldcfgifimdmmaaLawCh
namespace Go.Proofs.Ytldcfgifimdmmaa
open Go.RowKit XKit
set_option linter.unusedVariables false

/-- What Split answers, refused or not. -/
def spE (a b : Int) (s : ByteArray) : Int := if chunkedR a b = 0 then (if (s.size : Int) = a / 8 then 0 else 11) else chunkedR a b
def spN (a b : Int) (s : ByteArray) : Nat := if spE a b s = 0 then b.toNat else 0
def spX (a b : Int) (s : ByteArray) : List Value := if spE a b s = 0 then splitV s.data.toList a.toNat b.toNat b.toNat else []
theorem spE_zero {a b : Int} {s : ByteArray} (h : spE a b s = 0) : chunkedR a b = 0 ∧ (s.size : Int) = a / 8 := by
  unfold spE at h
  split at h
  · rename_i h0
    split at h
    · exact ⟨h0, by assumption⟩
    · cases h
  · rename_i h0
    exact absurd h h0
theorem spN_le (a b : Int) (s : ByteArray) : spN a b s ≤ 128 := by
  unfold spN
  split
  · rename_i h
    obtain ⟨w0, m0, rfl, rfl, h1, h2, h3, h4, h5⟩ := chunkedR_zero (spE_zero h).1
    simp; omega
  · omega
theorem splitV_get (l : List UInt8) (w m j : Nat) (h : j < m) : ∃ x : Int, (splitV l w m m)[j]? = some (.int .i64 x) := by
  obtain ⟨f, hf⟩ : ∃ f, (fr m m)[j]? = some f := ⟨_, List.getElem?_eq_getElem (by rw [fr_length _ _ (Nat.le_refl _)]; exact h)⟩
  exact ⟨((numOf (bitsOf l (cF w m f.val) (cN w m f.val)) : Nat) : Int), by unfold splitV; rw [List.getElem?_map, hf]; rfl⟩
theorem spX_at (a b : Int) (s : ByteArray) (j : Nat) (h : j < spN a b s) : ∃ x : Int, (spX a b s)[j]? = some (.int .i64 x) := by
  unfold spN at h
  unfold spX
  split at h
  · rename_i h0
    rw [if_pos h0]
    exact splitV_get _ _ _ _ h
  · omega
theorem Split_any (a b : Int) (s : ByteArray) (w : World) :
    Calls Try.prog 20 #[.int .i64 a, .int .i64 b, .string s] w fun e w' => ∃ v, e = .returned (.tuple #[v, .int .i64 (spE a b s)]) ∧ w'.ownsRow w.heap.size 3 1 v (spN a b s) (spX a b s) ∧ Below w.heap.size w w' := by
  by_cases h : spE a b s = 0
  · obtain ⟨h1, h2⟩ := spE_zero h
    unfold spN spX
    rw [if_pos h, if_pos h, h]
    obtain ⟨w0, m0, rfl, rfl, _⟩ := chunkedR_zero h1
    exact Split_ok w0 m0 s h1 (by omega) w
  · unfold spN spX
    rw [if_neg h, if_neg h]
    by_cases h1 : chunkedR a b = 0
    · have hs : (s.size : Int) ≠ a / 8 := fun e => h (by unfold spE; rw [if_pos h1, if_pos e])
      have he : spE a b s = 11 := by unfold spE; rw [if_pos h1, if_neg hs]
      rw [he]
      exact (Split_len a b s h1 hs w).mono fun e w' ⟨he, hw⟩ => ⟨_, he, World.ownsRow_nil _ _ _ _, hw⟩
    · have he : spE a b s = chunkedR a b := by unfold spE; rw [if_neg h1]
      rw [he]
      exact (Split_no a b s h1 w).mono fun e w' ⟨he, hw⟩ => ⟨_, he, World.ownsRow_nil _ _ _ _, hw⟩
theorem RefSplit_any (a b : Int) (s : ByteArray) (w : World) :
    Calls Try.prog 28 #[.int .i64 a, .int .i64 b, .string s] w fun e w' => ∃ v, e = .returned (.tuple #[v, .int .i64 (spE a b s)]) ∧ w'.ownsRow w.heap.size 3 1 v (spN a b s) (spX a b s) ∧ Below w.heap.size w w' := by
  by_cases h : spE a b s = 0
  · obtain ⟨h1, h2⟩ := spE_zero h
    unfold spN spX
    rw [if_pos h, if_pos h, h]
    obtain ⟨w0, m0, rfl, rfl, _⟩ := chunkedR_zero h1
    exact RefSplit_ok w0 m0 s h1 (by omega) w
  · unfold spN spX
    rw [if_neg h, if_neg h]
    by_cases h1 : chunkedR a b = 0
    · have hs : (s.size : Int) ≠ a / 8 := fun e => h (by unfold spE; rw [if_pos h1, if_pos e])
      have he : spE a b s = 11 := by unfold spE; rw [if_pos h1, if_neg hs]
      rw [he]
      obtain ⟨w0, m0, rfl, rfl, _⟩ := chunkedR_zero h1
      exact (RefSplit_len w0 m0 s h1 (by omega) w).mono fun e w' ⟨he, hw⟩ => ⟨_, he, World.ownsRow_nil _ _ _ _, hw⟩
    · have he : spE a b s = chunkedR a b := by unfold spE; rw [if_neg h1]
      rw [he]
      exact (RefSplit_no a b s h1 w).mono fun e w' ⟨he, hw⟩ => ⟨_, he, World.ownsRow_nil _ _ _ _, hw⟩

set_option maxHeartbeats 1000000 in
/-- Two lists of the same ints. -/
theorem sameInts_true (v1 v2 : Value) (b1 b2 n : Nat) (xs : List Value) (hn : n < 4611686018427387904) (hk : ∀ j, j < n → ∃ x : Int, xs[j]? = some (.int .i64 x)) (w : World)
    (h1 : w.ownsRow b1 3 1 v1 n xs) (h2 : w.ownsRow b2 3 1 v2 n xs) :
    Calls Try.prog 21 #[v1, v2] w fun e w' => e = .returned (.bool true) ∧ Below w.heap.size w w' := by
  obtain ⟨p1, c1, rfl, k1, m1, r1⟩ := own_rd h1
  obtain ⟨p2, c2, rfl, k2, m2, r2⟩ := own_rd h2
  have R1 := Lib.hid r1
  have R2 := Lib.hid r2
  have HK := Lib.hid hk
  clear h1 h2 r1 r2 hk
  go_enter Try.func21, Try.ntmps21
  go_wp2
  go_loopw [5] (fun i wr => ∃ k : Nat, k ≤ n ∧ i = .int .i64 k ∧ Below w.heap.size w wr) (fun i _ => n - (intOf i).toNat)
  case atStart => exact ⟨0, Nat.zero_le _, rfl, Below.refl _ _⟩
  case round =>
    obtain ⟨k, hk, rfl, hbl⟩ := hrel
    by_cases hlt : k < n
    · obtain ⟨g1, rfl, _, hg1, q1, _⟩ := R1.out (by omega)
      obtain ⟨g2, rfl, _, hg2, q2, _⟩ := R2.out (by omega)
      obtain ⟨x, e1⟩ := HK.out k hlt
      have d1 := (hbl.cell (p := ⟨g1, k, none⟩) hg1).trans ((q1 k (by omega)).trans e1)
      have d3 := (hbl.cell (p := ⟨g2, k, none⟩) hg2).trans ((q2 k (by omega)).trans e1)
      clear q1 q2 e1
      go_wp2
      go_quiet (fail)
      go_wp2
      go_roundw
      case rel => exact ⟨k + 1, by omega, by go_num, below_drewN hbl _⟩
      case measure => simp [intOf]; omega
    · obtain rfl : k = n := by omega
      go_wp2
      go_ret
      exact ⟨rfl, hbl⟩
attribute [local irreducible] spX spN spE

set_option maxRecDepth 100000 in
set_option maxHeartbeats 2000000 in
theorem lawParted_calls (a b : Int) (s : ByteArray) (w : World) :
    Calls Try.prog 15 #[.int .i64 a, .int .i64 b, .string s] w fun e w' => e = .returned (.bool true) ∧ Below w.heap.size w w' := by
  obtain ⟨i1, hj, hy0, hy1, hy2⟩ := info_parts intsinfo
  have CR := RefSplit_any a b s
  have CR2 := RefSplit_any 128 5 ⟨#[48, 49, 50, 51, 52, 53, 54, 55, 56, 57, 97, 98, 99, 100, 101, 102]⟩
  have CP := Split_any a b s
  have CP2 := Split_any 128 5 ⟨#[48, 49, 50, 51, 52, 53, 54, 55, 56, 57, 97, 98, 99, 100, 101, 102]⟩
  obtain ⟨c, hc⟩ : ∃ c, spE a b s = c := ⟨_, rfl⟩
  obtain ⟨c2, hc2⟩ : ∃ c, spE 128 5 ⟨#[48, 49, 50, 51, 52, 53, 54, 55, 56, 57, 97, 98, 99, 100, 101, 102]⟩ = c := ⟨_, rfl⟩
  simp only [hc] at CR CP
  simp only [hc2] at CR2 CP2
  have HCR := Lib.hid CR
  have HCR2 := Lib.hid CR2
  have HCP := Lib.hid CP
  have HCP2 := Lib.hid CP2
  have n1 := spN_le a b s
  have n2 := spN_le 128 5 ⟨#[48, 49, 50, 51, 52, 53, 54, 55, 56, 57, 97, 98, 99, 100, 101, 102]⟩
  clear CR CR2 CP CP2 hc hc2
  go_enter Try.func15, Try.ntmps15
  go_wp2_with fail
  refine (HCR.out w).mono ?_
  rintro e x1 ⟨vb, rfl, hrb, hb1⟩
  go_wp2_with fail
  refine (HCR2.out x1).mono ?_
  rintro e x2 ⟨vc, rfl, hrc, hb2⟩
  have hrb2 := own_belowAll hrb hb2
  have hbl2 := hb1.trans (hb2.mono hb1.size)
  have HB := Lib.hid hrb2
  have HC := Lib.hid hrc
  have hs2 := hbl2.size
  clear hrb hrc hrb2 hb1 hb2
  have hk1 := spX_at a b s
  have hk2 := spX_at 128 5 ⟨#[48, 49, 50, 51, 52, 53, 54, 55, 56, 57, 97, 98, 99, 100, 101, 102]⟩
  obtain ⟨N1, hN1⟩ : ∃ N, spN a b s = N := ⟨_, rfl⟩
  obtain ⟨N2, hN2⟩ : ∃ N, spN 128 5 ⟨#[48, 49, 50, 51, 52, 53, 54, 55, 56, 57, 97, 98, 99, 100, 101, 102]⟩ = N := ⟨_, rfl⟩
  obtain ⟨X1, hX1⟩ : ∃ X, spX a b s = X := ⟨_, rfl⟩
  obtain ⟨X2, hX2⟩ : ∃ X, spX 128 5 ⟨#[48, 49, 50, 51, 52, 53, 54, 55, 56, 57, 97, 98, 99, 100, 101, 102]⟩ = X := ⟨_, rfl⟩
  rw [hN1, hX1] at HB HCP hk1
  rw [hN2, hX2] at HC HCP2 hk2
  rw [hN1] at n1
  rw [hN2] at n2
  have HK1 := Lib.hid hk1
  have HK2 := Lib.hid hk2
  clear hN1 hN2 hX1 hX2 hk1 hk2
  obtain ⟨B, hB⟩ : ∃ B, x2.heap.size = B := ⟨_, rfl⟩
  have HBS := Lib.hid hB
  rw [hB] at hs2
  clear hB
  go_wp2
  go_loopw [12, 13] (fun l i ws => ∃ (k : Nat) (L : Nat → Value) (lv : Value), k ≤ 5 ∧ i = .int .i64 k ∧ lv = l ∧ Below B x2 ws ∧ B ≤ ws.heap.size ∧ Hid (Lists ws B 39 3 1 k l L (q4 N1 N2) (q4 X1 X2))) (fun _ i _ => 5 - (intOf i).toNat)
  case atStart => exact ⟨0, fun _ => undef, _, by omega, rfl, rfl, Below.refl _ _, by rw [HBS.out]; exact Nat.le_refl _, Lib.hid (Lists.none_ _ _ _ _ _ _ _ _)⟩
  case round =>
    obtain ⟨k, L, lv, hk, rfl, rfl, hbl, hsz, HH⟩ := hrel
    by_cases hlt : k < 5
    · by_cases hq : k = 2 ∨ k = 3
      · rcases hq with rfl | rfl
        · have HQ : True := trivial
          go_wp2_with fail
          refine (HCP.out _).mono ?_
          rintro e y0 ⟨vz, rfl, _, hb0⟩
          have hbz := hbl.trans (hb0.mono hsz)
          have hzz := hb0.size
          go_wp2_with fail
          refine (HCP2.out _).mono ?_
          rintro e y1 ⟨va, rfl, hra, hb1'⟩
          have hra' := own_le (base' := wr.heap.size) hra hzz
          have hb1 := hb0.trans (hb1'.mono hzz)
          clear hra hb1' hb0 hbz
          have hra := hra'
          clear hra'
          have hb1' := hbl.trans (hb1.mono hsz)
          have hz1 := hb1.size
          go_wp2_with fail
          refine (sameInts_true va vc _ _ N2 X2 (by omega) HK2.out y1 hra (own_below HC.out hb1' (fun g hg => by have := (HC.out.lt g hg).2; have := HBS.out; omega))).mono ?_
          rintro e y2 ⟨rfl, hb2⟩
          have hra2 := own_belowAll hra hb2
          obtain ⟨pa, ca, rfl, _, _, _⟩ := own_rd hra2
          have hl2 := (HH.out.below hb1).below hb2
          have hfr := hl2.fresh (va := .slice pa N2 ca) (H := y2.heap.size)
          have hnew := HH.out.fresh (va := .slice pa N2 ca) (H := wr.heap.size) (Nat.le_refl _) (fun b hb => by have := (hra.lt b hb).1; omega)
          have hb2' := hb1'.trans (hb2.mono (by omega))
          have hz2 := hb2.size
          have hraB := own_le (base' := B) hra2 (by omega)
          have HR := Lib.hid (And.intro hl2 (And.intro hraB hnew))
          have hlr := hl2.1
          clear hra hra2 hl2 hfr hnew hb1 hb2 hraB
          go_wp2_with (at_builtin; refine wpList_append_two _ rfl _ _ 64 rfl B 39 i1 (.slice none 0 0) 1 24 Try.underlying64 hj hy0 hy1 hy2 rfl (by decide) lv 2 _ rfl (hlr.alloc _) ⟨y2.heap.size, 0, none⟩ 1 1 [.slice pa N2 ca] rfl rfl (World.news_of_block (heap_alloc_new y2 _)) (by simp [Value.oneCell']) (by decide) (by unfold maxLen; omega) (by omega) (by simp; omega) ?_; intro g' capn y3 hown' hold hlies hlt2)
          have hln := Lists.step HR.out.1 (by rw [q4_y _ _ (by decide), q4_y _ _ (by decide)]; exact HR.out.2.1) HR.out.2.2 (by decide) _ hown' hlies
          have hbn : Below B x2 y3 := hlies.below (hb2'.alloc (by omega) _) (by simp; omega) (fun b hb => (hlr.lt b hb).1)
          have hzn : B ≤ y3.heap.size := Nat.le_trans (by simp; omega) hlies.row.size
          have HLN := Lib.hid hln
          clear hln
          go_roundw
          case rel => exact ⟨2 + 1, _, _, by omega, by go_num, rfl, hbn, hzn, Lib.hid HLN.out⟩
          case measure => simp [intOf]
        · have HQ : True := trivial
          go_wp2_with fail
          refine (HCP.out _).mono ?_
          rintro e y0 ⟨vz, rfl, _, hb0⟩
          have hbz := hbl.trans (hb0.mono hsz)
          have hzz := hb0.size
          go_wp2_with fail
          refine (HCP2.out _).mono ?_
          rintro e y1 ⟨va, rfl, hra, hb1'⟩
          have hra' := own_le (base' := wr.heap.size) hra hzz
          have hb1 := hb0.trans (hb1'.mono hzz)
          clear hra hb1' hb0 hbz
          have hra := hra'
          clear hra'
          have hb1' := hbl.trans (hb1.mono hsz)
          have hz1 := hb1.size
          go_wp2_with fail
          refine (sameInts_true va vc _ _ N2 X2 (by omega) HK2.out y1 hra (own_below HC.out hb1' (fun g hg => by have := (HC.out.lt g hg).2; have := HBS.out; omega))).mono ?_
          rintro e y2 ⟨rfl, hb2⟩
          have hra2 := own_belowAll hra hb2
          obtain ⟨pa, ca, rfl, _, _, _⟩ := own_rd hra2
          have hl2 := (HH.out.below hb1).below hb2
          have hfr := hl2.fresh (va := .slice pa N2 ca) (H := y2.heap.size)
          have hnew := HH.out.fresh (va := .slice pa N2 ca) (H := wr.heap.size) (Nat.le_refl _) (fun b hb => by have := (hra.lt b hb).1; omega)
          have hb2' := hb1'.trans (hb2.mono (by omega))
          have hz2 := hb2.size
          have hraB := own_le (base' := B) hra2 (by omega)
          have HR := Lib.hid (And.intro hl2 (And.intro hraB hnew))
          have hlr := hl2.1
          clear hra hra2 hl2 hfr hnew hb1 hb2 hraB
          go_wp2_with (at_builtin; refine wpList_append_two _ rfl _ _ 64 rfl B 39 i1 (.slice none 0 0) 1 24 Try.underlying64 hj hy0 hy1 hy2 rfl (by decide) lv 3 _ rfl (hlr.alloc _) ⟨y2.heap.size, 0, none⟩ 1 1 [.slice pa N2 ca] rfl rfl (World.news_of_block (heap_alloc_new y2 _)) (by simp [Value.oneCell']) (by decide) (by unfold maxLen; omega) (by omega) (by simp; omega) ?_; intro g' capn y3 hown' hold hlies hlt2)
          have hln := Lists.step HR.out.1 (by rw [q4_y _ _ (by decide), q4_y _ _ (by decide)]; exact HR.out.2.1) HR.out.2.2 (by decide) _ hown' hlies
          have hbn : Below B x2 y3 := hlies.below (hb2'.alloc (by omega) _) (by simp; omega) (fun b hb => (hlr.lt b hb).1)
          have hzn : B ≤ y3.heap.size := Nat.le_trans (by simp; omega) hlies.row.size
          have HLN := Lib.hid hln
          clear hln
          go_roundw
          case rel => exact ⟨3 + 1, _, _, by omega, by go_num, rfl, hbn, hzn, Lib.hid HLN.out⟩
          case measure => simp [intOf]
      · have e2 : ((k : Int) == 2) = false := by rw [beq_eq_false_iff_ne]; omega
        have e3 : ((k : Int) == 3) = false := by rw [beq_eq_false_iff_ne]; omega
        have HQ := Lib.hid hq
        clear hq
        go_wp2_with fail
        refine (HCP.out _).mono ?_
        rintro e y1 ⟨va, rfl, hra, hb1⟩
        have hb1' := hbl.trans (hb1.mono hsz)
        have hz1 := hb1.size
        go_wp2_with fail
        refine (sameInts_true va vb _ _ N1 X1 (by omega) HK1.out y1 hra (own_below HB.out hb1' (fun g hg => by have := (HB.out.lt g hg).2; have := HBS.out; omega))).mono ?_
        rintro e y2 ⟨rfl, hb2⟩
        have hra2 := own_belowAll hra hb2
        obtain ⟨pa, ca, rfl, _, _, _⟩ := own_rd hra2
        have hl2 := (HH.out.below hb1).below hb2
        have hfr := hl2.fresh (va := .slice pa N1 ca) (H := y2.heap.size)
        have hnew := HH.out.fresh (va := .slice pa N1 ca) (H := wr.heap.size) (Nat.le_refl _) (fun b hb => by have := (hra.lt b hb).1; omega)
        have hb2' := hb1'.trans (hb2.mono (by omega))
        have hz2 := hb2.size
        have hraB := own_le (base' := B) hra2 (by omega)
        have HR := Lib.hid (And.intro hl2 (And.intro hraB hnew))
        have hlr := hl2.1
        clear hra hra2 hl2 hfr hnew hb1 hb2 hraB
        go_wp2_with (at_builtin; refine wpList_append_two _ rfl _ _ 64 rfl B 39 i1 (.slice none 0 0) 1 24 Try.underlying64 hj hy0 hy1 hy2 rfl (by decide) lv k _ rfl (hlr.alloc _) ⟨y2.heap.size, 0, none⟩ 1 1 [.slice pa N1 ca] rfl rfl (World.news_of_block (heap_alloc_new y2 _)) (by simp [Value.oneCell']) (by decide) (by unfold maxLen; omega) (by omega) (by simp; omega) ?_; intro g' capn y3 hown' hold hlies hlt2)
        have hln := Lists.step HR.out.1 (by rw [q4_x _ _ HQ.out, q4_x _ _ HQ.out]; exact HR.out.2.1) HR.out.2.2 (by decide) _ hown' hlies
        have hbn : Below B x2 y3 := hlies.below (hb2'.alloc (by omega) _) (by simp; omega) (fun b hb => (hlr.lt b hb).1)
        have hzn : B ≤ y3.heap.size := Nat.le_trans (by simp; omega) hlies.row.size
        have HLN := Lib.hid hln
        clear hln
        go_roundw
        case rel => exact ⟨k + 1, _, _, by omega, by go_num, rfl, hbn, hzn, Lib.hid HLN.out⟩
        case measure => simp [intOf]; omega
    · obtain rfl : k = 5 := by omega
      obtain ⟨gl, cl, rfl, hgl1, hgl2⟩ := HH.out.1.form (by decide)
      have r0 := HH.out.2.1 0 (by decide)
      rw [q4_x _ _ (by decide), q4_x _ _ (by decide)] at r0
      have k0 : wr.cell? ⟨gl, 0, none⟩ = some (L 0) := by rw [HH.out.1.cellAt 0 (by decide)]; rfl
      obtain ⟨p0, c0, e0, _, _, _⟩ := own_rd r0
      rw [e0] at r0 k0
      have r1 := HH.out.2.1 1 (by decide)
      rw [q4_x _ _ (by decide), q4_x _ _ (by decide)] at r1
      have k1 : wr.cell? ⟨gl, 1, none⟩ = some (L 1) := by rw [HH.out.1.cellAt 1 (by decide)]; rfl
      obtain ⟨p1, c1, e1, _, _, _⟩ := own_rd r1
      rw [e1] at r1 k1
      have r2 := HH.out.2.1 2 (by decide)
      rw [q4_y _ _ (by decide), q4_y _ _ (by decide)] at r2
      have k2 : wr.cell? ⟨gl, 2, none⟩ = some (L 2) := by rw [HH.out.1.cellAt 2 (by decide)]; rfl
      obtain ⟨p2, c2, e2, _, _, _⟩ := own_rd r2
      rw [e2] at r2 k2
      have r3 := HH.out.2.1 3 (by decide)
      rw [q4_y _ _ (by decide), q4_y _ _ (by decide)] at r3
      have k3 : wr.cell? ⟨gl, 3, none⟩ = some (L 3) := by rw [HH.out.1.cellAt 3 (by decide)]; rfl
      obtain ⟨p3, c3, e3, _, _, _⟩ := own_rd r3
      rw [e3] at r3 k3
      have r4 := HH.out.2.1 4 (by decide)
      rw [q4_x _ _ (by decide), q4_x _ _ (by decide)] at r4
      have k4 : wr.cell? ⟨gl, 4, none⟩ = some (L 4) := by rw [HH.out.1.cellAt 4 (by decide)]; rfl
      obtain ⟨p4, c4, e4, _, _, _⟩ := own_rd r4
      rw [e4] at r4 k4
      have K : Hid (∀ z, Below wr.heap.size wr z → (z.cell? ⟨gl, 0, none⟩ = some (.slice p0 N1 c0) ∧ z.cell? ⟨gl, 1, none⟩ = some (.slice p1 N1 c1) ∧ z.cell? ⟨gl, 2, none⟩ = some (.slice p2 N2 c2) ∧ z.cell? ⟨gl, 3, none⟩ = some (.slice p3 N2 c3) ∧ z.cell? ⟨gl, 4, none⟩ = some (.slice p4 N1 c4))) := Lib.hid (fun z hz => ⟨(hz.cell (p := ⟨gl, 0, none⟩) hgl2).trans k0, (hz.cell (p := ⟨gl, 1, none⟩) hgl2).trans k1, (hz.cell (p := ⟨gl, 2, none⟩) hgl2).trans k2, (hz.cell (p := ⟨gl, 3, none⟩) hgl2).trans k3, (hz.cell (p := ⟨gl, 4, none⟩) hgl2).trans k4⟩)
      have R : Hid ((wr.ownsRow B 3 1 (.slice p0 N1 c0) N1 X1 ∧ wr.ownsRow B 3 1 (.slice p1 N1 c1) N1 X1 ∧ wr.ownsRow B 3 1 (.slice p2 N2 c2) N2 X2 ∧ wr.ownsRow B 3 1 (.slice p3 N2 c3) N2 X2 ∧ wr.ownsRow B 3 1 (.slice p4 N1 c4) N1 X1)) := Lib.hid ⟨r0, r1, r2, r3, r4⟩
      have RB : Hid (∀ z, Below wr.heap.size wr z → z.ownsRow _ 3 1 vb _ _ ∧ z.ownsRow _ 3 1 vc _ _) := Lib.hid (fun z hz => ⟨own_below HB.out (hbl.trans (hz.mono hsz)) (fun g hg => by have := (HB.out.lt g hg).2; have := HBS.out; omega), own_below HC.out (hbl.trans (hz.mono hsz)) (fun g hg => by have := (HC.out.lt g hg).2; have := HBS.out; omega)⟩)
      clear r0 k0 e0 r1 k1 e1 r2 k2 e2 r3 k3 e3 r4 k4 e4
      obtain ⟨k0, k1, k2, k3, k4⟩ := K.out wr (Below.refl _ _)
      go_wp2_with fail
      refine (sameInts_true (.slice p0 N1 c0) vb _ _ N1 X1 (by omega) HK1.out wr (own_belowAll R.out.1 (Below.refl _ _)) (RB.out wr (Below.refl _ _)).1).mono ?_
      rintro e z0 ⟨rfl, hz0⟩
      have hy0 := hz0
      clear k0 k1 k2 k3 k4 hz0
      obtain ⟨k0, k1, k2, k3, k4⟩ := K.out z0 hy0
      go_wp2_with fail
      refine (sameInts_true (.slice p1 N1 c1) vb _ _ N1 X1 (by omega) HK1.out z0 (own_belowAll R.out.2.1 hy0) (RB.out z0 hy0).1).mono ?_
      rintro e z1 ⟨rfl, hz1⟩
      have hy1 := hy0.trans (hz1.mono hy0.size)
      clear k0 k1 k2 k3 k4 hz1
      obtain ⟨k0, k1, k2, k3, k4⟩ := K.out z1 hy1
      go_wp2_with fail
      refine (sameInts_true (.slice p4 N1 c4) vb _ _ N1 X1 (by omega) HK1.out z1 (own_belowAll R.out.2.2.2.2 hy1) (RB.out z1 hy1).1).mono ?_
      rintro e z2 ⟨rfl, hz2⟩
      have hy2 := hy1.trans (hz2.mono hy1.size)
      clear k0 k1 k2 k3 k4 hz2
      obtain ⟨k0, k1, k2, k3, k4⟩ := K.out z2 hy2
      go_wp2_with fail
      refine (sameInts_true (.slice p2 N2 c2) vc _ _ N2 X2 (by omega) HK2.out z2 (own_belowAll R.out.2.2.1 hy2) (RB.out z2 hy2).2).mono ?_
      rintro e z3 ⟨rfl, hz3⟩
      have hy3 := hy2.trans (hz3.mono hy2.size)
      clear k0 k1 k2 k3 k4 hz3
      obtain ⟨k0, k1, k2, k3, k4⟩ := K.out z3 hy3
      go_wp2_with fail
      refine (sameInts_true (.slice p3 N2 c3) vc _ _ N2 X2 (by omega) HK2.out z3 (own_belowAll R.out.2.2.2.1 hy3) (RB.out z3 hy3).2).mono ?_
      rintro e z4 ⟨rfl, hz4⟩
      have hy4 := hy3.trans (hz4.mono hy3.size)
      clear k0 k1 k2 k3 k4 hz4
      obtain ⟨k0, k1, k2, k3, k4⟩ := K.out z4 hy4
      have hly := HH.out.below hy4
      have hbz := hbl.trans (hy4.mono hsz)
      go_wp2_with fail
      refine (apartI_calls (.slice (some ⟨gl, 0, none⟩) 5 cl) 5 L (q4 N1 N2) B (by decide) (fun i _ => by unfold q4; split <;> omega) z4 (by have := hy4.size; omega) hly.1 (fun i hi => ⟨_, hly.2.1 i hi⟩) hly.2.2).mono ?_
      rintro e z5 ⟨rfl, hz5⟩
      have hb5 := hbz.trans hz5
      go_wp2
      go_ret
      exact ⟨rfl, hbl2.trans (hb5.mono hs2)⟩
end Go.Proofs.Ytldcfgifimdmmaa
