/-
  THE LAW BestParts, walked: the first of parts' firsts is the first of all.
-/
import Derived.Test.YtahceakghgmpkaaPartsP
namespace Go.Proofs.Ytahceakghgmpkaa
open Go.RowKit ArgK
set_option linter.unusedVariables false

/-- The hits joined so far. -/
def JoinRel (w : World) (zz : List (List Hv)) (a : Nat) (v : Value) (wr : World) : Prop :=
  wr.ownsRow w.heap.size 34 3 v (zz.take a).flatten.length (encH (zz.take a).flatten) ∧ Below w.heap.size w wr

theorem join_next {w wr w' : World} {zz : List (List Hv)} {a : Nat} {v v' : Value} {z : List Hv} (hz : zz[a]? = some z) (h : JoinRel w zz a v wr)
    (ho : w'.ownsRow w.heap.size 34 3 v' ((zz.take a).flatten.length + z.length) (encH (zz.take a).flatten ++ encH z)) (hg : wr.grownBy w' v.ownBlock) : JoinRel w zz (a + 1) v' w' := by
  refine ⟨?_, h.2.grown hg h.2.size (fun k hk => (h.1.lt k hk).1)⟩
  rw [flat_snoc hz, List.length_append, encH_append]
  exact ho

set_option maxRecDepth 100000 in
set_option maxHeartbeats 4000000 in
theorem BestParts_walk (a0 : Int) (w0 : (Lit.int .i64 a0).wf = true) (v : Value) (zz : List (List Hv)) (w : World) (h1 : IsSl w 1 24 (IsSl w 3 32 IsHit) [v] zz)
    (hbk : (zz.map fun l => (l.map bkHit).sum + 1).sum + 1 ≤ 1048576) :
    Calls Try.prog 9 #[.int .i64 a0, v] w fun e w' => e = .returned (.bool true) ∧ Below w.heap.size w w' := by
  obtain ⟨hsz, p, cap, rfl, hlc, hcm, hLL, hGL⟩ := lists_of_arg h1
  have hfl := bk_flat zz
  have hfb : zz.flatten.length + zz.length ≤ 1048576 := by omega
  clear hbk hfl h1 hsz
  have hfg := flat_good hGL
  obtain ⟨m, hm⟩ : ∃ m, zz.length = m := ⟨_, rfl⟩
  obtain ⟨k, hk⟩ : ∃ k, fitI a0 = k := ⟨_, rfl⟩
  have hk4 : k ≤ 4096 := by rw [← hk]; exact fitI_le a0
  have hFit := fun W => fit_calls a0 W
  rw [hk] at hFit
  have hAll := fun W hW => bestFirst_calls p cap zz k hk4 (by omega) hGL W hW
  have hOne := fun q c (z : List Hv) (hz : z ∈ zz) W hW => bestFirst_calls q c [z] k hk4 (by simp) (fun y hy => by rw [List.mem_singleton.1 hy]; exact hGL z hz) W hW
  have hAgain := fun q c W hW => bestFirst_calls q c (partsOf k zz) k hk4 (by simp [partsOf]; omega) (parts_good hk4 hGL) W hW
  rw [parts_law] at hAgain
  have hpl : (partsOf k zz).length = m := by simp [partsOf, hm]
  rw [hpl] at hAgain
  have hHand := fun q c W hW => handed_fwd q c zz.flatten k hk4 (by omega) hfg W hW
  have hFst := fun pz cz q c W hW1 hW2 => first_calls pz q cz c ((allH zz.flatten).take k) zz.flatten k (by omega) (by omega) (firstIs_take zz.flatten k) W hW1 hW2
  have hflt := fun a => flat_take_le zz a
  obtain ⟨nf, hnf⟩ : ∃ n, zz.flatten.length = n := ⟨_, rfl⟩
  obtain ⟨T, hT⟩ : ∃ T, (allH zz.flatten).take k = T := ⟨_, rfl⟩
  have hTl : T.length ≤ k := by rw [← hT]; simp; omega
  obtain ⟨n, hn⟩ : ∃ n, T.length = n := ⟨_, rfl⟩
  have hSame := fun p1 p2 c1 c2 W hW1 hW2 => same_calls p1 p2 c1 c2 T (by omega) W hW1 hW2
  rw [hT] at hAll hAgain hHand hFst
  rw [hn] at hFst hTl hSame
  rw [hnf] at hHand hFst hfb hflt
  rw [hm] at hAll hfb hlc ⊢
  have HN := Lib.hid hn
  have HM := Lib.hid hm
  have HNF := Lib.hid hnf
  have HFit := Lib.hid hFit
  have HAll := Lib.hid hAll
  have HOne := Lib.hid hOne
  have HAgain := Lib.hid hAgain
  have HHand := Lib.hid hHand
  have HFst := Lib.hid hFst
  have HSame := Lib.hid hSame
  have HLL0 := Lib.hid hLL
  have HFlt := Lib.hid hflt
  clear hn hm hnf hFit hAll hOne hAgain hHand hFst hSame hLL hflt hT hpl hfg hGL hk
  obtain ⟨i0, hi, hz0, hz1, hz2⟩ := info_parts hitinfo
  obtain ⟨i1, hj, hy0, hy1, hy2⟩ := info_parts hitsinfo
  go_enter Try.func9, Try.ntmps9
  go_wp2_with fail
  refine (begun_calls w).mono ?_
  rintro e w1 ⟨rfl, hb1⟩
  have HB1 := Lib.hid hb1
  clear hb1
  go_wp2_with fail
  refine (HFit.out _).mono ?_
  rintro e w1' ⟨rfl, rfl⟩
  have HLW := Lib.hid (HLL0.out.below HB1.out)
  go_wp2
  go_loopw [6, 7] (fun v i ws => ∃ (a : Nat) (lv : Value), a ≤ m ∧ i = .int .i64 a ∧ lv = v ∧ JoinRel w1' zz a lv ws) (fun _ i _ => m - (intOf i).toNat)
  case atStart => exact ⟨0, _, Nat.zero_le _, rfl, rfl, World.ownsRow_nil _ _ _ _, Below.refl _ _⟩
  case round =>
    obtain ⟨a, lv, ha, rfl, rfl, hJ⟩ := hrel
    obtain ⟨wo, rfl⟩ : ∃ wo : World, wo = wr := ⟨_, rfl⟩
    have HJ := Lib.hid hJ
    clear hJ
    by_cases hlt : a < m
    · have hal : a < zz.length := by rw [HM.out]; exact hlt
      obtain ⟨z, hz⟩ : ∃ z, zz[a]? = some z := ⟨_, List.getElem?_eq_getElem hal⟩
      obtain ⟨pa, q, c, hpa, hu, hq, hqn⟩ := (HLW.out.below HJ.out.2) a z hz
      obtain rfl := hpa
      have hle : (zz.take a).flatten.length + z.length ≤ nf := by
        have := HFlt.out (a + 1)
        rw [flat_snoc hz, List.length_append] at this
        exact this
      have hs0 := HJ.out.2.size
      have hOw := HJ.out.1
      have hSrc := encH_src hq
      have i0' : (0 : Int) ≤ (a : Int) := by omega
      have i1' : (a : Int) < (m : Int) := by omega
      have HZ := Lib.hid hz
      clear hz hal hq
      go_wp2_with (at_builtin; refine wpList_append_opt rfl _ _ 23 rfl w1'.heap.size 34 i0 _ 3 32 Try.underlying23 hi hz0 hz1 hz2 rfl (by decide) lv _ _ rfl hOw q z.length c (encH z) rfl hqn (encH_length z) hSrc (encH_one z) (by unfold maxLen; omega) (by omega) hs0 ?_; intro v' w' hown' hgrow)
      have HJ2 := Lib.hid (join_next HZ.out HJ.out hown' hgrow)
      clear hown' hgrow
      go_wp2
      go_roundw
      case rel => exact ⟨a + 1, _, by omega, by go_num, rfl, HJ2.out⟩
      case measure => simp [intOf]; omega
    · obtain rfl : a = m := by omega
      have hfull : zz.take a = zz := List.take_of_length_le (by rw [HM.out]; exact Nat.le_refl _)
      have hJf := HJ.out
      unfold JoinRel at hJf
      rw [hfull, HNF.out] at hJf
      obtain ⟨ph, ch, rfl, _⟩ := own_rd hJf.1
      have HHl := Lib.hid (HL.of_own hJf.1)
      have HBx1 := Lib.hid hJf.2
      clear hfull hJf HJ
      go_wp2_with fail
      refine (HAll.out wo (HLW.out.below HBx1.out)).mono ?_
      rintro e x2 ⟨va, rfl, hra, hbx2⟩
      rw [HN.out] at hra
      obtain ⟨pA, cA, rfl, _⟩ := own_rd hra
      have HLA := Lib.hid (HL.of_own hra)
      have HHl2 := Lib.hid (HHl.out.below hbx2)
      have HBx2 := Lib.hid (HBx1.out.trans (hbx2.mono HBx1.out.size))
      have HLL2 := Lib.hid (HLW.out.below HBx2.out)
      clear hra hbx2
      obtain ⟨B, hBe⟩ : ∃ B, x2.heap.size = B := ⟨_, rfl⟩
      have HBS := Lib.hid hBe
      clear hBe
      go_wp2
      go_loopw [10, 11] (fun l i ws => ∃ (b : Nat) (L : Nat → Value) (lv : Value), b ≤ a ∧ i = .int .i64 b ∧ lv = l ∧ Below B x2 ws ∧ B ≤ ws.heap.size ∧ Hid (Lists ws B 23 34 3 b l L (fun j => ((allH (zz.getD j [])).take k).length) (fun j => encH ((allH (zz.getD j [])).take k)))) (fun _ i _ => a - (intOf i).toNat)
      case atStart => exact ⟨0, fun _ => undef, _, Nat.zero_le _, rfl, rfl, Below.refl _ _, by rw [HBS.out]; exact Nat.le_refl _, Lib.hid (Lists.none_ _ _ _ _ _ _ _ _)⟩
      case round =>
        obtain ⟨b, L, lv, hb, rfl, rfl, hbl, hsz, HH⟩ := hrel
        obtain ⟨wo2, rfl⟩ : ∃ wo : World, wo = wr := ⟨_, rfl⟩
        by_cases hbt : b < a
        · have hbz : b < zz.length := by rw [HM.out]; exact hbt
          obtain ⟨z, hz⟩ : ∃ z, zz[b]? = some z := ⟨_, List.getElem?_eq_getElem hbz⟩
          have hbx : Below x2.heap.size x2 wo2 := by rw [HBS.out]; exact hbl
          obtain ⟨pa, q, c, hpa, hu, hq, hqn⟩ := (HLL2.out.below hbx) b z hz
          have hpa' := hpa
          obtain rfl := hpa'
          have HU : Hid (HLL wo2 (some (pa.add b)) [z]) := Lib.hid (by
            intro i y hy
            cases i with
            | zero =>
              simp at hy; subst hy
              exact ⟨_, q, c, rfl, by rw [add_of_add, Nat.add_zero]; exact hu, hq, hqn⟩
            | succ i => simp at hy)
          have hgD : zz.getD b [] = z := by rw [List.getD_eq_getElem?_getD, hz]; rfl
          have hzm : z ∈ zz := List.mem_of_getElem? hz
          have j0 : (0 : Int) ≤ (b : Int) := by omega
          have j1 : (b : Int) ≤ (b : Int) + 1 := by omega
          have j2 : (b : Int) + 1 ≤ (cap : Int) := by omega
          have hw1 : IntKind.i64.wrap ((b : Int) + 1) = ((b + 1 : Nat) : Int) := by rw [IntKind.wrap_i64]; unfold maxLen at hcm; omega
          have HO1 := Lib.hid (HOne.out (some (pa.add b)) (cap - b) z hzm wo2 HU.out)
          go_wp2_with fail
          refine HO1.out.mono ?_
          rintro e y1 ⟨va', rfl, hra, hb1⟩
          rw [show [z].flatten = z by simp, ← hgD] at hra
          obtain ⟨pv, cv, rfl, _⟩ := own_rd hra
          have hl2 := HH.out.below hb1
          have hnew := HH.out.fresh (va := .slice pv ((allH (zz.getD b [])).take k).length cv) (H := wo2.heap.size) (Nat.le_refl _) (fun b hb => (hra.lt b hb).1)
          have hb2' := hbl.trans (hb1.mono hsz)
          have hz2 := hb1.size
          have hraB := own_le (base' := B) hra hsz
          have HR := Lib.hid (And.intro hl2 (And.intro hraB hnew))
          have hlr := hl2.1
          clear hra hl2 hnew hb1 hraB hu hq hqn hz hzm hgD hbz hbx HU HO1
          generalize hnb : ((allH (zz.getD b [])).take k).length = nb at HR ⊢
          have HNB := Lib.hid hnb
          clear hnb
          go_wp2_with (at_builtin; refine wpList_append_two _ rfl _ _ 50 rfl B 23 i1 (.slice none 0 0) 1 24 Try.underlying50 hj hy0 hy1 hy2 rfl (by decide) lv b _ rfl (hlr.alloc _) ⟨y1.heap.size, 0, none⟩ 1 1 [.slice pv nb cv] rfl rfl (World.news_of_block (heap_alloc_new y1 _)) (by simp [Value.oneCell']) (by decide) (by unfold maxLen; omega) (by omega) (by simp; omega) ?_; intro g' capn y3 hown' hold hlies hlt2)
          have hln := Lists.step HR.out.1 (by show y1.ownsRow B 34 3 (.slice pv nb cv) ((allH (zz.getD b [])).take k).length _; rw [HNB.out]; exact HR.out.2.1) HR.out.2.2 (by decide) _ hown' hlies
          have hbn : Below B x2 y3 := hlies.below (hb2'.alloc (by omega) _) (by simp; omega) (fun b hb => (hlr.lt b hb).1)
          have hzn : B ≤ y3.heap.size := Nat.le_trans (by simp; omega) hlies.row.size
          have HLN := Lib.hid hln
          clear hln
          go_wp2
          go_roundw
          case rel => exact ⟨b + 1, _, _, by omega, by go_num, rfl, hbn, hzn, Lib.hid HLN.out⟩
          case measure => simp [intOf]; omega
        · obtain rfl : b = a := by omega
          obtain ⟨pp, cp, rfl, hlp⟩ := lists_hll HM.out HH.out
          have hbx : Below x2.heap.size x2 wo2 := by rw [HBS.out]; exact hbl
          have HLAw := Lib.hid (HLA.out.below hbx)
          have HHlw := Lib.hid (HHl2.out.below hbx)
          have HBw := Lib.hid (HBx2.out.trans (hbx.mono HBx2.out.size))
          have HA1 := Lib.hid (HAgain.out pp cp wo2 hlp)
          clear hlp hbx HH hbl
          go_wp2_with fail
          refine HA1.out.mono ?_
          rintro e x4 ⟨vg, rfl, hrg, hb4⟩
          rw [HN.out] at hrg
          obtain ⟨pG, cG, rfl, _⟩ := own_rd hrg
          have HLG4 := Lib.hid (HL.of_own hrg)
          have HLA4 := Lib.hid (HLAw.out.below hb4)
          have HHl4 := Lib.hid (HHlw.out.below hb4)
          have HB4 := Lib.hid (HBw.out.trans (hb4.mono HBw.out.size))
          clear hrg hb4
          go_wp2_with fail
          refine (HHand.out ph ch x4 HHl4.out).mono ?_
          rintro e x5 ⟨tb, rfl, hO5⟩
          have hb5 : Below x4.heap.size x4 x5 := by obtain ⟨_, _, h, _⟩ := hO5; exact h
          have HO5 := Lib.hid hO5
          have HLG5 := Lib.hid (HLG4.out.below hb5)
          have HLA5 := Lib.hid (HLA4.out.below hb5)
          have HHl5 := Lib.hid (HHl4.out.below hb5)
          have HB5 := Lib.hid (HB4.out.trans (hb5.mono HB4.out.size))
          clear hO5 hb5
          go_wp2_with fail
          refine (HSame.out pA pG cA cG x5 HLA5.out HLG5.out).mono ?_
          rintro e x6 ⟨rfl, hg6⟩
          have HO6 := Lib.hid (HO5.out.gr hg6)
          have HLA6 := Lib.hid (HLA5.out.gr hg6)
          have HHl6 := Lib.hid (HHl5.out.gr hg6)
          have HB6 := Lib.hid (HB5.out.trans (hg6.below.mono HB5.out.size))
          clear hg6
          go_wp2_with fail
          refine (HO6.out.list (by rw [HN.out]; omega)).mono ?_
          rintro e x7 ⟨l3, rfl, ho7, hb7⟩
          rw [HN.out] at ho7
          obtain ⟨pl3, cl3, rfl, _⟩ := own_rd ho7
          have HL7 := Lib.hid (HL.of_own ho7)
          have HLA7 := Lib.hid (HLA6.out.below hb7)
          have HHl7 := Lib.hid (HHl6.out.below hb7)
          have HB7 := Lib.hid (HB6.out.trans (hb7.mono HB6.out.size))
          clear ho7 hb7
          go_wp2_with fail
          refine (HSame.out pA pl3 cA cl3 x7 HLA7.out HL7.out).mono ?_
          rintro e x8 ⟨rfl, hg8⟩
          have HLA8 := Lib.hid (HLA7.out.gr hg8)
          have HHl8 := Lib.hid (HHl7.out.gr hg8)
          have HB8 := Lib.hid (HB7.out.trans (hg8.below.mono HB7.out.size))
          clear hg8
          go_wp2_with fail
          refine (HFst.out pA cA ph ch x8 HLA8.out HHl8.out).mono ?_
          rintro e x9 ⟨rfl, hg9⟩
          have HE := Lib.hid (HB1.out.trans ((HB8.out.trans (hg9.below.mono HB8.out.size)).mono HB1.out.size))
          clear hg9
          go_wp2
          go_ret
          exact ⟨rfl, HE.out⟩
end Go.Proofs.Ytahceakghgmpkaa
