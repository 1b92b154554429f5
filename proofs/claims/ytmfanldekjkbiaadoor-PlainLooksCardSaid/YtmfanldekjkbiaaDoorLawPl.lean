/-
  THE LAW PlainLooks, walked: each pair once, with its distance, in order.
-/
import Derived.Test.YtmfanldekjkbiaaDoorLooksP
import Derived.Test.YtmfanldekjkbiaaDoorBegunP
import Derived.Deep.CutRange
namespace Go.Proofs.YtmfanldekjkbiaaDoor
open Go.RowKit ArgK
set_option linter.unusedVariables false

theorem sameH13 {p1 p2 : Option Addr} {c1 c2 n : Nat} {T : List Hv} (hn : T.length = n) (hb : n ≤ 4096) (w : World) (h1 : HL w p1 T) (h2 : HL w p2 T) :
    Calls Tryd.prog 16 #[.slice p1 n c1, .slice p2 n c2] w fun x w' => x = .returned (.bool true) ∧ Gr w w' := by
  subst hn
  exact same13_calls p1 p2 c1 c2 T (by omega) w h1 h2

set_option maxRecDepth 100000 in
set_option maxHeartbeats 8000000 in
theorem PlainLooks_walk (a0 : Int) (w0 : (Lit.int .i64 a0).wf = true) (v1 : Value) (z : List Pv) (a2 : ByteArray) (s2 : a2.size ≤ 140737488351232) (a3 : Int) (w3 : (Lit.int .i64 a3).wf = true) (a4 : Int) (w4 : (Lit.int .i64 a4).wf = true) (w : World) (h1 : IsSl w 2 24 IsPair [v1] z) (hL : TabLaid w) :
    Calls Tryd.prog 4 #[.int .i64 a0, v1, .string a2, .int .i64 a3, .int .i64 a4] w fun e w' => e = .returned (.bool true) ∧ Below w.heap.size w w' := by
  obtain ⟨hz, pz, cz, rfl, hPL, hGP⟩ := pairs_of_arg h1
  have hT := tab_of_laid hL
  have CW := Lib.hid (fun W => width13_calls a0 W)
  obtain ⟨W, hWe⟩ : ∃ W, widN a0 = W := ⟨_, rfl⟩
  have hWb := widN_bd a0
  have hWg := widN_good a0
  rw [hWe] at CW hWb hWg
  obtain ⟨hW1, hW2, hW3⟩ := hWb
  have CB := Lib.hid (begun13_calls w hT)
  have CQ := Lib.hid (fun X => fit13_calls a2 s2 W hW2 X)
  obtain ⟨q, hq⟩ : ∃ q, fitB a2 (W / 8) = q := ⟨_, rfl⟩
  have hqs : q.size = W / 8 := by rw [← hq]; exact fitB_size _ _
  rw [hq] at CQ
  have CF := Lib.hid (fun X hX => filled_calls W hWg pz cz z (by omega) hGP X hX)
  obtain ⟨L, hLe⟩ : ∃ L, fillL (W / 8) [] z = L := ⟨_, rfl⟩
  have hLb : L.length ≤ 80 := by rw [← hLe]; exact fillL_bound _ _ _ (Nat.zero_le _)
  rw [hLe] at CF
  obtain ⟨m, hm⟩ : ∃ m, z.length = m := ⟨_, rfl⟩
  rw [hm] at CF ⊢
  obtain ⟨k, hk⟩ : ∃ k, kN a3 = k := ⟨_, rfl⟩
  have hkl : k ≤ 4096 := by rw [← hk]; exact kN_le a3
  obtain ⟨r, hr⟩ : ∃ r, rN3 W a4 = r := ⟨_, rfl⟩
  have hr0 : 0 ≤ r ∧ r ≤ (W : Int) := by rw [← hr]; exact rN3_bd hW1 a4
  obtain ⟨ln, hln⟩ : ∃ ln, L.length = ln := ⟨_, rfl⟩
  have HT := Lib.hid hT
  have HPL := Lib.hid hPL
  have HR := Lib.hid hr
  have HK := Lib.hid hk
  have HLn := Lib.hid hln
  rw [hln] at hLb
  clear hq hLe hm hr hk hT hL hPL hGP h1 hz hWe hWg hln
  go_enter Tryd.func4, Tryd.ntmps4
  go_wp2_with fail
  refine CB.out.mono ?_
  rintro e w1 ⟨rfl, hb1⟩
  have HB1 := Lib.hid hb1
  clear hb1
  go_wp2_with fail
  refine (CW.out w1).mono ?_
  rintro e w1' ⟨rfl, rfl⟩
  go_wp2_with fail
  refine (CQ.out _).mono ?_
  rintro e w2 ⟨rfl, hb2⟩
  have HB2 := Lib.hid (HB1.out.trans (hb2.mono HB1.out.size))
  clear hb2
  go_wp2_with fail
  refine (CF.out w2 (HPL.out.below HB2.out)).mono ?_
  rintro e w5 ⟨mb, pb, vi, rfl, hM4, hr4, hb4, _, _⟩
  rw [HLn.out] at hr4
  obtain ⟨pi, ci, rfl, _⟩ := own_rd hr4
  have HB5 := Lib.hid (HB2.out.trans (hb4.mono HB2.out.size))
  have HM5 := Lib.hid hM4
  clear hb4 hM4 hr4
  obtain ⟨bk, hbk⟩ : ∃ bk, decide (a3 < 0 ∨ 4096 < a3) = bk := ⟨_, rfl⟩
  have HKK : Hid ((k : Int) = if bk then 3 else a3) := Lib.hid (by
    rw [← HK.out, ← hbk]
    unfold kN
    by_cases h : a3 < 0 ∨ 4096 < a3
    · simp [h]
    · simp only [h, if_false, decide_false, Bool.false_eq_true]
      omega)
  have HBK := Lib.hid hbk
  clear hbk
  obtain ⟨bb, hbb⟩ : ∃ bb, decide (a4 < 0 ∨ (W : Int) < a4) = bb := ⟨_, rfl⟩
  have HRR : Hid (r = if bb then 3 else a4) := Lib.hid (by
    rw [← HR.out, ← hbb]
    unfold rN3
    by_cases h : a4 < 0 ∨ (W : Int) < a4 <;> simp [h])
  have HBB := Lib.hid hbb
  clear hbb
  go_upto_region 7 with fail
  go_cut [57] from 52 to 56 (fun s64 wx => s64 = .bool bk ∧ wx = w5)
  case first =>
    by_cases h1 : a3 < 0
    · go_wp2_with fail
      go_meet
      exact ⟨by rw [← HBK.out]; simp [h1], rfl⟩
    · by_cases h2 : 4096 < a3
      · go_wp2_with fail
        go_meet
        exact ⟨by rw [← HBK.out]; simp [h2], rfl⟩
      · go_wp2_with fail
        go_meet
        exact ⟨by rw [← HBK.out]; simp; omega, rfl⟩
  case rest =>
    obtain ⟨rfl, rfl⟩ := hcut
    go_upto_if 57 with fail
    go_cut [3] from 57 to 57 (fun s4 wx => s4 = .int .i64 (k : Int) ∧ wx = wc)
    case first =>
      cases bk
      · go_wp2_with fail
        go_meet
        exact ⟨by rw [HKK.out]; rfl, rfl⟩
      · go_wp2_with fail
        go_meet
        exact ⟨by rw [HKK.out]; rfl, rfl⟩
    case rest =>
      obtain ⟨rfl, rfl⟩ := hcut
      clear HKK HBK HK
      go_upto_region 9 with fail
      go_cut [64] from 58 to 63 (fun s64 wx => s64 = .bool bb ∧ wx = wc)
      case first =>
        by_cases h1 : a4 < 0
        · go_wp2_with fail
          go_meet
          exact ⟨by rw [← HBB.out]; simp [h1], rfl⟩
        · by_cases h2 : (W : Int) < a4
          · go_wp2_with fail
            go_meet
            exact ⟨by rw [← HBB.out]; simp [h2], rfl⟩
          · go_wp2_with fail
            go_meet
            exact ⟨by rw [← HBB.out]; simp; omega, rfl⟩
      case rest =>
        obtain ⟨rfl, rfl⟩ := hcut
        go_upto_if 64 with fail
        go_cut [4] from 64 to 64 (fun s4 wx => s4 = .int .i64 r ∧ wx = wc)
        case first =>
          cases bb
          · go_wp2_with fail
            go_meet
            exact ⟨by rw [HRR.out]; rfl, rfl⟩
          · go_wp2_with fail
            go_meet
            exact ⟨by rw [HRR.out]; rfl, rfl⟩
        case rest =>
          obtain ⟨rfl, rfl⟩ := hcut
          clear HRR HBB HR
          obtain ⟨V, hV⟩ : ∃ V, L.map (hitOf q) = V := ⟨_, rfl⟩
          obtain ⟨T, hTe⟩ : ∃ T, allH V = T := ⟨_, rfl⟩
          have HNd := Lib.hid HM5.out.2.1.nodup
          have HFt := Lib.hid HM5.out.2.2
          have hVb : ∀ x ∈ V, 0 ≤ x.d ∧ x.d ≤ (W : Int) := fun x hx => by
            rw [← hV] at hx
            obtain ⟨p, hp, rfl⟩ := List.mem_map.1 hx
            have := dB_le (a := q) (b := p.c) (by have := (HFt.out p hp).2.2; omega)
            unfold dB at this
            simp only [hitOf]
            omega
          have hTp : T.Perm V := by rw [← hTe, ← hV]; exact allT_perm HNd.out q
          have hTr : Ris T := by rw [← hTe]; exact allH_ris _
          have hTl : T.length = ln := by rw [hTp.length_eq, ← hV, List.length_map, HLn.out]
          have hall : nearT (W : Int) V = T := by rw [near_all (fun x hx => (hVb x hx).2), hTe]
          have htop : firstT k V = T.take k := by unfold firstT; rw [hTe]
          have hball : nearT r V = T.filter (near r) := by rw [nearT_filter, hTe]
          have CR1 := Lib.hid (radius_ok HM5.out hW2 q hqs (W : Int) (by omega) (by omega) (HT.out.below HB5.out) (by rw [HLn.out]; omega))
          rw [hV, hall] at CR1
          have HNext := Lib.hid (fun j y x (hy : T[j]? = some y) (hx : T[j + 1]? = some x) => looks_next HNd.out q (by rw [hV, hTe]; exact hy) (by rw [hV, hTe]; exact hx))
          have HGet := Lib.hid (fun x (hx : x ∈ T) => looks_get HNd.out HFt.out (q := q) (x := x) (by rw [hV]; exact hTp.mem_iff.1 hx))
          have HTb := Lib.hid (fun x (hx : x ∈ T) => hVb x (hTp.mem_iff.1 hx))
          have HTp := Lib.hid hTp
          have HTr := Lib.hid hTr
          have HTl := Lib.hid hTl
          have HTop := Lib.hid htop
          have HBall := Lib.hid hball
          have HV := Lib.hid hV
          obtain ⟨tl, htl⟩ : ∃ tl, (T.take k).length = tl := ⟨_, rfl⟩
          obtain ⟨bl, hbl⟩ : ∃ bl, (T.filter (near r)).length = bl := ⟨_, rfl⟩
          have HTk := Lib.hid htl
          have HBl := Lib.hid hbl
          clear hV hTe hVb hTp hTr hTl hall htop hball htl hbl
          go_wp2_with fail
          refine CR1.out.mono ?_
          rintro e w6 ⟨va, rfl, hra, hb6⟩
          rw [HTl.out] at hra
          obtain ⟨pa, ca, rfl, hca, _, _⟩ := own_rd hra
          have HB6 := Lib.hid (HB5.out.trans (hb6.mono HB5.out.size))
          have HM6 := Lib.hid (HM5.out.below hb6)
          have HLa6 := Lib.hid (HL.of_own hra)
          have CT := Lib.hid (topk_ok HM6.out hW2 q hqs k hkl (HT.out.below HB6.out) (by rw [HLn.out]; omega))
          rw [HV.out, HTop.out] at CT
          clear hra hb6
          go_wp2_with fail
          refine CT.out.mono ?_
          rintro e w7 ⟨vt, rfl, hrt, hb7⟩
          rw [HTk.out] at hrt
          obtain ⟨pt, ct, rfl, _⟩ := own_rd hrt
          have HB7 := Lib.hid (HB6.out.trans (hb7.mono HB6.out.size))
          have HM7 := Lib.hid (HM6.out.below hb7)
          have HLa7 := Lib.hid (HLa6.out.below hb7)
          have HLt7 := Lib.hid (HL.of_own hrt)
          have CR2 := Lib.hid (radius_ok HM7.out hW2 q hqs r hr0.1 hr0.2 (HT.out.below HB7.out) (by rw [HLn.out]; omega))
          rw [HV.out, HBall.out] at CR2
          clear hrt hb7
          go_wp2_with fail
          refine CR2.out.mono ?_
          rintro e w8 ⟨vb, rfl, hrb, hb8⟩
          rw [HBl.out] at hrb
          obtain ⟨pl, cl, rfl, _⟩ := own_rd hrb
          have HB8 := Lib.hid (HB7.out.trans (hb8.mono HB7.out.size))
          have HM8 := Lib.hid (HM7.out.below hb8)
          have HLa8 := Lib.hid (HLa7.out.below hb8)
          have HLt8 := Lib.hid (HLt7.out.below hb8)
          have HLb8 := Lib.hid (HL.of_own hrb)
          have CH := Lib.hid (hist_ok HM8.out hW2 (by omega) q hqs (HT.out.below HB8.out) (by rw [HLn.out]; omega))
          rw [HV.out] at CH
          obtain ⟨N, hN⟩ : ∃ N, W + 1 = N := ⟨_, rfl⟩
          rw [hN] at CH
          have hWN : (W : Int) + 1 = (N : Int) := by omega
          have HNn := Lib.hid hN
          clear hrb hb8 hN
          go_wp2_with fail
          refine CH.out.mono ?_
          rintro e w9 ⟨gn, rfl, hrc, hb9⟩
          rw [cntV_perm HTp.out.symm] at hrc
          have HC0 : Hid (w9.ownsRow w8.heap.size 3 1 (.slice (some ⟨gn, 0, none⟩) N N) N (cntV N (T.drop 0)) ∧ Below w8.heap.size w8 w9) := Lib.hid ⟨hrc, hb9⟩
          have q1 : ((ln : Int) != (ln : Int)) = false := by simp
          have q2 : ((N : Int) != (N : Int)) = false := by simp
          clear hrc hb9 CH CR2 CT CR1
          go_wp2
          go_loopw [23] (fun i ws => ∃ j : Nat, j ≤ ln ∧ i = .int .i64 j ∧ ws.ownsRow w8.heap.size 3 1 (.slice (some ⟨gn, 0, none⟩) N N) N (cntV N (T.drop j)) ∧ Below w8.heap.size w8 ws) (fun i _ => ln - (intOf i).toNat)
          case atStart => exact ⟨0, Nat.zero_le _, rfl, HC0.out⟩
          case round =>
            obtain ⟨j, hj, rfl, hC⟩ := hrel
            obtain ⟨wo, rfl⟩ : ∃ wo : World, wo = wr := ⟨_, rfl⟩
            have HC := Lib.hid hC
            have hLa := HLa8.out.below hC.2
            clear hC
            by_cases hjt : j < ln
            · obtain ⟨x, hx⟩ : ∃ x, T[j]? = some x := ⟨_, List.getElem?_eq_getElem (by rw [HTl.out]; exact hjt)⟩
              have hxm := List.mem_of_getElem? hx
              obtain ⟨hx0, hx1⟩ := HTb.out x hxm
              obtain ⟨g0, g1, g2, g3, g4⟩ := HGet.out x hxm
              obtain ⟨d, hd⟩ : ∃ d : Nat, x.d = (d : Int) := ⟨x.d.toNat, by omega⟩
              have hdN : d < N := by have := HNn.out; omega
              have HD := Lib.hid (cntV_drop hx hd hdN)
              have HX := Lib.hid hx
              have CG := Lib.hid (fun X hX => get_calls (w := X) (HM8.out.below hX) x.i g4)
              rw [g0, if_pos rfl, g1] at CG
              have CD : Hid (∀ X, Below w8.heap.size w8 X → Calls Tryd.prog 11 #[.string q, .string x.c] X fun e w' => e = .returned (.tuple #[.int .i64 (d : Int), .int .i64 0]) ∧ Below X.heap.size X w') := Lib.hid (fun X hX => by
                have hc := Distance_below q x.c (by omega) (by omega) X ((HT.out.below HB8.out).below hX)
                have hdd : distR q.data.toList x.c.data.toList = (d, 0) := by
                  unfold distR
                  have e1 : q.data.toList.length = q.size := rfl
                  have e2 : x.c.data.toList.length = x.c.size := rfl
                  rw [if_neg (by rw [e1, e2]; omega)]
                  have : wt (xorL q.data.toList x.c.data.toList) = d := by
                    have : (dB q x.c : Int) = d := by rw [← g2, hd]
                    unfold dB at this
                    omega
                  rw [this]
                rw [hdd] at hc
                exact hc)
              obtain ⟨px, rfl, u0, u1, u2⟩ := hLa j x hx
              rw [hd] at u0
              have hu := fun X (hX : Below wo.heap.size wo X) => (And.intro ((hX.cell (cell_ltH u0)).trans u0) (And.intro ((hX.cell (cell_ltH u1)).trans u1) ((hX.cell (cell_ltH u2)).trans u2)) : _ ∧ _ ∧ _)
              have HU := Lib.hid hu
              have i0 : (0 : Int) ≤ (j : Int) := by omega
              have i1 : (j : Int) < (ln : Int) := by omega
              have s8 := HC.out.2.size
              have q3 : ((d : Int) != (d : Int)) = false := by simp
              have q4 : (x.c.toList != x.c.toList) = false := by simp
              have q5 : (0 : Int) ≤ (d : Int) := by omega
              have q6 : (d : Int) < (N : Int) := by omega
              clear hu hxm g0 g1 g2 g3 hx0 hx1 hx
              go_wp2_with fail
              refine (CD.out wo HC.out.2).mono ?_
              rintro e wa ⟨rfl, hba⟩
              obtain ⟨u0, u1, u2⟩ := HU.out wa hba
              have HBa := Lib.hid hba
              clear hba
              go_wp2_with fail
              refine (CG.out wa (HC.out.2.trans (HBa.out.mono s8))).mono ?_
              rintro e wb ⟨rfl, hgb⟩
              have HBb := Lib.hid (HBa.out.trans (hgb.below.mono HBa.out.size))
              obtain ⟨u0, u1, u2⟩ := HU.out wb HBb.out
              have HRb := Lib.hid (own_belowAll HC.out.1 HBb.out)
              have t0 := (HRb.out.cellAt d (by omega)).trans (cntV_get hdN)
              have t1 := HRb.out.frozenAt d
              obtain ⟨cd, hcd⟩ : ∃ cd, cntD (T.drop j) d = cd := ⟨_, rfl⟩
              rw [hcd] at t0 HD
              have hcb : cd ≤ 80 := by
                rw [← hcd]
                refine Nat.le_trans (cntD_le _ _) ?_
                rw [List.length_drop, HTl.out]
                omega
              have hc1 := HD.out.2
              have HE : Hid (∀ X, Gr wb X → ((X.setCell ⟨gn, d, none⟩ (.int .i64 ((cd : Int) - 1))).ownsRow w8.heap.size 3 1 (.slice (some ⟨gn, 0, none⟩) N N) N (cntV N (T.drop (j + 1)))) ∧ Below w8.heap.size w8 (X.setCell ⟨gn, d, none⟩ (.int .i64 ((cd : Int) - 1)))) := Lib.hid (fun X hX => by
                refine ⟨by rw [← HD.out.1]; exact ((own_belowAll HRb.out hX.below).stored d _).1, ((HC.out.2.trans (HBb.out.mono s8)).trans (hX.below.mono (Nat.le_trans s8 HBb.out.size))).setCell (p := ⟨gn, d, none⟩) ?_ _⟩
                exact (HRb.out.lt gn rfl).1)
              go_upto_region 24 with fail
              by_cases hj0 : j = 0
              · have d0 : decide ((0 : Int) < (j : Int)) = false := by simp; omega
                go_quiet (fail)
                go_wp2
                go_roundw
                case rel => exact ⟨j + 1, by omega, by go_num, HE.out _ ((Gr.refl _).drewN _)⟩
                case measure => simp [intOf]; omega
              · obtain ⟨l, hl⟩ : ∃ l, j = l + 1 := ⟨j - 1, by omega⟩
                obtain ⟨y, hy⟩ : ∃ y, T[l]? = some y := ⟨_, List.getElem?_eq_getElem (by rw [HTl.out]; omega)⟩
                have hnx := HNext.out l y x hy (by rw [← hl]; exact HX.out)
                rw [hd] at hnx
                obtain ⟨py, hpy, v0, v1, v2⟩ := (HLa8.out.below (HC.out.2.trans (HBb.out.mono s8))) l y hy
                obtain rfl := Option.some.inj hpy
                have i2 : (0 : Int) < (l : Int) + 1 := by omega
                have d0 : decide ((0 : Int) < (l : Int) + 1) = true := decide_eq_true (by omega)
                have i3 : (0 : Int) ≤ (l : Int) := by omega
                have i4 : (l : Int) < (ln : Int) := by omega
                subst hl
                clear hy hpy
                rcases hnx with hnx | ⟨hnx, hni⟩
                · have p1 : decide ((d : Int) < y.d) = false := by simp; omega
                  have p2 : (y.d == (d : Int)) = false := by rw [beq_eq_false_iff_ne]; omega
                  go_quiet (fail)
                  go_wp2
                  go_roundw
                  case rel => exact ⟨l + 1 + 1, by omega, by go_num, HE.out _ ((Gr.refl _).drewN _)⟩
                  case measure => simp [intOf]; omega
                · rw [hnx] at v0
                  have p1 : decide ((d : Int) < (d : Int)) = false := by simp
                  have p2 : ((d : Int) == (d : Int)) = true := by simp
                  have p3 : decide (x.i ≤ y.i) = false := by simp; omega
                  go_quiet (fail)
                  go_wp2
                  go_roundw
                  case rel => exact ⟨l + 1 + 1, by omega, by go_num, HE.out _ ((Gr.refl _).drewN _)⟩
                  case measure => simp [intOf]; omega
            · obtain rfl : j = ln := by omega
              have HCl := HC
              go_wp2
              go_loopw [28] (fun i ws => ∃ n : Nat, n ≤ j ∧ i = .int .i64 n ∧ (∀ x ∈ T.take n, x.d ≤ r) ∧ Gr wo ws) (fun i _ => j - (intOf i).toNat)
              case atStart => exact ⟨0, Nat.zero_le _, rfl, fun x hx => by simp at hx, Gr.refl _⟩
              case round =>
                obtain ⟨n, hn, rfl, hnr, hG3⟩ := hrel
                obtain ⟨wi, rfl⟩ : ∃ wo : World, wo = wr := ⟨_, rfl⟩
                by_cases hnt : n < j
                · obtain ⟨x, hx⟩ : ∃ x, T[n]? = some x := ⟨_, List.getElem?_eq_getElem (by rw [HTl.out]; exact hnt)⟩
                  obtain ⟨px, rfl, u0, u1, u2⟩ := (hLa.gr hG3) n x hx
                  have i0 : (0 : Int) ≤ (n : Int) := by omega
                  have i1 : (n : Int) < (j : Int) := by omega
                  by_cases hxr : x.d ≤ r
                  · have HS : Hid (∀ y ∈ T.take (n + 1), y.d ≤ r) := Lib.hid (fun y hy => by
                      rw [List.take_add_one, hx] at hy
                      rcases List.mem_append.1 hy with hy | hy
                      · exact hnr y hy
                      · simp at hy; subst hy; exact hxr)
                    clear hnr hx
                    go_wp2
                    go_roundw
                    case rel => exact ⟨n + 1, by omega, by go_num, HS.out, hG3⟩
                    case measure => simp [intOf]; omega
                  · have hf := near_cut (r := r) HTr.out (n := n) hnr (fun y hy => by rw [hx] at hy; cases hy; omega)
                    clear hnr hx
                    have HF := Lib.hid hf
                    have hbn : n = bl := by rw [← HBl.out, HF.out, List.length_take, HTl.out]; omega
                    have HTn : Hid ((T.take n).length = n) := Lib.hid (by rw [List.length_take, HTl.out]; omega)
                    subst hbn
                    clear hf
                    have HBi := Lib.hid (HC.out.2.trans (hG3.below.mono HC.out.2.size))
                    have HLai := Lib.hid (HLa8.out.below HBi.out)
                    have HGi := Lib.hid hG3
                    clear hG3
                    have hnc : (n : Int) ≤ (ca : Int) := by omega
                    have hn0 : (0 : Int) ≤ (n : Int) := by omega
                    by_cases hkl2 : k < j
                    · have htk : tl = k := by rw [← HTk.out, List.length_take, HTl.out]; omega
                      have hkc : (k : Int) ≤ (ca : Int) := by omega
                      have hk0 : (0 : Int) ≤ (k : Int) := by omega
                      have hkj : (k : Int) < (j : Int) := by omega
                      rw [htk] at HTk
                      rw [htk]
                      clear htk
                      go_wp2_with fail
                      refine (sameH13 (T := T.take k) HTk.out (by omega) wi ((HLt8.out.below HBi.out)) ((HLai.out).front13 k)).mono ?_
                      rintro e wj ⟨rfl, hgj⟩
                      have HLaj := Lib.hid (HLai.out.gr hgj)
                      have HLbj := Lib.hid ((HLb8.out.below HBi.out).gr hgj)
                      rw [HF.out] at HLbj
                      have HGj := Lib.hid (HGi.out.trans hgj)
                      clear hgj
                      go_wp2_with fail
                      refine (sameH13 (T := T.take n) HTn.out (by omega) wj HLbj.out ((HLaj.out).front13 n)).mono ?_
                      rintro e wk ⟨rfl, hgk⟩
                      have HGk := Lib.hid (HGj.out.trans hgk)
                      clear hgk
                      go_wp2
                      go_loopw [32] (fun i ws => ∃ t : Nat, t ≤ N ∧ i = .int .i64 t ∧ Gr wo ws) (fun i _ => N - (intOf i).toNat)
                      case atStart => exact ⟨0, Nat.zero_le _, rfl, HGk.out⟩
                      case round =>
                        obtain ⟨t, ht, rfl, hG4⟩ := hrel
                        obtain ⟨wl, rfl⟩ : ∃ wo : World, wo = wr := ⟨_, rfl⟩
                        by_cases htt : t < N
                        · have z0 := ((own_belowAll HC.out.1 hG4.below).cellAt t (by omega)).trans (cntV_get htt)
                          rw [show cntD (T.drop j) t = 0 by rw [List.drop_of_length_le (by rw [HTl.out]; exact Nat.le_refl _)]; rfl] at z0
                          have j0 : (0 : Int) ≤ (t : Int) := by omega
                          have j1 : (t : Int) < (N : Int) := by omega
                          go_wp2
                          go_roundw
                          case rel => exact ⟨t + 1, by omega, by go_num, hG4⟩
                          case measure => simp [intOf]; omega
                        · obtain rfl : t = N := by omega
                          have HE := Lib.hid (HB8.out.trans ((HC.out.2.trans (hG4.below.mono HC.out.2.size)).mono HB8.out.size))
                          clear hG4
                          go_wp2
                          go_ret
                          exact ⟨rfl, HE.out⟩
                    · have htk : tl = j := by rw [← HTk.out, List.length_take, HTl.out]; omega
                      have hkc : (j : Int) ≤ (ca : Int) := by omega
                      have hk0 : (0 : Int) ≤ (j : Int) := by omega
                      have hkj : ¬ (k : Int) < (j : Int) := by omega
                      rw [htk] at HTk
                      rw [htk]
                      clear htk
                      go_wp2_with fail
                      refine (sameH13 (T := T.take k) HTk.out (by omega) wi ((HLt8.out.below HBi.out)) ((HLai.out).front13 k)).mono ?_
                      rintro e wj ⟨rfl, hgj⟩
                      have HLaj := Lib.hid (HLai.out.gr hgj)
                      have HLbj := Lib.hid ((HLb8.out.below HBi.out).gr hgj)
                      rw [HF.out] at HLbj
                      have HGj := Lib.hid (HGi.out.trans hgj)
                      clear hgj
                      go_wp2_with fail
                      refine (sameH13 (T := T.take n) HTn.out (by omega) wj HLbj.out ((HLaj.out).front13 n)).mono ?_
                      rintro e wk ⟨rfl, hgk⟩
                      have HGk := Lib.hid (HGj.out.trans hgk)
                      clear hgk
                      go_wp2
                      go_loopw [32] (fun i ws => ∃ t : Nat, t ≤ N ∧ i = .int .i64 t ∧ Gr wo ws) (fun i _ => N - (intOf i).toNat)
                      case atStart => exact ⟨0, Nat.zero_le _, rfl, HGk.out⟩
                      case round =>
                        obtain ⟨t, ht, rfl, hG4⟩ := hrel
                        obtain ⟨wl, rfl⟩ : ∃ wo : World, wo = wr := ⟨_, rfl⟩
                        by_cases htt : t < N
                        · have z0 := ((own_belowAll HC.out.1 hG4.below).cellAt t (by omega)).trans (cntV_get htt)
                          rw [show cntD (T.drop j) t = 0 by rw [List.drop_of_length_le (by rw [HTl.out]; exact Nat.le_refl _)]; rfl] at z0
                          have j0 : (0 : Int) ≤ (t : Int) := by omega
                          have j1 : (t : Int) < (N : Int) := by omega
                          go_wp2
                          go_roundw
                          case rel => exact ⟨t + 1, by omega, by go_num, hG4⟩
                          case measure => simp [intOf]; omega
                        · obtain rfl : t = N := by omega
                          have HE := Lib.hid (HB8.out.trans ((HC.out.2.trans (hG4.below.mono HC.out.2.size)).mono HB8.out.size))
                          clear hG4
                          go_wp2
                          go_ret
                          exact ⟨rfl, HE.out⟩
                · have hnj : n = j := by omega
                  have hnj2 : decide ((n : Int) < (j : Int)) = false := decide_eq_false (by omega)
                  have hf := near_cut (r := r) HTr.out (n := n) hnr (fun y hy => by
                    rw [List.getElem?_eq_none (by rw [HTl.out]; omega)] at hy
                    cases hy)
                  clear hnr hnj
                  have HF := Lib.hid hf
                  have hbn : n = bl := by rw [← HBl.out, HF.out, List.length_take, HTl.out]; omega
                  have HTn : Hid ((T.take n).length = n) := Lib.hid (by rw [List.length_take, HTl.out]; omega)
                  subst hbn
                  clear hf
                  have HBi := Lib.hid (HC.out.2.trans (hG3.below.mono HC.out.2.size))
                  have HLai := Lib.hid (HLa8.out.below HBi.out)
                  have HGi := Lib.hid hG3
                  clear hG3
                  have hnc : (n : Int) ≤ (ca : Int) := by omega
                  have hn0 : (0 : Int) ≤ (n : Int) := by omega
                  by_cases hkl2 : k < j
                  · have htk : tl = k := by rw [← HTk.out, List.length_take, HTl.out]; omega
                    have hkc : (k : Int) ≤ (ca : Int) := by omega
                    have hk0 : (0 : Int) ≤ (k : Int) := by omega
                    have hkj : (k : Int) < (j : Int) := by omega
                    rw [htk] at HTk
                    rw [htk]
                    clear htk
                    go_wp2_with fail
                    refine (sameH13 (T := T.take k) HTk.out (by omega) wi ((HLt8.out.below HBi.out)) ((HLai.out).front13 k)).mono ?_
                    rintro e wj ⟨rfl, hgj⟩
                    have HLaj := Lib.hid (HLai.out.gr hgj)
                    have HLbj := Lib.hid ((HLb8.out.below HBi.out).gr hgj)
                    rw [HF.out] at HLbj
                    have HGj := Lib.hid (HGi.out.trans hgj)
                    clear hgj
                    go_wp2_with fail
                    refine (sameH13 (T := T.take n) HTn.out (by omega) wj HLbj.out ((HLaj.out).front13 n)).mono ?_
                    rintro e wk ⟨rfl, hgk⟩
                    have HGk := Lib.hid (HGj.out.trans hgk)
                    clear hgk
                    go_wp2
                    go_loopw [32] (fun i ws => ∃ t : Nat, t ≤ N ∧ i = .int .i64 t ∧ Gr wo ws) (fun i _ => N - (intOf i).toNat)
                    case atStart => exact ⟨0, Nat.zero_le _, rfl, HGk.out⟩
                    case round =>
                      obtain ⟨t, ht, rfl, hG4⟩ := hrel
                      obtain ⟨wl, rfl⟩ : ∃ wo : World, wo = wr := ⟨_, rfl⟩
                      by_cases htt : t < N
                      · have z0 := ((own_belowAll HC.out.1 hG4.below).cellAt t (by omega)).trans (cntV_get htt)
                        rw [show cntD (T.drop j) t = 0 by rw [List.drop_of_length_le (by rw [HTl.out]; exact Nat.le_refl _)]; rfl] at z0
                        have j0 : (0 : Int) ≤ (t : Int) := by omega
                        have j1 : (t : Int) < (N : Int) := by omega
                        go_wp2
                        go_roundw
                        case rel => exact ⟨t + 1, by omega, by go_num, hG4⟩
                        case measure => simp [intOf]; omega
                      · obtain rfl : t = N := by omega
                        have HE := Lib.hid (HB8.out.trans ((HC.out.2.trans (hG4.below.mono HC.out.2.size)).mono HB8.out.size))
                        clear hG4
                        go_wp2
                        go_ret
                        exact ⟨rfl, HE.out⟩
                  · have htk : tl = j := by rw [← HTk.out, List.length_take, HTl.out]; omega
                    have hkc : (j : Int) ≤ (ca : Int) := by omega
                    have hk0 : (0 : Int) ≤ (j : Int) := by omega
                    have hkj : ¬ (k : Int) < (j : Int) := by omega
                    rw [htk] at HTk
                    rw [htk]
                    clear htk
                    go_wp2_with fail
                    refine (sameH13 (T := T.take k) HTk.out (by omega) wi ((HLt8.out.below HBi.out)) ((HLai.out).front13 k)).mono ?_
                    rintro e wj ⟨rfl, hgj⟩
                    have HLaj := Lib.hid (HLai.out.gr hgj)
                    have HLbj := Lib.hid ((HLb8.out.below HBi.out).gr hgj)
                    rw [HF.out] at HLbj
                    have HGj := Lib.hid (HGi.out.trans hgj)
                    clear hgj
                    go_wp2_with fail
                    refine (sameH13 (T := T.take n) HTn.out (by omega) wj HLbj.out ((HLaj.out).front13 n)).mono ?_
                    rintro e wk ⟨rfl, hgk⟩
                    have HGk := Lib.hid (HGj.out.trans hgk)
                    clear hgk
                    go_wp2
                    go_loopw [32] (fun i ws => ∃ t : Nat, t ≤ N ∧ i = .int .i64 t ∧ Gr wo ws) (fun i _ => N - (intOf i).toNat)
                    case atStart => exact ⟨0, Nat.zero_le _, rfl, HGk.out⟩
                    case round =>
                      obtain ⟨t, ht, rfl, hG4⟩ := hrel
                      obtain ⟨wl, rfl⟩ : ∃ wo : World, wo = wr := ⟨_, rfl⟩
                      by_cases htt : t < N
                      · have z0 := ((own_belowAll HC.out.1 hG4.below).cellAt t (by omega)).trans (cntV_get htt)
                        rw [show cntD (T.drop j) t = 0 by rw [List.drop_of_length_le (by rw [HTl.out]; exact Nat.le_refl _)]; rfl] at z0
                        have j0 : (0 : Int) ≤ (t : Int) := by omega
                        have j1 : (t : Int) < (N : Int) := by omega
                        go_wp2
                        go_roundw
                        case rel => exact ⟨t + 1, by omega, by go_num, hG4⟩
                        case measure => simp [intOf]; omega
                      · obtain rfl : t = N := by omega
                        have HE := Lib.hid (HB8.out.trans ((HC.out.2.trans (hG4.below.mono HC.out.2.size)).mono HB8.out.size))
                        clear hG4
                        go_wp2
                        go_ret
                        exact ⟨rfl, HE.out⟩
end Go.Proofs.YtmfanldekjkbiaaDoor
