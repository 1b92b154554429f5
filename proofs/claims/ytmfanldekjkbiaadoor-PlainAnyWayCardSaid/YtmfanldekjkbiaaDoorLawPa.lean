/-
  THE LAW PlainAnyWay, walked: the pairs alone count; copies, plays.
-/
import Derived.Test.YtmfanldekjkbiaaDoorAnyQ
import Derived.Deep.CutRange
namespace Go.Proofs.YtmfanldekjkbiaaDoor
open Go.RowKit ArgK
set_option linter.unusedVariables false

/-- Behind some calls of Get and Delete. -/
def GoneRel (w : World) (mb pb W : Nat) (a : Nat) (S : Int) (L : List Pv) (ws : World) : Prop :=
  L.length ≤ 80 ∧ 0 ≤ S ∧ S ≤ 80 + (a : Int) ∧ MapIs ws mb pb W S L ∧ Below w.heap.size w ws

theorem GoneRel.step {w wa wb : World} {mb pb W a : Nat} {S : Int} {L : List Pv} {i : Int} {e : Ending} (h : GoneRel w mb pb W a S L wa) (hm : w.heap.size ≤ mb) (hp : w.heap.size ≤ pb) (hd : DelPost wa mb pb W S L i e wb) :
    ∃ S2 L2, GoneRel w mb pb W (a + 1) S2 L2 wb := by
  obtain ⟨h1, h2, h3, h4, h5⟩ := h
  obtain ⟨_, d2, d3⟩ := hd
  refine ⟨_, _, Nat.le_trans (lessId_le L i) h1, ?_, ?_, d2, h5.trans (d3.below h5.size (fun b hb => by rcases hb with rfl | rfl; exact hm; exact hp))⟩
  · split <;> omega
  · split <;> omega

/-- The pairs and their updates, from the last to the first. -/
def BackRel (w6 : World) (T : List Pv) (t r : Nat) (lb lu : Value) (ws : World) : Prop :=
  ws.ownsRow w6.heap.size 49 2 lb t (encP (T.drop r).reverse) ∧ ws.ownsRow w6.heap.size 51 4 lu t (encU (upsOf (T.drop r).reverse)) ∧ Below w6.heap.size w6 ws

set_option maxRecDepth 100000 in
set_option maxHeartbeats 8000000 in
theorem PlainAnyWay_walk (a0 : Int) (w0 : (Lit.int .i64 a0).wf = true) (v1 : Value) (z : List Pv) (v2 : Value) (z2 : List Int) (a3 : ByteArray) (s3 : a3.size ≤ 140737488351232) (a4 : Int) (w4 : (Lit.int .i64 a4).wf = true) (w : World) (h1 : IsSl w 2 24 IsPair [v1] z) (h2 : XKit.IsRow w v2 z2) (hL : TabLaid w) :
    Calls Tryd.prog 5 #[.int .i64 a0, v1, v2, .string a3, .int .i64 a4] w fun e w' => e = .returned (.bool true) ∧ Below w.heap.size w w' := by
  obtain ⟨hz, pz, cz, rfl, hPL, hGP⟩ := pairs_of_arg h1
  obtain ⟨pg, cg, rfl, hIL, hGW, hzg⟩ := row_IL h2
  have hT := tab_of_laid hL
  have CW := Lib.hid (fun W => width13_calls a0 W)
  obtain ⟨W, hWe⟩ : ∃ W, widN a0 = W := ⟨_, rfl⟩
  have hWb := widN_bd a0
  have hWg := widN_good a0
  rw [hWe] at CW hWb hWg
  obtain ⟨hW1, hW2, hW3⟩ := hWb
  have HWg := Lib.hid hWg
  have CB := Lib.hid (begun13_calls w hT)
  have CQ := Lib.hid (fun X => fit13_calls a3 s3 W hW2 X)
  obtain ⟨q, hq⟩ : ∃ q, fitB a3 (W / 8) = q := ⟨_, rfl⟩
  have hqs : q.size = W / 8 := by rw [← hq]; exact fitB_size _ _
  rw [hq] at CQ
  have CF := Lib.hid (fun X hX => filled_calls W hWg pz cz z (by omega) hGP X hX)
  obtain ⟨L, hLe⟩ : ∃ L, fillL (W / 8) [] z = L := ⟨_, rfl⟩
  have hLb : L.length ≤ 80 := by rw [← hLe]; exact fillL_bound _ _ _ (Nat.zero_le _)
  rw [hLe] at CF
  obtain ⟨m, hm⟩ : ∃ m, z.length = m := ⟨_, rfl⟩
  rw [hm] at CF ⊢
  obtain ⟨zn, hzn⟩ : ∃ zn, z2.length = zn := ⟨_, rfl⟩
  have HZn := Lib.hid hzn
  rw [hzn] at hzg ⊢
  obtain ⟨k, hk⟩ : ∃ k, kN a4 = k := ⟨_, rfl⟩
  have hkl : k ≤ 4096 := by rw [← hk]; exact kN_le a4
  have HT := Lib.hid hT
  have HPL := Lib.hid hPL
  have HIL := Lib.hid hIL
  have HGW := Lib.hid hGW
  have HK := Lib.hid hk
  clear hq hLe hm hk hT hL hPL hGP h1 h2 hz hWe hWg hIL hGW hzn
  go_enter Tryd.func5, Tryd.ntmps5
  go_wp2_with fail
  refine CB.out.mono ?_
  rintro e w1 ⟨rfl, hb1⟩
  have HB1 := Lib.hid hb1
  clear hb1
  go_wp2_with fail
  refine (CW.out w1).mono ?_
  rintro e w1' ⟨rfl, rfl⟩
  go_wp2_with fail
  refine (CQ.out _).mono ?_
  rintro e w2 ⟨rfl, hb2⟩
  have HB2 := Lib.hid (HB1.out.trans (hb2.mono HB1.out.size))
  clear hb2
  go_wp2_with fail
  refine (CF.out w2 (HPL.out.below HB2.out)).mono ?_
  rintro e w5 ⟨mb, pb, vi, rfl, hM4, hr4, hb4, hmb0, hpb0⟩
  obtain ⟨pi, ci, rfl, _⟩ := own_rd hr4
  have hmb : w.heap.size ≤ mb := Nat.le_trans HB2.out.size hmb0
  have hpb : w.heap.size ≤ pb := Nat.le_trans HB2.out.size hpb0
  have HG0 : Hid (GoneRel w mb pb W 0 (L.length : Nat) L w5) := Lib.hid ⟨hLb, by omega, by omega, hM4, HB2.out.trans (hb4.mono HB2.out.size)⟩
  clear hb4 hM4 hr4 hmb0 hpb0 CF CB CW CQ
  go_wp2
  go_loopw [15] (fun i ws => ∃ (a : Nat) (S : Int) (M : List Pv), a ≤ zn ∧ a ≤ 80 ∧ i = .int .i64 a ∧ GoneRel w mb pb W a S M ws) (fun i _ => zn - (intOf i).toNat)
  case atStart => exact ⟨0, _, _, Nat.zero_le _, Nat.zero_le _, rfl, HG0.out⟩
  case round =>
    obtain ⟨a, S, M, haz, ha8, rfl, hR⟩ := hrel
    obtain ⟨wl, rfl⟩ : ∃ wo : World, wo = wr := ⟨_, rfl⟩
    have HR := Lib.hid hR
    obtain ⟨hM8, hS0, hS1, hMl, hBl⟩ := hR
    have HMl := Lib.hid hMl
    have HBl := Lib.hid hBl
    clear hMl hBl HG0
    by_cases hc : a < zn ∧ a < 80
    · obtain ⟨hc1, hc2⟩ := hc
      obtain ⟨x, hx⟩ : ∃ x, z2[a]? = some x := ⟨_, List.getElem?_eq_getElem (by rw [HZn.out]; exact hc1)⟩
      have hxw := HGW.out x (List.mem_of_getElem? hx)
      obtain ⟨pa, rfl, u0⟩ := (HIL.out.gr HBl.out) a x hx
      have HU : Hid (∀ X, Gr wl X → X.cell? (pa.add a) = some (.int .i64 x)) := Lib.hid (fun X hX => (hX.below.cell (cell_ltH u0)).trans u0)
      have j0 : (0 : Int) ≤ (a : Int) := by omega
      have j1 : (a : Int) < (zn : Int) := by omega
      have j2 : (a : Int) < 80 := by omega
      obtain ⟨c0, hc0⟩ : ∃ c0, getCode M x = c0 := ⟨_, rfl⟩
      have CG := Lib.hid (get_calls HMl.out x hxw)
      have CD := Lib.hid (fun X (hX : Gr wl X) => delete_calls (HMl.out.gr hX) (by omega) x hxw)
      rw [hc0] at CG
      obtain ⟨sc, hsc⟩ : ∃ sc, (if c0 = 0 then codeAt M x else ⟨#[]⟩) = sc := ⟨_, rfl⟩
      rw [hsc] at CG
      have HC0 := Lib.hid hc0
      have q1 : (c0 != c0) = false := by simp
      clear hx hxw hc0 hsc
      go_wp2_with fail
      refine CG.out.mono ?_
      rintro e wa ⟨rfl, hga⟩
      have u1 := HU.out wa hga
      have HGa := Lib.hid hga
      clear hga
      go_wp2_with fail
      refine (CD.out wa HGa.out).mono ?_
      rintro e wb hd
      have he := hd.1
      rw [HC0.out] at he
      subst he
      obtain ⟨S2, M2, hN⟩ := GoneRel.step (a := a) (⟨hM8, hS0, hS1, HMl.out.gr HGa.out, HBl.out.trans (HGa.out.below.mono HBl.out.size)⟩) hmb hpb hd
      have HN := Lib.hid hN
      clear hN hd
      go_wp2
      go_roundw
      case rel => exact ⟨a + 1, _, _, by omega, by omega, by go_num, HN.out⟩
      case measure => simp [intOf]; omega
    · go_upto_region 8 with fail
      go_cut [74] from 67 to 74 (fun s wx => s = .bool false ∧ wx = wl)
      case first =>
        by_cases h1 : a < zn
        · have j1 : (a : Int) < (zn : Int) := by omega
          have j2 : ¬ ((a : Int) < 80) := by omega
          go_wp2_with fail
          go_meet
          exact ⟨rfl, rfl⟩
        · have j1 : ¬ ((a : Int) < (zn : Int)) := by omega
          go_wp2_with fail
          go_meet
          exact ⟨rfl, rfl⟩
      case rest =>
        obtain ⟨rfl, rfl⟩ := hcut
        have hS2 : S ≤ 160 := by omega
        clear hc haz ha8 hS1 HR
        have CP := Lib.hid (pairs_calls HMl.out (by omega))
        go_wp2_with fail
        refine CP.out.mono ?_
        rintro e w6 ⟨v6, T, rfl, hr6, hpT, hrT, hb6⟩
        obtain ⟨ln, hln⟩ : ∃ ln, M.length = ln := ⟨_, rfl⟩
        rw [hln] at hr6
        obtain ⟨pt, ct, rfl, _⟩ := own_rd hr6
        have HTl : Hid (T.length = ln) := Lib.hid (by rw [hpT.length_eq, hln])
        have HPT := Lib.hid (PL.of_own hr6)
        have HB6 := Lib.hid (HBl.out.trans (hb6.mono HBl.out.size))
        have HM6 := Lib.hid (HMl.out.below hb6)
        have HpT := Lib.hid hpT
        have HrT := Lib.hid hrT
        have hl8 : ln ≤ 80 := by omega
        have HLn := Lib.hid hln
        have HBR0 : Hid (BackRel w6 T 0 ln (.slice none 0 0) (.slice none 0 0) w6) := Lib.hid (by
          unfold BackRel
          rw [List.drop_of_length_le (by rw [HTl.out]; exact Nat.le_refl _)]
          exact ⟨World.ownsRow_nil _ _ _ _, World.ownsRow_nil _ _ _ _, Below.refl _ _⟩)
        obtain ⟨i0, hi, hz0, hz1, hz2⟩ := info_parts pairinfo
        obtain ⟨i1, hi1, hy0, hy1, hy2⟩ := info_parts updinfo
        clear hr6 hpT hrT hb6 hln CP HMl HBl
        go_wp2
        go_loopw [20, 21, 22] (fun vb vu i ws => ∃ (t r : Nat) (lb lu : Value), t + r = ln ∧ i = .int .i64 ((r : Int) - 1) ∧ lb = vb ∧ lu = vu ∧ BackRel w6 T t r lb lu ws) (fun _ _ i _ => (intOf i + 1).toNat)
        case atStart => exact ⟨0, ln, _, _, Nat.zero_add _, rfl, rfl, rfl, HBR0.out⟩
        case round =>
          obtain ⟨t, r, lb, lu, htr, rfl, rfl, rfl, hR⟩ := hrel
          obtain ⟨wo, rfl⟩ : ∃ wo : World, wo = wr := ⟨_, rfl⟩
          obtain ⟨k1, k2, k3⟩ := hR
          obtain ⟨pv, cv, rfl, _, _, _⟩ := own_rd k1
          obtain ⟨pu, cu, rfl, _, _, _⟩ := own_rd k2
          rcases r with _ | l
          · obtain rfl : t = ln := by omega
            have hFT := fitP_perm HpT.out HM6.out.2.2
            have hnd := nodup_perm HpT.out HM6.out.2.1.nodup
            rw [List.drop_zero] at k1 k2
            obtain ⟨R, hRe⟩ : ∃ R, T.reverse = R := ⟨_, rfl⟩
            have hRT : R.Perm T := by rw [← hRe]; exact List.reverse_perm T
            rw [hRe] at k1 k2
            have hRl : R.length = t := by rw [hRT.length_eq, HTl.out]
            have hFR : FitP W R := fitP_perm hRT hFT
            have hnR : (R.map (·.i)).Nodup := nodup_perm hRT hnd
            have hfl : fillL (W / 8) [] R = R := by rw [fillL_all R [] hFR (by simpa using hnR) (by simpa using (by omega : R.length ≤ 80))]; rfl
            have CF2 := filled_calls W HWg.out pv cv R (by omega) (fun p hp => goodP_fit hW2 (hFR p hp)) wo (PL.of_own k1)
            rw [hfl, hRl] at CF2
            have CF2 := Lib.hid CF2
            have HUu := Lib.hid (UL.of_own k2)
            have HUb := Lib.hid (fun g (hg : (Value.slice pu t cu).ownBlock = some g) => (k2.lt g hg).2)
            have HB7 := Lib.hid (HB6.out.trans (k3.mono HB6.out.size))
            have HM7 := Lib.hid (HM6.out.below k3)
            have HP7 := Lib.hid (HPT.out.below k3)
            have HFR := Lib.hid hFR
            have HnR := Lib.hid hnR
            have HRT := Lib.hid hRT
            have HRl := Lib.hid hRl
            have HFT := Lib.hid hFT
            have e : ((0 : Nat) : Int) - 1 = -1 := rfl
            rw [e]
            clear hFT hnd hRe hRT hRl hFR hnR hfl k1 k2 k3 e htr HPT HM6
            go_wp2_with fail
            refine CF2.out.mono ?_
            rintro e w8 ⟨nb, npb, vn, rfl, hMn, hrn, hb8, _, _⟩
            rw [HRl.out] at hMn hrn
            obtain ⟨pn, cn, rfl, _⟩ := own_rd hrn
            have HB8 := Lib.hid (HB7.out.trans (hb8.mono HB7.out.size))
            have HM8 := Lib.hid (HM7.out.below hb8)
            have HP8 := Lib.hid (HP7.out.below hb8)
            have HN8 := Lib.hid hMn
            have HU8 := Lib.hid (HUu.out.keep (B := 0) hb8)
            have HUb8 := Lib.hid (fun g hg => Nat.lt_of_lt_of_le (HUb.out g hg) hb8.size)
            clear hMn hrn hb8 CF2 HM7 HP7 HUu
            have CC := Lib.hid (copy_calls HM8.out)
            go_wp2_with fail
            refine CC.out.mono ?_
            rintro e w9 ⟨cb, cpb, rfl, hMc, hb9, hcb, hcpb⟩
            have CN := Lib.hid (newMap_calls W HWg.out w9)
            have HC9 := Lib.hid hMc
            have HB9 := Lib.hid hb9
            have HU9 := Lib.hid (HU8.out.keep (B := 0) hb9)
            clear hMc hb9
            go_wp2_with fail
            refine CN.out.mono ?_
            rintro e w10 ⟨qb, qpb, rfl, hMq, hb10, hqb, hqpb⟩
            have HB10 := Lib.hid (HB9.out.trans (hb10.mono HB9.out.size))
            have HC10 := Lib.hid (HC9.out.below hb10)
            have HU10 := Lib.hid (HU9.out.keep (B := 0) hb10)
            have HQ10 := Lib.hid hMq
            have HS9 := Lib.hid hb10.size
            have HS8 := HB9.out.size
            clear hMq hb10
            have q0 : ((t : Int) != (t : Int)) = false := by simp
            have CPl := Play_calls HQ10.out (by omega) hW2 pu cu (upsOf R) (by rw [upsOf_length, HRl.out]; omega) (upsOf_good hW2 HFR.out (by rw [HRl.out]; omega)) HU10.out (fun a ha h0 => by
              have := HUb8.out a.block (by rw [ha]; rfl)
              omega)
            rw [upsOf_length, HRl.out] at CPl
            have CPl := Lib.hid CPl
            go_wp2_with fail
            refine CPl.out.mono ?_
            rintro e w11 hpl
            obtain ⟨rfl, hMp, hFp⟩ := plays_all HFR.out HnR.out (by rw [HRl.out]; omega) hpl
            rw [HRl.out] at hMp ⊢
            have hB11 : Below w8.heap.size w8 w11 := HB10.out.trans (hFp.below HB10.out.size (fun b hb => by rcases hb with rfl | rfl <;> omega))
            have hC11 : MapIs w11 cb cpb W S M := HC10.out.frp hFp (fun k => by have := HC9.out.lt; rcases k with k | k <;> omega) (fun k => by have := HC9.out.lt; rcases k with k | k <;> omega)
            have HX : Hid (∀ X, Below w11.heap.size w11 X → MapIs X mb pb W S M ∧ MapIs X nb npb W (t : Nat) R ∧ MapIs X cb cpb W S M ∧ MapIs X qb qpb W (t : Nat) R ∧ PL X pt T ∧ Below w8.heap.size w8 X ∧ OnesTab X) := Lib.hid (fun X hX => by
              have hB := hB11.trans (hX.mono hB11.size)
              exact ⟨HM8.out.below hB, HN8.out.below hB, hC11.below hX, hMp.below hX, HP8.out.below hB, hB, HT.out.below (HB8.out.trans (hB.mono HB8.out.size))⟩)
            obtain ⟨bk, hbk⟩ : ∃ bk, decide (a4 < 0 ∨ 4096 < a4) = bk := ⟨_, rfl⟩
            have HKK : Hid ((k : Int) = if bk then 3 else a4) := Lib.hid (by
              rw [← HK.out, ← hbk]
              unfold kN
              by_cases h : a4 < 0 ∨ 4096 < a4
              · simp [h]
              · simp only [h, if_false, decide_false, Bool.false_eq_true]
                omega)
            have HBK := Lib.hid hbk
            have HMR := Lib.hid (HRT.out.trans HpT.out)
            obtain ⟨TK, hTK⟩ : ∃ TK, firstT k (M.map (hitOf q)) = TK := ⟨_, rfl⟩
            obtain ⟨tk, htk⟩ : ∃ tk, TK.length = tk := ⟨_, rfl⟩
            have htkl : tk ≤ 4096 := by
              rw [← htk, ← hTK]
              unfold firstT
              rw [List.length_take]
              omega
            obtain ⟨N, hN⟩ : ∃ N, W + 1 = N := ⟨_, rfl⟩
            have CT := Lib.hid (fun X (mb' pb' : Nat) (S' : Int) (N' : List Pv) (h : MapIs X mb' pb' W S' N') (hp : N'.Perm M) (hT : OnesTab X) => topk_same h hp hW2 q hqs k hkl hT hM8 hTK htk)
            obtain ⟨zs, hzs⟩ : ∃ zs, ((List.range N).map fun d => ((cntD (M.map (hitOf q)) d : Nat) : Int)) = zs := ⟨_, rfl⟩
            have HZs : Hid (zs.length = N) := Lib.hid (by rw [← hzs]; simp)
            have CH := Lib.hid (fun X (mb' pb' : Nat) (S' : Int) (N' : List Pv) (h : MapIs X mb' pb' W S' N') (hp : N'.Perm M) (hT : OnesTab X) => hist_same h hp hW2 (by omega) q hqs hT hM8 hN)
            rw [hzs] at CH
            have CPs := Lib.hid (fun X (mb' pb' : Nat) (S' : Int) (N' : List Pv) (h : MapIs X mb' pb' W S' N') (hp : N'.Perm T) => pairs_same h hp HrT.out HTl.out hl8)
            have HTkl := Lib.hid htk
            have hNb : N ≤ 1025 := by omega
            clear hbk hB11 hC11 hMp hFp hpl hTK htk hN hzs CPl HK HC9 HC10 HB9 HB10 HU8 HU9 HU10 HQ10 HS9
            go_upto_region 28 with fail
            go_cut [173] from 168 to 172 (fun s wx => s = .bool bk ∧ wx = w11)
            case first =>
              by_cases h1 : a4 < 0
              · go_wp2_with fail
                go_meet
                exact ⟨by rw [← HBK.out]; simp [h1], rfl⟩
              · by_cases h2 : 4096 < a4
                · go_wp2_with fail
                  go_meet
                  exact ⟨by rw [← HBK.out]; simp [h2], rfl⟩
                · go_wp2_with fail
                  go_meet
                  exact ⟨by rw [← HBK.out]; simp; omega, rfl⟩
            case rest =>
              obtain ⟨rfl, rfl⟩ := hcut
              go_upto_if 173 with fail
              go_cut [4] from 173 to 173 (fun s4 wx => s4 = .int .i64 (k : Int) ∧ wx = wc)
              case first =>
                cases bk
                · go_wp2_with fail
                  go_meet
                  exact ⟨by rw [HKK.out]; rfl, rfl⟩
                · go_wp2_with fail
                  go_meet
                  exact ⟨by rw [HKK.out]; rfl, rfl⟩
              case rest =>
                obtain ⟨rfl, rfl⟩ := hcut
                clear HKK HBK
                obtain ⟨x1, x2, x3, x4, x5, x6, x7⟩ := HX.out wc (Below.refl _ _)
                have C1 := Lib.hid (CT.out _ _ _ _ _ x1 (List.Perm.refl _) x7)
                clear x1 x2 x3 x4 x5 x6 x7
                go_wp2_with fail
                refine C1.out.mono ?_
                rintro e w12 ⟨p1, c1, rfl, hl1, hb1⟩
                obtain ⟨x1, x2, x3, x4, x5, x6, x7⟩ := HX.out w12 hb1
                have C2 := Lib.hid (CT.out _ _ _ _ _ x2 HMR.out x7)
                have HG := Lib.hid hb1
                have HL1 := Lib.hid hl1
                clear x1 x2 x3 x4 x5 x6 x7 C1 hb1 hl1
                go_wp2_with fail
                refine C2.out.mono ?_
                rintro e w13 ⟨p2, c2, rfl, hl2, hb2⟩
                have HG := Lib.hid (HG.out.trans (hb2.mono HG.out.size))
                obtain ⟨x1, x2, x3, x4, x5, x6, x7⟩ := HX.out w13 HG.out
                have C3 := Lib.hid (CT.out _ _ _ _ _ x3 (List.Perm.refl _) x7)
                have HL1 := Lib.hid (HL1.out.below hb2)
                have HL2 := Lib.hid hl2
                clear x1 x2 x3 x4 x5 x6 x7 C2 hb2 hl2
                go_wp2_with fail
                refine C3.out.mono ?_
                rintro e w14 ⟨p3, c3, rfl, hl3, hb3⟩
                have HG := Lib.hid (HG.out.trans (hb3.mono HG.out.size))
                obtain ⟨x1, x2, x3, x4, x5, x6, x7⟩ := HX.out w14 HG.out
                have C4 := Lib.hid (CT.out _ _ _ _ _ x4 HMR.out x7)
                have HL1 := Lib.hid (HL1.out.below hb3)
                have HL2 := Lib.hid (HL2.out.below hb3)
                have HL3 := Lib.hid hl3
                clear x1 x2 x3 x4 x5 x6 x7 C3 hb3 hl3
                go_wp2_with fail
                refine C4.out.mono ?_
                rintro e w15 ⟨p4, c4, rfl, hl4, hb4⟩
                have HG := Lib.hid (HG.out.trans (hb4.mono HG.out.size))
                obtain ⟨x1, x2, x3, x4, x5, x6, x7⟩ := HX.out w15 HG.out
                have C5 := Lib.hid (CH.out _ _ _ _ _ x1 (List.Perm.refl _) x7)
                have HL1 := Lib.hid (HL1.out.below hb4)
                have HL2 := Lib.hid (HL2.out.below hb4)
                have HL3 := Lib.hid (HL3.out.below hb4)
                have HL4 := Lib.hid hl4
                clear x1 x2 x3 x4 x5 x6 x7 C4 hb4 hl4 CT
                go_wp2_with fail
                refine C5.out.mono ?_
                rintro e w16 ⟨p5, c5, rfl, hl5, hb5⟩
                have HG := Lib.hid (HG.out.trans (hb5.mono HG.out.size))
                obtain ⟨x1, x2, x3, x4, x5, x6, x7⟩ := HX.out w16 HG.out
                have C6 := Lib.hid (CH.out _ _ _ _ _ x2 HMR.out x7)
                have HL1 := Lib.hid (HL1.out.below hb5)
                have HL2 := Lib.hid (HL2.out.below hb5)
                have HL3 := Lib.hid (HL3.out.below hb5)
                have HL4 := Lib.hid (HL4.out.below hb5)
                have HI5 := Lib.hid hl5
                clear x1 x2 x3 x4 x5 x6 x7 C5 hb5 hl5 CH
                go_wp2_with fail
                refine C6.out.mono ?_
                rintro e w17 ⟨p6, c6, rfl, hl6, hb6⟩
                have HG := Lib.hid (HG.out.trans (hb6.mono HG.out.size))
                have HL1 := Lib.hid (HL1.out.below hb6)
                have HL2 := Lib.hid (HL2.out.below hb6)
                have HL3 := Lib.hid (HL3.out.below hb6)
                have HL4 := Lib.hid (HL4.out.below hb6)
                have HI5 := Lib.hid (HI5.out.gr hb6)
                have HI6 := Lib.hid hl6
                clear C6 hb6 hl6
                go_wp2_with fail
                refine (sameH14 HTkl.out htkl w17 HL1.out HL2.out).mono ?_
                rintro e w18 ⟨rfl, hg1⟩
                have HG1 := Lib.hid hg1
                have HL1' := Lib.hid (HL1.out.below hg1.below)
                have HL3' := Lib.hid (HL3.out.below hg1.below)
                clear hg1
                go_wp2_with fail
                refine (sameH14 HTkl.out htkl w18 HL1'.out HL3'.out).mono ?_
                rintro e w19 ⟨rfl, hg2⟩
                have HG2 := Lib.hid (HG1.out.trans hg2)
                have HL1' := Lib.hid (HL1.out.below HG2.out.below)
                have HL4' := Lib.hid (HL4.out.below HG2.out.below)
                clear hg2
                go_wp2_with fail
                refine (sameH14 HTkl.out htkl w19 HL1'.out HL4'.out).mono ?_
                rintro e w20 ⟨rfl, hg3⟩
                have HG3 := Lib.hid (HG2.out.trans hg3)
                clear hg3
                have CI := Lib.hid (sameI_calls p5 p6 c5 c6 zs N HZs.out (by omega) w20 (HI5.out.gr HG3.out.below) (HI6.out.gr HG3.out.below))
                go_wp2_with fail
                refine CI.out.mono ?_
                rintro e w21 ⟨rfl, hg4⟩
                have HG := Lib.hid (HG.out.trans ((HG3.out.trans hg4).below.mono HG.out.size))
                obtain ⟨x1, x2, x3, x4, x5, x6, x7⟩ := HX.out w21 HG.out
                have CP2 := Lib.hid (CPs.out _ _ _ _ _ x2 HRT.out)
                clear hg4 HL1 HL2 HL3 HL4 HL1' HL3' HL4' HI5 HI6 HG1 HG2 HG3 CI x1 x2 x3 x4 x5 x6 x7
                go_wp2_with fail
                refine CP2.out.mono ?_
                rintro e w22 ⟨p7, c7, rfl, hl7, hb7⟩
                have HG := Lib.hid (HG.out.trans (hb7.mono HG.out.size))
                obtain ⟨x1, x2, x3, x4, x5, x6, x7⟩ := HX.out w22 HG.out
                have CS := Lib.hid (sameP_calls pt p7 ct c7 T t HTl.out (by omega) w22 x5 hl7)
                clear hl7 hb7 CP2 x1 x2 x3 x4 x5 x6 x7
                go_wp2_with fail
                refine CS.out.mono ?_
                rintro e w23 ⟨rfl, hg5⟩
                have HG := Lib.hid (HG.out.trans (hg5.below.mono HG.out.size))
                obtain ⟨x1, x2, x3, x4, x5, x6, x7⟩ := HX.out w23 HG.out
                have CP2 := Lib.hid (CPs.out _ _ _ _ _ x4 HRT.out)
                clear hg5 CS x1 x2 x3 x4 x5 x6 x7
                go_wp2_with fail
                refine CP2.out.mono ?_
                rintro e w24 ⟨p8, c8, rfl, hl8', hb8⟩
                have HG := Lib.hid (HG.out.trans (hb8.mono HG.out.size))
                obtain ⟨x1, x2, x3, x4, x5, x6, x7⟩ := HX.out w24 HG.out
                have CS := Lib.hid (sameP_calls pt p8 ct c8 T t HTl.out (by omega) w24 x5 hl8')
                clear hl8' hb8 CP2 x1 x2 x3 x4 x5 x6 x7
                go_wp2_with fail
                refine CS.out.mono ?_
                rintro e w25 ⟨rfl, hg5⟩
                have HG := Lib.hid (HG.out.trans (hg5.below.mono HG.out.size))
                obtain ⟨x1, x2, x3, x4, x5, x6, x7⟩ := HX.out w25 HG.out
                have Q1 := Lib.hid x1
                have Q3 := Lib.hid x3
                have Q4 := Lib.hid x4
                have Q6 := Lib.hid x6
                have q1 : (S != S) = false := by simp
                clear hg5 CS x1 x2 x3 x4 x5 x6 x7
                go_wp2_with fail
                refine (seq_calls Q3.out).mono ?_
                rintro e w26 ⟨rfl, rfl⟩
                go_wp2_with fail
                refine (seq_calls Q1.out).mono ?_
                rintro e w27 ⟨rfl, rfl⟩
                go_wp2_with fail
                refine (seq_calls Q4.out).mono ?_
                rintro e w28 ⟨rfl, rfl⟩
                have HR0 : Hid (∃ (S' : Int) (M' : List Pv), Rest T 0 M' ∧ 0 ≤ S' ∧ S' ≤ 160 + (0 : Nat) ∧ MapIs w28 cb cpb W S' M' ∧ Below w8.heap.size w8 w28) := Lib.hid ⟨S, M, fun p hp => by rw [List.drop_zero]; exact HpT.out.mem_iff.2 hp, hS0, by omega, Q3.out, Q6.out⟩
                clear Q1 Q3 Q4 Q6
                go_wp2
                go_loopw [46] (fun i ws => ∃ (j : Nat), j ≤ t ∧ i = .int .i64 j ∧ ∃ (S' : Int) (M' : List Pv), Rest T j M' ∧ 0 ≤ S' ∧ S' ≤ 160 + (j : Int) ∧ MapIs ws cb cpb W S' M' ∧ Below w8.heap.size w8 ws) (fun i _ => t - (intOf i).toNat)
                case atStart => exact ⟨0, Nat.zero_le _, rfl, HR0.out⟩
                case round =>
                  obtain ⟨j, hj, rfl, S', M', hr, hs0, hs1, hM', hB'⟩ := hrel
                  obtain ⟨wo, rfl⟩ : ∃ wo : World, wo = wr := ⟨_, rfl⟩
                  have HB' := Lib.hid hB'
                  have HM' := Lib.hid hM'
                  have HRs := Lib.hid hr
                  clear hB' hM' hr HR0
                  by_cases hjt : j < t
                  · obtain ⟨x, hx⟩ : ∃ x, T[j]? = some x := ⟨_, List.getElem?_eq_getElem (by rw [HTl.out]; exact hjt)⟩
                    obtain ⟨pa, rfl, u0, u1⟩ := (HP8.out.below HB'.out) j x hx
                    obtain ⟨b1, b2, _⟩ := HFT.out x (List.mem_of_getElem? hx)
                    have CD := Lib.hid (delete_calls HM'.out (by omega) x.i (WalkArith.wf_i64 (by omega)))
                    have HStep := Lib.hid (HRs.out.step hx HFT.out)
                    have j0 : (0 : Int) ≤ (j : Int) := by omega
                    have j1 : (j : Int) < (t : Int) := by omega
                    clear hx b1 b2
                    go_wp2_with fail
                    refine CD.out.mono ?_
                    rintro e wa ⟨he, hMa, hFa⟩
                    have HN : Hid (∃ (S'' : Int) (M'' : List Pv), Rest T (j + 1) M'' ∧ 0 ≤ S'' ∧ S'' ≤ 160 + ((j + 1 : Nat) : Int) ∧ MapIs wa cb cpb W S'' M'' ∧ Below w8.heap.size w8 wa) := Lib.hid (by
                      refine ⟨_, _, HStep.out, ?_, ?_, hMa, HB'.out.trans (hFa.below HB'.out.size (fun b hb => by rcases hb with rfl | rfl; exact hcb; exact hcpb))⟩
                      · split <;> omega
                      · split <;> omega)
                    obtain ⟨cc, hcc⟩ : ∃ cc, getCode M' x.i = cc := ⟨_, rfl⟩
                    rw [hcc] at he
                    subst he
                    clear hMa hFa hcc
                    go_wp2
                    go_roundw
                    case rel => exact ⟨j + 1, by omega, by go_num, HN.out⟩
                    case measure => simp [intOf]; omega
                  · obtain rfl : j = t := by omega
                    have hnil := HRs.out.done (by rw [HTl.out]; exact Nat.le_refl _)
                    subst hnil
                    have hwo := HB8.out.trans (HB'.out.mono HB8.out.size)
                    have CFx := Lib.hid (fit13_calls ⟨#[120]⟩ (by decide) W hW2 wo)
                    obtain ⟨f1, hf1⟩ : ∃ f1, fitB ⟨#[120]⟩ (W / 8) = f1 := ⟨_, rfl⟩
                    have hfs : f1.size = W / 8 := by rw [← hf1]; exact fitB_size _ _
                    rw [hf1] at CFx
                    have HWO := Lib.hid hwo
                    clear hf1 hwo
                    go_wp2_with fail
                    refine CFx.out.mono ?_
                    rintro e wa ⟨rfl, hba⟩
                    have CIn := Lib.hid (insert_calls (HM'.out.below hba) (by omega) ⟨1, f1⟩ (by show (Lit.int .i64 1).wf = true; decide) (by show f1.size ≤ _; omega) hW2)
                    have HBa := Lib.hid (HB'.out.trans (hba.mono HB'.out.size))
                    have HC1 := Lib.hid (insCode_first hfs)
                    clear hba
                    go_wp2_with fail
                    refine CIn.out.mono ?_
                    rintro e wb ⟨he, hMb, hFb⟩
                    rw [HC1.out] at he hMb
                    rw [if_pos rfl, if_pos rfl] at hMb
                    subst he
                    have HBb : Hid (Below w8.heap.size w8 wb) := Lib.hid (HBa.out.trans (hFb.below HBa.out.size (fun b hb => by rcases hb with rfl | rfl; exact hcb; exact hcpb)))
                    have HMb := Lib.hid hMb
                    have CP2 := Lib.hid (CPs.out _ _ _ _ _ (HM8.out.below HBb.out) HpT.out.symm)
                    clear hMb hFb CIn HC1
                    go_wp2_with fail
                    refine CP2.out.mono ?_
                    rintro e wd ⟨p9, c9, rfl, hl9, hb9⟩
                    have HBd := Lib.hid (HBb.out.trans (hb9.mono HBb.out.size))
                    have HMd := Lib.hid (HMb.out.below hb9)
                    have CS := Lib.hid (sameP_calls pt p9 ct c9 T j HTl.out (by omega) wd (HP8.out.below HBd.out) hl9)
                    clear hl9 hb9 CP2
                    go_wp2_with fail
                    refine CS.out.mono ?_
                    rintro e we ⟨rfl, hge⟩
                    have HMe := Lib.hid (HMd.out.gr hge)
                    have HE : Hid (Below w.heap.size w we) := Lib.hid (HB8.out.trans ((HBd.out.trans (hge.below.mono HBd.out.size)).mono HB8.out.size))
                    clear hge
                    go_wp2_with fail
                    refine (count_calls HMe.out).mono ?_
                    rintro e wf ⟨rfl, rfl⟩
                    go_wp2
                    go_ret
                    exact ⟨rfl, HE.out⟩
          · obtain ⟨x, hx⟩ : ∃ x, T[l]? = some x := ⟨_, List.getElem?_eq_getElem (by rw [HTl.out]; omega)⟩
            obtain ⟨pa, rfl, u0, u1⟩ := (HPT.out.below k3) l x hx
            have HPX : Hid (∀ X, Below w6.heap.size w6 X → X.cell? (pa.add (l * 2)) = some (.int .i64 x.i) ∧ X.cell? ⟨(pa.add (l * 2)).block, (pa.add (l * 2)).off + 1, none⟩ = some (.string x.c)) := Lib.hid (fun X hX => by
              obtain ⟨pa', e, h1, h2⟩ := (HPT.out.below hX) l x hx
              obtain rfl := Option.some.inj e
              exact ⟨h1, h2⟩)
            have hrd := rev_drop hx
            obtain ⟨A, hA⟩ : ∃ A, (T.drop (l + 1)).reverse = A := ⟨_, rfl⟩
            have hAl : A.length = t := by rw [← hA, List.length_reverse, List.length_drop, HTl.out]; omega
            rw [hA] at hrd k1 k2
            have HD1 : Hid (encP (T.drop l).reverse = encP A ++ Pv.cells x) := Lib.hid (by rw [hrd, encP_snoc])
            have HD2 : Hid (encU (upsOf (T.drop l).reverse) = encU (upsOf A) ++ Uv.cells ⟨(t : Int) + 1, 1, x.i, x.c⟩) := Lib.hid (by rw [hrd, upsOf_snoc, encU_snoc, hAl])
            have HK2 := Lib.hid k2
            have HK3 := Lib.hid k3
            have HNe := Lib.hid (own_ne k1 k2 (by decide))
            have hs3 := k3.size
            have hR3 := own_belowAll k1 ((Below.refl wo.heap.size wo).alloc (Nat.le_refl _) (.cells #[.int .i64 x.i, .string x.c] 49))
            have hnews := World.news_of_block (cs := #[.int .i64 x.i, .string x.c]) (t := 49) (fr := (0, 0)) (World.alloc_heap_new wo (.cells #[.int .i64 x.i, .string x.c] 49))
            have HGO := Lib.hid (fun g (hg : (Value.slice pv t cv).ownBlock = some g) => (k1.lt g hg).1)
            have HGU := Lib.hid (fun g (hg : (Value.slice pu t cu).ownBlock = some g) => (k2.lt g hg).1)
            have e : ((l + 1 : Nat) : Int) - 1 = (l : Int) := by omega
            rw [e]
            have j0 : (0 : Int) ≤ (l : Int) := by omega
            have j1 : (l : Int) < (ln : Int) := by omega
            have ht8 : t ≤ 79 := by omega
            clear hx hrd hA hAl k1 k2 k3 e
            go_upto_region 21 with (at_builtin; refine wpList_append_two _ rfl _ _ 22 rfl w6.heap.size 49 i0 _ 2 24 Tryd.underlying22 hi hz0 hz1 hz2 rfl (by decide) (.slice pv t cv) t _ rfl hR3 ⟨wo.heap.size, 0, none⟩ 1 1 (Pv.cells x) rfl rfl hnews (by simp [Value.oneCell', Pv.cells]) (by decide) (by unfold maxLen; omega) (by omega) (by simp; omega) ?_; intro g' capn y3 hown' hold hlies hlt2)
            have hB3 : Below w6.heap.size w6 y3 := hlies.below (HK3.out.alloc (by omega) _) (by simp; omega) (fun q hq => HGO.out q hq)
            have HK2' : Hid (y3.ownsRow w6.heap.size 51 4 (.slice pu t cu) t (encU (upsOf A))) := Lib.hid (hlies.own (own_belowAll HK2.out ((Below.refl wo.heap.size wo).alloc (Nat.le_refl _) _)) (fun k hk e => HNe.out k e hk))
            have HB3 := Lib.hid hB3
            have HOW := Lib.hid hown'
            obtain ⟨v0, v1⟩ := HPX.out y3 hB3
            have v0d : y3.drew.cell? (pa.add (l * 2)) = some (.int .i64 x.i) := v0
            have v1d : y3.drew.cell? ⟨(pa.add (l * 2)).block, (pa.add (l * 2)).off + 1, none⟩ = some (.string x.c) := v1
            have hs4 := hB3.size
            have chk1 : (t + 1) * 40 ≤ 140737488355328 := by omega
            have chk2 : t + 1 ≤ maxLen := by unfold maxLen; omega
            have chk3 : ∀ i u, (Uv.cells ⟨(t : Int) + 1, 1, x.i, x.c⟩)[i]? = some u → (y3.alloc (.cells #[.int .i64 ((t : Int) + 1), .int .i64 1, .int .i64 x.i, .string x.c] 51)).cell? ((⟨y3.heap.size, 0, none⟩ : Addr).add i) = some u := World.news_of_block (World.alloc_heap_new y3 _)
            have chk4 : ∀ u ∈ Uv.cells ⟨(t : Int) + 1, 1, x.i, x.c⟩, u.oneCell' = true := by simp [Uv.cells, Value.oneCell']
            have chk5 : w6.heap.size ≤ (y3.alloc (.cells #[.int .i64 ((t : Int) + 1), .int .i64 1, .int .i64 x.i, .string x.c] 51)).heap.size := by rw [World.size_alloc]; omega
            clear hown' hold hlies hlt2 hR3 hnews u0 u1 hB3
            go_wp2
            go_region_law ((refine step_append_lies _ (by rfl) (.tmp 111) (.tmp 125) 47 (by rfl) w6.heap.size 51 i1 _ 4 40 Tryd.underlying47 hi1 hy0 hy1 hy2 rfl (by decide) (.slice pu t cu) t _ (by rfl) (HK2'.out.alloc _) ⟨y3.heap.size, 0, none⟩ 1 1 (Uv.cells ⟨(t : Int) + 1, 1, x.i, x.c⟩) (by rfl) rfl chk3 chk4 (by decide) chk2 chk1 chk5 (y3.heap.size + 1) (by simp) ?_; intro g6 c6 w7 hown' hgrow hat hlt6))
            all_goals
              have N1 : Hid (w7.ownsRow w6.heap.size 49 2 (.slice (some ⟨g', 0, none⟩) (t + 1) capn) (t + 1) (encP (T.drop l).reverse)) := Lib.hid (by
                rw [HD1.out]
                first
                | exact own_grown (own_belowAll HOW.out ((Below.refl y3.heap.size y3).alloc (Nat.le_refl _) _)) hgrow (fun k hk => own_ne HOW.out HK2'.out (by decide) k hk)
                | exact own_grown (own_belowAll HOW.out ((Below.refl y3.heap.size y3).alloc (Nat.le_refl _) _).drew) hgrow (fun k hk => own_ne HOW.out HK2'.out (by decide) k hk))
              have N2 : Hid (w7.ownsRow w6.heap.size 51 4 (.slice (some ⟨g6, 0, none⟩) (t + 1) c6) (t + 1) (encU (upsOf (T.drop l).reverse))) := Lib.hid (by rw [HD2.out]; exact hown')
              have N3 : Hid (Below w6.heap.size w6 w7) := Lib.hid (by
                first
                | exact (HB3.out.alloc hs4 _).grown hgrow chk5 (fun b hb => HGU.out b hb)
                | exact (HB3.out.alloc hs4 _).drew.grown hgrow chk5 (fun b hb => HGU.out b hb)
                | exact (HB3.out.alloc hs4 _).drew.drew.grown hgrow chk5 (fun b hb => HGU.out b hb))
              clear hown' hgrow hat hlt6 chk1 chk2 chk3 chk4 chk5 v0 v1 v0d v1d
              go_wp2
              go_roundw
              case rel => exact ⟨t + 1, l, _, _, by omega, rfl, rfl, rfl, N1.out, N2.out, N3.out⟩
              case measure => first | (simp [intOf]; done) | (simp [intOf]; omega)
end Go.Proofs.YtmfanldekjkbiaaDoor
