/-
  THE LAW PlainTriangle, walked: the triangle.
-/
import Derived.Test.YtmfanldekjkbiaaDoorTriP
import Derived.Test.YtmfanldekjkbiaaDoorBegunP
namespace Go.Proofs.YtmfanldekjkbiaaDoor
open Go.RowKit ArgK
set_option linter.unusedVariables false

set_option maxRecDepth 100000 in
set_option maxHeartbeats 4000000 in
theorem PlainTriangle_walk (a0 : Int) (w0 : (Lit.int .i64 a0).wf = true) (v1 : Value) (z : List Pv) (a2 : ByteArray) (s2 : a2.size ≤ 140737488351232) (a3 : ByteArray) (s3 : a3.size ≤ 140737488351232) (a4 : Int) (w4 : (Lit.int .i64 a4).wf = true) (w : World) (h1 : IsSl w 2 24 IsPair [v1] z) (hL : TabLaid w) :
    Calls Tryd.prog 3 #[.int .i64 a0, v1, .string a2, .string a3, .int .i64 a4] w fun e w' => e = .returned (.bool true) ∧ Below w.heap.size w w' := by
  obtain ⟨hz, pz, cz, rfl, hPL, hGP⟩ := pairs_of_arg h1
  have hT := tab_of_laid hL
  have CW := Lib.hid (fun W => width13_calls a0 W)
  obtain ⟨W, hWe⟩ : ∃ W, widN a0 = W := ⟨_, rfl⟩
  have hWb := widN_bd a0
  have hWg := widN_good a0
  rw [hWe] at CW hWb hWg
  obtain ⟨hW1, hW2, hW3⟩ := hWb
  have CB := Lib.hid (begun13_calls w hT)
  have CQ := Lib.hid (fun X => fit13_calls a2 s2 W hW2 X)
  have CP := Lib.hid (fun X => fit13_calls a3 s3 W hW2 X)
  obtain ⟨q, hq⟩ : ∃ q, fitB a2 (W / 8) = q := ⟨_, rfl⟩
  obtain ⟨p, hp⟩ : ∃ p, fitB a3 (W / 8) = p := ⟨_, rfl⟩
  have hqs : q.size = W / 8 := by rw [← hq]; exact fitB_size _ _
  have hps : p.size = W / 8 := by rw [← hp]; exact fitB_size _ _
  rw [hq] at CQ
  rw [hp] at CP
  have CF := Lib.hid (fun X hX => filled_calls W hWg pz cz z (by omega) hGP X hX)
  obtain ⟨L, hLe⟩ : ∃ L, fillL (W / 8) [] z = L := ⟨_, rfl⟩
  have hLb : L.length ≤ 80 := by rw [← hLe]; exact fillL_bound _ _ _ (Nat.zero_le _)
  rw [hLe] at CF
  obtain ⟨m, hm⟩ : ∃ m, z.length = m := ⟨_, rfl⟩
  rw [hm] at CF ⊢
  have CD := Lib.hid (fun X (hX : OnesTab X) => Distance_below q p (by omega) (by omega) X hX)
  have hdd : distR q.data.toList p.data.toList = (dB q p, 0) := by
    unfold distR dB
    rw [if_neg]
    have e1 : q.data.toList.length = q.size := rfl
    have e2 : p.data.toList.length = p.size := rfl
    rw [e1, e2]
    omega
  rw [hdd] at CD
  obtain ⟨d, hd⟩ : ∃ d, dB q p = d := ⟨_, rfl⟩
  have hdl : d ≤ 1024 := by
    have := dB_le (a := q) (b := p) (by omega)
    omega
  have hr0 := radN_bd hW1 a4
  obtain ⟨r, hr⟩ : ∃ r, radN W a4 = r := ⟨_, rfl⟩
  rw [hr] at hr0
  obtain ⟨far, hfar⟩ : ∃ far, (if (W : Int) < r + dB q p then (W : Int) else r + dB q p) = far := ⟨_, rfl⟩
  have hfb : 0 ≤ far ∧ far ≤ W := by rw [← hfar]; split <;> omega
  have HTri := Lib.hid (fun (hn : (L.map (·.i)).Nodup) (hF : FitP W L) x hx => tri_law (x := x) hn hF hqs hps (by omega) hfar.symm hx)
  simp only [hd] at CD HTri
  rw [hd] at hfar
  have HT := Lib.hid hT
  have HPL := Lib.hid hPL
  have HR := Lib.hid hr
  have HFar := Lib.hid hfar
  clear hq hp hLe hm hdd hd hr hfar hT hL hPL hGP h1 hz hWe hWg
  go_enter Tryd.func3, Tryd.ntmps3
  go_wp2_with fail
  refine CB.out.mono ?_
  rintro e w1 ⟨rfl, hb1⟩
  have HB1 := Lib.hid hb1
  clear hb1
  go_wp2_with fail
  refine (CW.out w1).mono ?_
  rintro e w1' ⟨rfl, rfl⟩
  go_wp2_with fail
  refine (CQ.out _).mono ?_
  rintro e w2 ⟨rfl, hb2⟩
  have HB2 := Lib.hid (HB1.out.trans (hb2.mono HB1.out.size))
  clear hb2
  go_wp2_with fail
  refine (CP.out w2).mono ?_
  rintro e w3 ⟨rfl, hb3⟩
  have HB3 := Lib.hid (HB2.out.trans (hb3.mono HB2.out.size))
  clear hb3
  go_wp2_with fail
  refine (CF.out w3 (HPL.out.below HB3.out)).mono ?_
  rintro e w4 ⟨mb, pb, vi, rfl, hM4, _, hb4, _, _⟩
  have HB4 := Lib.hid (HB3.out.trans (hb4.mono HB3.out.size))
  have HM4 := Lib.hid hM4
  clear hb4 hM4
  go_wp2_with fail
  refine (CD.out w4 (HT.out.below HB4.out)).mono ?_
  rintro e w5 ⟨rfl, hb5⟩
  have HB5 := Lib.hid (HB4.out.trans (hb5.mono HB4.out.size))
  have HM5 := Lib.hid (HM4.out.below hb5)
  clear hb5
  obtain ⟨bb, hbb⟩ : ∃ bb, decide (a4 < 0 ∨ (W : Int) < a4) = bb := ⟨_, rfl⟩
  have hrr : r = if bb then 2 else a4 := by
    rw [← HR.out, ← hbb]
    unfold radN
    by_cases h : a4 < 0 ∨ (W : Int) < a4 <;> simp [h]
  have HRR := Lib.hid hrr
  have HBB := Lib.hid hbb
  clear hrr hbb
  go_upto_region 9 with fail
  go_cut [64] (fun s64 wx => s64 = .bool bb ∧ wx = w5)
  case first =>
    by_cases h1 : a4 < 0
    · go_wp2_with fail
      go_meet
      exact ⟨by rw [← HBB.out]; simp [h1], rfl⟩
    · by_cases h2 : (W : Int) < a4
      · go_wp2_with fail
        go_meet
        exact ⟨by rw [← HBB.out]; simp [h2], rfl⟩
      · go_wp2_with fail
        go_meet
        exact ⟨by rw [← HBB.out]; simp; omega, rfl⟩
  case rest =>
    obtain ⟨rfl, rfl⟩ := hcut
    go_upto_if 64 with fail
    go_cut [4] (fun s4 wx => s4 = .int .i64 r ∧ wx = wc)
    case first =>
      cases bb
      · go_wp2_with fail
        go_meet
        exact ⟨by rw [HRR.out]; rfl, rfl⟩
      · go_wp2_with fail
        go_meet
        exact ⟨by rw [HRR.out]; rfl, rfl⟩
    case rest =>
      obtain ⟨rfl, rfl⟩ := hcut
      clear HRR HBB HR
      obtain ⟨w5, hw5⟩ : ∃ w5, wc = w5 := ⟨_, rfl⟩
      rw [hw5] at HB5 HM5 ⊢
      clear hw5
      go_upto_if 70 with fail
      go_cut [17] (fun s17 wx => s17 = .int .i64 far ∧ wx = w5)
      case first =>
        by_cases h1 : (W : Int) < r + (d : Int)
        · have hff : far = (W : Int) := by rw [← HFar.out, if_pos h1]
          go_wp2_with fail
          go_meet
          exact ⟨by rw [hff], rfl⟩
        · have hff : far = r + (d : Int) := by rw [← HFar.out, if_neg h1]
          go_wp2_with fail
          go_meet
          exact ⟨by rw [hff], rfl⟩
      case rest =>
        obtain ⟨rfl, rfl⟩ := hcut
        have HNd := Lib.hid HM5.out.2.1.nodup
        have HFt := Lib.hid HM5.out.2.2
        have CR1 := Lib.hid (radius_ok HM5.out hW2 q hqs r hr0.1 hr0.2 (HT.out.below HB5.out) (by omega))
        obtain ⟨H, hH⟩ : ∃ H, nearT r (L.map (hitOf q)) = H := ⟨_, rfl⟩
        obtain ⟨A, hA⟩ : ∃ A, nearT far (L.map (hitOf p)) = A := ⟨_, rfl⟩
        have hHl : H.length ≤ 80 := by
          have := nearT_length r (L.map (hitOf q))
          rw [List.length_map, hH] at this
          omega
        have hAl : A.length ≤ 80 := by
          have := nearT_length far (L.map (hitOf p))
          rw [List.length_map, hA] at this
          omega
        have HHb : Hid (∀ x ∈ H, 0 ≤ x.d ∧ x.d ≤ 1024) := Lib.hid (fun x hx => hit_bd HFt.out hqs hW2 (nearT_mem.1 (hH ▸ hx)).1)
        have HAb : Hid (∀ x ∈ A, 0 ≤ x.d ∧ x.d ≤ 1024) := Lib.hid (fun x hx => hit_bd HFt.out hps hW2 (nearT_mem.1 (hA ▸ hx)).1)
        have HTr := Lib.hid (HTri.out HNd.out HFt.out)
        rw [hA, hH] at HTr
        rw [hH] at CR1
        have HA := Lib.hid hA
        clear hA hH
        go_wp2_with fail
        refine CR1.out.mono ?_
        rintro e w6 ⟨vh, rfl, hrh, hb6⟩
        obtain ⟨ph, ch, rfl, _⟩ := own_rd hrh
        have HB6 := Lib.hid (HB5.out.trans (hb6.mono HB5.out.size))
        have HM6 := Lib.hid (HM5.out.below hb6)
        have HLh := Lib.hid (HL.of_own hrh)
        have CR2 := Lib.hid (radius_ok HM6.out hW2 p hps far hfb.1 hfb.2 (HT.out.below HB6.out) (by omega))
        rw [HA.out] at CR2
        clear hrh hb6
        go_wp2_with fail
        refine CR2.out.mono ?_
        rintro e w7 ⟨va, rfl, hra, hb7⟩
        obtain ⟨pa, ca, rfl, _⟩ := own_rd hra
        have HB7 := Lib.hid (HB6.out.trans (hb7.mono HB6.out.size))
        have HLh7 := Lib.hid (HLh.out.below hb7)
        have HLa := Lib.hid (HL.of_own hra)
        clear hra hb7
        go_wp2
        go_loopw [22] (fun i ws => ∃ k : Nat, k ≤ H.length ∧ i = .int .i64 k ∧ Gr w7 ws) (fun i _ => H.length - (intOf i).toNat)
        case atStart => exact ⟨0, Nat.zero_le _, rfl, Gr.refl _⟩
        case round =>
          obtain ⟨k, hk, rfl, hG⟩ := hrel
          obtain ⟨wo, rfl⟩ : ∃ wo : World, wo = wr := ⟨_, rfl⟩
          have HG := Lib.hid hG
          clear hG
          by_cases hkt : k < H.length
          · obtain ⟨x, hx⟩ : ∃ x, H[k]? = some x := ⟨_, List.getElem?_eq_getElem hkt⟩
            have hxm := List.mem_of_getElem? hx
            obtain ⟨hx0, hx1⟩ := HHb.out x hxm
            obtain ⟨hex, hall⟩ := HTr.out x hxm
            have HX := Lib.hid hx
            have HEx := Lib.hid (anyI_all hex)
            have HAll := Lib.hid hall
            have i0 : (0 : Int) ≤ (k : Int) := by omega
            have i1 : (k : Int) < (H.length : Int) := by omega
            clear hx hxm hex hall
            go_wp2
            go_loopw [23, 24] (fun t j ws => ∃ l : Nat, l ≤ A.length ∧ j = .int .i64 l ∧ t = .bool (anyI A l x.i) ∧ Gr w7 ws) (fun _ j _ => A.length - (intOf j).toNat)
            case atStart => exact ⟨0, Nat.zero_le _, rfl, rfl, HG.out⟩
            case round =>
              obtain ⟨l, hl, rfl, rfl, hG2⟩ := hrel
              obtain ⟨wi, rfl⟩ : ∃ wo : World, wo = wr := ⟨_, rfl⟩
              have HG2 := Lib.hid hG2
              by_cases hlt : l < A.length
              · obtain ⟨y, hy⟩ : ∃ y, A[l]? = some y := ⟨_, List.getElem?_eq_getElem hlt⟩
                have hym := List.mem_of_getElem? hy
                obtain ⟨hy0, hy1⟩ := HAb.out y hym
                have HS := Lib.hid (anyI_succ (i := x.i) hy)
                have HAy := Lib.hid (HAll.out y hym)
                obtain ⟨px, rfl, u0, u1, u2⟩ := (HLh7.out.gr hG2) k x HX.out
                obtain ⟨py, rfl, v0, v1, v2⟩ := (HLa.out.gr hG2) l y hy
                have j0 : (0 : Int) ≤ (l : Int) := by omega
                have j1 : (l : Int) < (A.length : Int) := by omega
                obtain ⟨tt, htt⟩ : ∃ tt, anyI A l x.i = tt := ⟨_, rfl⟩
                rw [htt] at HS ⊢
                clear htt hG2 hy hym
                by_cases he : y.i = x.i
                · obtain ⟨hc, hd1, hd2⟩ := HAy.out he
                  have hb : (y.i == x.i) = true := by simpa using he
                  rw [hb, Bool.or_true] at HS
                  rw [he] at v1
                  rw [hc] at v2
                  have e1 : (x.i == x.i) = true := by simp
                  have e2 : (x.c.toList == x.c.toList) = true := by simp
                  clear hb he hc
                  go_wp2
                  go_quiet (fail)
                  go_wp2
                  go_quiet (fail)
                  go_wp2
                  go_quiet (fail)
                  go_wp2
                  go_roundw
                  case rel => exact ⟨l + 1, by omega, by go_num, by rw [HS.out], HG2.out.drewN _⟩
                  case measure => simp [intOf]; omega
                · have hb : (y.i == x.i) = false := by simpa using he
                  rw [hb, Bool.or_false] at HS
                  go_wp2
                  go_quiet (fail)
                  go_wp2
                  go_roundw
                  case rel => exact ⟨l + 1, by omega, by go_num, by rw [HS.out], HG2.out.drewN _⟩
                  case measure => simp [intOf]; omega
              · obtain rfl : l = A.length := by omega
                rw [HEx.out]
                go_wp2
                go_roundw
                case rel => exact ⟨k + 1, by omega, by go_num, HG2.out⟩
                case measure => simp [intOf]; omega
          · obtain rfl : k = H.length := by omega
            have HE := Lib.hid (HB7.out.trans (HG.out.below.mono HB7.out.size))
            go_wp2
            go_ret
            exact ⟨rfl, HE.out⟩
end Go.Proofs.YtmfanldekjkbiaaDoor
