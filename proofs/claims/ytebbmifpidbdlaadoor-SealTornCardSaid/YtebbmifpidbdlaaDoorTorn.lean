/-
  WALK: the law SealTorn: of whole frames with a torn one behind them just the whole ones are told.
-/
import Derived.Test.YtebbmifpidbdlaaDoorTornP
import Derived.Test.YtebbmifpidbdlaaDoorFrames
import Derived.Deep.RegionHeld3
import Derived.Outline
import Derived.RegionTactic
import Derived.ChangeAlike
import Derived.BigRegion
namespace Go.Proofs.YtebbmifpidbdlaaDoor
open Go.RowKit ArgK
set_option linter.unusedVariables false

set_option maxRecDepth 100000 in
set_option maxHeartbeats 4000000 in
theorem SealTorn_walk (v : Value) (z : List (Int × ByteArray × Int)) (a1 : Int) (w1 : (Lit.int .i64 a1).wf = true) (a2 : ByteArray) (s2 : a2.size ≤ 140737488351232) (a3 : Int) (w3 : (Lit.int .i64 a3).wf = true) (a4 : Int) (w4 : (Lit.int .i64 a4).wf = true) (w : World)
    (h0 : IsSl w 3 32 IsFramed [v] z) (hL : TabLaid w) :
    Calls Tryd.prog 10 #[v, .int .i64 a1, .string a2, .int .i64 a3, .int .i64 a4] w fun e w' => e = .returned (.bool true) ∧ Below w.heap.size w w' := by
  have hT := tab_of_laid hL
  obtain ⟨hz1, hz2⟩ := h0
  obtain ⟨p, cap, rfl, hp⟩ : ∃ (p : Option Addr) (cap : Nat), v = .slice p z.length cap ∧ ∀ (i : Nat) (x : Int × ByteArray × Int), z[i]? = some x → ∃ a, p = some a ∧ x.2.1.size ≤ 140737488351232 ∧ w.cell? (a.add (i * 3)) = some (.int .i64 x.1) ∧ w.cell? (a.add (i * 3 + 1)) = some (.string x.2.1) := by
    rcases hz2 with ⟨h, rfl⟩ | ⟨a, cap, h, _, _, hc⟩
    · cases h
      exact ⟨none, 0, rfl, fun i x hx => by simp at hx⟩
    · cases h
      refine ⟨some a, cap, rfl, fun i x hx => ?_⟩
      obtain ⟨c, _, hr, hcell⟩ := hc i x hx
      obtain ⟨rfl, _, hs, _⟩ := hr
      exact ⟨a, rfl, hs, hcell 0 (by decide), hcell 1 (by decide)⟩
  obtain ⟨len, hlen⟩ : ∃ len, z.length = len := ⟨_, rfl⟩
  rw [hlen] at hz1
  rw [hlen]
  have HLEN := Lib.hid hlen
  have HP := Lib.hid hp
  have hl20 : len ≤ 4398046510976 := by omega
  have hct : ∀ i, (goodL (z.take i)).length ≤ len := fun i => by
    have := goodL_len (z.take i)
    have : (z.take i).length ≤ z.length := by rw [List.length_take]; omega
    omega
  have hst : ∀ i, (concF (goodL (z.take i))).length ≤ 1152921504606846976 := fun i => by
    have := concF_le _ (goodL_ok (z.take i))
    have := hct i
    omega
  have HST := Lib.hid hst
  have HCT := Lib.hid hct
  clear hz2 hp hlen hL hst hct
  have C0 := begun_calls w hT
  go_enter Tryd.func10, Tryd.ntmps10
  go_wp2_with fail
  refine C0.mono ?_
  rintro e x1 ⟨rfl, b1⟩
  clear C0
  go_wp2
  go_loopw [12, 13, 14] (fun b n i wr => ∃ (k : Nat) (s : ByteArray), k ≤ len ∧ i = .int .i64 k ∧ b = .string s ∧ Hid (s.data.toList = concF (goodL (z.take k))) ∧ n = .int .i64 ((goodL (z.take k)).length : Nat) ∧ Below w.heap.size w wr) (fun _ _ i _ => len - (intOf i).toNat)
  case atStart => exact ⟨0, _, Nat.zero_le _, rfl, rfl, Lib.hid rfl, rfl, b1⟩
  case round =>
    obtain ⟨k, s, hk, rfl, rfl, HS, rfl, hbl⟩ := hrel
    have hsz : s.size ≤ 1152921504606846976 := by rw [size_data, HS.out]; exact HST.out k
    have hnk : (goodL (z.take k)).length ≤ len := HCT.out k
    by_cases hlt : k < len
    · obtain ⟨x, hx⟩ : ∃ x, z[k]? = some x := ⟨_, List.getElem?_eq_getElem (by rw [HLEN.out]; exact hlt)⟩
      obtain ⟨a, rfl, hxs, c0, c1⟩ := HP.out k x hx
      have hab : ∀ (j : Nat) v, w.cell? (a.add j) = some v → (a.add j).block < w.heap.size := fun j v h => by
        rcases Nat.lt_or_ge (a.add j).block w.heap.size with h' | h'
        · exact h'
        · simp [World.cell?, Array.getElem?_eq_none h'] at h
      have k0 := (hbl.cell (p := a.add (k * 3)) (hab _ _ c0)).trans c0
      have k1 : wr.cell? ⟨(a.add (k * 3)).block, (a.add (k * 3)).off + 1, none⟩ = some (.string x.2.1) := by
        show wr.cell? ((a.add (k * 3)).add 1) = some (.string x.2.1)
        rw [add_of_add]
        exact (hbl.cell (p := a.add (k * 3 + 1)) (hab _ _ c1)).trans c1
      have HTK : Hid (z.take (k + 1) = z.take k ++ [x]) := Lib.hid (by
        rw [List.take_add_one, hx]; rfl)
      have HG := Lib.hid (goodL_snoc (z.take k) x)
      have CF := fun W hT => Frame_calls x.1 x.2.1 hxs W hT
      obtain ⟨kd, hkd⟩ : ∃ kd, x.1 = kd := ⟨_, rfl⟩
      obtain ⟨pl, hpl⟩ : ∃ pl, x.2.1 = pl := ⟨_, rfl⟩
      rw [hkd] at k0 HG
      rw [hpl] at k1 HG hxs
      simp only [hkd, hpl] at CF
      have hab0 : (a.add (k * 3)).block < wr.heap.size := Nat.lt_of_lt_of_le (hab _ _ c0) hbl.size
      have hTd : Tab wr.drew := hT.below hbl.drew
      clear c0 c1 hab hkd hpl hx
      obtain ⟨fe, hfe⟩ : ∃ fe, (frameR kd pl.data.toList).2 = fe := ⟨_, rfl⟩
      obtain ⟨fs, hfs, hfl⟩ : ∃ fs : ByteArray, (⟨(frameR kd pl.data.toList).1.toArray⟩ : ByteArray) = fs ∧ fs.data.toList = (frameR kd pl.data.toList).1 := ⟨_, rfl, by simp⟩
      simp only [hfe, hfs] at CF
      rw [hfe] at HG
      have HFE := Lib.hid hfe
      have HFL := Lib.hid hfl
      have HCF := Lib.hid CF
      clear CF hfe hfs hfl
      by_cases he : fe = 0
      · subst he
        rw [if_pos rfl] at HG
        have hfz : fs.size ≤ 65550 := by
          obtain ⟨kk, _, _, _, h3, h4⟩ := frameR_is _ _ HFE.out
          rw [size_data, HFL.out, h4]
          show (frameB kk pl.data.toList).length ≤ _
          rw [frameB_length]; omega
        have HK1 : Hid ((s ++ fs).data.toList = concF (goodL (z.take (k + 1)))) := Lib.hid (by
          rw [cat_data, HS.out, HFL.out, HTK.out, HG.out, concF_append]
          obtain ⟨kk, hkk, _, _, _, h4⟩ := frameR_is _ _ HFE.out
          rw [h4]
          simp [concF, hkk])
        have HK2 : Hid ((goodL (z.take (k + 1))).length = (goodL (z.take k)).length + 1) := Lib.hid (by rw [HTK.out, HG.out, List.length_append]; rfl)
        go_wp2
        go_region_held3 (fun W => W.cell? (a.add (k * 3)) = some (.int .i64 kd) ∧ W.cell? ⟨(a.add (k * 3)).block, (a.add (k * 3)).off + 1, none⟩ = some (.string pl)) (first | exact ⟨k0, k1⟩ | exact ⟨(hc1.cell (p := a.add (k * 3)) hab0).trans k0, (hc1.cell (p := ⟨(a.add (k * 3)).block, (a.add (k * 3)).off + 1, none⟩) hab0).trans k1⟩)
          (first | (go_at_call 15; refine (HCF.out _ hTd).mono ?_; rintro e w2 ⟨rfl, hc1⟩))
        have hbn := hbl.trans ((show Below wr.heap.size wr w2 from ⟨hc1.os, hc1.tape, hc1.output, hc1.size, hc1.block⟩).mono hbl.size)
        go_wp2
        go_roundw
        case rel => exact ⟨k + 1, s ++ fs, by omega, by go_num, rfl, HK1, by rw [HK2.out]; go_num, hbn⟩
        case measure => simp [intOf]; omega
      · rw [if_neg he, List.append_nil] at HG
        have hne : (fe != 0) = true := by rw [bne_iff_ne]; exact he
        have HK1 : Hid (s.data.toList = concF (goodL (z.take (k + 1)))) := Lib.hid (by rw [HTK.out, HG.out]; exact HS.out)
        have HK2 : Hid ((goodL (z.take (k + 1))).length = (goodL (z.take k)).length) := Lib.hid (by rw [HTK.out, HG.out])
        clear he
        go_wp2
        go_region_held3 (fun W => W.cell? (a.add (k * 3)) = some (.int .i64 kd) ∧ W.cell? ⟨(a.add (k * 3)).block, (a.add (k * 3)).off + 1, none⟩ = some (.string pl)) (first | exact ⟨k0, k1⟩ | exact ⟨(hc1.cell (p := a.add (k * 3)) hab0).trans k0, (hc1.cell (p := ⟨(a.add (k * 3)).block, (a.add (k * 3)).off + 1, none⟩) hab0).trans k1⟩)
          (first | (go_at_call 15; refine (HCF.out _ hTd).mono ?_; rintro e w2 ⟨rfl, hc1⟩))
        have hbn := hbl.trans ((show Below wr.heap.size wr w2 from ⟨hc1.os, hc1.tape, hc1.output, hc1.size, hc1.block⟩).mono hbl.size)
        go_wp2
        go_roundw
        case rel => exact ⟨k + 1, s, by omega, by go_num, rfl, HK1, by rw [HK2.out], hbn⟩
        case measure => simp [intOf]; omega
    · obtain rfl : k = len := by omega
      have hzk : z.take k = z := List.take_of_length_le (by rw [HLEN.out]; exact Nat.le_refl _)
      rw [hzk] at HS hnk ⊢
      have hokg := goodL_ok z
      obtain ⟨gs, hgs⟩ : ∃ gs, goodL z = gs := ⟨_, rfl⟩
      have HGS := Lib.hid hgs
      rw [hgs] at HS hnk hokg ⊢
      obtain ⟨gn, hgn⟩ : ∃ gn, gs.length = gn := ⟨_, rfl⟩
      rw [hgn] at hnk ⊢
      have HGN := Lib.hid hgn
      have HOK := Lib.hid hokg
      have hTr := hT.below hbl
      have CF := Frame_calls a1 a2 s2 wr hTr
      obtain ⟨fe, hfe⟩ : ∃ fe, (frameR a1 a2.data.toList).2 = fe := ⟨_, rfl⟩
      obtain ⟨fs, hfs, hfl⟩ : ∃ fs : ByteArray, (⟨(frameR a1 a2.data.toList).1.toArray⟩ : ByteArray) = fs ∧ fs.data.toList = (frameR a1 a2.data.toList).1 := ⟨_, rfl, by simp⟩
      rw [hfe, hfs] at CF
      have HFE := Lib.hid hfe
      have HFL := Lib.hid hfl
      have HCF := Lib.hid CF
      clear hzk hgs hgn hokg CF hfe hfs hfl hlt hk hTr
      by_cases he : fe = 0
      · subst he
        obtain ⟨kk, hkk, h1, h2, h3, h4⟩ := frameR_is _ _ HFE.out
        have hfz : fs.size = a2.size + 14 := by
          rw [size_data, HFL.out, h4]
          show (frameB kk a2.data.toList).length = _
          rw [frameB_length]; rfl
        have HFB : Hid (fs.data.toList = frameB kk a2.data.toList ∧ 1 ≤ kk ∧ kk ≤ 255 ∧ a2.data.toList.length ≤ 65536) := Lib.hid ⟨by rw [HFL.out, h4], h1, h2, h3⟩
        have hf14 : 14 ≤ fs.size := by omega
        have hf15 : fs.size ≤ 1048590 := by have h5 : a2.size ≤ 65536 := h3; omega
        clear hkk h1 h2 h3 h4 hfz
        by_cases hc0 : a3 < 0
        · have hne1 : ((fs.size : Int) != 1) = true := by rw [bne_iff_ne]; omega
          go_wp2_with fail
          refine HCF.out.mono ?_
          rintro e w2 ⟨rfl, hc1⟩
          go_wp2
          go_ret
          exact ⟨by simp, hbl.trans (hc1.mono hbl.size)⟩
        by_cases hcs : (fs.size : Int) ≤ a3
        · have hne1 : ((fs.size : Int) != 1) = true := by rw [bne_iff_ne]; omega
          have hd0 : decide (a3 < 0) = false := by simp; omega
          go_wp2_with fail
          refine HCF.out.mono ?_
          rintro e w2 ⟨rfl, hc1⟩
          go_wp2
          go_ret
          exact ⟨by simp, hbl.trans (hc1.mono hbl.size)⟩
        obtain ⟨cut, rfl⟩ := Int.eq_ofNat_of_zero_le (show 0 ≤ a3 by omega)
        obtain ⟨t, ht, htl, hts⟩ := name_cut fs 0 cut (Nat.zero_le _) (by omega)
        rw [List.drop_zero, Nat.sub_zero] at htl
        rw [Nat.sub_zero] at hts
        have HTL := Lib.hid htl
        have HTS := Lib.hid hts
        have hcfs : cut < fs.size := by omega
        obtain ⟨c, hc⟩ : ∃ c : UInt8, a4 % 256 = (c.toNat : Int) := ⟨UInt8.ofNat (a4 % 256).toNat, by simp; omega⟩
        have hd0 : decide ((cut : Int) < 0) = false := by simp
        have htorn : Hid (∀ a, (parseAt a ((t.data.toList).set (cut - 1) c)).2.2.2 ≠ 0) := Lib.hid (fun a => by
          rw [HTL.out, HFB.out.1]
          exact parse_torn a kk _ HFB.out.2.1 HFB.out.2.2.1 HFB.out.2.2.2 cut (by rw [← HFB.out.1]; exact hcfs) c)
        clear htl hts hc0 hcs
        go_wp2_with fail
        refine HCF.out.mono ?_
        rintro e w2 ⟨rfl, hc1⟩
        have hb2 := hbl.trans (hc1.mono hbl.size)
        have hcv := run_bytes_of_string (P := Tryd.prog) w2 9 52 5 t Tryd.underlying9 Tryd.underlying52 Tryd.underlying5
        obtain ⟨cap2, hcap⟩ : ∃ cap, grownCap w2 t.size 0 5 = cap := ⟨_, rfl⟩
        rw [hcap] at hcv
        clear hcap
        obtain ⟨o, ho⟩ : ∃ o, Obj.cells (bytesRow t cap2) 5 ((bytesRow t cap2).size, (bytesRow t cap2).size + 1) = o := ⟨_, rfl⟩
        rw [ho] at hcv
        have hB0 : Bys (w2.alloc o) w2.heap.size 5 t.data.toList := by rw [← ho]; exact Bys.of_string w2 _ t cap2
        clear ho
        by_cases hcp : 0 < cut
        · have hcell := hB0.cell (i := cut - 1) (by show cut - 1 < t.size; rw [HTS.out]; omega)
          have hfroz := hB0.frozen (i := cut - 1) (by show cut - 1 < t.size; rw [HTS.out]; omega)
          have hput := hB0.put (cut - 1) c
          have hs := (hput.drew).toStr (P := Tryd.prog) 52 9 5 Tryd.underlying52 Tryd.underlying5 Tryd.underlying9 t.size cap2 (by rw [List.length_set]; rfl)
          obtain ⟨tt, htt, httl⟩ : ∃ tt : ByteArray, (⟨((t.data.toList).set (cut - 1) c).toArray⟩ : ByteArray) = tt ∧ tt.data.toList = (t.data.toList).set (cut - 1) c := ⟨_, rfl, by simp⟩
          rw [htt] at hs
          have httz : tt.size ≤ 1048590 := by rw [size_data, httl, List.length_set]; show t.size ≤ _; rw [HTS.out]; omega
          have htt2 : Hid (∀ a, (parseAt a tt.data.toList).2.2.2 ≠ 0) := Lib.hid (by rw [httl]; exact htorn.out)
          have hci : (cut : Int) - 1 = ((cut - 1 : Nat) : Int) := by omega
          have hct : cut - 1 < t.size := by rw [HTS.out]; omega
          have hbW : Below w.heap.size w ((w2.alloc o).setCell ⟨w2.heap.size, cut - 1, none⟩ (.int .u8 (c.toNat : Int))).drew := ((hb2.alloc hb2.size o).setCell (p := ⟨w2.heap.size, cut - 1, none⟩) hb2.size _).drew
          clear hput htt httl hB0
          have HTT : Hid (framesR (s ++ tt).data.toList = (placed 0 gs, s.size)) := Lib.hid (by
            rw [cat_data, HS.out, framesR_torn gs tt.data.toList HOK.out htt2.out, ← HS.out]; rfl)
          have hszt : (s ++ tt).size ≤ 4611686018427387904 := by rw [size_data, cat_data, List.length_append]; show s.size + tt.size ≤ _; omega
          have hnn : (framesR (s ++ tt).data.toList).1.length * 32 ≤ 140737488355328 := by rw [HTT.out, placed_length, HGN.out]; omega
          have CG := fun W hT => Frames_calls2 (s ++ tt) hszt hnn W hT
          simp only [HTT.out] at CG
          have HPL : Hid (∀ (i : Nat) (g : Nat × List UInt8), gs[i]? = some g → ∃ y, (placed 0 gs)[i]? = some ((g.1 : Int), g.2, y)) := Lib.hid (fun i g h => placed_get gs 0 i g h)
          have HPG := Lib.hid (encF_get (placed 0 gs))
          have hpgl : Hid ((placed 0 gs).length = gn) := Lib.hid (by rw [placed_length, HGN.out])
          obtain ⟨X, hX⟩ : ∃ X, encF (placed 0 gs) = X := ⟨_, rfl⟩
          rw [hX] at HPG
          simp only [hX, hpgl.out] at CG
          have HCG := Lib.hid CG
          clear CG hX hszt hnn htt2
          go_wp2_with fail
          refine (HCG.out _ (hT.below hbW)).mono ?_
          rintro e w4 ⟨vg, rfl, hrow, hb4⟩
          have hbw4 := hbW.trans (hb4.mono hbW.size)
          have hrd := hrow.lt
          obtain ⟨pg, cg, rfl, _, _, hrc⟩ := own_rd hrow
          have HRC := Lib.hid hrc
          have he1 : ((gn : Int) != (gn : Int)) = false := by simp
          have he2 : ((s.size : Int) != (s.size : Int)) = false := by simp
          clear hrow hrd hrc hb4 hbW
          go_wp2
          go_loopw [22, 23] (fun q i wr => ∃ j : Nat, j ≤ k ∧ i = .int .i64 j ∧ q = .int .i64 ((goodL (z.take j)).length : Nat) ∧ Below w4.heap.size w4 wr) (fun _ i _ => k - (intOf i).toNat)
          case atStart => exact ⟨0, Nat.zero_le _, rfl, rfl, Below.refl _ _⟩
          case round =>
            obtain ⟨j, hj, rfl, rfl, hb5⟩ := hrel
            have hbl5 := hbw4.trans (hb5.mono hbw4.size)
            by_cases hlt : j < k
            · obtain ⟨x, hx⟩ : ∃ x, z[j]? = some x := ⟨_, List.getElem?_eq_getElem (by rw [HLEN.out]; exact hlt)⟩
              obtain ⟨a, rfl, hxs, c0, c1⟩ := HP.out j x hx
              have hab : ∀ (j : Nat) v, w.cell? (a.add j) = some v → (a.add j).block < w.heap.size := fun j v h => by
                rcases Nat.lt_or_ge (a.add j).block w.heap.size with h' | h'
                · exact h'
                · simp [World.cell?, Array.getElem?_eq_none h'] at h
              have k0 := (hbl5.cell (p := a.add (j * 3)) (hab _ _ c0)).trans c0
              have k1 : wr.cell? ⟨(a.add (j * 3)).block, (a.add (j * 3)).off + 1, none⟩ = some (.string x.2.1) := by
                show wr.cell? ((a.add (j * 3)).add 1) = some (.string x.2.1)
                rw [add_of_add]
                exact (hbl5.cell (p := a.add (j * 3 + 1)) (hab _ _ c1)).trans c1
              have HTK : Hid (z.take (j + 1) = z.take j ++ [x]) := Lib.hid (by
                rw [List.take_add_one, hx]; rfl)
              have HG := Lib.hid (goodL_snoc (z.take j) x)
              have HAT := Lib.hid (goodL_at z j x hx)
              have CF := fun W hT => Frame_calls x.1 x.2.1 hxs W hT
              obtain ⟨kd, hkd⟩ : ∃ kd, x.1 = kd := ⟨_, rfl⟩
              obtain ⟨pl, hpl⟩ : ∃ pl, x.2.1 = pl := ⟨_, rfl⟩
              rw [hkd] at k0 HG HAT
              rw [hpl] at k1 HG HAT hxs
              simp only [hkd, hpl] at CF
              have hab0 : (a.add (j * 3)).block < w.heap.size := hab _ _ c0
              have hab1 : (a.add (j * 3)).block < wr.heap.size := Nat.lt_of_lt_of_le hab0 hbl5.size
              have hTd : Tab wr.drew := hT.below hbl5.drew
              obtain ⟨fe2, hfe⟩ : ∃ fe, (frameR kd pl.data.toList).2 = fe := ⟨_, rfl⟩
              obtain ⟨fs2, hfs⟩ : ∃ fs : ByteArray, (⟨(frameR kd pl.data.toList).1.toArray⟩ : ByteArray) = fs := ⟨_, rfl⟩
              simp only [hfe, hfs] at CF
              rw [hfe] at HG HAT
              have HFE2 := Lib.hid hfe
              have HCF2 := Lib.hid CF
              have hnl := HCT.out j
              clear c0 c1 hab hkd hpl hx CF hfe hfs
              by_cases he : fe2 = 0
              · subst he
                have hgat := HAT.out rfl
                rw [HGS.out] at hgat
                rw [if_pos rfl] at HG
                obtain ⟨m, hm⟩ : ∃ m, (goodL (z.take j)).length = m := ⟨_, rfl⟩
                have HK2 : Hid ((goodL (z.take (j + 1))).length = m + 1) := Lib.hid (by rw [HTK.out, HG.out, List.length_append, hm]; rfl)
                rw [hm] at hgat hnl
                rw [hm]
                have hml : m < gn := by rw [← HGN.out]; exact (List.getElem?_eq_some_iff.1 hgat).1
                obtain ⟨y, hy⟩ := HPL.out m _ hgat
                obtain ⟨x2, hx2, q0, q1, _⟩ := HPG.out m (by rw [hpgl.out]; exact hml)
                rw [hy] at hx2
                cases hx2
                obtain ⟨gg, rfl, _, hgg, hgc, _⟩ := HRC.out (by omega)
                obtain ⟨kx, hkx, _, _, _, _⟩ := frameR_is _ _ HFE2.out
                have hkn : ((kd.toNat : Nat) : Int) = kd := by omega
                have hpe : (⟨pl.data.toList.toArray⟩ : ByteArray) = pl := by simp
                simp only [hkn] at q0
                simp only [hpe] at q1
                have d0 := (hgc (m * 3) (by omega)).trans q0
                have d1 := (hgc (m * 3 + 1) (by omega)).trans q1
                have e0 := (hb5.cell (p := ⟨gg, m * 3, none⟩) hgg).trans d0
                have e1 := (hb5.cell (p := ⟨gg, m * 3 + 1, none⟩) hgg).trans d1
                clear hgat hm hy q0 q1 hgc d0 d1 hkx hkn hpe
                go_wp2
                go_region_held3 (fun W => W.cell? (a.add (j * 3)) = some (.int .i64 kd) ∧ W.cell? ⟨(a.add (j * 3)).block, (a.add (j * 3)).off + 1, none⟩ = some (.string pl)) (first | exact ⟨k0, k1⟩ | exact ⟨(hc1.cell (p := a.add (j * 3)) hab1).trans k0, (hc1.cell (p := ⟨(a.add (j * 3)).block, (a.add (j * 3)).off + 1, none⟩) hab1).trans k1⟩)
                  (first | (go_at_call 15; refine (HCF2.out _ hTd).mono ?_; rintro e w6 ⟨rfl, hc1⟩))
                have hc2 : Below wr.heap.size wr w6 := ⟨hc1.os, hc1.tape, hc1.output, hc1.size, hc1.block⟩
                have hbn := hb5.trans (hc2.mono hb5.size)
                have m0 := (hc2.cell (p := a.add (j * 3)) hab1).trans k0
                have m1 := (hc2.cell (p := ⟨(a.add (j * 3)).block, (a.add (j * 3)).off + 1, none⟩) hab1).trans k1
                have m2 := (hc2.cell (p := ⟨gg, m * 3, none⟩) (Nat.lt_of_lt_of_le hgg hb5.size)).trans e0
                have m3 := (hc2.cell (p := ⟨gg, m * 3 + 1, none⟩) (Nat.lt_of_lt_of_le hgg hb5.size)).trans e1
                clear k0 k1 e0 e1 hc1 hc2
                go_wp2
                go_quiet (fail)
                go_wp2
                go_roundw
                case rel => exact ⟨j + 1, by omega, by go_num, by rw [HK2.out]; go_num, below_drewN hbn _⟩
                case measure => simp [intOf]; omega
              · rw [if_neg he, List.append_nil] at HG
                have hne : (fe2 != 0) = true := by rw [bne_iff_ne]; exact he
                have HK2 : Hid ((goodL (z.take (j + 1))).length = (goodL (z.take j)).length) := Lib.hid (by rw [HTK.out, HG.out])
                clear he
                go_wp2
                go_region_held3 (fun W => W.cell? (a.add (j * 3)) = some (.int .i64 kd) ∧ W.cell? ⟨(a.add (j * 3)).block, (a.add (j * 3)).off + 1, none⟩ = some (.string pl)) (first | exact ⟨k0, k1⟩ | exact ⟨(hc1.cell (p := a.add (j * 3)) hab1).trans k0, (hc1.cell (p := ⟨(a.add (j * 3)).block, (a.add (j * 3)).off + 1, none⟩) hab1).trans k1⟩)
                  (first | (go_at_call 15; refine (HCF2.out _ hTd).mono ?_; rintro e w6 ⟨rfl, hc1⟩))
                have hc2 : Below wr.heap.size wr w6 := ⟨hc1.os, hc1.tape, hc1.output, hc1.size, hc1.block⟩
                have hbn := hb5.trans (hc2.mono hb5.size)
                go_wp2
                go_roundw
                case rel => exact ⟨j + 1, by omega, by go_num, by rw [HK2.out], hbn⟩
                case measure => simp [intOf]; omega
            · obtain rfl : j = k := by omega
              go_wp2
              go_ret
              exact ⟨rfl, hbl5⟩
        · have hc0 : cut = 0 := by omega
          have hs := (hB0.drew).toStr (P := Tryd.prog) 52 9 5 Tryd.underlying52 Tryd.underlying5 Tryd.underlying9 t.size cap2 rfl
          obtain ⟨tt, htt, httl⟩ : ∃ tt : ByteArray, (⟨t.data.toList.toArray⟩ : ByteArray) = tt ∧ tt.data.toList = t.data.toList := ⟨_, rfl, by simp⟩
          rw [htt] at hs
          have httz : tt.size ≤ 1048590 := by rw [size_data, httl]; show t.size ≤ _; rw [HTS.out]; omega
          have hte : t.data.toList = [] := by rw [HTL.out, hc0]; rfl
          have htt2 : Hid (∀ a, (parseAt a tt.data.toList).2.2.2 ≠ 0) := Lib.hid (by
            have := htorn.out
            rw [httl]
            rw [hte] at this ⊢
            exact this)
          have hbW : Below w.heap.size w (w2.alloc o).drew := (hb2.alloc hb2.size o).drew
          clear htt httl hte hB0 hc0
          have HTT : Hid (framesR (s ++ tt).data.toList = (placed 0 gs, s.size)) := Lib.hid (by
            rw [cat_data, HS.out, framesR_torn gs tt.data.toList HOK.out htt2.out, ← HS.out]; rfl)
          have hszt : (s ++ tt).size ≤ 4611686018427387904 := by rw [size_data, cat_data, List.length_append]; show s.size + tt.size ≤ _; omega
          have hnn : (framesR (s ++ tt).data.toList).1.length * 32 ≤ 140737488355328 := by rw [HTT.out, placed_length, HGN.out]; omega
          have CG := fun W hT => Frames_calls2 (s ++ tt) hszt hnn W hT
          simp only [HTT.out] at CG
          have HPL : Hid (∀ (i : Nat) (g : Nat × List UInt8), gs[i]? = some g → ∃ y, (placed 0 gs)[i]? = some ((g.1 : Int), g.2, y)) := Lib.hid (fun i g h => placed_get gs 0 i g h)
          have HPG := Lib.hid (encF_get (placed 0 gs))
          have hpgl : Hid ((placed 0 gs).length = gn) := Lib.hid (by rw [placed_length, HGN.out])
          obtain ⟨X, hX⟩ : ∃ X, encF (placed 0 gs) = X := ⟨_, rfl⟩
          rw [hX] at HPG
          simp only [hX, hpgl.out] at CG
          have HCG := Lib.hid CG
          clear CG hX hszt hnn htt2
          go_wp2_with fail
          refine (HCG.out _ (hT.below hbW)).mono ?_
          rintro e w4 ⟨vg, rfl, hrow, hb4⟩
          have hbw4 := hbW.trans (hb4.mono hbW.size)
          have hrd := hrow.lt
          obtain ⟨pg, cg, rfl, _, _, hrc⟩ := own_rd hrow
          have HRC := Lib.hid hrc
          have he1 : ((gn : Int) != (gn : Int)) = false := by simp
          have he2 : ((s.size : Int) != (s.size : Int)) = false := by simp
          clear hrow hrd hrc hb4 hbW
          go_wp2
          go_loopw [22, 23] (fun q i wr => ∃ j : Nat, j ≤ k ∧ i = .int .i64 j ∧ q = .int .i64 ((goodL (z.take j)).length : Nat) ∧ Below w4.heap.size w4 wr) (fun _ i _ => k - (intOf i).toNat)
          case atStart => exact ⟨0, Nat.zero_le _, rfl, rfl, Below.refl _ _⟩
          case round =>
            obtain ⟨j, hj, rfl, rfl, hb5⟩ := hrel
            have hbl5 := hbw4.trans (hb5.mono hbw4.size)
            by_cases hlt : j < k
            · obtain ⟨x, hx⟩ : ∃ x, z[j]? = some x := ⟨_, List.getElem?_eq_getElem (by rw [HLEN.out]; exact hlt)⟩
              obtain ⟨a, rfl, hxs, c0, c1⟩ := HP.out j x hx
              have hab : ∀ (j : Nat) v, w.cell? (a.add j) = some v → (a.add j).block < w.heap.size := fun j v h => by
                rcases Nat.lt_or_ge (a.add j).block w.heap.size with h' | h'
                · exact h'
                · simp [World.cell?, Array.getElem?_eq_none h'] at h
              have k0 := (hbl5.cell (p := a.add (j * 3)) (hab _ _ c0)).trans c0
              have k1 : wr.cell? ⟨(a.add (j * 3)).block, (a.add (j * 3)).off + 1, none⟩ = some (.string x.2.1) := by
                show wr.cell? ((a.add (j * 3)).add 1) = some (.string x.2.1)
                rw [add_of_add]
                exact (hbl5.cell (p := a.add (j * 3 + 1)) (hab _ _ c1)).trans c1
              have HTK : Hid (z.take (j + 1) = z.take j ++ [x]) := Lib.hid (by
                rw [List.take_add_one, hx]; rfl)
              have HG := Lib.hid (goodL_snoc (z.take j) x)
              have HAT := Lib.hid (goodL_at z j x hx)
              have CF := fun W hT => Frame_calls x.1 x.2.1 hxs W hT
              obtain ⟨kd, hkd⟩ : ∃ kd, x.1 = kd := ⟨_, rfl⟩
              obtain ⟨pl, hpl⟩ : ∃ pl, x.2.1 = pl := ⟨_, rfl⟩
              rw [hkd] at k0 HG HAT
              rw [hpl] at k1 HG HAT hxs
              simp only [hkd, hpl] at CF
              have hab0 : (a.add (j * 3)).block < w.heap.size := hab _ _ c0
              have hab1 : (a.add (j * 3)).block < wr.heap.size := Nat.lt_of_lt_of_le hab0 hbl5.size
              have hTd : Tab wr.drew := hT.below hbl5.drew
              obtain ⟨fe2, hfe⟩ : ∃ fe, (frameR kd pl.data.toList).2 = fe := ⟨_, rfl⟩
              obtain ⟨fs2, hfs⟩ : ∃ fs : ByteArray, (⟨(frameR kd pl.data.toList).1.toArray⟩ : ByteArray) = fs := ⟨_, rfl⟩
              simp only [hfe, hfs] at CF
              rw [hfe] at HG HAT
              have HFE2 := Lib.hid hfe
              have HCF2 := Lib.hid CF
              have hnl := HCT.out j
              clear c0 c1 hab hkd hpl hx CF hfe hfs
              by_cases he : fe2 = 0
              · subst he
                have hgat := HAT.out rfl
                rw [HGS.out] at hgat
                rw [if_pos rfl] at HG
                obtain ⟨m, hm⟩ : ∃ m, (goodL (z.take j)).length = m := ⟨_, rfl⟩
                have HK2 : Hid ((goodL (z.take (j + 1))).length = m + 1) := Lib.hid (by rw [HTK.out, HG.out, List.length_append, hm]; rfl)
                rw [hm] at hgat hnl
                rw [hm]
                have hml : m < gn := by rw [← HGN.out]; exact (List.getElem?_eq_some_iff.1 hgat).1
                obtain ⟨y, hy⟩ := HPL.out m _ hgat
                obtain ⟨x2, hx2, q0, q1, _⟩ := HPG.out m (by rw [hpgl.out]; exact hml)
                rw [hy] at hx2
                cases hx2
                obtain ⟨gg, rfl, _, hgg, hgc, _⟩ := HRC.out (by omega)
                obtain ⟨kx, hkx, _, _, _, _⟩ := frameR_is _ _ HFE2.out
                have hkn : ((kd.toNat : Nat) : Int) = kd := by omega
                have hpe : (⟨pl.data.toList.toArray⟩ : ByteArray) = pl := by simp
                simp only [hkn] at q0
                simp only [hpe] at q1
                have d0 := (hgc (m * 3) (by omega)).trans q0
                have d1 := (hgc (m * 3 + 1) (by omega)).trans q1
                have e0 := (hb5.cell (p := ⟨gg, m * 3, none⟩) hgg).trans d0
                have e1 := (hb5.cell (p := ⟨gg, m * 3 + 1, none⟩) hgg).trans d1
                clear hgat hm hy q0 q1 hgc d0 d1 hkx hkn hpe
                go_wp2
                go_region_held3 (fun W => W.cell? (a.add (j * 3)) = some (.int .i64 kd) ∧ W.cell? ⟨(a.add (j * 3)).block, (a.add (j * 3)).off + 1, none⟩ = some (.string pl)) (first | exact ⟨k0, k1⟩ | exact ⟨(hc1.cell (p := a.add (j * 3)) hab1).trans k0, (hc1.cell (p := ⟨(a.add (j * 3)).block, (a.add (j * 3)).off + 1, none⟩) hab1).trans k1⟩)
                  (first | (go_at_call 15; refine (HCF2.out _ hTd).mono ?_; rintro e w6 ⟨rfl, hc1⟩))
                have hc2 : Below wr.heap.size wr w6 := ⟨hc1.os, hc1.tape, hc1.output, hc1.size, hc1.block⟩
                have hbn := hb5.trans (hc2.mono hb5.size)
                have m0 := (hc2.cell (p := a.add (j * 3)) hab1).trans k0
                have m1 := (hc2.cell (p := ⟨(a.add (j * 3)).block, (a.add (j * 3)).off + 1, none⟩) hab1).trans k1
                have m2 := (hc2.cell (p := ⟨gg, m * 3, none⟩) (Nat.lt_of_lt_of_le hgg hb5.size)).trans e0
                have m3 := (hc2.cell (p := ⟨gg, m * 3 + 1, none⟩) (Nat.lt_of_lt_of_le hgg hb5.size)).trans e1
                clear k0 k1 e0 e1 hc1 hc2
                go_wp2
                go_quiet (fail)
                go_wp2
                go_roundw
                case rel => exact ⟨j + 1, by omega, by go_num, by rw [HK2.out]; go_num, below_drewN hbn _⟩
                case measure => simp [intOf]; omega
              · rw [if_neg he, List.append_nil] at HG
                have hne : (fe2 != 0) = true := by rw [bne_iff_ne]; exact he
                have HK2 : Hid ((goodL (z.take (j + 1))).length = (goodL (z.take j)).length) := Lib.hid (by rw [HTK.out, HG.out])
                clear he
                go_wp2
                go_region_held3 (fun W => W.cell? (a.add (j * 3)) = some (.int .i64 kd) ∧ W.cell? ⟨(a.add (j * 3)).block, (a.add (j * 3)).off + 1, none⟩ = some (.string pl)) (first | exact ⟨k0, k1⟩ | exact ⟨(hc1.cell (p := a.add (j * 3)) hab1).trans k0, (hc1.cell (p := ⟨(a.add (j * 3)).block, (a.add (j * 3)).off + 1, none⟩) hab1).trans k1⟩)
                  (first | (go_at_call 15; refine (HCF2.out _ hTd).mono ?_; rintro e w6 ⟨rfl, hc1⟩))
                have hc2 : Below wr.heap.size wr w6 := ⟨hc1.os, hc1.tape, hc1.output, hc1.size, hc1.block⟩
                have hbn := hb5.trans (hc2.mono hb5.size)
                go_wp2
                go_roundw
                case rel => exact ⟨j + 1, by omega, by go_num, by rw [HK2.out], hbn⟩
                case measure => simp [intOf]; omega
            · obtain rfl : j = k := by omega
              go_wp2
              go_ret
              exact ⟨rfl, hbl5⟩
      · have hne : (fe != 0) = true := by rw [bne_iff_ne]; exact he
        have hse : fs.size = 0 := by
          rw [size_data, HFL.out]
          have h := HFE.out
          unfold frameR at h ⊢
          split
          · rfl
          · split
            · rfl
            · rename_i h1 h2
              rw [if_neg h1, if_neg h2] at h
              exact absurd h.symm he
        have hne1 : ((fs.size : Int) != 1) = true := by rw [hse]; rfl
        have HSE := Lib.hid hse
        clear he hse
        go_wp2_with fail
        refine HCF.out.mono ?_
        rintro e w2 ⟨rfl, hc1⟩
        go_wp2
        go_ret
        exact ⟨by simp [HSE.out], hbl.trans (hc1.mono hbl.size)⟩
end Go.Proofs.YtebbmifpidbdlaaDoor
