/-
  WALKS of laws on sums and frames: sums go on; what is taken is a frame.
-/
import Derived.Test.YtebbmifpidbdlaaDoorParse
import Derived.Test.YtebbmifpidbdlaaDoorSealP
namespace Go.Proofs.YtebbmifpidbdlaaDoor
open Go.RowKit
set_option linter.unusedVariables false

theorem parseR_frame (x : List UInt8) (k : Nat) (p y : List UInt8) (hk : 1 ≤ k) (hk2 : k ≤ 255) (hp : p.length ≤ 65536) :
    parseR (x ++ (frameB k p ++ y)) x.length = ((k : Int), p, ((x.length + p.length + 14 : Nat) : Int), 0) := by
  unfold parseR
  rw [if_neg (by simp; omega), Int.toNat_natCast, List.drop_left, parse_frame _ _ _ _ hk hk2 hp]

set_option maxRecDepth 100000 in
set_option maxHeartbeats 4000000 in
theorem begun_calls (w : World) (hT : Tab w) :
    Calls Tryd.prog 23 #[] w fun e w' => e = .returned (.bool true) ∧ Below w.heap.size w w' := by
  have hfr : frameR 3 [97, 98, 99] = (frameB 3 [97, 98, 99], 0) := rfl
  have hsum : Crc.on 0 [49, 50, 51, 52, 53, 54, 55, 56, 57] = 3808858755 := by decide +kernel
  have cfr := fun W : World => fun h => Frame_calls 3 ⟨#[97, 98, 99]⟩ (by decide) W h
  simp only [hfr] at cfr
  have CFR := Lib.hid cfr
  have csm := fun W : World => fun h => Sum_calls ⟨#[49, 50, 51, 52, 53, 54, 55, 56, 57]⟩ (by decide) W h
  simp only [hsum] at csm
  have CSM := Lib.hid csm
  clear cfr csm hfr hsum
  go_enter Tryd.func23, Tryd.ntmps23
  go_wp2_with fail
  refine (CFR.out w hT).mono ?_
  rintro e w1 ⟨rfl, hb1⟩
  obtain ⟨s, hs, hsd, hsz⟩ := name_str (frameB 3 [97, 98, 99])
  rw [hs]
  have hsz17 : s.size = 17 := by rw [hsz]; rfl
  have hpr : parseR s.data.toList 0 = (3, [97, 98, 99], 17, 0) := by
    have := parseR_frame [] 3 [97, 98, 99] [] (by omega) (by omega) (by decide)
    rw [hsd]; simpa using this
  have hT1 := hT.below hb1
  have cpa := fun W : World => fun h => Parse_calls s (by omega) 0 W h
  simp only [hpr] at cpa
  have CPA := Lib.hid cpa
  have HSZ := Lib.hid hsz17
  clear hs hsd hsz hpr cpa hsz17
  go_wp2_with fail
  refine (CPA.out w1 hT1).mono ?_
  rintro e w2 ⟨rfl, hb2⟩
  have hbl := hb1.trans (hb2.mono hb1.size)
  have hT2 := hT.below hbl
  have hls : ((17 : Int) == (s.size : Int)) = true := by rw [HSZ.out]; rfl
  have hss : ((⟨#[97, 98, 99]⟩ : ByteArray).toList == (⟨#[97, 98, 99]⟩ : ByteArray).toList) = true := by simp
  go_wp2_with fail
  refine (CSM.out w2 hT2).mono ?_
  rintro e w3 ⟨rfl, rfl⟩
  go_wp2
  go_ret
  exact ⟨rfl, hbl⟩

set_option maxRecDepth 100000 in
set_option maxHeartbeats 4000000 in
theorem SealJoins_walk (a0 : ByteArray) (s0 : a0.size ≤ 140737488351232) (a1 : ByteArray) (s1 : a1.size ≤ 140737488351232) (w : World) (hL : TabLaid w) :
    Calls Tryd.prog 7 #[.string a0, .string a1] w fun e w' => e = .returned (.bool true) ∧ Below w.heap.size w w' := by
  have hT := tab_of_laid hL
  clear hL
  have hsz : (a0 ++ a1).size = a0.size + a1.size := ByteArray.size_append
  have HSZ := Lib.hid hsz
  clear hsz
  have h1 := Crc.on_on 0 a0.data.toList a1.data.toList
  have hl := Crc.on_lt 0 a0.data.toList (by decide)
  obtain ⟨x, hx⟩ : ∃ x, Crc.on 0 a0.data.toList = x := ⟨_, rfl⟩
  obtain ⟨y, hy⟩ : ∃ y, Crc.on 0 (a0.data.toList ++ a1.data.toList) = y := ⟨_, rfl⟩
  have c1 := fun W h => Sum_calls a0 (by omega) W h
  have c2 := fun W h => Sum_calls (a0 ++ a1) (by rw [HSZ.out]; omega) W h
  have c3 := fun W h => On_calls x (by rw [← hx]; exact hl) a1 (by omega) W h
  have c4 := fun W h => On_calls 0 (by decide) (a0 ++ a1) (by rw [HSZ.out]; omega) W h
  simp only [cat_data] at c2 c4
  rw [hx] at h1
  rw [hy] at h1
  simp only [hx] at c1
  simp only [hy] at c2 c4
  simp only [h1] at c3
  have C1 := Lib.hid c1
  have C2 := Lib.hid c2
  have C3 := Lib.hid c3
  have C4 := Lib.hid c4
  clear c1 c2 c3 c4 h1 hl hx hy
  go_enter Tryd.func7, Tryd.ntmps7
  go_wp2_with fail
  refine (begun_calls w hT).mono ?_
  rintro e w1 ⟨rfl, hb1⟩
  have hT1 := hT.below hb1
  go_wp2_with fail
  refine (C2.out w1 hT1).mono ?_
  rintro e w2 ⟨rfl, rfl⟩
  go_wp2_with fail
  refine (C1.out w1 hT1).mono ?_
  rintro e w2 ⟨rfl, rfl⟩
  go_wp2_with fail
  refine (C3.out w1 hT1).mono ?_
  rintro e w2 ⟨rfl, rfl⟩
  go_wp2_with fail
  refine (C4.out w1 hT1).mono ?_
  rintro e w2 ⟨rfl, rfl⟩
  go_wp2
  go_ret
  exact ⟨by simp, hb1⟩

/-- What Parse tells of a frame that stands there. -/
theorem parseR_only (b : List UInt8) (at_ : Int) (x : Int × List UInt8 × Int × Int) (h : parseR b at_ = x) (h0 : x.2.2.2 = 0) :
    ∃ (a k : Nat), at_ = a ∧ a ≤ b.length ∧ 1 ≤ k ∧ k ≤ 255 ∧ x.1 = (k : Int) ∧ x.2.1.length ≤ 65536 ∧ x.2.2.1 = ((a + x.2.1.length + 14 : Nat) : Int) ∧
      (b.drop a).take (x.2.1.length + 14) = frameB k x.2.1 ∧ a + x.2.1.length + 14 ≤ b.length := by
  unfold parseR at h
  by_cases c : at_ < 0 ∨ (b.length : Int) < at_
  · rw [if_pos c] at h; subst h; cases h0
  rw [if_neg c] at h
  obtain ⟨k, g1, g2, g3, g4, g5, g6, g7⟩ := parse_only _ _ x h h0
  refine ⟨at_.toNat, k, by omega, by omega, g1, g2, g3, g4, g5, g6, ?_⟩
  simp at g7; omega
theorem frameR_ok (k : Nat) (p : List UInt8) (h1 : 1 ≤ k) (h2 : k ≤ 255) (h3 : p.length ≤ 65536) : frameR k p = (frameB k p, 0) := by
  unfold frameR; rw [if_neg (by omega), if_neg (by omega)]; rfl
theorem frameR_is (kind : Int) (p : List UInt8) (h : (frameR kind p).2 = 0) : ∃ k : Nat, kind = k ∧ 1 ≤ k ∧ k ≤ 255 ∧ p.length ≤ 65536 ∧ frameR kind p = (frameB k p, 0) := by
  unfold frameR at h ⊢
  by_cases c : kind < 1 ∨ 255 < kind
  · rw [if_pos c] at h; cases h
  rw [if_neg c] at h ⊢
  by_cases c2 : 65536 < p.length
  · rw [if_pos c2] at h; cases h
  rw [if_neg c2]
  exact ⟨kind.toNat, by omega, by omega, by omega, by omega, rfl⟩

set_option maxRecDepth 100000 in
set_option maxHeartbeats 4000000 in
theorem SealOnly_walk (a0 : ByteArray) (s0 : a0.size ≤ 140737488351232) (a1 : Int) (w1 : (Lit.int .i64 a1).wf = true) (a2 : Int) (w2 : (Lit.int .i64 a2).wf = true) (a3 : ByteArray) (s3 : a3.size ≤ 140737488351232) (w : World) (hL : TabLaid w) :
    Calls Tryd.prog 9 #[.string a0, .int .i64 a1, .int .i64 a2, .string a3] w fun e w' => e = .returned (.bool true) ∧ Below w.heap.size w w' := by
  have hT := tab_of_laid hL
  clear hL w1 w2
  have cpa := fun W h => Parse_calls a0 (by omega) a1 W h
  obtain ⟨X, hX⟩ : ∃ X, parseR a0.data.toList a1 = X := ⟨_, rfl⟩
  have honly := parseR_only _ _ X hX
  simp only [hX] at cpa
  have CPA := Lib.hid cpa
  clear cpa hX
  obtain ⟨k, p, nx, er⟩ := X
  -- the frame of the second pair
  have cf2 := fun W h => Frame_calls a2 a3 s3 W h
  obtain ⟨Y, hY⟩ : ∃ Y, frameR a2 a3.data.toList = Y := ⟨_, rfl⟩
  have hok2 := frameR_is a2 a3.data.toList
  simp only [hY] at cf2 hok2
  have CF2 := Lib.hid cf2
  clear cf2 hY
  obtain ⟨f, er2⟩ := Y
  simp only at hok2 honly
  by_cases herr : er = 0
  · obtain ⟨a, k', rfl, ha, hk1, hk2, rfl, hp, rfl, hfr, hle⟩ := honly herr
    have hlen0 : a0.data.toList.length = a0.size := rfl
    rw [hlen0] at ha hle
    obtain ⟨pb, hpb, hpbd, hpbz⟩ := name_str p
    have cf1 := fun W h => Frame_calls (k' : Int) pb (by rw [hpbz]; omega) W h
    simp only [hpbd, frameR_ok k' p hk1 hk2 hp] at cf1
    have CF1 := Lib.hid cf1
    obtain ⟨s, hs, hsd, hsz⟩ := name_str (frameB k' p)
    rw [frameB_length] at hsz
    have hcut : a0.extract a (a + p.length + 14) = s := by
      rw [← hs]
      apply str_of_data
      rw [← hfr]
      simp only [ByteArray.data_extract, Array.toList_extract]
      show List.take (a + p.length + 14 - a) (List.drop a a0.data.toList) = _
      rw [show a + p.length + 14 - a = p.length + 14 by omega]
    have hsl : ∀ W : World, (Instr.slice 9 (.string a0) (some (.int .i64 (a : Int))) (some (.int .i64 ((a + p.length + 14 : Nat) : Int))) none).run Tryd.prog W = .ok (.string s) W := by
      intro W
      rw [run_slice_string (P := Tryd.prog) W 9 a0 .i64 .i64 (a : Int) ((a + p.length + 14 : Nat) : Int) Tryd.underlying9 (by omega) (by omega) (by omega), Int.toNat_natCast, Int.toNat_natCast, hcut]
    obtain ⟨nx, hnx⟩ : ∃ nx, a + p.length + 14 = nx := ⟨_, rfl⟩
    rw [hnx] at CPA hsl hle
    have hsub : (((nx : Int) - (a : Int)) != (s.size : Int)) = false := by rw [bne_eq_false_iff_eq, hsz]; omega
    have hnxa : (a : Int) ≤ (nx : Int) := by omega
    rw [hpb] at CPA
    subst herr
    clear cf1 hpb hpbd hpbz hsd hsz hcut hfr honly hnx
    by_cases herr2 : er2 = 0
    · obtain ⟨k2, rfl, hj1, hj2, hj3, hf2⟩ := hok2 herr2
      have hfe : f = frameB k2 a3.data.toList := by injection hf2
      obtain ⟨s2, hs2, hsd2, hsz2⟩ := name_str f
      have hlen3 : a3.data.toList.length = a3.size := rfl
      rw [hlen3] at hj3
      have hsz2' : s2.size = a3.size + 14 := by rw [hsz2, hfe, frameB_length, hlen3]
      have hcat : (a0 ++ s2 ++ a0).size = a0.size + s2.size + a0.size := by rw [ByteArray.size_append, ByteArray.size_append]
      have cp2 := fun W h => Parse_calls (a0 ++ s2 ++ a0) (by omega) (a0.size : Int) W h
      have hpr : parseR (a0 ++ s2 ++ a0).data.toList (a0.size : Int) = ((k2 : Int), a3.data.toList, ((a0.size + a3.size + 14 : Nat) : Int), 0) := by
        have := parseR_frame a0.data.toList k2 a3.data.toList a0.data.toList hj1 hj2 hj3
        rw [cat_data, cat_data, hsd2, hfe, List.append_assoc]; exact this
      simp only [hpr, ← str_of_data (a := a3) rfl] at cp2
      have CP2 := Lib.hid cp2
      have hm : (((a0.size + a3.size + 14 : Nat) : Int) == (a0.size : Int) + (s2.size : Int)) = true := by rw [beq_iff_eq]; omega
      have hs2b : s2.size ≤ 65550 := by omega
      have hs2c : a3.size + 14 ≤ s2.size := by omega
      have hs2d : s2.size ≤ a3.size + 14 := by omega
      rw [hs2] at CF2
      subst herr2
      clear hok2 hf2 hfe hs2 hsd2 hsz2 hlen3 hsz2' hcat cp2 hpr
      go_enter Tryd.func9, Tryd.ntmps9
      go_wp2_with fail
      refine (begun_calls w hT).mono ?_
      rintro e u1 ⟨rfl, hb1⟩
      go_wp2_with fail
      refine (CPA.out u1 (hT.below hb1)).mono ?_
      rintro e u2 ⟨rfl, hb2⟩
      have hbl2 := hb1.trans (hb2.mono hb1.size)
      clear hb1 hb2
      go_wp2_with fail
      refine (CF1.out u2 (hT.below hbl2)).mono ?_
      rintro e u3 ⟨rfl, hb3⟩
      rw [hs]
      have hbl3 := hbl2.trans (hb3.mono hbl2.size)
      clear hb3
      go_wp2_with fail
      refine (CF2.out u3 (hT.below hbl3)).mono ?_
      rintro e u4 ⟨rfl, hb4⟩
      have hbl4 := hbl3.trans (hb4.mono hbl3.size)
      clear hb4
      go_wp2_with fail
      refine (CP2.out u4 (hT.below hbl4)).mono ?_
      rintro e u5 ⟨rfl, hb5⟩
      have hbl5 := hbl4.trans (hb5.mono hbl4.size)
      go_wp2
      go_ret
      exact ⟨by simp; omega, hbl5⟩
    · have herr2' : (er2 != 0) = true := by rw [bne_iff_ne]; exact herr2
      clear hok2
      go_enter Tryd.func9, Tryd.ntmps9
      go_wp2_with fail
      refine (begun_calls w hT).mono ?_
      rintro e u1 ⟨rfl, hb1⟩
      go_wp2_with fail
      refine (CPA.out u1 (hT.below hb1)).mono ?_
      rintro e u2 ⟨rfl, hb2⟩
      have hbl2 := hb1.trans (hb2.mono hb1.size)
      clear hb1 hb2
      go_wp2_with fail
      refine (CF1.out u2 (hT.below hbl2)).mono ?_
      rintro e u3 ⟨rfl, hb3⟩
      rw [hs]
      have hbl3 := hbl2.trans (hb3.mono hbl2.size)
      clear hb3
      go_wp2_with fail
      refine (CF2.out u3 (hT.below hbl3)).mono ?_
      rintro e u4 ⟨rfl, hb4⟩
      have hbl4 := hbl3.trans (hb4.mono hbl3.size)
      go_wp2
      go_ret
      exact ⟨rfl, hbl4⟩
  · have herr' : (er != 0) = true := by rw [bne_iff_ne]; exact herr
    have herr'' : (er == 0) = false := by rw [beq_eq_false_iff_ne]; exact herr
    clear honly
    by_cases herr2 : er2 = 0
    · obtain ⟨k2, rfl, hj1, hj2, hj3, hf2⟩ := hok2 herr2
      have hfe : f = frameB k2 a3.data.toList := by injection hf2
      obtain ⟨s2, hs2, hsd2, hsz2⟩ := name_str f
      have hlen3 : a3.data.toList.length = a3.size := rfl
      rw [hlen3] at hj3
      have hsz2' : s2.size = a3.size + 14 := by rw [hsz2, hfe, frameB_length, hlen3]
      have hcat : (a0 ++ s2 ++ a0).size = a0.size + s2.size + a0.size := by rw [ByteArray.size_append, ByteArray.size_append]
      have cp2 := fun W h => Parse_calls (a0 ++ s2 ++ a0) (by omega) (a0.size : Int) W h
      have hpr : parseR (a0 ++ s2 ++ a0).data.toList (a0.size : Int) = ((k2 : Int), a3.data.toList, ((a0.size + a3.size + 14 : Nat) : Int), 0) := by
        have := parseR_frame a0.data.toList k2 a3.data.toList a0.data.toList hj1 hj2 hj3
        rw [cat_data, cat_data, hsd2, hfe, List.append_assoc]; exact this
      simp only [hpr, ← str_of_data (a := a3) rfl] at cp2
      have CP2 := Lib.hid cp2
      have hm : (((a0.size + a3.size + 14 : Nat) : Int) == (a0.size : Int) + (s2.size : Int)) = true := by rw [beq_iff_eq]; omega
      have hs2b : s2.size ≤ 65550 := by omega
      have hs2c : a3.size + 14 ≤ s2.size := by omega
      have hs2d : s2.size ≤ a3.size + 14 := by omega
      rw [hs2] at CF2
      subst herr2
      clear hok2 hf2 hfe hs2 hsd2 hsz2 hlen3 hsz2' hcat cp2 hpr
      go_enter Tryd.func9, Tryd.ntmps9
      go_wp2_with fail
      refine (begun_calls w hT).mono ?_
      rintro e u1 ⟨rfl, hb1⟩
      go_wp2_with fail
      refine (CPA.out u1 (hT.below hb1)).mono ?_
      rintro e u2 ⟨rfl, hb2⟩
      have hbl2 := hb1.trans (hb2.mono hb1.size)
      clear hb1 hb2
      go_wp2_with fail
      refine (CF2.out u2 (hT.below hbl2)).mono ?_
      rintro e u4 ⟨rfl, hb4⟩
      have hbl4 := hbl2.trans (hb4.mono hbl2.size)
      clear hb4
      go_wp2_with fail
      refine (CP2.out u4 (hT.below hbl4)).mono ?_
      rintro e u5 ⟨rfl, hb5⟩
      have hbl5 := hbl4.trans (hb5.mono hbl4.size)
      go_wp2
      go_ret
      exact ⟨by simp; omega, hbl5⟩
    · have herr2' : (er2 != 0) = true := by rw [bne_iff_ne]; exact herr2
      clear hok2
      go_enter Tryd.func9, Tryd.ntmps9
      go_wp2_with fail
      refine (begun_calls w hT).mono ?_
      rintro e u1 ⟨rfl, hb1⟩
      go_wp2_with fail
      refine (CPA.out u1 (hT.below hb1)).mono ?_
      rintro e u2 ⟨rfl, hb2⟩
      have hbl2 := hb1.trans (hb2.mono hb1.size)
      clear hb1 hb2
      go_wp2_with fail
      refine (CF2.out u2 (hT.below hbl2)).mono ?_
      rintro e u4 ⟨rfl, hb4⟩
      have hbl4 := hbl2.trans (hb4.mono hbl2.size)
      go_wp2
      go_ret
      exact ⟨rfl, hbl4⟩

end Go.Proofs.YtebbmifpidbdlaaDoor
