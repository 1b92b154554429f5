/-
  WALKS: taking a frame out of a text.
-/
import Derived.Test.YtebbmifpidbdlaaDoorFrame
import Derived.Test.YtebbmifpidbdlaaDoorParseP
import Derived.Deep.QuietTactic
import Derived.BigQuiet
import Derived.IntWalk
namespace Go.Proofs.YtebbmifpidbdlaaDoor
open Go.RowKit
set_option linter.unusedVariables false

set_option maxHeartbeats 2000000 in
/-- The closure 'next': takes n bytes away from what is left. -/
theorem next_calls (n : Nat) (B : Nat) (l : ByteArray) (w : World) (hn : n ≤ l.size) (hl : l.size ≤ 9223372036854775807) (hc : w.cell? ⟨B, 0, none⟩ = some (.string l)) (hf : w.frozen? ⟨B, 0, none⟩ = false) :
    Calls Tryd.prog 29 #[.int .i64 n, .pointer (some ⟨B, 0, none⟩)] w fun e w' => e = .returned (.string (l.extract 0 n)) ∧ w.setCell ⟨B, 0, none⟩ (.string (l.extract n l.size)) = w' := by
  go_enter Tryd.func29, Tryd.ntmps29
  go_wp2
  go_ret
  exact ⟨rfl, rfl⟩

set_option maxRecDepth 100000 in
set_option maxHeartbeats 4000000 in
theorem Parse_calls (b : ByteArray) (hb : b.size ≤ 4611686018427387904) (at_ : Int) (w : World) (hT : Tab w) :
    Calls Tryd.prog 17 #[.string b, .int .i64 at_] w fun e w' => e = .returned (.tuple #[.int .i64 (parseR b.data.toList at_).1, .string ⟨(parseR b.data.toList at_).2.1.toArray⟩, .int .i64 (parseR b.data.toList at_).2.2.1, .int .i64 (parseR b.data.toList at_).2.2.2]) ∧ Below w.heap.size w w' := by
  have hlen : b.data.toList.length = b.size := by simp
  by_cases ha : at_ < 0
  · have hp : parseR b.data.toList at_ = (0, [], 0, 13) := by unfold parseR; rw [if_pos (by omega)]
    rw [hp]
    clear hp hlen
    go_enter Tryd.func17, Tryd.ntmps17
    go_wp2
    refine bodyPost_ret (results_tmp4 rfl _ _ _) rfl ?_
    exact ⟨rfl, Below.refl _ _⟩
  by_cases hl : (b.size : Int) < at_
  · have hp : parseR b.data.toList at_ = (0, [], 0, 13) := by unfold parseR; rw [if_pos (by omega)]
    rw [hp]
    clear hp hlen
    go_enter Tryd.func17, Tryd.ntmps17
    go_wp2
    refine bodyPost_ret (results_tmp4 rfl _ _ _) rfl ?_
    exact ⟨rfl, Below.refl _ _⟩
  obtain ⟨a, rfl⟩ := Int.eq_ofNat_of_zero_le (show 0 ≤ at_ by omega)
  have hp : parseR b.data.toList a = parseAt a (b.data.toList.drop a) := by unfold parseR; rw [if_neg (by omega)]; rfl
  rw [hp]
  clear hp hlen
  obtain ⟨r, hr, hrd, hrz⟩ := name_cut b a b.size (by omega) (by omega)
  rw [show b.data.toList.drop a = r.data.toList by rw [hrd, List.take_of_length_le (by simp)]]
  have hrb : r.size ≤ b.size := by omega
  have hra : b.size = a + r.size := by omega
  have HRA := Lib.hid hra
  clear hrd hrz hra
  by_cases h0 : r.size = 0
  · have hpa : parseAt a r.data.toList = (0, [], 0, 31) := by
      unfold parseAt; rw [if_pos (List.eq_nil_of_length_eq_zero h0)]
    rw [hpa]
    clear hpa
    have he : r.toList.isEmpty = true := by rw [ByteArray.toList_eq, List.isEmpty_iff]; exact List.eq_nil_of_length_eq_zero h0
    clear h0
    go_enter Tryd.func17, Tryd.ntmps17
    go_wp2
    refine bodyPost_ret (results_tmp4 rfl _ _ _) rfl ?_
    exact ⟨rfl, (Below.refl _ _).alloc (Nat.le_refl _) _⟩
  have h0' : 0 < r.size := by omega
  have he : r.toList.isEmpty = false := by
    rw [ByteArray.toList_eq, List.isEmpty_eq_false_iff]; intro h; rw [size_data, h] at h0; exact h0 rfl
  have hne : ¬ r.data.toList = [] := by intro h; rw [size_data, h] at h0; exact h0 rfl
  have hg0 : r.data.toList.getD 0 0 = r[0] := by simp [List.getD, h0']; rfl
  clear h0
  by_cases hm : r[0].toNat ≠ 167
  · have hpa : parseAt a r.data.toList = (0, [], 0, 33) := by
      unfold parseAt; rw [if_neg hne, hg0, if_pos hm]
    rw [hpa]
    clear hpa
    have hm' : ((r[0].toNat : Int) != 167) = true := by rw [bne_iff_ne]; omega
    clear hm hne hg0
    go_enter Tryd.func17, Tryd.ntmps17
    go_wp2
    refine bodyPost_ret (results_tmp4 rfl _ _ _) rfl ?_
    exact ⟨rfl, (Below.refl _ _).alloc (Nat.le_refl _) _⟩
  have hm' : ((r[0].toNat : Int) != 167) = false := by rw [bne_eq_false_iff_eq]; omega
  by_cases h10 : r.size < 10
  · have hpa : parseAt a r.data.toList = (0, [], 0, 31) := by
      unfold parseAt; rw [if_neg hne, hg0, if_neg hm, if_pos (show r.data.toList.length < 10 from h10)]
    rw [hpa]
    clear hpa hm hne hg0
    go_enter Tryd.func17, Tryd.ntmps17
    go_wp2
    refine bodyPost_ret (results_tmp4 rfl _ _ _) rfl ?_
    exact ⟨rfl, (Below.refl _ _).alloc (Nat.le_refl _) _⟩
  obtain ⟨h, hh, hhd, hhz⟩ := name_cut r 0 6 (by omega) (by omega)
  obtain ⟨r6, hr6, hr6d, hr6z⟩ := name_cut r 6 r.size (by omega) (by omega)
  obtain ⟨s1, hs1, hs1d, hs1z⟩ := name_cut r6 0 4 (by omega) (by omega)
  obtain ⟨r10, hr10, hr10d, hr10z⟩ := name_cut r6 4 r6.size (by omega) (by omega)
  obtain ⟨sm, hsm, hsmd, hsmz⟩ := name_str (sumB h.data.toList)
  simp only [List.drop_zero, Nat.sub_zero] at hhd hhz hs1d hs1z
  rw [List.take_of_length_le (by simp)] at hr6d
  rw [List.take_of_length_le (by simp), hr6d, List.drop_drop] at hr10d
  rw [hr6d] at hs1d
  have hpa : parseAt a r.data.toList = if s1.data.toList ≠ sm.data.toList then (0, [], 0, 34)
      else if (r.data.toList.getD 1 0).toNat = 0 then (0, [], 0, 35)
      else if 65536 < numB 0 ((r.data.toList.drop 2).take 4) then (0, [], 0, 36)
      else if r.data.toList.length < numB 0 ((r.data.toList.drop 2).take 4) + 14 then (0, [], 0, 31)
      else if (r.data.toList.drop (10 + numB 0 ((r.data.toList.drop 2).take 4))).take 4 ≠ sumB (h.data.toList ++ (r.data.toList.drop 10).take (numB 0 ((r.data.toList.drop 2).take 4))) then (0, [], 0, 34)
      else (((r.data.toList.getD 1 0).toNat : Int), (r.data.toList.drop 10).take (numB 0 ((r.data.toList.drop 2).take 4)), ((a + numB 0 ((r.data.toList.drop 2).take 4) + 14 : Nat) : Int), 0) := by
    unfold parseAt
    rw [if_neg hne, hg0, if_neg hm, if_neg (show ¬ r.data.toList.length < 10 from h10), hs1d, hsmd, hhd]
  have HPA := Lib.hid hpa
  obtain ⟨R, hR⟩ : ∃ R, parseAt a r.data.toList = R := ⟨_, rfl⟩
  rw [hR] at HPA ⊢
  obtain ⟨n, hn⟩ : ∃ n, numB 0 ((r.data.toList.drop 2).take 4) = n := ⟨_, rfl⟩
  rw [hn] at HPA
  have hnb : n < 4294967296 := by
    have h1 := numB_lt ((r.data.toList.drop 2).take 4)
    have h2 : ((r.data.toList.drop 2).take 4).length = 4 := by simp; omega
    rw [h2, hn] at h1; exact h1
  have hfix : fixR h 2 4 = (n, 0) := by
    unfold fixR
    rw [if_neg (by omega), if_neg (by omega), ← hn, hhd]
    congr 2
    simp [List.drop_take, List.take_take]
  have hh1 : 1 < h.size := by omega
  have hk1 : r.data.toList.getD 1 0 = h[1]'hh1 := by
    have e : h.data.toList.getD 1 0 = h[1]'hh1 := by simp [List.getD, hh1]; rfl
    rw [← e, hhd]
    simp [List.getD]
  rw [hk1] at HPA
  have HFIX := Lib.hid hfix
  clear hn hfix hk1
  have hB : (w.alloc (.cells #[.string r] 9)).cell? ⟨w.heap.size, 0, none⟩ = some (.string r) := by simp
  have hF : (w.alloc (.cells #[.string r] 9)).frozen? ⟨w.heap.size, 0, none⟩ = false := by simp
  have hbl : Below w.heap.size w (w.alloc (.cells #[.string r] 9)) := (Below.refl _ _).alloc (Nat.le_refl _) _
  have HHD := Lib.hid hhd
  have HR6D := Lib.hid hr6d
  have HS1D := Lib.hid hs1d
  have HR10D := Lib.hid hr10d
  have HSMD := Lib.hid hsmd
  have HSM := Lib.hid hsm
  have hhz' : 6 ≤ h.size := by omega
  have hhz'' : h.size ≤ 6 := by omega
  have hr6z' : r6.size + 6 ≤ r.size ∧ r.size ≤ r6.size + 6 := by omega
  have hs1z' : s1.size ≤ 4 := by omega
  have hr10z' : r10.size + 10 ≤ r.size ∧ r.size ≤ r10.size + 10 := by omega
  have hsmz' : sm.size ≤ 4 := by rw [hsmz, sumB_length]; omega
  have HH := Lib.hid hh
  have HR6 := Lib.hid hr6
  have HS1 := Lib.hid hs1
  have HR10 := Lib.hid hr10
  clear hhd hr6d hs1d hr10d hsmd hsm hhz hr6z hs1z hr10z hsmz hpa hR hne hg0 hm hh hr6 hs1 hr10
  go_enter Tryd.func17, Tryd.ntmps17
  go_wp2_with fail
  refine (next_calls 6 w.heap.size r _ (by omega) (by omega) hB hF).mono ?_
  rintro e w1 ⟨rfl, hw1⟩
  rw [HH.out]
  rw [HR6.out] at hw1
  have hB1 : w1.cell? ⟨w.heap.size, 0, none⟩ = some (.string r6) := by rw [← hw1]; exact World.cell?_setCell_same' _ _ _ (by rw [hB]; rfl)
  have hF1 : w1.frozen? ⟨w.heap.size, 0, none⟩ = false := by rw [← hw1, World.frozen?_setCell]; exact hF
  have hbl1 : Below w.heap.size w w1 := by rw [← hw1]; exact hbl.setCell (p := ⟨w.heap.size, 0, none⟩) (Nat.le_refl _) _
  clear hw1 hB hF hbl
  go_wp2_with fail
  refine (next_calls 4 w.heap.size r6 w1 (by omega) (by omega) hB1 hF1).mono ?_
  rintro e w2 ⟨rfl, hw2⟩
  rw [HS1.out]
  rw [HR10.out] at hw2
  have hB2 : w2.cell? ⟨w.heap.size, 0, none⟩ = some (.string r10) := by rw [← hw2]; exact World.cell?_setCell_same' _ _ _ (by rw [hB1]; rfl)
  have hF2 : w2.frozen? ⟨w.heap.size, 0, none⟩ = false := by rw [← hw2, World.frozen?_setCell]; exact hF1
  have hbl2 : Below w.heap.size w w2 := by rw [← hw2]; exact hbl1.setCell (p := ⟨w.heap.size, 0, none⟩) (Nat.le_refl _) _
  have hlt2 : w.heap.size < w2.heap.size := lt_of_cell hB2
  clear hw2 hB1 hF1 hbl1
  go_wp2_with fail
  refine (summed_calls h (by omega) w2 (hT.below hbl2)).mono ?_
  rintro e w3 ⟨rfl, hb3⟩
  rw [HSM.out]
  have hB3 := (hb3.cell (p := ⟨w.heap.size, 0, none⟩) hlt2).trans hB2
  have hF3 := (hb3.frozen (p := ⟨w.heap.size, 0, none⟩) hlt2).trans hF2
  have hbl3 := hbl2.trans (hb3.mono hbl2.size)
  clear hb3 hB2 hF2 hbl2
  by_cases hq1 : s1.data.toList = sm.data.toList
  rotate_left
  · have hpa := HPA.out
    rw [if_pos hq1] at hpa
    have hq : (s1.toList == sm.toList) = false := by rw [ByteArray.toList_eq, ByteArray.toList_eq]; simpa using hq1
    have HP := Lib.hid hpa
    clear hpa hq1 HPA
    go_wp2
    refine bodyPost_ret (results_tmp4 rfl _ _ _) rfl ?_
    exact ⟨by rw [HP.out]; rfl, hbl3⟩
  have hq : (s1.toList == sm.toList) = true := by rw [ByteArray.toList_eq, ByteArray.toList_eq, hq1]; simp
  have hpa := HPA.out
  rw [if_neg (by simpa using hq1)] at hpa
  clear HPA hq1
  have HPA := Lib.hid hpa
  clear hpa
  have hkb : (h[1]'hh1).toNat < 256 := (h[1]'hh1).toNat_lt
  go_wp2_with fail
  refine (Fix_calls h (by omega) 2 4 w3).mono ?_
  rw [HFIX.out]
  rintro e w3' ⟨rfl, rfl⟩
  clear hq HS1 HSM
  by_cases hk0 : h[1].toNat = 0
  · have hpa := HPA.out
    rw [if_pos hk0] at hpa
    have HP := Lib.hid hpa
    have hk0' : ((h[1].toNat : Int) == 0) = true := by simp; omega
    clear hpa HPA hk0
    go_wp2
    refine bodyPost_ret (results_tmp4 rfl _ _ _) rfl ?_
    exact ⟨by rw [HP.out]; rfl, hbl3⟩
  have hpa := HPA.out
  rw [if_neg hk0] at hpa
  have hk0' : ((h[1].toNat : Int) == 0) = false := by simp; omega
  clear HPA hk0
  by_cases hn1 : 65536 < n
  · rw [if_pos hn1] at hpa
    have HP := Lib.hid hpa
    clear hpa
    go_wp2
    refine bodyPost_ret (results_tmp4 rfl _ _ _) rfl ?_
    exact ⟨by rw [HP.out]; rfl, hbl3⟩
  rw [if_neg hn1] at hpa
  by_cases hn2 : r.size < n + 14
  · rw [if_pos (show r.data.toList.length < n + 14 from hn2)] at hpa
    have HP := Lib.hid hpa
    clear hpa
    go_wp2
    refine bodyPost_ret (results_tmp4 rfl _ _ _) rfl ?_
    exact ⟨by rw [HP.out]; rfl, hbl3⟩
  rw [if_neg (show ¬ r.data.toList.length < n + 14 from hn2)] at hpa
  obtain ⟨p, hp, hpd, hpz⟩ := name_cut r10 0 n (by omega) (by omega)
  obtain ⟨ra, hra, hrad, hraz⟩ := name_cut r10 n r10.size (by omega) (by omega)
  obtain ⟨s2, hs2, hs2d, hs2z⟩ := name_cut ra 0 4 (by omega) (by omega)
  obtain ⟨rb, hrb', hrbd, hrbz⟩ := name_cut ra 4 ra.size (by omega) (by omega)
  obtain ⟨st, hst, hstd, hstz⟩ := name_str (sumB (h ++ p).data.toList)
  simp only [List.drop_zero, Nat.sub_zero] at hpd hpz hs2d hs2z
  rw [List.take_of_length_le (by simp)] at hrad
  rw [hrad, HR10D.out, List.drop_drop] at hs2d
  rw [HR10D.out] at hpd
  rw [cat_data] at hstd
  have hs2e : s2.data.toList = (r.data.toList.drop (10 + n)).take 4 := hs2d
  rw [← hpd, ← hs2e, ← hstd] at hpa
  have hpz' : p.size ≤ 65536 := by omega
  have hraz' : ra.size + 10 + n ≤ r.size ∧ r.size ≤ ra.size + 10 + n := by omega
  have hs2z' : s2.size ≤ 4 := by omega
  have hrbz' : rb.size + 14 + n ≤ r.size ∧ r.size ≤ rb.size + 14 + n := by omega
  have HP' := Lib.hid hp
  have HRA' := Lib.hid hra
  have HS2 := Lib.hid hs2
  have HRB := Lib.hid hrb'
  have HST := Lib.hid hst
  have HPD := Lib.hid hpd
  have HPA := Lib.hid hpa
  have hn1' : ¬ (65536 : Int) < (n : Int) := by omega
  have hn2' : ¬ ((r10.size : Nat) : Int) < (n : Int) + 4 := by omega
  clear hp hra hs2 hrb' hst hpd hrad hs2d hrbd hstd hpz hraz hs2z hrbz hstz hpa hs2e
  go_wp2_with fail
  refine (next_calls n w.heap.size r10 w3 (by omega) (by omega) hB3 hF3).mono ?_
  rintro e w4 ⟨rfl, hw4⟩
  rw [HP'.out]
  rw [HRA'.out] at hw4
  have hB4 : w4.cell? ⟨w.heap.size, 0, none⟩ = some (.string ra) := by rw [← hw4]; exact World.cell?_setCell_same' _ _ _ (by rw [hB3]; rfl)
  have hF4 : w4.frozen? ⟨w.heap.size, 0, none⟩ = false := by rw [← hw4, World.frozen?_setCell]; exact hF3
  have hbl4 : Below w.heap.size w w4 := by rw [← hw4]; exact hbl3.setCell (p := ⟨w.heap.size, 0, none⟩) (Nat.le_refl _) _
  clear hw4 hB3 hF3 hbl3
  go_wp2_with fail
  refine (next_calls 4 w.heap.size ra w4 (by omega) (by omega) hB4 hF4).mono ?_
  rintro e w5 ⟨rfl, hw5⟩
  rw [HS2.out]
  rw [HRB.out] at hw5
  have hB5 : w5.cell? ⟨w.heap.size, 0, none⟩ = some (.string rb) := by rw [← hw5]; exact World.cell?_setCell_same' _ _ _ (by rw [hB4]; rfl)
  have hF5 : w5.frozen? ⟨w.heap.size, 0, none⟩ = false := by rw [← hw5, World.frozen?_setCell]; exact hF4
  have hbl5 : Below w.heap.size w w5 := by rw [← hw5]; exact hbl4.setCell (p := ⟨w.heap.size, 0, none⟩) (Nat.le_refl _) _
  have hlt5 : w.heap.size < w5.heap.size := lt_of_cell hB5
  clear hw5 hB4 hF4 hbl4
  go_wp2_with fail
  refine (summed_calls (h ++ p) (by rw [ByteArray.size_append]; omega) w5 (hT.below hbl5)).mono ?_
  rintro e w6 ⟨rfl, hb6⟩
  rw [HST.out]
  have hB6 := (hb6.cell (p := ⟨w.heap.size, 0, none⟩) hlt5).trans hB5
  have hbl6 := hbl5.trans (hb6.mono hbl5.size)
  clear hb6 hB5 hF5 hbl5
  by_cases hq2 : s2.data.toList = st.data.toList
  rotate_left
  · have hpa := HPA.out
    rw [if_pos hq2] at hpa
    have hq : (s2.toList == st.toList) = false := by rw [ByteArray.toList_eq, ByteArray.toList_eq]; simpa using hq2
    have HP := Lib.hid hpa
    clear hpa hq2 HPA
    go_wp2
    refine bodyPost_ret (results_tmp4 rfl _ _ _) rfl ?_
    exact ⟨by rw [HP.out]; rfl, hbl6⟩
  have hq : (s2.toList == st.toList) = true := by rw [ByteArray.toList_eq, ByteArray.toList_eq, hq2]; simp
  have hpa := HPA.out
  rw [if_neg (by simpa using hq2)] at hpa
  have HP := Lib.hid hpa
  have hra := HRA.out
  have hsub1 : IntKind.i64.wrap ((b.size : Int) - (rb.size : Int)) = (b.size : Int) - (rb.size : Int) := IntWalk.i64_in _ ⟨by omega, by omega⟩
  have hfin : (b.size : Int) - (rb.size : Int) = ((a + n + 14 : Nat) : Int) := by omega
  have HFIN := Lib.hid hfin
  clear hpa hq2 HPA hra hfin
  go_wp2
  go_quiet (fail)
  go_wp2
  refine bodyPost_ret (results_tmp4 rfl _ _ _) rfl ?_
  refine ⟨?_, ?_⟩
  · rw [HP.out]
    show Ending.returned (.tuple #[.int .i64 ((h[1]'hh1).toNat : Int), .string p, .int .i64 ((b.size : Int) - (rb.size : Int)), .int .i64 0]) = _
    rw [HFIN.out, ← str_of_data (a := p) rfl]
  · exact ⟨hbl6.os, hbl6.tape, hbl6.output, hbl6.size, hbl6.block⟩
end Go.Proofs.YtebbmifpidbdlaaDoor
