/-
  WALK: MergeLastWord.
-/
import Derived.Test.YtahdaccmokjgpaaLawMU
namespace Go.Proofs.Ytahdaccmokjgpaa
open Go.RowKit ArgK
set_option linter.unusedVariables false

set_option maxRecDepth 100000 in
set_option maxHeartbeats 4000000 in
theorem LastWord_walk (v : Value) (z : List Ent) (tv : Value) (tz : List Int) (w : World) (h0 : IsSl w 5 48 IsEnt [v] z) (h1 : XKit.IsRow w tv tz) :
    Calls Try.prog 7 #[v, tv] w fun e w' => e = .returned (.bool true) ∧ Below w.heap.size w w' := by
  obtain ⟨i0, hi0, hz0, hz1, hz2⟩ := info_parts (show (Try.prog.info? 25).map (fun i => (i.zero, i.size, i.bytes)) = some (some (.slice none 0 0), 1, 24) by kernel_rfl)
  obtain ⟨hES, hzl, hzw⟩ := esl_arg h0
  obtain ⟨all, hall⟩ : ∃ all, freshF [] z = all := ⟨_, rfl⟩
  have HD : Hid (Dist all) := Lib.hid (hall ▸ freshF_dist z [] List.Pairwise.nil)
  have hl : all.length ≤ 60 := hall ▸ freshF_len z [] (by simp)
  have HW : Hid (∀ e ∈ all, (Lit.int .i64 e.s).wf = true) := Lib.hid (fun e he => by
    rw [← hall] at he
    rcases freshF_sub z [] e he with h | h
    · simp at h
    · exact hzw e h)
  obtain ⟨n, hn⟩ : ∃ n, all.length = n := ⟨_, rfl⟩
  have HF : Hid (∀ W, Below w.heap.size w W → Calls Try.prog 26 #[v] W (fun e W' => ∃ q c, e = .returned (.slice q n c) ∧ Below W.heap.size W W' ∧ W'.ownsRow W.heap.size 24 5 (.slice q n c) n (encE all))) := Lib.hid (fun W hb => by rw [← hn]; exact fresh_run hES hzl hall hb)
  have HR := Lib.hid h1
  have HN := Lib.hid hn
  have HL := Lib.hid hl
  rw [hn] at hl
  clear h0 h1 hES hzl hzw hall hn
  go_enter Try.func7, Try.ntmps7
  go_wp2_with fail
  refine (begun_calls _).mono ?_
  rintro e y1 ⟨rfl, hb1⟩
  have B1 := Lib.hid hb1
  clear hb1
  go_wp2_with fail
  refine (HF.out y1 B1.out).mono ?_
  rintro e y2 ⟨q0, c0, rfl, hb2, ho2⟩
  have B2 := Lib.hid (B1.out.trans (hb2.mono B1.out.size))
  have E2 : Hid (ESl y2 (.slice q0 n c0) all) := Lib.hid (ESl.of_own ho2)
  have O2 := Lib.hid ho2
  have S2 := Lib.hid hb2.size
  clear hb2 ho2
  go_wp2_with fail
  refine (dealt_run E2.out HL.out (row_below HR.out B2.out)).mono ?_
  rintro e y3 ⟨lp, m, lc, lists, rfl, hm, hb3, hDL, hDe⟩
  have B3 := Lib.hid (B2.out.trans (hb3.mono B2.out.size))
  have B3s := Lib.hid hb3
  have E3 := Lib.hid (E2.out.below hb3)
  have HDL := Lib.hid hDL
  have S3 := Lib.hid hb3.size
  have HDe := Lib.hid hDe
  have HM := Lib.hid hm
  clear hb3 hDL hDe hm
  obtain ⟨Ra, hRa⟩ : ∃ R, lastG all false [] all = R := ⟨_, rfl⟩
  obtain ⟨Rb, hRb⟩ : ∃ R, lastG all true [] all = R := ⟨_, rfl⟩
  obtain ⟨na, hna⟩ : ∃ n, Ra.length = n := ⟨_, rfl⟩
  obtain ⟨nb, hnb⟩ : ∃ n, Rb.length = n := ⟨_, rfl⟩
  have CA : Hid (Calls Try.prog 22 #[.slice lp m lc, .bool false] y3 (fun e w' => ∃ q c, e = .returned (.tuple #[.slice q na c, .int .i64 0]) ∧ Below y3.heap.size y3 w' ∧ ESl w' (.slice q na c) Ra)) := Lib.hid ((merge_dealt false HDL.out HDe.out HD.out HL.out HW.out).mono (fun e w' ⟨q, c, k1, k2, k3⟩ => by rw [hRa, hna] at *; exact ⟨q, c, k1, k2, ESl.of_own k3⟩))
  have CB : Hid (∀ W, Below y3.heap.size y3 W → Calls Try.prog 22 #[.slice lp m lc, .bool true] W (fun e w' => ∃ q c, e = .returned (.tuple #[.slice q nb c, .int .i64 0]) ∧ Below W.heap.size W w' ∧ ESl w' (.slice q nb c) Rb)) := Lib.hid (fun W hW => (merge_dealt true (HDL.out.below hW) HDe.out HD.out HL.out HW.out).mono (fun e w' ⟨q, c, k1, k2, k3⟩ => by rw [hRb, hnb] at *; exact ⟨q, c, k1, k2, ESl.of_own k3⟩))
  have HRa := Lib.hid hRa
  have HRb := Lib.hid hRb
  have HNa := Lib.hid hna
  have HNb := Lib.hid hnb
  clear hRa hRb hna hnb
  go_wp2_with fail
  refine CA.out.mono ?_
  rintro e y4 ⟨qa, ca, rfl, hb4, ha4⟩
  have B4 := Lib.hid hb4
  have A4 := Lib.hid ha4
  clear hb4 ha4
  go_wp2_with fail
  refine (CB.out y4 B4.out).mono ?_
  rintro e y5 ⟨qb, cb, rfl, hb5, ha5⟩
  have B5 := Lib.hid (B4.out.trans (hb5.mono B4.out.size))
  have A5 := Lib.hid (A4.out.below hb5)
  have P5 := Lib.hid ha5
  have E5 := Lib.hid (E3.out.below B5.out)
  clear hb5 ha5
  go_wp2_with fail
  have CL := last_run false E5.out HL.out
  rw [HRa.out, HNa.out] at CL
  refine CL.mono ?_
  rintro e y6 ⟨q6, c6, rfl, hb6, hl6⟩
  have B6 := Lib.hid (B5.out.trans (hb6.mono B5.out.size))
  have A6 := Lib.hid (A5.out.below hb6)
  have P6 := Lib.hid (P5.out.below hb6)
  have L6 := Lib.hid hl6
  have E6 := Lib.hid (E5.out.below hb6)
  have hRl : Ra.length < 4611686018427387904 := by have := lastG_length all false all []; rw [HRa.out] at this; simp at this; have := HL.out; omega
  have hRl2 : Rb.length < 4611686018427387904 := by have := lastG_length all true all []; rw [HRb.out] at this; simp at this; have := HL.out; omega
  have HRl := Lib.hid hRl
  have HRl2 := Lib.hid hRl2
  clear CL hb6 hl6 hRl hRl2
  go_wp2_with fail
  refine (sameE_true _ _ Ra HRl.out _ A6.out L6.out).mono ?_
  rintro e y7 ⟨rfl, hb7⟩
  have B7 := Lib.hid (B6.out.trans (hb7.mono B6.out.size))
  have A7 := Lib.hid (A6.out.below hb7)
  have P7 := Lib.hid (P6.out.below hb7)
  have E7 := Lib.hid (E6.out.below hb7)
  clear hb7
  go_wp2_with fail
  have CL := last_run true E7.out HL.out
  rw [HRb.out, HNb.out] at CL
  refine CL.mono ?_
  rintro e y8 ⟨q8, c8, rfl, hb8, hl8⟩
  have B8 := Lib.hid (B7.out.trans (hb8.mono B7.out.size))
  have A8 := Lib.hid (A7.out.below hb8)
  have P8 := Lib.hid (P7.out.below hb8)
  have L8 := Lib.hid hl8
  have E8 := Lib.hid (E7.out.below hb8)
  clear CL hb8 hl8
  go_wp2_with fail
  refine (sameE_true _ _ Rb HRl2.out _ P8.out L8.out).mono ?_
  rintro e y9 ⟨rfl, hb9⟩
  have B9 := Lib.hid (B8.out.trans (hb9.mono B8.out.size))
  have A9 := Lib.hid (A8.out.below hb9)
  have E9 := Lib.hid (E8.out.below hb9)
  have hso : sortedR Ra = 0 := sortedR_ok (by rw [← HRa.out]; exact (lastG_gives false HD.out all [] [] (by simp) rises_nil (fun e => by simp)).1)
  have CS := Sorted_calls _ Ra HRl.out y9 A9.out
  rw [hso] at CS
  have HCS := Lib.hid CS
  clear hb9 hso CS
  go_wp2_with fail
  refine HCS.out.mono ?_
  rintro e yA ⟨rfl, hbA⟩
  have BA := Lib.hid (B9.out.trans (hbA.mono B9.out.size))
  have EA := Lib.hid (E9.out.below hbA)
  clear hbA
  go_wp2_with fail
  go_loopw [13] (fun i wr => ∃ k : Nat, k ≤ m ∧ i = .int .i64 k ∧ Below yA.heap.size yA wr) (fun i _ => m - (intOf i).toNat)
  case atStart => exact ⟨0, Nat.zero_le _, rfl, Below.refl _ _⟩
  case round =>
    obtain ⟨k, hk, rfl, hbr⟩ := hrel
    have BR : Hid (Below y3.heap.size y3 wr) := Lib.hid (BA.out.trans (hbr.mono BA.out.size))
    have HBR := Lib.hid hbr
    clear hbr
    by_cases hkm : k < m
    · obtain ⟨vs, hw1, hw2⟩ := HDL.out.below BR.out
      rw [HM.out] at hw1
      obtain ⟨g, rfl, _, hgl, hgc, _⟩ := (own_rd hw1 |> fun ⟨p, c, e, _, _, hr⟩ => by
        simp only [Value.slice.injEq] at e
        obtain ⟨rfl, _, _⟩ := e
        exact hr (by omega) : ∃ g, lp = some ⟨g, 0, none⟩ ∧ _ ∧ g < wr.heap.size ∧ (∀ j, j < m * 1 → wr.cell? ⟨g, j, none⟩ = vs[j]?) ∧ ∀ j, wr.frozen? ⟨g, j, none⟩ = false)
      obtain ⟨L, hL⟩ : ∃ L, lists[k]? = some L := ⟨_, List.getElem?_eq_getElem (by rw [HM.out]; exact hkm)⟩
      obtain ⟨u, hu⟩ : ∃ u, vs[k]? = some u := ⟨_, List.getElem?_eq_getElem (by have := hw1.1; omega)⟩
      have hcl : wr.cell? ⟨g, k, none⟩ = some u := (hgc k (by omega)).trans hu
      have ho := hw2 k u L hu hL
      have hLs : L.length < 4611686018427387904 := by have := HDe.out.len hL; have := HL.out; omega
      have CS := Sorted_calls u L hLs wr (ESl.of_own ho)
      rw [sortedR_ok (HDe.out.1 L (List.mem_of_getElem? hL))] at CS
      obtain ⟨pu, cu, rfl, _⟩ := own_rd ho
      have HCS2 := Lib.hid CS
      have q0 : (0 : Int) ≤ (k : Int) := by omega
      have q1 : (k : Int) < (m : Int) := by omega
      have q2 : (m : Int) ≤ 60 := by have := HDe.out.2.2; have := HL.out; have := HM.out; omega
      clear hw1 hw2 hgc hL hu ho hLs CS
      go_wp2_with fail
      refine HCS2.out.mono ?_
      rintro e yr ⟨rfl, hbq⟩
      have HQ := Lib.hid (HBR.out.trans (hbq.mono HBR.out.size))
      clear hbq
      go_wp2
      go_roundw
      case rel => exact ⟨k + 1, by omega, by go_num, HQ.out⟩
      case measure => simp [intOf]; omega
    · obtain rfl : k = m := by omega
      have BW : Hid (Below w.heap.size w wr) := Lib.hid (B3.out.trans (BR.out.mono B3.out.size))
      by_cases hn0 : n = 0
      · subst hn0
        go_wp2
        go_ret
        exact ⟨rfl, BW.out⟩
      · obtain ⟨p0, d0, e0, hc0, _, hr0⟩ := own_rd O2.out
        simp only [Value.slice.injEq] at e0
        obtain ⟨rfl, _, rfl⟩ := e0
        obtain ⟨g0, rfl, _⟩ := hr0 (by omega)
        obtain ⟨x, hx⟩ : ∃ x, all[0]? = some x := ⟨_, List.getElem?_eq_getElem (by rw [HN.out]; omega)⟩
        have hxm := List.mem_of_getElem? hx
        have hO1 := own_takeE O2.out (k := 1) (by omega)
        have ht1 : all.take 1 = [x] := by rw [take_getE hx]; simp
        rw [ht1] at hO1
        have hOw := own_belowAll hO1 (B3s.out.trans (BR.out.mono B3s.out.size))
        obtain ⟨vs, hw1, hw2⟩ := (HDL.out.below BR.out).le (B' := y1.heap.size) S2.out
        have hmk : lists.length = k := HM.out
        have hkb : k ≤ 60 := by have := HDe.out.2.2; have := HL.out; omega
        have HG := Lib.hid (fun lv w' => DL.grow (lv' := lv) (w' := w') (L := [x]) hw1 hw2 (wa := wr.alloc (.cells #[.slice (some ⟨g0, 0, none⟩) 1 c0] 25)) (hOw.alloc _) ((Below.refl _ _).alloc (Nat.le_refl _) _))
        rw [hmk] at hw1
        have HV := Lib.hid hw1
        have HMk := Lib.hid hmk
        have HXM := Lib.hid hxm
        have hni : ¬ ((n : Int) = 0) := by omega
        have hnb : ((n : Int) == 0) = false := by simp; omega
        have hn1 : (1 : Int) ≤ (n : Int) := by omega
        have hn2 : 1 ≤ n := by omega
        have hcn : 1 ≤ c0 := by omega
        have hcni : (1 : Int) ≤ (c0 : Int) := by omega
        have hy1 := (BW.out.size)
        have chk1 : y1.heap.size ≤ (wr.alloc (.cells #[.slice (some ⟨g0, 0, none⟩) 1 c0] 25)).heap.size := by have := S2.out; have := S3.out; have := BR.out.size; simp; omega
        have chk2 : k + 1 ≤ maxLen := by unfold maxLen; omega
        have chk3 : (k + 1) * 24 ≤ 140737488355328 := by omega
        clear hw1 hw2 hx hxm ht1 hO1 hOw hr0 hmk hy1
        go_wp2_with (at_builtin; refine wpList_append_own _ rfl _ _ 43 rfl y1.heap.size 25 i0 (.slice none 0 0) 1 24 Try.underlying43 hi0 hz0 hz1 hz2 rfl (by decide) (.slice lp k lc) k _ rfl (HV.out.alloc _) ⟨wr.heap.size, 0, none⟩ 1 1 [.slice (some ⟨g0, 0, none⟩) 1 c0] rfl rfl (World.news_of_block (heap_alloc_new wr _)) (by simp [Value.oneCell']) chk2 chk3 chk1 ?_)
        intro lv3 w3 hown3 hgrow3 _
        obtain ⟨lp3, lc3, rfl⟩ : ∃ lp lc, lv3 = .slice lp (k + 1) lc := by
          obtain ⟨lp, lc, e, _⟩ := own_rd hown3
          exact ⟨lp, lc, e⟩
        have HD3 := Lib.hid (HG.out _ _ hgrow3 (by rw [HMk.out]; exact hown3))
        have BG : Hid (Below w.heap.size w w3) := Lib.hid ((BW.out.alloc BW.out.size _).grown hgrow3 (by have := BW.out.size; simp; omega) (fun b hb => Nat.le_trans B1.out.size (HV.out.lt b hb).1))
        clear hown3 hgrow3 chk1 chk2 chk3
        go_wp2_with fail
        refine (merge_again HD3.out HDe.out HXM.out HL.out HW.out).mono ?_
        rintro e w4 ⟨rfl, hb4⟩
        have BH := Lib.hid (BG.out.trans (hb4.mono BG.out.size))
        clear hb4
        go_wp2
        go_ret
        exact ⟨rfl, BH.out⟩
end Go.Proofs.Ytahdaccmokjgpaa
