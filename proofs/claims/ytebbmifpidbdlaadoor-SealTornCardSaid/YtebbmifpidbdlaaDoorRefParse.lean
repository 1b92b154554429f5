/-
  WALKS: taking a frame out of a text, by the document's answer.
-/
import Derived.Test.YtebbmifpidbdlaaDoorParse
namespace Go.Proofs.YtebbmifpidbdlaaDoor
open Go.RowKit
set_option linter.unusedVariables false

theorem or4 (c0 c1 c2 c3 : Nat) (h0 : c0 < 256) (h1 : c1 < 256) (h2 : c2 < 256) (h3 : c3 < 256) :
    bits BinOp.or IntKind.u32 (bits BinOp.or IntKind.u32 (bits BinOp.or IntKind.u32 (c0 : Int) ((c1 : Int) * 256)) ((c2 : Int) * 65536)) ((c3 : Int) * 16777216) = ((c0 + 256 * c1 + 65536 * c2 + 16777216 * c3 : Nat) : Int) := by
  rw [show (c1 : Int) * 256 = ((c1 * 256 : Nat) : Int) by omega, show (c2 : Int) * 65536 = ((c2 * 65536 : Nat) : Int) by omega, show (c3 : Int) * 16777216 = ((c3 * 16777216 : Nat) : Int) by omega]
  rw [u32_or_nat c0 (c1 * 256) (by omega) (by omega), Nat.or_comm, nat_join 8 (c1 * 256) c0 (by omega) (by omega)]
  rw [u32_or_nat _ (c2 * 65536) (by omega) (by omega), Nat.or_comm, nat_join 16 (c2 * 65536) _ (by omega) (by omega)]
  rw [u32_or_nat _ (c3 * 16777216) (by omega) (by omega), Nat.or_comm, nat_join 24 (c3 * 16777216) _ (by omega) (by omega)]
  omega

set_option maxRecDepth 100000 in
set_option maxHeartbeats 4000000 in
theorem RefSumAt_calls (b : ByteArray) (hb : b.size ≤ 4611686018427387904) (a : Nat) (h : a + 4 ≤ b.size) (w : World) :
    Calls Tryd.prog 32 #[.string b, .int .i64 a] w fun e w' => e = .returned (.int .u32 (leN ((b.data.toList.drop a).take 4) : Nat)) ∧ ∃ k, w' = w.drewN k := by
  have h0 : a < b.size := by omega
  have h1 : a + 1 < b.size := by omega
  have h2 : a + 2 < b.size := by omega
  have h3 : a + 3 < b.size := by omega
  have l0 := b[a].toNat_lt
  have l1 := b[a + 1].toNat_lt
  have l2 := b[a + 2].toNat_lt
  have l3 := b[a + 3].toNat_lt
  have w1 : IntKind.i64.wrap ((a : Int) + 1) = (a : Int) + 1 := IntWalk.i64_in _ ⟨by omega, by omega⟩
  have w2 : IntKind.i64.wrap ((a : Int) + 2) = (a : Int) + 2 := IntWalk.i64_in _ ⟨by omega, by omega⟩
  have w3 : IntKind.i64.wrap ((a : Int) + 3) = (a : Int) + 3 := IntWalk.i64_in _ ⟨by omega, by omega⟩
  have n0 : (0 : Int) ≤ (a : Int) := by omega
  have i0 : (a : Int) < (b.size : Int) := by omega
  have n1 : (0 : Int) ≤ (a : Int) + 1 := by omega
  have i1 : (a : Int) + 1 < (b.size : Int) := by omega
  have t1 : ((a : Int) + 1).toNat = a + 1 := by omega
  have n2 : (0 : Int) ≤ (a : Int) + 2 := by omega
  have i2 : (a : Int) + 2 < (b.size : Int) := by omega
  have t2 : ((a : Int) + 2).toNat = a + 2 := by omega
  have n3 : (0 : Int) ≤ (a : Int) + 3 := by omega
  have i3 : (a : Int) + 3 < (b.size : Int) := by omega
  have t3 : ((a : Int) + 3).toNat = a + 3 := by omega
  go_enter Tryd.func32, Tryd.ntmps32
  go_wp2
  go_quiet (fail)
  go_wp2
  go_ret
  refine ⟨?_, _, rfl⟩
  have e : leN ((b.data.toList.drop a).take 4) = b[a].toNat + 256 * b[a + 1].toNat + 65536 * b[a + 2].toNat + 16777216 * b[a + 3].toNat := by
    have g : ∀ j, j < 4 → (hj : a + j < b.size) → ((b.data.toList.drop a).take 4).getD j 0 = b[a + j] := by
      intro j hj4 hj
      simp [List.getD, hj4, List.getElem?_drop, hj]; rfl
    unfold leN
    rw [g 0 (by omega) (by omega), g 1 (by omega) (by omega), g 2 (by omega) (by omega), g 3 (by omega) (by omega)]
    rfl
  rw [e]
  show Ending.returned (.int .u32 (bits BinOp.or IntKind.u32 (bits BinOp.or IntKind.u32 (bits BinOp.or IntKind.u32 (b[a].toNat : Int) ((b[a + 1].toNat : Int) * 256)) ((b[a + 2].toNat : Int) * 65536)) ((b[a + 3].toNat : Int) * 16777216))) = _
  rw [or4 _ _ _ _ l0 l1 l2 l3]

theorem begun_facts (r : ByteArray) (h : 10 ≤ r.size) : ((r.data.toList.drop 6).take 4).length = 4 ∧ r.data.toList.take 6 = (r.extract 0 6).data.toList := by
  refine ⟨by simp; omega, ?_⟩
  simp

set_option maxRecDepth 100000 in
set_option maxHeartbeats 4000000 in
theorem RefBegun_calls (r : ByteArray) (hb : r.size ≤ 4611686018427387904) (w : World) :
    Calls Tryd.prog 31 #[.string r] w fun e w' => e = .returned (.tuple #[.int .i64 (begunR r.data.toList).1, .int .i64 (begunR r.data.toList).2]) ∧ ∃ k, w' = w.drewN k := by
  by_cases h0 : r.size = 0
  · have hpa : begunR r.data.toList = (0, 31) := by
      unfold begunR; rw [if_pos (List.eq_nil_of_length_eq_zero h0)]
    rw [hpa]
    clear hpa
    have h0' : ((r.size : Int) == 0) = true := by rw [beq_iff_eq]; omega
    clear h0
    go_enter Tryd.func31, Tryd.ntmps31
    go_wp2
    go_ret2
    exact ⟨rfl, 0, rfl⟩
  have h0' : 0 < r.size := by omega
  have he : ((r.size : Int) == 0) = false := by rw [beq_eq_false_iff_ne]; omega
  have hne : ¬ r.data.toList = [] := by intro h; rw [size_data, h] at h0; exact h0 rfl
  have hg0 : r.data.toList.getD 0 0 = r[0] := by simp [List.getD, h0']; rfl
  clear h0
  by_cases hm : r[0].toNat ≠ 167
  · have hpa : begunR r.data.toList = (0, 33) := by
      unfold begunR; rw [if_neg hne, hg0, if_pos hm]
    rw [hpa]
    clear hpa
    have hm' : ((r[0].toNat : Int) != 167) = true := by rw [bne_iff_ne]; omega
    clear hm hne hg0
    go_enter Tryd.func31, Tryd.ntmps31
    go_wp2
    go_ret2
    exact ⟨rfl, 0, rfl⟩
  have hm' : ((r[0].toNat : Int) != 167) = false := by rw [bne_eq_false_iff_eq]; omega
  by_cases h10 : r.size < 10
  · have hpa : begunR r.data.toList = (0, 31) := by
      unfold begunR; rw [if_neg hne, hg0, if_neg hm, if_pos (show r.data.toList.length < 10 from h10)]
    rw [hpa]
    clear hpa hm hne hg0
    go_enter Tryd.func31, Tryd.ntmps31
    go_wp2
    go_ret2
    exact ⟨rfl, 0, rfl⟩
  obtain ⟨h, hh, hhd, hhz⟩ := name_cut r 0 6 (by omega) (by omega)
  simp only [List.drop_zero, Nat.sub_zero] at hhd hhz
  have hpa : begunR r.data.toList = if leN ((r.data.toList.drop 6).take 4) ≠ Crc.on 0 h.data.toList then (0, 34)
      else if (r.data.toList.getD 1 0).toNat = 0 then (0, 35)
      else if 65536 < numB 0 ((r.data.toList.drop 2).take 4) then (0, 36) else (((numB 0 ((r.data.toList.drop 2).take 4) : Nat) : Int), 0) := by
    unfold begunR
    rw [if_neg hne, hg0, if_neg hm, if_neg (show ¬ r.data.toList.length < 10 from h10), hhd]
  have hnb : numB 0 ((r.data.toList.drop 2).take 4) < 4294967296 := by
    have h1 := numB_lt ((r.data.toList.drop 2).take 4)
    have h2 : ((r.data.toList.drop 2).take 4).length = 4 := by simp; omega
    rw [h2] at h1; exact h1
  obtain ⟨n, hn⟩ : ∃ n, numB 0 ((r.data.toList.drop 2).take 4) = n := ⟨_, rfl⟩
  rw [hn] at hpa hnb
  have h1 : 1 < r.size := by omega
  have hk1 : r.data.toList.getD 1 0 = r[1]'h1 := by simp [List.getD, h1]; rfl
  rw [hk1] at hpa
  have hkb : (r[1]'h1).toNat < 256 := (r[1]'h1).toNat_lt
  obtain ⟨x, hx⟩ : ∃ x, leN ((r.data.toList.drop 6).take 4) = x := ⟨_, rfl⟩
  obtain ⟨y, hy⟩ : ∃ y, Crc.on 0 h.data.toList = y := ⟨_, rfl⟩
  rw [hx, hy] at hpa
  have csum := fun W : World => RefSumAt_calls r hb 6 (by omega) W
  have ctot := fun W : World => RefSum_calls h (by omega) W
  have cnum := fun W : World => RefNumber_calls r (by omega) 2 4 (by omega) (by omega) W
  rw [hx] at csum
  rw [hy] at ctot
  rw [hn] at cnum
  have CSUM := Lib.hid csum
  have CTOT := Lib.hid ctot
  have CNUM := Lib.hid cnum
  have HPA := Lib.hid hpa
  obtain ⟨R, hR⟩ : ∃ R, begunR r.data.toList = R := ⟨_, rfl⟩
  rw [hR] at HPA ⊢
  clear csum ctot cnum hpa hx hy hn hk1 hhd hhz hne hg0 hm hR
  by_cases hxy : x = y
  rotate_left
  · have hpa := HPA.out
    rw [if_pos hxy] at hpa
    have HP := Lib.hid hpa
    have hxy' : ((x : Int) != (y : Int)) = true := by rw [bne_iff_ne]; omega
    clear hpa HPA hxy
    go_enter Tryd.func31, Tryd.ntmps31
    go_wp2_with fail
    go_quiet ((first | (go_at_call 32; exact quiet_some (CSUM.out _)) | (go_at_call 12; exact quiet_left (CTOT.out _))))
    go_wp2
    go_ret2
    exact ⟨by rw [HP.out]; rfl, _, rfl⟩
  have hpa := HPA.out
  rw [if_neg (by simpa using hxy)] at hpa
  have hxy' : ((x : Int) != (y : Int)) = false := by rw [bne_eq_false_iff_eq]; omega
  clear HPA hxy
  by_cases hk0 : (r[1]'h1).toNat = 0
  · rw [if_pos hk0] at hpa
    have HP := Lib.hid hpa
    have hk0' : (((r[1]'h1).toNat : Int) == 0) = true := by simp; omega
    clear hpa hk0
    go_enter Tryd.func31, Tryd.ntmps31
    go_wp2_with fail
    go_quiet ((first | (go_at_call 32; exact quiet_some (CSUM.out _)) | (go_at_call 12; exact quiet_left (CTOT.out _))))
    go_wp2
    go_ret2
    exact ⟨by rw [HP.out]; rfl, _, rfl⟩
  rw [if_neg hk0] at hpa
  have hk0' : (((r[1]'h1).toNat : Int) == 0) = false := by simp; omega
  clear hk0
  by_cases hn1 : 65536 < n
  all_goals
    first | rw [if_pos hn1] at hpa | rw [if_neg hn1] at hpa
    have HP := Lib.hid hpa
    clear hpa
    go_enter Tryd.func31, Tryd.ntmps31
    go_wp2_with fail
    go_quiet ((first | (go_at_call 32; exact quiet_some (CSUM.out _)) | (go_at_call 12; exact quiet_left (CTOT.out _))))
    go_wp2_with fail
    refine (CNUM.out _).mono ?_
    rintro e w1 ⟨rfl, rfl⟩
    go_wp2
    go_ret2
    exact ⟨by rw [HP.out]; rfl, _, rfl⟩

set_option maxRecDepth 100000 in
set_option maxHeartbeats 4000000 in
theorem RefParse_calls (b : ByteArray) (hb : b.size ≤ 4611686018427387904) (at_ : Int) (w : World) :
    Calls Tryd.prog 18 #[.string b, .int .i64 at_] w fun e w' => e = .returned (.tuple #[.int .i64 (parseR b.data.toList at_).1, .string ⟨(parseR b.data.toList at_).2.1.toArray⟩, .int .i64 (parseR b.data.toList at_).2.2.1, .int .i64 (parseR b.data.toList at_).2.2.2]) ∧ ∃ k, w' = w.drewN k := by
  have hlen : b.data.toList.length = b.size := by simp
  by_cases ha : at_ < 0
  · have hp : parseR b.data.toList at_ = (0, [], 0, 13) := by unfold parseR; rw [if_pos (by omega)]
    rw [hp]
    clear hp hlen
    go_enter Tryd.func18, Tryd.ntmps18
    go_wp2
    refine bodyPost_ret (results_tmp4 rfl _ _ _) rfl ?_
    exact ⟨rfl, 0, rfl⟩
  by_cases hl : (b.size : Int) < at_
  · have hp : parseR b.data.toList at_ = (0, [], 0, 13) := by unfold parseR; rw [if_pos (by omega)]
    rw [hp]
    clear hp hlen
    go_enter Tryd.func18, Tryd.ntmps18
    go_wp2
    refine bodyPost_ret (results_tmp4 rfl _ _ _) rfl ?_
    exact ⟨rfl, 0, rfl⟩
  obtain ⟨a, rfl⟩ := Int.eq_ofNat_of_zero_le (show 0 ≤ at_ by omega)
  have hp : parseR b.data.toList a = parseAt a (b.data.toList.drop a) := by unfold parseR; rw [if_neg (by omega)]; rfl
  rw [hp]
  clear hp hlen
  obtain ⟨r, hr, hrd, hrz⟩ := name_cut b a b.size (by omega) (by omega)
  rw [show b.data.toList.drop a = r.data.toList by rw [hrd, List.take_of_length_le (by simp)]]
  have hrb : r.size + a ≤ b.size := by omega
  clear hrd hrz
  have hpb := parse_begun a r.data.toList
  have cbeg := fun W : World => RefBegun_calls r (by omega) W
  obtain ⟨B, hB⟩ : ∃ B, begunR r.data.toList = B := ⟨_, rfl⟩
  rw [hB] at hpb
  simp only [hB] at cbeg
  have CBEG := Lib.hid cbeg
  clear hB cbeg
  obtain ⟨B1, B2⟩ := B
  simp only at hpb
  by_cases hB2 : B2 = 0
  rotate_left
  · have HP := Lib.hid (hpb.1 hB2)
    have hb2 : (B2 != 0) = true := by rw [bne_iff_ne]; exact hB2
    clear hpb hB2
    go_enter Tryd.func18, Tryd.ntmps18
    go_wp2_with fail
    refine (CBEG.out _).mono ?_
    rintro e w1 ⟨rfl, hk⟩
    go_wp2
    refine bodyPost_ret (results_tmp4 rfl _ _ _) rfl ?_
    exact ⟨by rw [HP.out]; rfl, hk⟩
  subst hB2
  obtain ⟨n, hn1, hn2, hn3, hpa⟩ := hpb.2 rfl
  clear hpb
  subst hn1
  have hn3' : 10 ≤ r.size := hn3
  clear hn3
  by_cases h6 : r.size < n + 14
  · rw [if_pos (show r.data.toList.length < n + 14 from h6)] at hpa
    have HP := Lib.hid hpa
    clear hpa
    go_enter Tryd.func18, Tryd.ntmps18
    go_wp2_with fail
    refine (CBEG.out _).mono ?_
    rintro e w1 ⟨rfl, hk⟩
    go_wp2
    refine bodyPost_ret (results_tmp4 rfl _ _ _) rfl ?_
    exact ⟨by rw [HP.out]; rfl, hk⟩
  rw [if_neg (show ¬ r.data.toList.length < n + 14 from h6)] at hpa
  obtain ⟨p, hp, hpd, hpz⟩ := name_cut r 10 (10 + n) (by omega) (by omega)
  obtain ⟨h, hh, hhd, hhz⟩ := name_cut r 0 6 (by omega) (by omega)
  simp only [List.drop_zero, Nat.sub_zero] at hhd hhz
  rw [show 10 + n - 10 = n by omega] at hpd hpz
  have hhz' : h.size ≤ 6 := by omega
  have hpz' : p.size ≤ 65536 := by omega
  rw [← hhd, ← hpd] at hpa
  have h1 : 1 < r.size := by omega
  have hk1 : r.data.toList.getD 1 0 = r[1]'h1 := by simp [List.getD, h1]; rfl
  rw [hk1] at hpa
  have hkb : (r[1]'h1).toNat < 256 := (r[1]'h1).toNat_lt
  obtain ⟨x, hx⟩ : ∃ x, leN ((r.data.toList.drop (10 + n)).take 4) = x := ⟨_, rfl⟩
  obtain ⟨y, hy⟩ : ∃ y, Crc.on 0 (h.data.toList ++ p.data.toList) = y := ⟨_, rfl⟩
  rw [hx, hy] at hpa
  have csum := fun W : World => RefSumAt_calls r (by omega) (10 + n) (by omega) W
  have ctot := fun W : World => RefSum_calls (h ++ p) (by rw [ByteArray.size_append]; omega) W
  rw [hx] at csum
  simp only [cat_data, hy] at ctot
  rw [show ((10 + n : Nat) : Int) = 10 + (n : Int) by omega] at csum
  have CSUM := Lib.hid csum
  have CTOT := Lib.hid ctot
  have HPA := Lib.hid hpa
  have HH := Lib.hid hh
  have hsl : ∀ W : World, (Instr.slice 9 (.string r) (some (.int .i64 10)) (some (.int .i64 (10 + (n : Int)))) none).run Tryd.prog W = .ok (.string p) W := by
    intro W
    rw [run_slice_string (P := Tryd.prog) W 9 r .i64 .i64 10 (10 + (n : Int)) Tryd.underlying9 (by omega) (by omega) (by omega), show (10 + (n : Int)).toNat = 10 + n by omega, ← hp]
    rfl
  have hcat : h.size + p.size ≤ 9223372036854775807 := by omega
  obtain ⟨R, hR⟩ : ∃ R, parseAt a r.data.toList = R := ⟨_, rfl⟩
  rw [hR] at HPA ⊢
  clear csum ctot hpa hx hy hk1 hhd hhz hpd hpz hR
  by_cases hxy : x = y
  rotate_left
  · have hpa := HPA.out
    rw [if_pos hxy] at hpa
    have HP := Lib.hid hpa
    have hxy' : ((x : Int) != (y : Int)) = true := by rw [bne_iff_ne]; omega
    clear hpa HPA hxy
    go_enter Tryd.func18, Tryd.ntmps18
    go_wp2_with fail
    refine (CBEG.out _).mono ?_
    rintro e w1 ⟨rfl, hk⟩
    go_wp2_with fail
    go_quiet ((first | (go_at_call 32; exact quiet_some (CSUM.out _)) | (go_at_call 12; exact quiet_left (CTOT.out _))))
    go_wp2
    refine bodyPost_ret (results_tmp4 rfl _ _ _) rfl ?_
    obtain ⟨k, rfl⟩ := hk
    exact ⟨by rw [HP.out]; rfl, _, World.drewN_drewN _ _ _⟩
  have hpa := HPA.out
  rw [if_neg (by simpa using hxy)] at hpa
  have hxy' : ((x : Int) != (y : Int)) = false := by rw [bne_eq_false_iff_eq]; omega
  have hfin : (a : Int) + 10 + (n : Int) + 4 = ((a + n + 14 : Nat) : Int) := by omega
  have HFIN := Lib.hid hfin
  have HP := Lib.hid hpa
  clear hpa HPA hxy hfin
  go_enter Tryd.func18, Tryd.ntmps18
  go_wp2_with fail
  refine (CBEG.out _).mono ?_
  rintro e w1 ⟨rfl, hk⟩
  go_wp2_with fail
  go_quiet ((first | (go_at_call 32; exact quiet_some (CSUM.out _)) | (go_at_call 12; exact quiet_left (CTOT.out _))))
  go_wp2
  refine bodyPost_ret (results_tmp4 rfl _ _ _) rfl ?_
  obtain ⟨k, rfl⟩ := hk
  refine ⟨?_, _, World.drewN_drewN _ _ _⟩
  rw [HP.out]
  show Ending.returned (.tuple #[.int .i64 ((r[1]'h1).toNat : Int), .string p, .int .i64 ((a : Int) + 10 + (n : Int) + 4), .int .i64 0]) = _
  rw [HFIN.out, ← str_of_data (a := p) rfl]

theorem SealParse_walk (a0 : ByteArray) (s0 : a0.size ≤ 140737488351232) (a1 : Int) (w1 : (Lit.int .i64 a1).wf = true) (w : World) (hL : TabLaid w) :
    Calls Tryd.prog 5 #[.string a0, .int .i64 a1] w fun e w' => e = .returned (.bool true) ∧ Below w.heap.size w w' := by
  have hT := tab_of_laid hL
  clear hL w1
  go_enter Tryd.func5, Tryd.ntmps5
  go_wp2_with fail
  refine (Parse_calls a0 (by omega) a1 w hT).mono ?_
  rintro e u1 ⟨rfl, hb1⟩
  go_wp2_with fail
  refine (RefParse_calls a0 (by omega) a1 u1).mono ?_
  rintro e u2 ⟨rfl, k, rfl⟩
  have hbl : Below w.heap.size w (u1.drewN k) := ⟨hb1.os, hb1.tape, hb1.output, hb1.size, hb1.block⟩
  clear hb1
  generalize parseR a0.data.toList a1 = q
  generalize u1.drewN k = u2 at *
  go_wp2
  go_ret
  exact ⟨by simp, hbl⟩
end Go.Proofs.YtebbmifpidbdlaaDoor
