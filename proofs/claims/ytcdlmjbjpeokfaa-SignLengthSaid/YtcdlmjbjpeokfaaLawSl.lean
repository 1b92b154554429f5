/-
  WALK: the law SignLength. Printed by slgen.py.
-/
import Derived.Test.YtcdlmjbjpeokfaaBitW
import Derived.BigRegion
namespace Go.Proofs.Ytcdlmjbjpeokfaa
open Go.RowKit ArgK
set_option linter.unusedVariables false

/-- Bits of a code, by the sums. -/
theorem codeBit1 (sd : Int) (h : Nat) (zs : List (Int × Int)) (hh : h ≤ 512) (hh4 : h % 4 = 0) (j : Nat) (x : Int × Int) (hx : (sgL sd h zs)[j]? = some x) (W : World) :
    Calls Try.prog 23 #[.string (cdC sd h zs), .int .i64 (2 * (j : Int))] W fun e w' => e = .returned (.tuple #[.int .i64 (sg1 x.1), .int .i64 0]) ∧ W = w' := by
  have hj := (List.getElem?_eq_some_iff.1 hx).1
  rw [sgL_length] at hj
  have hs := cdC_size sd h zs
  have := BitIn_calls (cdC sd h zs) (by omega) (2 * j) (by omega) W
  rw [cdC_bit1 sd h zs hh4 j x hx, show ((2 * j : Nat) : Int) = 2 * (j : Int) by omega] at this
  exact this
theorem codeBit2 (sd : Int) (h : Nat) (zs : List (Int × Int)) (hh : h ≤ 512) (hh4 : h % 4 = 0) (j : Nat) (x : Int × Int) (hx : (sgL sd h zs)[j]? = some x) (W : World) :
    Calls Try.prog 23 #[.string (cdC sd h zs), .int .i64 (2 * (j : Int) + 1)] W fun e w' => e = .returned (.tuple #[.int .i64 (sg1 x.2), .int .i64 0]) ∧ W = w' := by
  have hj := (List.getElem?_eq_some_iff.1 hx).1
  rw [sgL_length] at hj
  have hs := cdC_size sd h zs
  have := BitIn_calls (cdC sd h zs) (by omega) (2 * j + 1) (by omega) W
  rw [cdC_bit2 sd h zs hh4 j x hx, show ((2 * j + 1 : Nat) : Int) = 2 * (j : Int) + 1 by omega] at this
  exact this
set_option maxRecDepth 100000 in
set_option maxHeartbeats 4000000 in
theorem lawSl_ok (a0 sd c K C : Int) (hK0 : fitR c 1000 = K) (hK : (K < 0 ∧ IntKind.i64.wrap (-K) = C) ∨ (¬ K < 0 ∧ K = C)) (hCb : 0 ≤ C ∧ C ≤ 1000) (q : Option Addr) (capq : Nat) (zv : List (Int × Int)) (hzv : zv.length ≤ 140737488351232) (w : World) (hq : PL w q zv) :
    Calls Try.prog 6 #[.int .i64 a0, .int .u64 sd, .slice q zv.length capq, .int .i64 c] w fun e w' => e = .returned (.bool true) ∧ Below w.heap.size w w' := by
  obtain ⟨h, hw, hh1, hh2, hh3⟩ := widthR_is a0
  have hh4 : h % 4 = 0 := by omega
  have CW := width_calls a0 w
  rw [hw] at CW
  obtain ⟨WD, hWD⟩ : ∃ WD : Int, ((2 * h : Nat) : Int) = WD := ⟨_, rfl⟩
  rw [hWD] at CW
  have CB := Lib.hid (fun W => begun_calls h sd hh2 hh1 hh3 W)
  rw [hWD] at CB
  obtain ⟨n, hn⟩ : ∃ n, sizeN zv.length = n := ⟨_, rfl⟩
  have hnr := sizeN_range zv.length
  rw [hn] at hnr
  have CS := Lib.hid (fun W => size_calls q zv.length capq hzv W)
  rw [hn] at CS
  have CC := Lib.hid (fun W => fit_calls c 1000 (by decide) W)
  rw [hK0] at CC
  have CV := Lib.hid (fun W hz => (vector_calls q capq n 1000 zv hzv (by omega) (by decide) W hz).mono (fun e w' hh => LPost.n (vecL_length zv n 1000) hh))
  have bV := vecL_bound zv n 1000 (by decide)
  have lV := vecL_length zv n 1000
  generalize vecL zv n 1000 = V at CV bV lV
  have lE : (mulL (C + 1) V).length = n := by rw [mulL_length]; exact lV
  have lN : (mulL (-1) V).length = n := by rw [mulL_length]; exact lV
  have lF : (turnL V).length = n := by rw [turnL_length]; exact lV
  have bE := mulL_bound (u := V) (c := C + 1) 1001 1000 (by omega) (fun x hx => bV x hx)
  have bN := mulL_bound (u := V) (c := -1) 1 1000 (by omega) (fun x hx => bV x hx)
  have bF := turnL_bound 1000 bV
  have bV' : ∀ x ∈ V, (-1048576 ≤ x.1 ∧ x.1 ≤ 1048576) ∧ (-1048576 ≤ x.2 ∧ x.2 ≤ 1048576) := fun x hx => by have := bV x hx; omega
  have bE' : ∀ x ∈ mulL (C + 1) V, (-1048576 ≤ x.1 ∧ x.1 ≤ 1048576) ∧ (-1048576 ≤ x.2 ∧ x.2 ≤ 1048576) := fun x hx => by have := bE x hx; omega
  have bN' : ∀ x ∈ mulL (-1) V, (-1048576 ≤ x.1 ∧ x.1 ≤ 1048576) ∧ (-1048576 ≤ x.2 ∧ x.2 ≤ 1048576) := fun x hx => by have := bN x hx; omega
  have bF' : ∀ x ∈ turnL V, (-1048576 ≤ x.1 ∧ x.1 ≤ 1048576) ∧ (-1048576 ≤ x.2 ∧ x.2 ≤ 1048576) := fun x hx => by have := bF x hx; omega
  have CE := Lib.hid (fun (p1 : Option Addr) c1 W hz => (scaled_calls p1 c1 (C + 1) V (by omega) (fun x hx => by have := mul_bound (C + 1) x.1 1001 1000 (by omega) (bV x hx).1; have := mul_bound (C + 1) x.2 1001 1000 (by omega) (bV x hx).2; omega) W hz).mono (fun e w' hh => LPost.n lE hh))
  have CN := Lib.hid (fun (p1 : Option Addr) c1 W hz => (scaled_calls p1 c1 (-1) V (by omega) (fun x hx => by have := bV x hx; omega) W hz).mono (fun e w' hh => LPost.n lN hh))
  have CF := Lib.hid (fun (p1 : Option Addr) c1 W hz => (turned_calls p1 c1 V (by omega) (fun x hx => by have := bV x hx; omega) W hz).mono (fun e w' hh => LPost.n lF hh))
  rw [lV] at CE CN CF
  have SV := Lib.hid (fun p1 c1 W hz => signedN h n WD sd hWD hh1 hh2 hh3 (by omega) V lV bV' p1 c1 W hz)
  have SE := Lib.hid (fun p1 c1 W hz => signedN h n WD sd hWD hh1 hh2 hh3 (by omega) (mulL (C + 1) V) lE bE' p1 c1 W hz)
  have SN := Lib.hid (fun p1 c1 W hz => signedN h n WD sd hWD hh1 hh2 hh3 (by omega) (mulL (-1) V) lN bN' p1 c1 W hz)
  have SF := Lib.hid (fun p1 c1 W hz => signedN h n WD sd hWD hh1 hh2 hh3 (by omega) (turnL V) lF bF' p1 c1 W hz)
  rw [cdC_mul sd h (C + 1) (by omega) V] at SE
  have A2 : ∀ (i : Nat) (x : Int × Int), (sgL sd h V)[i]? = some x → (sgL sd h (mulL (-1) V))[i]? = some (-x.1, -x.2) := fun i x hx => by
    have hi := (List.getElem?_eq_some_iff.1 hx).1
    rw [sgL_length] at hi
    have ex : (sgL sd h V).getD i (0, 0) = x := by simp [List.getD, hx]
    rw [sgL_getElem _ _ _ _ hi, sgL_mul _ _ _ _ _ hi, ex, Int.neg_one_mul, Int.neg_one_mul]
  have A3 : ∀ (i : Nat) (x : Int × Int), (sgL sd h V)[i]? = some x → (sgL sd h (turnL V))[i]? = some (-x.2, x.1) := fun i x hx => by
    have hi := (List.getElem?_eq_some_iff.1 hx).1
    rw [sgL_length] at hi
    have ex : (sgL sd h V).getD i (0, 0) = x := by simp [List.getD, hx]
    rw [sgL_getElem _ _ _ _ hi, sgL_turn _ _ _ _ hi, ex]
  have BA := Lib.hid (fun j x hx W => codeBit1 sd h V hh2 hh4 j x hx W)
  have BB := Lib.hid (fun j x hx W => codeBit2 sd h V hh2 hh4 j x hx W)
  have BX := Lib.hid (fun j x hx W => codeBit1 sd h (mulL (-1) V) hh2 hh4 j _ (A2 j x hx) W)
  have BY := Lib.hid (fun j x hx W => codeBit2 sd h (mulL (-1) V) hh2 hh4 j _ (A2 j x hx) W)
  have BP := Lib.hid (fun j x hx W => codeBit1 sd h (turnL V) hh2 hh4 j _ (A3 j x hx) W)
  have BQ := Lib.hid (fun j x hx W => codeBit2 sd h (turnL V) hh2 hh4 j _ (A3 j x hx) W)
  have LA := Lib.hid (sgL_length sd h V)
  clear A2 A3
  generalize sgL sd h V = A at SV LA BA BB BX BY BP BQ
  generalize sgL sd h (mulL (C + 1) V) = A' at SE
  generalize sgL sd h (mulL (-1) V) = A2 at SN
  generalize sgL sd h (turnL V) = A3 at SF
  generalize cdC sd h V = z1 at SV SE BA BB
  generalize cdC sd h (mulL (-1) V) = z3 at SN BX BY
  generalize cdC sd h (turnL V) = z4 at SF BP BQ
  generalize mulL (C + 1) V = EU at CE SE
  generalize mulL (-1) V = NU at CN SN
  generalize turnL V = FU at CF SF
  have HZQ := Lib.hid hq
  have HCW := Lib.hid CW
  have HH := Lib.hid hh2
  obtain ⟨mv, hmv⟩ : ∃ mv, zv.length = mv := ⟨_, rfl⟩
  rw [hmv] at CV CS ⊢
  have e1 : IntKind.i64.wrap (C + 1) = C + 1 := by rw [IntKind.wrap_i64]; omega
  clear hw hn hCb bV lV lE lN lF bE bN bF bV' bE' bN' bF' hq CW hnr hmv hzv hWD hh1 hh2 hh3 hh4 hK0
  rcases hK with ⟨hk1, hk2⟩ | ⟨hk1, rfl⟩
  all_goals
    go_enter Try.func6, Try.ntmps6
    go_wp2_with fail
    refine HCW.out.mono ?_
    rintro _ _ ⟨rfl, rfl⟩
    go_wp2_with fail
    refine (CB.out w).mono ?_
    rintro _ w1 ⟨rfl, hb⟩
    have HQ1 := Lib.hid (HZQ.out.below hb)
    have HB1 := Lib.hid hb
    clear hb HCW CB HZQ
    go_wp2_with fail
    refine (CS.out w1).mono ?_
    rintro _ _ ⟨rfl, rfl⟩
    clear CS
    go_wp2_with fail
    refine (CV.out w1 HQ1.out).mono ?_
    rintro _ w2 ⟨p2, c2, rfl, hp, hb⟩
    have HB2 := Lib.hid (HB1.out.trans (hb.mono HB1.out.size))
    have HV := Lib.hid hp
    clear hp hb HB1  CV
    clear HQ1
    go_wp2_with fail
    refine (CC.out w2).mono ?_
    rintro _ _ ⟨rfl, rfl⟩
    clear CC
    go_wp2_with fail
    refine (SV.out p2 c2 w2 HV.out).mono ?_
    rintro _ w3 ⟨s3, p3, c3, rfl, hp, hb⟩
    have HV' := Lib.hid (HV.out.below hb)
    have HB3 := Lib.hid (HB2.out.trans (hb.mono HB2.out.size))
    have QA := Lib.hid hp
    clear hp hb HB2 HV SV
    have HV := HV'
    clear HV'
    go_wp2_with fail
    refine (CE.out p2 c2 w3 HV.out).mono ?_
    rintro _ w4 ⟨p4, c4, rfl, hp, hb⟩
    have HV' := Lib.hid (HV.out.below hb)
    have QA' := Lib.hid (QA.out.below hb)
    have HB4 := Lib.hid (HB3.out.trans (hb.mono HB3.out.size))
    have T1 := Lib.hid hp
    clear hp hb HB3 HV QA CE
    have HV := HV'
    clear HV'
    have QA := QA'
    clear QA'
    go_wp2_with fail
    refine (SE.out p4 c4 w4 T1.out).mono ?_
    rintro _ w5 ⟨s5, p5, c5, rfl, hp, hb⟩
    have HV' := Lib.hid (HV.out.below hb)
    have QA' := Lib.hid (QA.out.below hb)
    have HB5 := Lib.hid (HB4.out.trans (hb.mono HB4.out.size))
    have QE := Lib.hid hp
    clear hp hb HB4 HV QA SE
    have HV := HV'
    clear HV'
    have QA := QA'
    clear QA'
    clear T1 QE
    go_wp2_with fail
    refine (CN.out p2 c2 w5 HV.out).mono ?_
    rintro _ w6 ⟨p6, c6, rfl, hp, hb⟩
    have HV' := Lib.hid (HV.out.below hb)
    have QA' := Lib.hid (QA.out.below hb)
    have HB6 := Lib.hid (HB5.out.trans (hb.mono HB5.out.size))
    have T1 := Lib.hid hp
    clear hp hb HB5 HV QA CN
    have HV := HV'
    clear HV'
    have QA := QA'
    clear QA'
    go_wp2_with fail
    refine (SN.out p6 c6 w6 T1.out).mono ?_
    rintro _ w7 ⟨s7, p7, c7, rfl, hp, hb⟩
    have HV' := Lib.hid (HV.out.below hb)
    have QA' := Lib.hid (QA.out.below hb)
    have HB7 := Lib.hid (HB6.out.trans (hb.mono HB6.out.size))
    have QE := Lib.hid hp
    clear hp hb HB6 HV QA SN
    have HV := HV'
    clear HV'
    have QA := QA'
    clear QA'
    clear T1 QE
    go_wp2_with fail
    refine (CF.out p2 c2 w7 HV.out).mono ?_
    rintro _ w8 ⟨p8, c8, rfl, hp, hb⟩
    have QA' := Lib.hid (QA.out.below hb)
    have HB8 := Lib.hid (HB7.out.trans (hb.mono HB7.out.size))
    have T1 := Lib.hid hp
    clear hp hb HB7 QA CF
    have QA := QA'
    clear QA'
    go_wp2_with fail
    refine (SF.out p8 c8 w8 T1.out).mono ?_
    rintro _ w9 ⟨s9, p9, c9, rfl, hp, hb⟩
    have QA' := Lib.hid (QA.out.below hb)
    have HB9 := Lib.hid (HB8.out.trans (hb.mono HB8.out.size))
    have QE := Lib.hid hp
    clear hp hb HB8 QA SF
    have QA := QA'
    clear QA'
    clear T1 QE HV
    go_wp2
    go_loopw [26] (fun i ws => ∃ j : Nat, j ≤ h ∧ i = .int .i64 j ∧ Hid (w9 = ws)) (fun i _ => h - (intOf i).toNat)
    case atStart => exact ⟨0, Nat.zero_le _, rfl, Lib.hid rfl⟩
    case round =>
      obtain ⟨j, hj, rfl, HD⟩ := hrel
      have hD := HD.out
      subst hD
      clear HD
      by_cases hlt : j < h
      · have hji : (j : Int) < (h : Int) := by omega
        have hj0 : (0 : Int) ≤ (j : Int) := by omega
        have hhm := HH.out
        obtain ⟨x, hx⟩ : ∃ x, A[j]? = some x := ⟨_, List.getElem?_eq_getElem (by rw [LA.out]; exact hlt)⟩
        obtain ⟨qa, rfl, a0', a1'⟩ := QA.out j x hx
        have D0 : Hid True := Lib.hid trivial
        by_cases z1' : x.1 = 0
        · have zb : (x.1 == 0) = true := by rw [beq_iff_eq]; exact z1'
          clear z1' hx
          go_wp2
          go_roundw
          case rel => exact ⟨j + 1, hlt, by go_num, D0⟩
          case measure => simp [intOf]; omega
        by_cases z2' : x.2 = 0
        · have zb : (x.1 == 0) = false := by rw [beq_eq_false_iff_ne]; exact z1'
          have zc : (x.2 == 0) = true := by rw [beq_iff_eq]; exact z2'
          clear z1' z2' hx
          go_wp2
          go_roundw
          case rel => exact ⟨j + 1, hlt, by go_num, D0⟩
          case measure => simp [intOf]; omega
        have zb : (x.1 == 0) = false := by rw [beq_eq_false_iff_ne]; exact z1'
        have zc : (x.2 == 0) = false := by rw [beq_eq_false_iff_ne]; exact z2'
        have b1 := Lib.hid (BA.out j x hx)
        have b2 := Lib.hid (BB.out j x hx)
        have b3 := Lib.hid (BX.out j x hx)
        have b4 := Lib.hid (BY.out j x hx)
        have b5 := Lib.hid (BP.out j x hx)
        have b6 := Lib.hid (BQ.out j x hx)
        try simp only at b3 b4 b5 b6
        rw [sg1_neg z1'] at b3
        rw [sg1_neg z2'] at b4 b5
        have r1 := sg1_range x.1
        have r2 := sg1_range x.2
        generalize sg1 x.1 = u at b1 b3 b6 r1
        generalize sg1 x.2 = v at b2 b4 b5 r2
        have m1 : IntKind.i64.wrap (2 * (j : Int)) = 2 * (j : Int) := by rw [IntKind.wrap_i64]; omega
        have m2 : IntKind.i64.wrap (2 * (j : Int) + 1) = 2 * (j : Int) + 1 := by rw [IntKind.wrap_i64]; omega
        have m3 : IntKind.i64.wrap (1 - u) = 1 - u := by rw [IntKind.wrap_i64]; omega
        have m4 : IntKind.i64.wrap (1 - v) = 1 - v := by rw [IntKind.wrap_i64]; omega
        have n1 : (1 - u != 1 - u) = false := bne_self_eq_false _
        have n2 : (1 - v != 1 - v) = false := bne_self_eq_false _
        have n3 : (u != u) = false := bne_self_eq_false _
        clear z1' z2' hx r1 r2
        go_wp2_with fail
        refine (b1.out w9).mono ?_
        rintro _ _ ⟨rfl, rfl⟩
        go_wp2_with fail
        refine (b2.out w9).mono ?_
        rintro _ _ ⟨rfl, rfl⟩
        go_wp2_with fail
        refine (b3.out w9).mono ?_
        rintro _ _ ⟨rfl, rfl⟩
        go_wp2_with fail
        refine (b4.out w9).mono ?_
        rintro _ _ ⟨rfl, rfl⟩
        go_wp2_with fail
        refine (b5.out w9).mono ?_
        rintro _ _ ⟨rfl, rfl⟩
        go_wp2_with fail
        refine (b6.out w9).mono ?_
        rintro _ _ ⟨rfl, rfl⟩
        go_wp2
        go_roundw
        case rel => exact ⟨j + 1, hlt, by go_num, D0⟩
        case measure => simp [intOf]; omega
      · obtain rfl : j = h := by omega
        have hge : ¬ ((j : Int) < (j : Int)) := by omega
        go_wp2
        go_ret
        exact ⟨rfl, HB9.out⟩
theorem SignLength_walk (a0 : Int) (w0 : (Lit.int .i64 a0).wf = true) (a1 : Int) (w1 : (Lit.int .u64 a1).wf = true) (v2 : Value) (z2 : List (Int × Int)) (a3 : Int) (w3 : (Lit.int .i64 a3).wf = true) (w : World) (h2 : IsSl w 2 16 IsPt [v2] z2) :
    Calls Try.prog 6 #[.int .i64 a0, .int .u64 a1, v2, .int .i64 a3] w fun e w' => e = .returned (.bool true) ∧ Below w.heap.size w w' := by
  obtain ⟨hn, ⟨p, cap, rfl, hp⟩, _⟩ := parts_of_arg h2
  have hb := fitR_bound a3 1000 (by decide)
  by_cases hk : fitR a3 1000 < 0
  · exact lawSl_ok a0 a1 a3 _ (-(fitR a3 1000)) rfl (.inl ⟨hk, by rw [IntKind.wrap_i64]; omega⟩) (by omega) p cap z2 (by omega) w hp
  · exact lawSl_ok a0 a1 a3 _ _ rfl (.inr ⟨hk, rfl⟩) (by omega) p cap z2 (by omega) w hp
end Go.Proofs.Ytcdlmjbjpeokfaa
