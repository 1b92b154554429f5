/-
  WALK: the law SignFar. Printed by sfgen.py.
-/
import Derived.Test.YtcdlmjbjpeokfaaDoorFarP
import Derived.BigRegion
namespace Go.Proofs.YtcdlmjbjpeokfaaDoor
open Go.RowKit ArgK
set_option linter.unusedVariables false
set_option maxRecDepth 100000 in
set_option maxHeartbeats 4000000 in
theorem lawSf_ok (a0 sd : Int) (p q : Option Addr) (capp capq : Nat) (zu zv : List (Int × Int)) (hzu : zu.length ≤ 140737488351232) (hzv : zv.length ≤ 140737488351232) (w : World) (hp : PL w p zu) (hq : PL w q zv) (hT : OnesTab w) :
    Calls Tryd.prog 3 #[.int .i64 a0, .int .u64 sd, .slice p zu.length capp, .slice q zv.length capq] w fun e w' => e = .returned (.bool true) ∧ Below w.heap.size w w' := by
  obtain ⟨h, hw, hh1, hh2, hh3⟩ := widthR_is a0
  have hh4 : h % 4 = 0 := by omega
  have CW := width_calls a0 w
  rw [hw] at CW
  obtain ⟨WD, hWD⟩ : ∃ WD : Int, ((2 * h : Nat) : Int) = WD := ⟨_, rfl⟩
  rw [hWD] at CW
  have CB := Lib.hid (fun W => begun_calls h sd hh2 hh1 hh3 W)
  rw [hWD] at CB
  obtain ⟨n, hn⟩ : ∃ n, sizeN zu.length = n := ⟨_, rfl⟩
  have hnr := sizeN_range zu.length
  rw [hn] at hnr
  have CS := Lib.hid (fun W => size_calls p zu.length capp hzu W)
  rw [hn] at CS
  have CU := Lib.hid (fun W hz => (vector_calls p capp n 1048576 zu hzu (by omega) (by decide) W hz).mono (fun e w' hh => LPost.n (vecL_length zu n 1048576) hh))
  have CV := Lib.hid (fun W hz => (vector_calls q capq n 1048576 zv hzv (by omega) (by decide) W hz).mono (fun e w' hh => LPost.n (vecL_length zv n 1048576) hh))
  have CO : Hid (∀ W, Calls Tryd.prog 7 #[.slice none 0 0, .int .i64 n, .int .i64 1] W (LPostN W (vecL [] n 1) n)) := Lib.hid (fun W => (vector_calls none 0 n 1 [] (by decide) (by omega) (by decide) W (fun i x hx => by simp at hx)).mono (fun e w' hh => LPost.n (vecL_length [] n 1) hh))
  have bU := vecL_bound zu n 1048576 (by decide)
  have bV := vecL_bound zv n 1048576 (by decide)
  have bO := vecL_bound [] n 1 (by decide)
  have lU := vecL_length zu n 1048576
  have lV := vecL_length zv n 1048576
  have lO := vecL_length [] n 1
  have zO := wt_none sd h hh4 _ (vecL_nil n 1)
  generalize vecL zu n 1048576 = U at CU bU lU
  generalize vecL zv n 1048576 = V at CV bV lV
  generalize vecL [] n 1 = O at CO bO lO zO
  have bO' : ∀ x ∈ O, (-1048576 ≤ x.1 ∧ x.1 ≤ 1048576) ∧ (-1048576 ≤ x.2 ∧ x.2 ≤ 1048576) := fun x hx => by have := bO x hx; omega
  have SU := Lib.hid (fun p1 c1 W hz => signedN h n WD sd hWD hh1 hh2 hh3 (by omega) U lU bU p1 c1 W hz)
  have SV := Lib.hid (fun p1 c1 W hz => signedN h n WD sd hWD hh1 hh2 hh3 (by omega) V lV bV p1 c1 W hz)
  have SO := Lib.hid (fun p1 c1 W hz => signedN h n WD sd hWD hh1 hh2 hh3 (by omega) O lO bO' p1 c1 W hz)
  have hs1 := cdC_size sd h U
  have hs2 := cdC_size sd h V
  have hs3 := cdC_size sd h O
  have CD := Lib.hid (fun W hT => Distance_calls (cdC sd h U) (cdC sd h V) (by omega) (by omega) W hT)
  rw [dist_far sd h hh4 U V] at CD
  have CWt := Lib.hid (fun W hT => Weight_calls (cdC sd h O) (by omega) W hT)
  rw [zO] at CWt
  have LA := Lib.hid (sgL_length sd h U)
  have LB2 := Lib.hid (sgL_length sd h V)
  generalize sgL sd h U = A at SU LA CD
  generalize sgL sd h V = B at SV LB2 CD
  generalize sgL sd h O = O' at SO
  generalize cdC sd h U = z1 at SU CD
  generalize cdC sd h V = z2 at SV CD
  generalize cdC sd h O = z3 at SO CWt
  have HZP := Lib.hid hp
  have HZQ := Lib.hid hq
  have HCW := Lib.hid CW
  have HT := Lib.hid hT
  have HH := Lib.hid hh2
  have HFS := Lib.hid (farN_succ A B)
  have HFL := Lib.hid (farN_le A B)
  obtain ⟨fr, hfr⟩ : ∃ fr, farN A B = fr := ⟨_, rfl⟩
  rw [hfr] at CD HFS HFL
  have HF0 : Hid (fr 0 = 0) := Lib.hid (by rw [← hfr]; rfl)
  obtain ⟨mu, hmu⟩ : ∃ mu, zu.length = mu := ⟨_, rfl⟩
  obtain ⟨mv, hmv⟩ : ∃ mv, zv.length = mv := ⟨_, rfl⟩
  rw [hmu] at CU CS ⊢
  rw [hmv] at CV ⊢
  clear hw hn bU bV bO lU lV lO bO' zO hs1 hs2 hs3 hp hq CW hnr hmu hmv hzu hzv hWD hh1 hh2 hh3 hh4 hT hfr
  go_enter Tryd.func3, Tryd.ntmps3
  go_wp2_with fail
  refine HCW.out.mono ?_
  rintro _ _ ⟨rfl, rfl⟩
  go_wp2_with fail
  refine (CB.out w).mono ?_
  rintro _ w1 ⟨rfl, hb⟩
  have HP1 := Lib.hid (HZP.out.below hb)
  have HQ1 := Lib.hid (HZQ.out.below hb)
  have HB1 := Lib.hid hb
  clear hb HCW CB HZP HZQ
  go_wp2_with fail
  refine (CS.out w1).mono ?_
  rintro _ _ ⟨rfl, rfl⟩
  clear CS
  go_wp2_with fail
  refine (CU.out w1 HP1.out).mono ?_
  rintro _ w2 ⟨p2, c2, rfl, hp, hb⟩
  have HQ1' := Lib.hid (HQ1.out.below hb)
  have HB2 := Lib.hid (HB1.out.trans (hb.mono HB1.out.size))
  have HU := Lib.hid hp
  clear hp hb HB1 HQ1 CU
  have HQ1 := HQ1'
  clear HQ1'
  go_wp2_with fail
  refine (CV.out w2 HQ1.out).mono ?_
  rintro _ w3 ⟨p3, c3, rfl, hp, hb⟩
  have HU' := Lib.hid (HU.out.below hb)
  have HB3 := Lib.hid (HB2.out.trans (hb.mono HB2.out.size))
  have HV := Lib.hid hp
  clear hp hb HB2 HU CV
  have HU := HU'
  clear HU'
  go_wp2_with fail
  refine (SU.out p2 c2 w3 HU.out).mono ?_
  rintro _ w4 ⟨s4, p4, c4, rfl, hp, hb⟩
  have HV' := Lib.hid (HV.out.below hb)
  have HB4 := Lib.hid (HB3.out.trans (hb.mono HB3.out.size))
  have QA := Lib.hid hp
  clear hp hb HB3 HV SU
  have HV := HV'
  clear HV'
  go_wp2_with fail
  refine (SV.out p3 c3 w4 HV.out).mono ?_
  rintro _ w5 ⟨s5, p5, c5, rfl, hp, hb⟩
  have QA' := Lib.hid (QA.out.below hb)
  have HB5 := Lib.hid (HB4.out.trans (hb.mono HB4.out.size))
  have QB := Lib.hid hp
  clear hp hb HB4 QA SV
  have QA := QA'
  clear QA'
  go_wp2_with fail
  refine (CO.out w5).mono ?_
  rintro _ w6 ⟨p6, c6, rfl, hp, hb⟩
  have QA' := Lib.hid (QA.out.below hb)
  have QB' := Lib.hid (QB.out.below hb)
  have HB6 := Lib.hid (HB5.out.trans (hb.mono HB5.out.size))
  have T1 := Lib.hid hp
  clear hp hb HB5 QA QB CO
  have QA := QA'
  clear QA'
  have QB := QB'
  clear QB'
  go_wp2_with fail
  refine (SO.out p6 c6 w6 T1.out).mono ?_
  rintro _ w7 ⟨s7, p7, c7, rfl, hp, hb⟩
  have QA' := Lib.hid (QA.out.below hb)
  have QB' := Lib.hid (QB.out.below hb)
  have HB7 := Lib.hid (HB6.out.trans (hb.mono HB6.out.size))
  have QE := Lib.hid hp
  clear hp hb HB6 QA QB SO
  have QA := QA'
  clear QA'
  have QB := QB'
  clear QB'
  clear T1 QE HP1 HQ1 HU HV
  have HT7 : Hid (∀ m, OnesTab (w7.drewN m)) := Lib.hid (fun m => HT.out.below (below_drewN HB7.out m))
  go_wp2_with fail
  refine (CD.out w7 (HT7.out 0)).mono ?_
  rintro _ w8 ⟨rfl, hD⟩
  have HD8 : Hid (∃ m, w8 = w7.drewN m) := Lib.hid hD
  have T8 : Hid (OnesTab w8) := Lib.hid (by obtain ⟨m, hm⟩ := hD; rw [hm]; exact HT7.out m)
  clear hD CD
  go_wp2_with fail
  refine (CWt.out w8 T8.out).mono ?_
  rintro _ w9 ⟨rfl, hD⟩
  have HD9 : Hid (∃ m, w9 = w7.drewN m) := Lib.hid (by obtain ⟨m, hm⟩ := hD; obtain ⟨m2, hm2⟩ := HD8.out; exact ⟨m2 + m, by rw [hm, hm2, World.drewN_drewN]⟩)
  clear hD CWt T8 HD8
  go_wp2
  go_loopw [25, 26] (fun f i ws => ∃ j : Nat, j ≤ h ∧ i = .int .i64 j ∧ f = .int .i64 (fr j : Nat) ∧ Hid (∃ m, ws = w7.drewN m)) (fun _ i _ => h - (intOf i).toNat)
  case atStart => exact ⟨0, Nat.zero_le _, rfl, by rw [HF0.out]; rfl, HD9⟩
  case round =>
    obtain ⟨j, hj, rfl, rfl, HD⟩ := hrel
    have HBq : Below w7.heap.size w7 wr := by obtain ⟨m, hm⟩ := HD.out; rw [hm]; exact below_drewN (Below.refl _ _) m
    by_cases hlt : j < h
    · have hji : (j : Int) < (h : Int) := by omega
      have hj0 : (0 : Int) ≤ (j : Int) := by omega
      obtain ⟨x, hx⟩ : ∃ x, A[j]? = some x := ⟨_, List.getElem?_eq_getElem (by rw [LA.out]; exact hlt)⟩
      obtain ⟨y, hy⟩ : ∃ y, B[j]? = some y := ⟨_, List.getElem?_eq_getElem (by rw [LB2.out]; exact hlt)⟩
      obtain ⟨qa, rfl, a0', a1'⟩ := (QA.out.below HBq) j x hx
      obtain ⟨qb, rfl, b0', b1'⟩ := (QB.out.below HBq) j y hy
      obtain ⟨u1, hu1⟩ : ∃ u1, decide (0 < x.1) = u1 := ⟨_, rfl⟩
      obtain ⟨u2, hu2⟩ : ∃ u2, decide (0 < x.2) = u2 := ⟨_, rfl⟩
      obtain ⟨v1, hv1⟩ : ∃ v1, decide (0 < y.1) = v1 := ⟨_, rfl⟩
      obtain ⟨v2, hv2⟩ : ∃ v2, decide (0 < y.2) = v2 := ⟨_, rfl⟩
      obtain ⟨t1, ht1⟩ : ∃ t1, (u1 == v1) = t1 := ⟨_, rfl⟩
      obtain ⟨t2, ht2⟩ : ∃ t2, (u2 == v2) = t2 := ⟨_, rfl⟩
      have hfs := HFS.out j x y hx hy (!t1) (!t2) (by rw [hu1, hv1]; unfold bne; rw [ht1]) (by rw [hu2, hv2]; unfold bne; rw [ht2])
      have hfl := HFL.out j
      have hhm := HH.out
      obtain ⟨F, hF⟩ : ∃ F, fr j = F := ⟨_, rfl⟩
      rw [hF] at hfs hfl ⊢
      have d1 : wrap64 ((F : Int) + 1) = (F : Int) + 1 := by unfold wrap64; omega
      have d2 : wrap64 ((F : Int) + 1 + 1) = (F : Int) + 1 + 1 := by unfold wrap64; omega
      have HFS2 := Lib.hid hfs
      have hhj : j + 1 ≤ h := hlt
      clear hfs hF hx hy HBq hfl
      cases t1 <;> cases t2
      all_goals
        go_wp2
        go_quiet (fail)
        go_wp2
        go_quiet (fail)
        go_wp2
        go_roundw
        case rel =>
          refine ⟨j + 1, hhj, by go_num, ?_, Lib.hid (by obtain ⟨m, hm⟩ := HD.out; rw [hm]; simp only [World.drewN_drewN]; exact ⟨_, rfl⟩)⟩
          rw [HFS2.out]
          simp [b01] <;> (first | exact d1 | exact d2)
        case measure => simp [intOf]; omega
    · obtain rfl : j = h := by omega
      have hge : ¬ ((j : Int) < (j : Int)) := by omega
      have hself : ((fr j : Int) == (fr j : Int)) = true := beq_self_eq_true _
      go_wp2
      go_ret
      refine ⟨rfl, ?_⟩
      obtain ⟨m, hm⟩ := HD.out
      rw [hm]
      exact below_drewN HB7.out m
theorem SignFar_walk (a0 : Int) (w0 : (Lit.int .i64 a0).wf = true) (a1 : Int) (w1 : (Lit.int .u64 a1).wf = true) (v2 : Value) (z2 : List (Int × Int)) (v3 : Value) (z3 : List (Int × Int)) (w : World) (h2 : IsSl w 2 16 IsPt [v2] z2) (h3 : IsSl w 2 16 IsPt [v3] z3) (hL : TabLaid w) :
    Calls Tryd.prog 3 #[.int .i64 a0, .int .u64 a1, v2, v3] w fun e w' => e = .returned (.bool true) ∧ Below w.heap.size w w' := by
  obtain ⟨hn, ⟨p, cap, rfl, hp⟩, _⟩ := parts_of_arg h2
  obtain ⟨hm, ⟨q, cbp, rfl, hq⟩, _⟩ := parts_of_arg h3
  exact lawSf_ok a0 a1 p q cap cbp z2 z3 (by omega) (by omega) w hp hq (tab_of_laid hL)
end Go.Proofs.YtcdlmjbjpeokfaaDoor
