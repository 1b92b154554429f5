/-
  WALK: the law SignAdds. Printed by sagen.py.
-/
import Derived.Test.YtcdlmjbjpeokfaaAddY
import Derived.Deep.AppendLies
import Derived.Deep.RegionLaw
import Derived.BigRegion
namespace Go.Proofs.Ytcdlmjbjpeokfaa
open Go.RowKit ArgK
set_option linter.unusedVariables false
set_option maxRecDepth 100000 in
set_option maxHeartbeats 4000000 in
theorem lawSa_ok (a0 sd c : Int) (p q : Option Addr) (capp capq : Nat) (zu zv : List (Int × Int)) (hzu : zu.length ≤ 140737488351232) (hzv : zv.length ≤ 140737488351232) (w : World) (hp : PL w p zu) (hq : PL w q zv) :
    Calls Try.prog 5 #[.int .i64 a0, .int .u64 sd, .slice p zu.length capp, .slice q zv.length capq, .int .i64 c] w fun e w' => e = .returned (.bool true) ∧ Below w.heap.size w w' := by
  obtain ⟨i0, hi, hy0, hy1, hy2⟩ := info_parts partinfo
  obtain ⟨h, hw, hh1, hh2, hh3⟩ := widthR_is a0
  have CW := width_calls a0 w
  rw [hw] at CW
  obtain ⟨WD, hWD⟩ : ∃ WD : Int, ((2 * h : Nat) : Int) = WD := ⟨_, rfl⟩
  rw [hWD] at CW
  have CB := Lib.hid (fun W => begun_calls h sd hh2 hh1 hh3 W)
  rw [hWD] at CB
  obtain ⟨n, hn⟩ : ∃ n, sizeN zu.length = n := ⟨_, rfl⟩
  have hnr := sizeN_range zu.length
  rw [hn] at hnr
  have CS := Lib.hid (fun W => size_calls p zu.length capp hzu W)
  rw [hn] at CS
  obtain ⟨C, hC⟩ : ∃ C, fitR c 1000 = C := ⟨_, rfl⟩
  have hCb := fitR_bound c 1000 (by decide)
  have CC := Lib.hid (fun W => fit_calls c 1000 (by decide) W)
  rw [hC] at hCb CC
  have CU := Lib.hid (fun W hz => (vector_calls p capp n 1000 zu hzu (by omega) (by decide) W hz).mono (fun e w' hh => LPost.n (vecL_length zu n 1000) hh))
  have CV := Lib.hid (fun W hz => (vector_calls q capq n 1000 zv hzv (by omega) (by decide) W hz).mono (fun e w' hh => LPost.n (vecL_length zv n 1000) hh))
  have bU := vecL_bound zu n 1000 (by decide)
  have bV := vecL_bound zv n 1000 (by decide)
  have lU := vecL_length zu n 1000
  have lV := vecL_length zv n 1000
  generalize vecL zu n 1000 = U at CU bU lU
  generalize vecL zv n 1000 = V at CV bV lV
  have lB : (addL U V).length = n := by rw [addL_length]; exact lU
  have lE : (mulL C U).length = n := by rw [mulL_length]; exact lU
  have lF : (turnL U).length = n := by rw [turnL_length]; exact lU
  have bB := addL_bound (u := U) (v := V) (by omega) bU bV
  have bE := mulL_bound (u := U) (c := C) 1000 1000 (by omega) (fun x hx => bU x hx)
  have bF := turnL_bound 1000 bU
  have bU' : ∀ x ∈ U, (-1048576 ≤ x.1 ∧ x.1 ≤ 1048576) ∧ (-1048576 ≤ x.2 ∧ x.2 ≤ 1048576) := fun x hx => by have := bU x hx; omega
  have bV' : ∀ x ∈ V, (-1048576 ≤ x.1 ∧ x.1 ≤ 1048576) ∧ (-1048576 ≤ x.2 ∧ x.2 ≤ 1048576) := fun x hx => by have := bV x hx; omega
  have bE' : ∀ x ∈ mulL C U, (-1048576 ≤ x.1 ∧ x.1 ≤ 1048576) ∧ (-1048576 ≤ x.2 ∧ x.2 ≤ 1048576) := fun x hx => by have := bE x hx; omega
  have bF' : ∀ x ∈ turnL U, (-1048576 ≤ x.1 ∧ x.1 ≤ 1048576) ∧ (-1048576 ≤ x.2 ∧ x.2 ≤ 1048576) := fun x hx => by have := bF x hx; omega
  have CE := Lib.hid (fun (p1 : Option Addr) c1 W hz => (scaled_calls p1 c1 C U (by omega) (fun x hx => by have := mul_bound C x.1 1000 1000 (by omega) (bU x hx).1; have := mul_bound C x.2 1000 1000 (by omega) (bU x hx).2; omega) W hz).mono (fun e w' hh => LPost.n lE hh))
  have CF := Lib.hid (fun (p1 : Option Addr) c1 W hz => (turned_calls p1 c1 U (by omega) (fun x hx => by have := bU x hx; omega) W hz).mono (fun e w' hh => LPost.n lF hh))
  rw [lU] at CE CF
  have fU := fits_of bU'
  have bA := sgL_bound_i (sd := sd) (h := h) (zs := U) (by omega) fU
  have bBB := sgL_bound_i (sd := sd) (h := h) (zs := V) (by omega) (fits_of bV')
  have SU := Lib.hid (fun p1 c1 W hz => signedN h n WD sd hWD hh1 hh2 hh3 (by omega) U lU bU' p1 c1 W hz)
  have SV := Lib.hid (fun p1 c1 W hz => signedN h n WD sd hWD hh1 hh2 hh3 (by omega) V lV bV' p1 c1 W hz)
  have SB := Lib.hid (fun p1 c1 W hz => signedN h n WD sd hWD hh1 hh2 hh3 (by omega) (addL U V) lB bB p1 c1 W hz)
  have SE := Lib.hid (fun p1 c1 W hz => signedN h n WD sd hWD hh1 hh2 hh3 (by omega) (mulL C U) lE bE' p1 c1 W hz)
  have SF := Lib.hid (fun p1 c1 W hz => signedN h n WD sd hWD hh1 hh2 hh3 (by omega) (turnL U) lF bF' p1 c1 W hz)
  have A1 : Hid (∀ (i : Nat) (x y : Int × Int), (sgL sd h U)[i]? = some x → (sgL sd h V)[i]? = some y → (sgL sd h (addL U V))[i]? = some (x.1 + y.1, x.2 + y.2)) := Lib.hid (fun i x y hx hy => by
    have hi := (List.getElem?_eq_some_iff.1 hx).1
    rw [sgL_length] at hi
    have ex : (sgL sd h U).getD i (0, 0) = x := by simp [List.getD, hx]
    have ey : (sgL sd h V).getD i (0, 0) = y := by simp [List.getD, hy]
    rw [sgL_getElem _ _ _ _ hi, sgL_add _ _ _ _ (by omega) _ hi, ex, ey])
  have A2 : Hid (∀ (i : Nat) (x : Int × Int), (sgL sd h U)[i]? = some x → (sgL sd h (mulL C U))[i]? = some (C * x.1, C * x.2)) := Lib.hid (fun i x hx => by
    have hi := (List.getElem?_eq_some_iff.1 hx).1
    rw [sgL_length] at hi
    have ex : (sgL sd h U).getD i (0, 0) = x := by simp [List.getD, hx]
    rw [sgL_getElem _ _ _ _ hi, sgL_mul _ _ _ _ _ hi, ex])
  have A3 : Hid (∀ (i : Nat) (x : Int × Int), (sgL sd h U)[i]? = some x → (sgL sd h (turnL U))[i]? = some (-x.2, x.1)) := Lib.hid (fun i x hx => by
    have hi := (List.getElem?_eq_some_iff.1 hx).1
    rw [sgL_length] at hi
    have ex : (sgL sd h U).getD i (0, 0) = x := by simp [List.getD, hx]
    rw [sgL_getElem _ _ _ _ hi, sgL_turn _ _ _ _ hi, ex])
  have LA := Lib.hid (sgL_length sd h U)
  have LB2 := Lib.hid (sgL_length sd h V)
  generalize sgL sd h U = A at SU bA A1 A2 A3 LA
  generalize sgL sd h V = B at SV bBB A1 LB2
  generalize sgL sd h (addL U V) = D at SB A1
  generalize sgL sd h (mulL C U) = E at SE A2
  generalize sgL sd h (turnL U) = F at SF A3
  have lG : (turnL A).length = h := by rw [turnL_length]; exact LA.out
  have lH : (mulL C A).length = h := by rw [mulL_length]; exact LA.out
  have CG := Lib.hid (fun (p1 : Option Addr) c1 W hz => (turned_calls p1 c1 A (by rw [LA.out]; omega) bA W hz).mono (fun e w' hh => LPost.n lG hh))
  have CH := Lib.hid (fun (p1 : Option Addr) c1 W hz => (scaled_calls p1 c1 C A (by rw [LA.out]; omega) (fun x hx => by have := mul_bound C x.1 1000 1073741824 (by omega) (bA x hx).1; have := mul_bound C x.2 1000 1073741824 (by omega) (bA x hx).2; omega) W hz).mono (fun e w' hh => LPost.n lH hh))
  rw [LA.out] at CG CH
  have A4 : Hid (∀ (i : Nat) (x : Int × Int), A[i]? = some x → (turnL A)[i]? = some (-x.2, x.1)) := Lib.hid (fun i x hx => by simp [turnL, hx])
  have A5 : Hid (∀ (i : Nat) (x : Int × Int), A[i]? = some x → (mulL C A)[i]? = some (C * x.1, C * x.2)) := Lib.hid (fun i x hx => by simp [mulL, hx])
  have A6 : Hid (∀ (i : Nat) (x y : Int × Int), U[i]? = some x → V[i]? = some y → (addL U V)[i]? = some (x.1 + y.1, x.2 + y.2)) := Lib.hid (addL_get U V)
  generalize turnL A = G at CG A4
  generalize mulL C A = H at CH A5
  generalize addL U V = O at SB A6 lB
  generalize mulL C U = EU at CE SE
  generalize turnL U = FU at CF SF
  generalize cdC sd h U = z1 at SU
  generalize cdC sd h V = z2 at SV
  generalize cdC sd h O = z3 at SB
  generalize cdC sd h EU = z4 at SE
  generalize cdC sd h FU = z5 at SF
  have HLU := Lib.hid lU
  have HLV := Lib.hid lV
  have HLB := Lib.hid lB
  have HbU := Lib.hid bU
  have HbV := Lib.hid bV
  have HbA := Lib.hid bA
  have HbB := Lib.hid bBB
  have HZP := Lib.hid hp
  have HZQ := Lib.hid hq
  have HCW := Lib.hid CW
  obtain ⟨mu, hmu⟩ : ∃ mu, zu.length = mu := ⟨_, rfl⟩
  obtain ⟨mv, hmv⟩ : ∃ mv, zv.length = mv := ⟨_, rfl⟩
  rw [hmu] at CU CS ⊢
  rw [hmv] at CV ⊢
  have hn40 : n ≤ 40 := hnr.2
  clear hw hn hC hCb bU bV lU lV lB lE lF bB bE bF bU' bV' bE' bF' fU bA bBB lG lH hp hq CW hnr hmu hmv hzu hzv hWD hh1 hh3
  go_enter Try.func5, Try.ntmps5
  go_wp2_with fail
  refine HCW.out.mono ?_
  rintro _ _ ⟨rfl, rfl⟩
  go_wp2_with fail
  refine (CB.out w).mono ?_
  rintro _ w1 ⟨rfl, hb⟩
  have HP1 := Lib.hid (HZP.out.below hb)
  have HQ1 := Lib.hid (HZQ.out.below hb)
  have HB1 := Lib.hid hb
  clear hb HCW CB HZP HZQ
  go_wp2_with fail
  refine (CS.out w1).mono ?_
  rintro _ _ ⟨rfl, rfl⟩
  clear CS

  go_wp2_with fail
  refine (CU.out w1 HP1.out).mono ?_
  rintro _ w2 ⟨p2, c2, rfl, hp, hb⟩
  have HQ1' := Lib.hid (HQ1.out.below hb)
  have HB2 := Lib.hid (HB1.out.trans (hb.mono HB1.out.size))
  have HU := Lib.hid hp
  clear hp hb HB1 HQ1
  have HQ1 := HQ1'
  clear HQ1'
  go_wp2_with fail
  refine (CV.out w2 HQ1.out).mono ?_
  rintro _ w3 ⟨p3, c3, rfl, hp, hb⟩
  have HU' := Lib.hid (HU.out.below hb)
  have HB3 := Lib.hid (HB2.out.trans (hb.mono HB2.out.size))
  have HV := Lib.hid hp
  clear hp hb HB2 HU
  have HU := HU'
  clear HU'
  go_wp2_with fail
  refine (CC.out w3).mono ?_
  rintro _ _ ⟨rfl, rfl⟩
  clear CC CU CV HP1 HQ1
  go_wp2
  go_loopw [13, 14] (fun lv i ws => ∃ (k : Nat) (v : Value), k ≤ n ∧ i = .int .i64 k ∧ v = lv ∧ Hid (ws.ownsRow w3.heap.size 33 2 lv k (encP (O.take k))) ∧ Hid (Below w3.heap.size w3 ws)) (fun _ i _ => n - (intOf i).toNat)
  case atStart => exact ⟨0, _, Nat.zero_le _, rfl, rfl, Lib.hid (World.ownsRow_nil _ _ _ _), Lib.hid (Below.refl _ _)⟩
  case round =>
    obtain ⟨k, lv, hk, rfl, rfl, HO, HBr⟩ := hrel
    by_cases hlt : k < n
    · have hki : (k : Int) < (n : Int) := by omega
      have hk0 : (0 : Int) ≤ (k : Int) := by omega
      obtain ⟨x, hx⟩ : ∃ x, U[k]? = some x := ⟨_, List.getElem?_eq_getElem (by rw [HLU.out]; exact hlt)⟩
      obtain ⟨y, hy⟩ : ∃ y, V[k]? = some y := ⟨_, List.getElem?_eq_getElem (by rw [HLV.out]; exact hlt)⟩
      have hJX := A6.out k x y hx hy
      have bx := HbU.out x (List.mem_of_getElem? hx)
      have by_ := HbV.out y (List.mem_of_getElem? hy)
      have e1 : IntKind.i64.wrap (x.1 + y.1) = x.1 + y.1 := by rw [IntKind.wrap_i64]; omega
      have e2 : IntKind.i64.wrap (x.2 + y.2) = x.2 + y.2 := by rw [IntKind.wrap_i64]; omega
      obtain ⟨pu, rfl, u0, u1⟩ := (HU.out.below HBr.out) k x hx
      obtain ⟨pv, rfl, v0, v1⟩ := (HV.out.below HBr.out) k y hy
      obtain ⟨Z, hZ⟩ : ∃ Z, (x.1 + y.1, x.2 + y.2) = Z := ⟨_, rfl⟩
      have hZ1 : x.1 + y.1 = Z.1 := by rw [← hZ]
      have hZ2 : x.2 + y.2 = Z.2 := by rw [← hZ]
      rw [hZ] at hJX
      rw [hZ1] at e1
      rw [hZ2] at e2
      have HTK : Hid (encP (O.take (k + 1)) = encP (O.take k) ++ cellsP Z) := Lib.hid (by rw [List.take_add_one, hJX]; exact encP_snoc _ _)
      have hwr : w3.heap.size ≤ wr.heap.size := HBr.out.size
      have chk1 : (k + 1) * 16 ≤ 140737488355328 := by omega
      have chk2 : k + 1 ≤ maxLen := by unfold maxLen; omega
      have chk3 : ∀ i u, (cellsP Z)[i]? = some u → (wr.alloc (.cells #[.int .i64 Z.1, .int .i64 Z.2] 33)).cell? ((⟨wr.heap.size, 0, none⟩ : Addr).add i) = some u := World.news_of_block (heap_lastS wr _)
      have chk4 : ∀ u ∈ cellsP Z, u.oneCell' = true := by simp [cellsP, Value.oneCell']
      have chk5 : w3.heap.size ≤ (wr.alloc (.cells #[.int .i64 Z.1, .int .i64 Z.2] 33)).heap.size := by rw [World.size_alloc]; omega
      clear hJX hx hy bx by_ hZ
      go_wp2_with fail
      go_region_law ((refine step_append_lies _ (by rfl) (.tmp 58) (.tmp 82) 24 (by rfl) w3.heap.size 33 i0 _ 2 16 Try.underlying24 hi hy0 hy1 hy2 rfl (by decide) _ k _ (by rfl) (HO.out.alloc _) ⟨wr.heap.size, 0, none⟩ 1 1 (cellsP Z) (by rfl) rfl chk3 chk4 (by decide) chk2 chk1 chk5 (wr.heap.size + 1) (by simp) ?_; intro g cap1 w4 hown' hgrow hat hlt1))
      all_goals
        have N1 : Hid (w4.ownsRow w3.heap.size 33 2 (.slice (some ⟨g, 0, none⟩) (k + 1) cap1) (k + 1) (encP (O.take (k + 1)))) := Lib.hid (by rw [HTK.out]; exact hown')
        have hb1 : Below w3.heap.size w3 w4 := by
          first
          | exact (HBr.out.alloc hwr _).grown hgrow chk5 (fun b hb => (HO.out.lt b hb).1)
          | exact (HBr.out.alloc hwr _).drew.grown hgrow chk5 (fun b hb => (HO.out.lt b hb).1)
          | exact (HBr.out.alloc hwr _).drew.drew.grown hgrow chk5 (fun b hb => (HO.out.lt b hb).1)
        have N2 := Lib.hid hb1
        clear hown' hgrow hat hlt1 chk1 chk2 chk3 chk4 chk5 hb1
        go_wp2
        go_roundw
        case rel => exact ⟨k + 1, _, hlt, by go_num, rfl, N1, N2⟩
        case measure => simp [intOf]; omega
    · obtain rfl : k = n := by omega
      have hge2 : ¬ ((k : Int) < (k : Int)) := by omega
      have hto : O.take k = O := List.take_of_length_le (by rw [HLB.out]; exact Nat.le_refl _)
      have hv := HO.out
      rw [hto] at hv
      obtain ⟨po, co, rfl, _, _, _⟩ := own_rd hv
      have HO2 := Lib.hid (PL.of_own hv)
      have HU3 := Lib.hid (HU.out.below HBr.out)
      have HV3 := Lib.hid (HV.out.below HBr.out)
      have HB4 := Lib.hid (HB3.out.trans (HBr.out.mono HB3.out.size))
      clear hv hto HO A6 HU HV HBr HB3 hi hy0 hy1 hy2 HbU HbV HLU HLV HLB hlt hge2

      go_wp2_with fail
      refine (SU.out p2 c2 wr HU3.out).mono ?_
      rintro _ w5 ⟨s5, p5, c5, rfl, hp, hb⟩
      have HU3' := Lib.hid (HU3.out.below hb)
      have HV3' := Lib.hid (HV3.out.below hb)
      have HO2' := Lib.hid (HO2.out.below hb)
      have HB5 := Lib.hid (HB4.out.trans (hb.mono HB4.out.size))
      have QA := Lib.hid hp
      clear hp hb HB4 HU3 HV3 HO2 SU
      have HU3 := HU3'
      clear HU3'
      have HV3 := HV3'
      clear HV3'
      have HO2 := HO2'
      clear HO2'
      go_wp2_with fail
      refine (SV.out p3 c3 w5 HV3.out).mono ?_
      rintro _ w6 ⟨s6, p6, c6, rfl, hp, hb⟩
      have HU3' := Lib.hid (HU3.out.below hb)
      have HO2' := Lib.hid (HO2.out.below hb)
      have QA' := Lib.hid (QA.out.below hb)
      have HB6 := Lib.hid (HB5.out.trans (hb.mono HB5.out.size))
      have QB := Lib.hid hp
      clear hp hb HB5 HU3 HO2 QA SV
      have HU3 := HU3'
      clear HU3'
      have HO2 := HO2'
      clear HO2'
      have QA := QA'
      clear QA'
      go_wp2_with fail
      refine (SB.out po co w6 HO2.out).mono ?_
      rintro _ w7 ⟨s7, p7, c7, rfl, hp, hb⟩
      have HU3' := Lib.hid (HU3.out.below hb)
      have QA' := Lib.hid (QA.out.below hb)
      have QB' := Lib.hid (QB.out.below hb)
      have HB7 := Lib.hid (HB6.out.trans (hb.mono HB6.out.size))
      have QD := Lib.hid hp
      clear hp hb HB6 HU3 QA QB SB
      have HU3 := HU3'
      clear HU3'
      have QA := QA'
      clear QA'
      have QB := QB'
      clear QB'
      go_wp2_with fail
      refine (CE.out p2 c2 w7 HU3.out).mono ?_
      rintro _ w8 ⟨p8, c8, rfl, hp, hb⟩
      have HU3' := Lib.hid (HU3.out.below hb)
      have QA' := Lib.hid (QA.out.below hb)
      have QB' := Lib.hid (QB.out.below hb)
      have QD' := Lib.hid (QD.out.below hb)
      have HB8 := Lib.hid (HB7.out.trans (hb.mono HB7.out.size))
      have T1 := Lib.hid hp
      clear hp hb HB7 HU3 QA QB QD CE
      have HU3 := HU3'
      clear HU3'
      have QA := QA'
      clear QA'
      have QB := QB'
      clear QB'
      have QD := QD'
      clear QD'
      go_wp2_with fail
      refine (SE.out p8 c8 w8 T1.out).mono ?_
      rintro _ w9 ⟨s9, p9, c9, rfl, hp, hb⟩
      have HU3' := Lib.hid (HU3.out.below hb)
      have QA' := Lib.hid (QA.out.below hb)
      have QB' := Lib.hid (QB.out.below hb)
      have QD' := Lib.hid (QD.out.below hb)
      have HB9 := Lib.hid (HB8.out.trans (hb.mono HB8.out.size))
      have QE := Lib.hid hp
      clear hp hb HB8 HU3 QA QB QD SE
      have HU3 := HU3'
      clear HU3'
      have QA := QA'
      clear QA'
      have QB := QB'
      clear QB'
      have QD := QD'
      clear QD'
      go_wp2_with fail
      refine (CF.out p2 c2 w9 HU3.out).mono ?_
      rintro _ w10 ⟨p10, c10, rfl, hp, hb⟩
      have QA' := Lib.hid (QA.out.below hb)
      have QB' := Lib.hid (QB.out.below hb)
      have QD' := Lib.hid (QD.out.below hb)
      have QE' := Lib.hid (QE.out.below hb)
      have HB10 := Lib.hid (HB9.out.trans (hb.mono HB9.out.size))
      have T2 := Lib.hid hp
      clear hp hb HB9 QA QB QD QE CF
      have QA := QA'
      clear QA'
      have QB := QB'
      clear QB'
      have QD := QD'
      clear QD'
      have QE := QE'
      clear QE'
      go_wp2_with fail
      refine (SF.out p10 c10 w10 T2.out).mono ?_
      rintro _ w11 ⟨s11, p11, c11, rfl, hp, hb⟩
      have QA' := Lib.hid (QA.out.below hb)
      have QB' := Lib.hid (QB.out.below hb)
      have QD' := Lib.hid (QD.out.below hb)
      have QE' := Lib.hid (QE.out.below hb)
      have HB11 := Lib.hid (HB10.out.trans (hb.mono HB10.out.size))
      have QF := Lib.hid hp
      clear hp hb HB10 QA QB QD QE SF
      have QA := QA'
      clear QA'
      have QB := QB'
      clear QB'
      have QD := QD'
      clear QD'
      have QE := QE'
      clear QE'
      go_wp2_with fail
      refine (CG.out p5 c5 w11 QA.out).mono ?_
      rintro _ w12 ⟨p12, c12, rfl, hp, hb⟩
      have QA' := Lib.hid (QA.out.below hb)
      have QB' := Lib.hid (QB.out.below hb)
      have QD' := Lib.hid (QD.out.below hb)
      have QE' := Lib.hid (QE.out.below hb)
      have QF' := Lib.hid (QF.out.below hb)
      have HB12 := Lib.hid (HB11.out.trans (hb.mono HB11.out.size))
      have QG := Lib.hid hp
      clear hp hb HB11 QA QB QD QE QF CG
      have QA := QA'
      clear QA'
      have QB := QB'
      clear QB'
      have QD := QD'
      clear QD'
      have QE := QE'
      clear QE'
      have QF := QF'
      clear QF'
      go_wp2_with fail
      refine (CH.out p5 c5 w12 QA.out).mono ?_
      rintro _ w13 ⟨p13, c13, rfl, hp, hb⟩
      have QA' := Lib.hid (QA.out.below hb)
      have QB' := Lib.hid (QB.out.below hb)
      have QD' := Lib.hid (QD.out.below hb)
      have QE' := Lib.hid (QE.out.below hb)
      have QF' := Lib.hid (QF.out.below hb)
      have QG' := Lib.hid (QG.out.below hb)
      have HB13 := Lib.hid (HB12.out.trans (hb.mono HB12.out.size))
      have QH := Lib.hid hp
      clear hp hb HB12 QA QB QD QE QF QG CH
      have QA := QA'
      clear QA'
      have QB := QB'
      clear QB'
      have QD := QD'
      clear QD'
      have QE := QE'
      clear QE'
      have QF := QF'
      clear QF'
      have QG := QG'
      clear QG'
      clear T1 T2 HU3 HV3 HO2
      go_wp2
      go_loopw [37] (fun i ws => ∃ j : Nat, j ≤ h ∧ i = .int .i64 j ∧ Hid (∃ m, ws = w13.drewN m)) (fun i _ => h - (intOf i).toNat)
      case atStart => exact ⟨0, Nat.zero_le _, rfl, Lib.hid ⟨0, rfl⟩⟩
      case round =>
        obtain ⟨j, hj, rfl, HD⟩ := hrel
        have HBq : Below w13.heap.size w13 wr := by obtain ⟨m, hm⟩ := HD.out; rw [hm]; exact below_drewN (Below.refl _ _) m
        by_cases hlt : j < h
        · have hji : (j : Int) < (h : Int) := by omega
          have hj0 : (0 : Int) ≤ (j : Int) := by omega
          obtain ⟨x, hx⟩ : ∃ x, A[j]? = some x := ⟨_, List.getElem?_eq_getElem (by rw [LA.out]; exact hlt)⟩
          obtain ⟨y, hy⟩ : ∃ y, B[j]? = some y := ⟨_, List.getElem?_eq_getElem (by rw [LB2.out]; exact hlt)⟩
          obtain ⟨qa, rfl, a0', a1'⟩ := (QA.out.below HBq) j x hx
          obtain ⟨qb, rfl, b0', b1'⟩ := (QB.out.below HBq) j y hy
          obtain ⟨qd, rfl, d0', d1'⟩ := (QD.out.below HBq) j _ (A1.out j x y hx hy)
          obtain ⟨qe, rfl, e0', e1'⟩ := (QE.out.below HBq) j _ (A2.out j x hx)
          obtain ⟨qf, rfl, f0', f1'⟩ := (QF.out.below HBq) j _ (A3.out j x hx)
          obtain ⟨qg, rfl, g0', g1'⟩ := (QG.out.below HBq) j _ (A4.out j x hx)
          obtain ⟨qh, rfl, h0', h1'⟩ := (QH.out.below HBq) j _ (A5.out j x hx)
          have bx := HbA.out x (List.mem_of_getElem? hx)
          have by_ := HbB.out y (List.mem_of_getElem? hy)
          have k1 : IntKind.i64.wrap (x.1 + y.1) = x.1 + y.1 := by rw [IntKind.wrap_i64]; omega
          have k2 : IntKind.i64.wrap (x.2 + y.2) = x.2 + y.2 := by rw [IntKind.wrap_i64]; omega
          have n1 : (x.1 + y.1 != x.1 + y.1) = false := bne_self_eq_false _
          have n2 : (x.2 + y.2 != x.2 + y.2) = false := bne_self_eq_false _
          have n3 := fun W => neq_part (C * x.1, C * x.2) W
          have n4 := fun W => neq_part (-x.2, x.1) W
          simp only at d0' d1' e0' e1' f0' f1' g0' g1' h0' h1' n3 n4
          clear hx hy bx by_ HBq
          go_wp2
          go_quiet (fail)
          have HD2 : Hid (∃ m, wr.drewN nq = w13.drewN m) := Lib.hid (by obtain ⟨m, hm⟩ := HD.out; exact ⟨m + nq, by rw [hm, World.drewN_drewN]⟩)
          go_wp2
          go_roundw
          case rel => exact ⟨j + 1, hlt, by go_num, HD2⟩
          case measure => simp [intOf]; omega
        · obtain rfl : j = h := by omega
          have hge : ¬ ((j : Int) < (j : Int)) := by omega
          go_wp2
          go_ret
          refine ⟨rfl, ?_⟩
          obtain ⟨m, hm⟩ := HD.out
          rw [hm]
          exact below_drewN HB13.out m
theorem SignAdds_walk (a0 : Int) (w0 : (Lit.int .i64 a0).wf = true) (a1 : Int) (w1 : (Lit.int .u64 a1).wf = true) (v2 : Value) (z2 : List (Int × Int)) (v3 : Value) (z3 : List (Int × Int)) (a4 : Int) (w4 : (Lit.int .i64 a4).wf = true) (w : World) (h2 : IsSl w 2 16 IsPt [v2] z2) (h3 : IsSl w 2 16 IsPt [v3] z3) :
    Calls Try.prog 5 #[.int .i64 a0, .int .u64 a1, v2, v3, .int .i64 a4] w fun e w' => e = .returned (.bool true) ∧ Below w.heap.size w w' := by
  obtain ⟨hn, ⟨p, cap, rfl, hp⟩, _⟩ := parts_of_arg h2
  obtain ⟨hm, ⟨q, cbp, rfl, hq⟩, _⟩ := parts_of_arg h3
  exact lawSa_ok a0 a1 a4 p q cap cbp z2 z3 (by omega) (by omega) w hp hq
end Go.Proofs.Ytcdlmjbjpeokfaa
