/-
  WALK: first: is the list the first of the hits?
-/
import Derived.Test.YtahceakghgmpkaaLawB
namespace Go.Proofs.Ytahceakghgmpkaa
open Go.RowKit
set_option linter.unusedVariables false

/-- What first asks. -/
structure FirstIs (z H : List Hv) (k : Nat) : Prop where
  sub : ∀ x ∈ z, x ∈ H
  ris : Ris z
  len : z.length ≤ k
  out : ∀ x ∈ H, x ∈ z ∨ (z.length = k ∧ (0 < k → ¬ hless x (hd z (k - 1))))

theorem ris_prev {z : List Hv} (h : Ris z) {i : Nat} (hi : i + 1 < z.length) : hless (hd z i) (hd z (i + 1)) := by
  have := List.pairwise_iff_getElem.1 h i (i + 1) (by omega) hi (by omega)
  rw [hd_of (List.getElem?_eq_getElem (by omega : i < z.length)), hd_of (List.getElem?_eq_getElem hi)]
  exact this

theorem firstIs_take (H : List Hv) (k : Nat) : FirstIs ((allH H).take k) H k := by
  have hr := allH_ris H
  refine ⟨fun x hx => (allH_mem H x).1 (List.mem_of_mem_take hx), ris_take hr k, by simp; omega, fun x hx => ?_⟩
  have hx' := (allH_mem H x).2 hx
  by_cases hm : x ∈ (allH H).take k
  · exact .inl hm
  · right
    have hlt : k < (allH H).length := by
      rcases Nat.lt_or_ge k (allH H).length with h | h
      · exact h
      · rw [List.take_of_length_le h] at hm; exact absurd hx' hm
    refine ⟨by simp; omega, fun hk => ?_⟩
    have hd' : x ∈ (allH H).drop k := by
      have := List.take_append_drop k (allH H)
      rw [← this] at hx'
      exact (List.mem_append.1 hx').resolve_left hm
    have hl : hd ((allH H).take k) (k - 1) ∈ (allH H).take k := List.mem_of_getElem? (hd_get (by simp; omega))
    have := List.take_append_drop k (allH H)
    unfold Ris at hr
    rw [← this] at hr
    exact hless_asymm ((List.pairwise_append.1 hr).2.2 _ hl _ hd')

theorem mem_take_succ {H : List Hv} {j : Nat} {x y : Hv} (h : H[j]? = some y) : (x ∈ H.take (j + 1)) ↔ (x ∈ H.take j ∨ x = y) := by
  rw [List.take_add_one, h]
  simp

theorem mem_step {H : List Hv} {j : Nat} {x y : Hv} (h : H[j]? = some y) (hn : x ∉ H.take j) : decide (y = x) = decide (x ∈ H.take (j + 1)) := by
  rw [decide_eq_decide, mem_take_succ h]
  exact ⟨fun e => .inr e.symm, fun e => (e.resolve_left hn).symm⟩

set_option maxRecDepth 100000 in
set_option maxHeartbeats 4000000 in
theorem first_calls (pz pH : Option Addr) (cz cH : Nat) (z H : List Hv) (k : Nat) (hk : k ≤ 4611686018427387904) (hHl : H.length ≤ 4611686018427387904) (hF : FirstIs z H k) (w : World) (h1 : HL w pz z) (h2 : HL w pH H) :
    Calls Try.prog 21 #[.slice pz z.length cz, .slice pH H.length cH, .int .i64 (k : Int)] w fun e w' => e = .returned (.bool true) ∧ Gr w w' := by
  have hQ1 : Try.prog.eqGuardType Try.prog.depth 34 = false := by kernel_rfl
  obtain ⟨n, hn⟩ : ∃ n, z.length = n := ⟨_, rfl⟩
  obtain ⟨m, hm⟩ : ∃ m, H.length = m := ⟨_, rfl⟩
  have hnk := hF.len
  rw [hn] at hnk ⊢
  rw [hm] at hHl ⊢
  have HN := Lib.hid hn
  have HM := Lib.hid hm
  have H1 := Lib.hid h1
  have H2 := Lib.hid h2
  have HF := Lib.hid hF
  have hnI : (n : Int) ≤ (k : Int) := by omega
  have hnD : decide ((k : Int) < (n : Int)) = false := by simp; omega
  have hnE : decide (k < n) = false := by simp; omega
  clear h1 h2 hn hm hF
  go_enter Try.func21, Try.ntmps21
  go_wp2
  go_loopw [7] (fun i ws => ∃ a : Nat, a ≤ n ∧ i = .int .i64 a ∧ Gr w ws) (fun i _ => n - (intOf i).toNat)
  case atStart => exact ⟨0, Nat.zero_le _, rfl, Gr.refl _⟩
  case round =>
    obtain ⟨a, ha, rfl, HG⟩ := hrel
    obtain ⟨wo, rfl⟩ : ∃ wo : World, wo = wr := ⟨_, rfl⟩
    by_cases hlt : a < n
    · have hzl : a < z.length := by rw [HN.out]; exact hlt
      have hx := Lib.hid (hd_get hzl)
      have hxH := Lib.hid (HF.out.sub _ (List.mem_of_getElem? hx.out))
      go_wp2
      go_loopw [8, 9] (fun t j ws => ∃ b : Nat, b ≤ m ∧ j = .int .i64 b ∧ t = .bool (decide (hd z a ∈ H.take b)) ∧ Gr wo ws) (fun _ j _ => m - (intOf j).toNat)
      case atStart => exact ⟨0, Nat.zero_le _, rfl, by simp, Gr.refl _⟩
      case round =>
        obtain ⟨b, hb, rfl, rfl, HI⟩ := hrel
        by_cases hbt : b < m
        · have hbl : b < H.length := by rw [HM.out]; exact hbt
          have hy := Lib.hid (hd_get hbl)
          obtain ⟨pa, hpa, u0, u1, u2⟩ := (H1.out.gr (HG.trans HI)) a _ hx.out
          obtain ⟨pb, hpb, v0, v1, v2⟩ := (H2.out.gr (HG.trans HI)) b _ hy.out
          obtain rfl := hpa
          obtain rfl := hpb
          have b0 : (0 : Int) ≤ (b : Int) := by omega
          have b1 : (b : Int) < (m : Int) := by omega
          have a0 : (0 : Int) ≤ (a : Int) := by omega
          have a1 : (a : Int) < (n : Int) := by omega
          by_cases hin : hd z a ∈ H.take b
          · have e1 : decide (hd z a ∈ H.take b) = true := by simp [hin]
            have e2 := Lib.hid (show decide (hd z a ∈ H.take (b + 1)) = true by simp; exact (mem_take_succ hy.out).2 (.inl hin))
            rw [e1]
            clear hin e1
            go_wp2
            go_quiet (fail)
            have HI2 := HI.drewN nq
            go_wp2
            go_roundw
            case rel => exact ⟨b + 1, by omega, by go_num, by rw [e2.out], HI2⟩
            case measure => simp [intOf]; omega
          · have e1 : decide (hd z a ∈ H.take b) = false := by simp [hin]
            have e2 := Lib.hid (mem_step hy.out hin)
            have hEq := eql_hit (hd H b) (hd z a)
            rw [e2.out] at hEq
            rw [e1]
            generalize hq : decide (hd z a ∈ H.take (b + 1)) = q at hEq
            have HQ := Lib.hid hq
            clear hin e1 hq e2
            go_wp2
            go_quiet (fail)
            have HI2 := HI.drewN nq
            go_wp2
            go_roundw
            case rel => exact ⟨b + 1, by omega, by go_num, by rw [HQ.out], HI2⟩
            case measure => simp [intOf]; omega
        · obtain rfl : b = m := by omega
          have e1 : decide (hd z a ∈ H.take b) = true := by
            rw [List.take_of_length_le (by rw [HM.out]; exact Nat.le_refl _)]
            simp [hxH.out]
          rw [e1]
          clear e1
          by_cases h0 : a = 0
          · subst h0
            have d0 : decide ((0 : Int) < 0) = false := by simp
            go_wp2
            go_quiet (fail)
            have HI2 := HI.drewN nq
            go_wp2
            go_roundw
            case rel => exact ⟨1, by omega, by go_num, HG.trans HI2⟩
            case measure => simp [intOf]; omega
          · obtain ⟨a', ha'⟩ : ∃ a', a = a' + 1 := ⟨a - 1, by omega⟩
            obtain ⟨pa, hpa, u0, u1, u2⟩ := (H1.out.gr (HG.trans HI)) a _ hx.out
            obtain ⟨pb, hpb, v0, v1, v2⟩ := (H1.out.gr (HG.trans HI)) a' _ (hd_get (by omega : a' < z.length))
            obtain rfl := hpa
            obtain rfl : pa = pb := Option.some.inj hpb
            have C := lless_calls (hd z a') (hd z a)
            have hpv : hless (hd z a') (hd z a) := by rw [ha']; exact ris_prev HF.out.ris (by rw [← ha']; exact hzl)
            simp only [hpv, decide_true, Hv.val] at C
            have HC := Lib.hid C
            have a0 : (0 : Int) ≤ (a' : Int) := by omega
            have a1 : (a' : Int) < (n : Int) := by omega
            have a2 : (a : Int) < (n : Int) := by omega
            have a3 : (0 : Int) ≤ (a : Int) := by omega
            have a4 : (0 : Int) < (a : Int) := by omega
            have a5 : 0 < a := by omega
            have a6 : decide (0 < a) = true := by simp; omega
            have a7 : (a : Int) - 1 = (a' : Int) := by omega
            have hx2 := Lib.hid ha'
            have hw7 : IntKind.i64.wrap (a' : Int) = (a' : Int) := by rw [IntKind.wrap_i64]; omega
            clear C hpb hpv ha' h0
            go_wp2
            go_still_tail 15, (by kernel_rfl)
            change wpList _ _ _ _ _ wr.drew
            go_wp2_with fail
            refine (HC.out _).mono ?_
            rintro e w' ⟨rfl, hg2⟩
            have HI2 := HI.trans (((Gr.refl wr).drew).trans hg2)
            clear u0 u1 u2 v0 v1 v2 HI hg2 a7 hw7
            go_wp2
            go_roundw
            case rel => exact ⟨a + 1, by omega, by go_num, HG.trans HI2⟩
            case measure => simp [intOf]; omega
    · obtain rfl : a = n := by omega
      go_wp2
      go_loopw [10] (fun i ws => ∃ b : Nat, b ≤ m ∧ i = .int .i64 b ∧ Gr w ws) (fun i _ => m - (intOf i).toNat)
      case atStart => exact ⟨0, Nat.zero_le _, rfl, HG⟩
      case round =>
        obtain ⟨b, hb, rfl, HJ⟩ := hrel
        obtain ⟨wp, rfl⟩ : ∃ wp : World, wp = wr := ⟨_, rfl⟩
        by_cases hbt : b < m
        · have hbl : b < H.length := by rw [HM.out]; exact hbt
          have hy := Lib.hid (hd_get hbl)
          go_wp2
          go_loopw [11, 12] (fun t j ws => ∃ c : Nat, c ≤ a ∧ j = .int .i64 c ∧ t = .bool (decide (hd H b ∈ z.take c)) ∧ Gr wp ws) (fun _ j _ => a - (intOf j).toNat)
          case atStart => exact ⟨0, Nat.zero_le _, rfl, by simp, Gr.refl _⟩
          case round =>
            obtain ⟨c, hc, rfl, rfl, HI⟩ := hrel
            by_cases hct : c < a
            · have hcl : c < z.length := by rw [HN.out]; exact hct
              have hx := Lib.hid (hd_get hcl)
              obtain ⟨pa, hpa, u0, u1, u2⟩ := (H1.out.gr (HJ.trans HI)) c _ hx.out
              obtain ⟨pb, hpb, v0, v1, v2⟩ := (H2.out.gr (HJ.trans HI)) b _ hy.out
              obtain rfl := hpa
              obtain rfl := hpb
              have b0 : (0 : Int) ≤ (b : Int) := by omega
              have b1 : (b : Int) < (m : Int) := by omega
              have a0 : (0 : Int) ≤ (c : Int) := by omega
              have a1 : (c : Int) < (a : Int) := by omega
              by_cases hin : hd H b ∈ z.take c
              · have e1 : decide (hd H b ∈ z.take c) = true := by simp [hin]
                have e2 := Lib.hid (show decide (hd H b ∈ z.take (c + 1)) = true by simp; exact (mem_take_succ hx.out).2 (.inl hin))
                rw [e1]
                clear hin e1
                go_wp2
                go_quiet (fail)
                have HI2 := HI.drewN nq
                go_wp2
                go_roundw
                case rel => exact ⟨c + 1, by omega, by go_num, by rw [e2.out], HI2⟩
                case measure => simp [intOf]; omega
              · have e1 : decide (hd H b ∈ z.take c) = false := by simp [hin]
                have e2 := Lib.hid (mem_step hx.out hin)
                have hEq := eql_hit (hd z c) (hd H b)
                rw [e2.out] at hEq
                rw [e1]
                generalize hq : decide (hd H b ∈ z.take (c + 1)) = q at hEq
                have HQ := Lib.hid hq
                clear hin e1 hq e2
                go_wp2
                go_quiet (fail)
                have HI2 := HI.drewN nq
                go_wp2
                go_roundw
                case rel => exact ⟨c + 1, by omega, by go_num, by rw [HQ.out], HI2⟩
                case measure => simp [intOf]; omega
            · obtain rfl : c = a := by omega
              have ez : z.take c = z := List.take_of_length_le (by rw [HN.out]; exact Nat.le_refl _)
              rw [ez]
              by_cases hin : hd H b ∈ z
              · have e1 : decide (hd H b ∈ z) = true := by simp [hin]
                rw [e1]
                clear e1 ez hin
                go_wp2
                go_quiet (fail)
                have HI2 := HI.drewN nq
                go_wp2
                go_roundw
                case rel => exact ⟨b + 1, by omega, by go_num, HJ.trans HI2⟩
                case measure => simp [intOf]; omega
              · have e1 : decide (hd H b ∈ z) = false := by simp [hin]
                obtain ⟨o1, o2⟩ := (HF.out.out _ (List.mem_of_getElem? hy.out)).resolve_left hin
                rw [HN.out] at o1
                subst o1
                rw [e1]
                have d1 : decide ((c : Int) < (c : Int)) = false := by simp
                have d2 : decide (c < c) = false := by simp
                by_cases h0 : c = 0
                · subst h0
                  have d0 : decide ((0 : Int) < 0) = false := by simp
                  clear e1 ez hin
                  go_wp2
                  go_quiet (fail)
                  have HI2 := HI.drewN nq
                  go_wp2
                  go_roundw
                  case rel => exact ⟨b + 1, by omega, by go_num, HJ.trans HI2⟩
                  case measure => simp [intOf]; omega
                · have hnl := o2 (by omega)
                  obtain ⟨pa, hpa, u0, u1, u2⟩ := (H1.out.gr (HJ.trans HI)) (c - 1) _ (hd_get (by rw [HN.out]; omega : c - 1 < z.length))
                  obtain ⟨pb, hpb, v0, v1, v2⟩ := (H2.out.gr (HJ.trans HI)) b _ hy.out
                  obtain rfl := hpa
                  obtain rfl := hpb
                  have C := lless_calls (hd H b) (hd z (c - 1))
                  simp only [hnl, decide_false, Hv.val] at C
                  have HC := Lib.hid C
                  obtain ⟨c', hc'⟩ : ∃ c', c = c' + 1 := ⟨c - 1, by omega⟩
                  have e3 : c - 1 = c' := by omega
                  rw [e3] at u0 u1 u2 HC
                  have a0 : (0 : Int) ≤ (c' : Int) := by omega
                  have a1 : (c' : Int) < (c : Int) := by omega
                  have b0 : (0 : Int) ≤ (b : Int) := by omega
                  have b1 : (b : Int) < (m : Int) := by omega
                  have a4 : (0 : Int) < (c : Int) := by omega
                  have a5 : 0 < c := by omega
                  have a6 : decide (0 < c) = true := by simp; omega
                  have a7 : (c : Int) - 1 = (c' : Int) := by omega
                  have hw7 : IntKind.i64.wrap (c' : Int) = (c' : Int) := by rw [IntKind.wrap_i64]; omega
                  clear e3 hc' h0
                  clear C e1 ez hin o2 hnl
                  go_wp2
                  go_still_tail 20, (by kernel_rfl)
                  change wpList _ _ _ _ _ wr.drew
                  go_wp2_with fail
                  refine (HC.out _).mono ?_
                  rintro e w' ⟨rfl, hg2⟩
                  have HI2 := HI.trans (((Gr.refl wr).drew).trans hg2)
                  clear u0 u1 u2 v0 v1 v2 HI hg2 a7 hw7
                  go_wp2
                  go_roundw
                  case rel => exact ⟨b + 1, by omega, by go_num, HJ.trans HI2⟩
                  case measure => simp [intOf]; omega
        · obtain rfl : b = m := by omega
          go_wp2
          go_ret
          exact ⟨rfl, HJ⟩
end Go.Proofs.Ytahceakghgmpkaa
