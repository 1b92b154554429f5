/-
  WALK: kept: are the twins as they were made?
-/
import Derived.Test.YtahceakghgmpkaaKeptB
namespace Go.Proofs.Ytahceakghgmpkaa
open Go.RowKit ArgK
set_option linter.unusedVariables false

set_option maxRecDepth 100000 in
set_option maxHeartbeats 4000000 in
theorem kept_calls (gT capT : Nat) (p : Option Addr) (cap B : Nat) (zz : List (List Hv)) (L : Nat → Value) (hfb : zz.flatten.length + zz.length ≤ 1048576) (w : World) (hT : TwIs w B (zz.length + 64) zz (.slice (some ⟨gT, 0, none⟩) (zz.length + 64) capT) L) (h1 : HLL w p zz) :
    Calls Try.prog 33 #[.slice (some ⟨gT, 0, none⟩) zz.length capT, .slice p zz.length cap] w fun e w' => e = .returned (.bool true) ∧ Gr w w' := by
  obtain ⟨m, hm⟩ : ∃ m, zz.length = m := ⟨_, rfl⟩
  have hzl : ∀ (b : Nat) (z : List Hv), zz[b]? = some z → z.length ≤ 1048576 := fun b z hz => by
    have h2 := flat_take_le zz (b + 1)
    rw [flat_snoc hz, List.length_append] at h2
    omega
  have hNE : ∀ (x : Hv) W, (binOp .neq 34 (.agg #[.int .i64 x.d, .int .i64 x.i, .string x.c]) (.agg #[.int .i64 x.d, .int .i64 x.i, .string x.c])).run Try.prog W = .ok (.bool false) W := fun x W => by
    have := neq_hit x x W
    simp only [decide_true, Bool.not_true] at this
    exact this
  have hQ1 : Try.prog.eqGuardType Try.prog.depth 34 = false := by kernel_rfl
  have hrow := fun j z hz => hT.row (j := j) (z := z) hz (by have := (List.getElem?_eq_some_iff.1 hz).1; omega)
  have hmk := fun j (hj : j < 64) => hT.mark (j := zz.length + j) (by omega) (by omega)
  obtain ⟨_, _, e, hc1, hc2, _⟩ := own_rd hT.1
  cases e
  rw [hm] at hfb hc1 hmk ⊢
  have HM := Lib.hid hm
  have H1 := Lib.hid h1
  have HZl := Lib.hid hzl
  have HRow := Lib.hid hrow
  have HMk := Lib.hid hmk
  have HNE := Lib.hid hNE
  have hbm := build_mark
  have hm1 : m ≤ 1048576 := by omega
  clear h1 hm hzl hT hrow hmk hfb hNE
  go_enter Try.func33, Try.ntmps33
  go_wp2
  go_loopw [5] (fun i ws => ∃ b : Nat, b ≤ m ∧ i = .int .i64 b ∧ Gr w ws) (fun i _ => m - (intOf i).toNat)
  case atStart => exact ⟨0, Nat.zero_le _, rfl, Gr.refl _⟩
  case round =>
    obtain ⟨b, hb, rfl, hG⟩ := hrel
    obtain ⟨wo, rfl⟩ : ∃ wo : World, wo = wr := ⟨_, rfl⟩
    by_cases hbt : b < m
    · have hbz : b < zz.length := by rw [HM.out]; exact hbt
      obtain ⟨z, hz⟩ : ∃ z, zz[b]? = some z := ⟨_, List.getElem?_eq_getElem hbz⟩
      have hzn := HZl.out b z hz
      obtain ⟨pa, q, c, hpa, hu, hq, _⟩ := (H1.out.gr hG) b z hz
      obtain rfl := hpa
      obtain ⟨g, cg, ht0, _, hg1, hg2, hgH⟩ := HRow.out b z hz
      have ht := (hG.below.cell (cell_ltH ht0)).trans ht0
      have j0 : (0 : Int) ≤ (b : Int) := by omega
      have j1 : (b : Int) < (m : Int) := by omega
      have S := Lib.hid (fun W (hW : Gr wo W) => same_calls (some ⟨g, 0, none⟩) q cg c z (by omega) W (hgH.front.gr (hG.trans hW)) (hq.gr hW))
      have HG0 := Lib.hid hG
      go_wp2
      go_still_tail 8, (by kernel_rfl)
      change wpList _ _ _ _ _ wo.drew
      go_wp2_with fail
      refine (S.out _ (Gr.refl wo).drew).mono ?_
      rintro e w2 ⟨rfl, hg2⟩
      have hG2 := HG0.out.trans (((Gr.refl wo).drew).trans hg2)
      have ht2 := (hG2.below.cell (cell_ltH ht0)).trans ht0
      have HG2 := Lib.hid hG2
      have HgH := Lib.hid hgH
      have k1 : (z.length : Int) + 64 ≤ (cg : Int) := by omega
      have k2 : (0 : Int) ≤ (z.length : Int) := by omega
      have k3 : (z.length : Int) ≤ (z.length : Int) + 64 := by omega
      clear hG hG2 hg2 hu hq ht hgH hz
      have k4 : z.length + 64 - z.length = 64 := by omega
      have hbm1 := hbm (-1000 - (b : Int))
      have hne := HNE.out (markI b)
      simp only [markI] at hne
      clear hbm
      go_wp2
      rw [k4]
      go_loopw [9] (fun j ws => ∃ e : Nat, e ≤ 64 ∧ j = .int .i64 e ∧ Gr w ws) (fun j _ => 64 - (intOf j).toNat)
      case atStart => exact ⟨0, Nat.zero_le _, rfl, HG2.out⟩
      case round =>
        obtain ⟨e, he, rfl, hG3⟩ := hrel
        by_cases het : e < 64
        · obtain ⟨aa, haa, u0, u1, u2⟩ := (HgH.out.gr hG3) (z.length + e) (markI b) (by rw [List.getElem?_append_right (by omega), List.getElem?_replicate]; simp; omega)
          cases haa
          rw [add_zeroH, Nat.add_mul] at u0 u1 u2
          simp only [markI] at u0 u1 u2
          have b0 : (0 : Int) ≤ (e : Int) := by omega
          have b1 : (e : Int) < 64 := by omega
          go_wp2
          go_roundw
          case rel => exact ⟨e + 1, by omega, by go_num, hG3⟩
          case measure => simp [intOf]; omega
        · obtain rfl : e = 64 := by omega
          go_wp2
          go_roundw
          case rel => exact ⟨b + 1, by omega, by go_num, hG3⟩
          case measure => simp [intOf]; omega
    · obtain rfl : b = m := by omega
      have k1 : (b : Int) + 64 ≤ (capT : Int) := by omega
      have k2 : (0 : Int) ≤ (b : Int) := by omega
      have k3 : (b : Int) ≤ (b : Int) + 64 := by omega
      have k4 : b + 64 - b = 64 := by omega
      have hbm1 := hbm (-999)
      have hne := HNE.out mark9
      simp only [mark9] at hne
      clear hbm
      go_wp2
      rw [k4]
      go_loopw [11] (fun j ws => ∃ e : Nat, e ≤ 64 ∧ j = .int .i64 e ∧ Gr w ws) (fun j _ => 64 - (intOf j).toNat)
      case atStart => exact ⟨0, Nat.zero_le _, rfl, hG⟩
      case round =>
        obtain ⟨e, he, rfl, hG3⟩ := hrel
        by_cases het : e < 64
        · obtain ⟨g, cg, ht0, hgH⟩ := HMk.out e het
          have ht := (hG3.below.cell (cell_ltH ht0)).trans ht0
          obtain ⟨aa, haa, u0, u1, u2⟩ := (hgH.gr hG3) 0 mark9 rfl
          cases haa
          rw [add_zeroH, Nat.zero_mul] at u0 u1 u2
          simp only [mark9] at u0 u1 u2
          have b0 : (0 : Int) ≤ (e : Int) := by omega
          have b1 : (e : Int) < 64 := by omega
          clear ht0 hgH
          go_wp2
          go_roundw
          case rel => exact ⟨e + 1, by omega, by go_num, hG3⟩
          case measure => simp [intOf]; omega
        · obtain rfl : e = 64 := by omega
          go_wp2
          go_ret
          exact ⟨rfl, hG3⟩
end Go.Proofs.Ytahceakghgmpkaa
