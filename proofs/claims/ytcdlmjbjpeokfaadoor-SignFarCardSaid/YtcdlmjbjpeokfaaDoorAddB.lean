/-
  WALK: begun.
-/
import Derived.Test.YtcdlmjbjpeokfaaDoorAddX
namespace Go.Proofs.YtcdlmjbjpeokfaaDoor
open Go.RowKit ArgK
set_option linter.unusedVariables false

set_option maxRecDepth 100000 in
set_option maxHeartbeats 1000000 in
theorem begun_calls (h : Nat) (sd : Int) (hh : h ≤ 512) (hh1 : 32 ≤ h) (hh4 : h % 32 = 0) (w : World) :
    Calls Tryd.prog 5 #[.int .i64 ((2 * h : Nat) : Int), .int .u64 sd] w fun e w' => e = .returned (.bool true) ∧ Below w.heap.size w w' := by
  have hE : newE ((2 * h : Nat) : Int) (([(3, 1)] : List (Int × Int)).length : Nat) = 0 := by
    have hb : widthB ((2 * h : Nat) : Int) = true := by unfold widthB; simp; omega
    unfold newE
    rw [if_pos hb, if_pos (by simp)]
  have SC := Lib.hid (fun W hz => signed_calls h sd (some ⟨w.heap.size, 0, none⟩) 1 [(3, 1)] hE hh (by omega) (by omega) (by decide) W hz)
  have LO := Lib.hid (fun x hx => sgL_one sd h (3, 1) x hx)
  have LL := Lib.hid (sgL_length sd h [(3, 1)])
  obtain ⟨L, hL⟩ : ∃ L, sgL sd h [(3, 1)] = L := ⟨_, rfl⟩
  rw [hL] at SC LO LL
  clear hE hh4 hL
  obtain ⟨WD, hWD⟩ : ∃ WD : Int, ((2 * h : Nat) : Int) = WD := ⟨_, rfl⟩
  rw [hWD] at SC ⊢
  clear hWD
  have HP1 := Lib.hid (PL_one w (3, 1))
  have HB1 := Lib.hid ((Below.refl w.heap.size w).alloc (Nat.le_refl _) (.cells #[.int .i64 3, .int .i64 1] 36))
  go_enter Tryd.func5, Tryd.ntmps5
  go_wp2_with fail
  refine (SC.out _ HP1.out).mono ?_
  rintro _ w1 ⟨a, p', cap', rfl, hp, hb⟩
  have HP := Lib.hid hp
  have HB := Lib.hid (HB1.out.trans (hb.mono HB1.out.size))
  clear hp hb HP1 HB1 SC
  go_wp2
  go_loopw [9] (fun i ws => ∃ k : Nat, k ≤ h ∧ i = .int .i64 k ∧ Hid (Below w.heap.size w ws) ∧ Hid (Below w1.heap.size w1 ws)) (fun i _ => h - (intOf i).toNat)
  case atStart => exact ⟨0, Nat.zero_le _, rfl, HB, Lib.hid (Below.refl _ _)⟩
  case round =>
    obtain ⟨k, hk, rfl, HBr, HBq⟩ := hrel
    by_cases hlt : k < h
    · have hki : (k : Int) < (h : Int) := by omega
      have hk0 : (0 : Int) ≤ (k : Int) := by omega
      obtain ⟨x, hx⟩ : ∃ x, L[k]? = some x := ⟨_, List.getElem?_eq_getElem (by rw [LL.out]; exact hlt)⟩
      obtain ⟨q, rfl, u0, u1⟩ := (HP.out.below HBq.out) k x hx
      have hxc := LO.out x (List.mem_of_getElem? hx)
      have hwr : w.heap.size ≤ wr.heap.size := HBr.out.size
      have hwq : w1.heap.size ≤ wr.heap.size := HBq.out.size
      have N1 := Lib.hid (HBr.out.alloc hwr (.cells #[.int .i64 x.1, .int .i64 x.2] 36))
      have N2 := Lib.hid (HBq.out.alloc hwq (.cells #[.int .i64 x.1, .int .i64 x.2] 36))
      have na := fun W => neq_parts x.1 x.2 3 1 W
      have nb := fun W => neq_parts x.1 x.2 (-1) 3 W
      have nc := fun W => neq_parts x.1 x.2 (-3) (-1) W
      have nd := fun W => neq_parts x.1 x.2 1 (-3) W
      have hkn : k + 1 ≤ h := hlt
      clear hx HBr HBq hwr hwq
      rcases hxc with rfl | rfl | rfl | rfl
      all_goals
        simp only [Int.reduceNeg] at u0 u1 na nb nc nd N1 N2
        go_wp2
        go_roundw
        case rel => exact ⟨k + 1, hkn, by go_num, N1, N2⟩
        case measure => simp [intOf]; omega
    · obtain rfl : k = h := by omega
      have hge : ¬ ((k : Int) < (k : Int)) := by omega
      go_wp2
      go_ret
      exact ⟨rfl, HBr.out⟩
end Go.Proofs.YtcdlmjbjpeokfaaDoor
