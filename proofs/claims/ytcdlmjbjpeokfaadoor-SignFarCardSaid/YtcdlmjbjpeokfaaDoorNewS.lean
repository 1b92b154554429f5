/-
  WALKS: a new signer, the program's and the document's. (The parts on widths stand in XWidth and XCodes too.)
-/
import Derived.Test.YtcdlmjbjpeokfaaDoorCodeR
import Derived.WalkKit
import Derived.WalkLawsBesides
import Derived.Lib.Hide
import Derived.IntWalk
import Derived.Outline
namespace Go.Proofs.YtcdlmjbjpeokfaaDoor
open Go.RowKit
set_option linter.unusedVariables false

/-- Is w a width? -/
def widthB (w : Int) : Bool := decide (64 ≤ w ∧ w ≤ 1024 ∧ w % 64 = 0)

set_option maxHeartbeats 1000000 in
theorem isWidth_calls (a : Int) (w : World) :
    Calls Tryd.prog 18 #[.int .i64 a] w fun e w' => e = .returned (.bool (widthB a)) ∧ w = w' := by
  by_cases h1 : a < 64
  · have hp : widthB a = false := by unfold widthB; simp; omega
    rw [hp]
    clear hp
    go_enter Tryd.func18, Tryd.ntmps18
    go_wp2
    go_ret
    exact ⟨rfl, rfl⟩
  by_cases h2 : 1024 < a
  · have hp : widthB a = false := by unfold widthB; simp; omega
    rw [hp]
    clear hp
    go_enter Tryd.func18, Tryd.ntmps18
    go_wp2
    go_ret
    exact ⟨rfl, rfl⟩
  obtain ⟨n, rfl⟩ := Int.eq_ofNat_of_zero_le (show 0 ≤ a by omega)
  by_cases h3 : n % 64 = 0
  · have hp : widthB n = true := by unfold widthB; simp; omega
    have hz : ((n : Int) % 64 == 0) = true := by simp; omega
    rw [hp]
    clear hp h3
    go_enter Tryd.func18, Tryd.ntmps18
    go_wp2
    go_ret
    exact ⟨by simp, rfl⟩
  · have hp : widthB n = false := by unfold widthB; simp; omega
    have hz : ((n : Int) % 64 == 0) = false := by simp; omega
    rw [hp]
    clear hp h3
    go_enter Tryd.func18, Tryd.ntmps18
    go_wp2
    go_ret
    exact ⟨by simp, rfl⟩

theorem widthB_true {a : Int} (h : widthB a = true) : ∃ n : Nat, a = n ∧ 64 ≤ n ∧ n ≤ 1024 ∧ n % 64 = 0 := by
  unfold widthB at h
  simp at h
  exact ⟨a.toNat, by omega, by omega, by omega, by omega⟩

/-- What Check answers. -/
def checkR (w : Int) (n : Nat) : Int := if widthB w then (if (n : Int) = w / 8 then 0 else 11) else 10

set_option maxHeartbeats 1000000 in
theorem Check_calls (a : Int) (s : ByteArray) (hs : s.size ≤ 140737488351232) (w : World) :
    Calls Tryd.prog 16 #[.int .i64 a, .string s] w fun e w' => e = .returned (.int .i64 (checkR a s.size)) ∧ w = w' := by
  have C := isWidth_calls a w
  rcases hw : widthB a with _ | _
  · have hp : checkR a s.size = 10 := by unfold checkR; rw [hw]; rfl
    rw [hp]
    rw [hw] at C
    clear hp hw
    go_enter Tryd.func16, Tryd.ntmps16
    go_wp2_with fail
    refine C.mono ?_
    rintro e w1 ⟨rfl, rfl⟩
    go_wp2
    go_ret
    exact ⟨rfl, rfl⟩
  · rw [hw] at C
    obtain ⟨n, rfl, h1, h2, h3⟩ := widthB_true hw
    by_cases he : s.size = n / 8
    · have hp : checkR n s.size = 0 := by unfold checkR; rw [hw, if_pos rfl, if_pos (by omega)]
      have hne : ((s.size : Int) != (n : Int) / 8) = false := by rw [bne_eq_false_iff_eq]; omega
      rw [hp]
      clear hp he hw
      go_enter Tryd.func16, Tryd.ntmps16
      go_wp2_with fail
      refine C.mono ?_
      rintro e w1 ⟨rfl, rfl⟩
      go_wp2
      go_ret
      exact ⟨rfl, rfl⟩
    · have hp : checkR n s.size = 11 := by unfold checkR; rw [hw, if_pos rfl, if_neg (by omega)]
      have hne : ((s.size : Int) != (n : Int) / 8) = true := by rw [bne_iff_ne]; omega
      rw [hp]
      clear hp he hw
      go_enter Tryd.func16, Tryd.ntmps16
      go_wp2_with fail
      refine C.mono ?_
      rintro e w1 ⟨rfl, rfl⟩
      go_wp2
      go_ret
      exact ⟨rfl, rfl⟩


/-- What New answers as its number. -/
def newE (wd dm : Int) : Int := if widthB wd then (if 1 ≤ dm ∧ dm ≤ 1024 then 0 else 190) else 10

theorem newE_ok {wd dm : Int} (h : newE wd dm = 0) : widthB wd = true ∧ 1 ≤ dm ∧ dm ≤ 1024 := by
  unfold newE at h
  split at h
  · rename_i h1
    split at h
    · rename_i h2
      exact ⟨h1, h2⟩
    · exact absurd h (by decide)
  · exact absurd h (by decide)

theorem newE_cases (wd dm : Int) : newE wd dm = 0 ∨ (newE wd dm = 10 ∧ widthB wd = false) ∨ (newE wd dm = 190 ∧ widthB wd = true ∧ (dm < 1 ∨ 1 ≤ dm ∧ 1024 < dm)) := by
  unfold newE
  rcases hw : widthB wd with _ | _
  · exact .inr (.inl ⟨rfl, rfl⟩)
  · rw [if_pos rfl]
    by_cases h : 1 ≤ dm ∧ dm ≤ 1024
    · exact .inl (if_pos h)
    · exact .inr (.inr ⟨if_neg h, rfl, by omega⟩)

set_option maxHeartbeats 1000000 in
theorem New_no (wd dm sd : Int) (h : newE wd dm ≠ 0) (w : World) :
    Calls Tryd.prog 12 #[.int .i64 wd, .int .i64 dm, .int .u64 sd] w fun e w' => e = .returned (.tuple #[.pointer none, .int .i64 (newE wd dm)]) ∧ w = w' := by
  rcases newE_cases wd dm with h0 | ⟨h0, hw⟩ | ⟨h0, hw, hd⟩
  · exact absurd h0 h
  · rw [h0]
    have C := Check_calls wd ⟨#[]⟩ (by decide) w
    have hck : checkR wd 0 = 10 := by unfold checkR; rw [hw]; rfl
    change Calls _ _ _ _ (fun e w' => e = .returned (.int .i64 (checkR wd 0)) ∧ w = w') at C
    rw [hck] at C
    clear h h0 hck
    go_enter Tryd.func12, Tryd.ntmps12
    go_wp2_with fail
    refine C.mono ?_
    rintro _ _ ⟨rfl, rfl⟩
    go_wp2
    go_ret2
    exact ⟨rfl, rfl⟩
  · rw [h0]
    have C := Check_calls wd ⟨#[]⟩ (by decide) w
    have hck : checkR wd 0 = 11 := by unfold checkR; rw [hw]; rw [if_pos rfl, if_neg (by obtain ⟨n, e, _, _, _⟩ := widthB_true hw; omega)]
    change Calls _ _ _ _ (fun e w' => e = .returned (.int .i64 (checkR wd 0)) ∧ w = w') at C
    rw [hck] at C
    clear h h0 hck
    rcases hd with hd | ⟨hd1, hd2⟩
    all_goals
      go_enter Tryd.func12, Tryd.ntmps12
      go_wp2_with fail
      refine C.mono ?_
      rintro _ _ ⟨rfl, rfl⟩
      go_wp2
      go_ret2
      exact ⟨rfl, rfl⟩

set_option maxHeartbeats 1000000 in
theorem New_ok (wd dm sd : Int) (h : newE wd dm = 0) (w : World) :
    Calls Tryd.prog 12 #[.int .i64 wd, .int .i64 dm, .int .u64 sd] w fun e w' => e = .returned (.tuple #[.pointer (some ⟨w.heap.size, 0, none⟩), .int .i64 0]) ∧ w' = w.alloc (.cells #[.int .i64 wd, .int .i64 dm, .int .u64 sd] 48) := by
  obtain ⟨hw, hd1, hd2⟩ := newE_ok h
  have hd3 : ¬ dm < 1 := by omega
  have C := Check_calls wd ⟨#[]⟩ (by decide) w
  have hck : checkR wd 0 = 11 := by unfold checkR; rw [hw]; rw [if_pos rfl, if_neg (by obtain ⟨n, e, _, _, _⟩ := widthB_true hw; omega)]
  change Calls _ _ _ _ (fun e w' => e = .returned (.int .i64 (checkR wd 0)) ∧ w = w') at C
  rw [hck] at C
  clear h hck
  go_enter Tryd.func12, Tryd.ntmps12
  go_wp2_with fail
  refine C.mono ?_
  rintro _ _ ⟨rfl, rfl⟩
  go_wp2
  go_ret2
  exact ⟨rfl, rfl⟩

end Go.Proofs.YtcdlmjbjpeokfaaDoor
