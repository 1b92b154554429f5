/-
  SORTED FILES: does an entry go: by the program and by the document.
-/
import Derived.Test.YtihgjihdmlomaaaDoorBkB
namespace Go.Proofs.YtihgjihdmlomaaaDoor
open Go.RowKit
set_option linter.unusedVariables false

/-- A head that goes. -/
theorem headedR_ok {h : Hd} (hh : headedR h = 0) : ∃ m : Nat, h.w = m ∧ 64 ≤ m ∧ m ≤ 1024 ∧ m % 64 = 0 ∧ widthB h.w = true ∧ 0 ≤ h.t ∧ h.t < 128 ∧ 1 ≤ h.b ∧ h.b ≤ 32 ∧ 0 ≤ h.lo ∧ h.lo ≤ h.hi ∧ h.hi ≤ 1152921504606846976 := by
  unfold headedR at hh
  cases hw : widthB h.w with
  | false => rw [hw] at hh; simp at hh
  | true =>
    rw [hw] at hh
    simp only [Bool.true_eq_false, if_false] at hh
    split at hh
    · cases hh
    · obtain ⟨m, e, h1, h2, h3⟩ := widthB_true hw
      exact ⟨m, e, h1, h2, h3, rfl, by omega, by omega, by omega, by omega, by omega, by omega, by omega⟩

theorem shr_zero {v : Int} {b : Nat} (hv : 0 ≤ v) : v / 2 ^ b = 0 ↔ v < 2 ^ b := by
  have hp : (0 : Int) < 2 ^ b := Int.pow_pos (by decide)
  constructor
  · intro h
    have := Int.emod_lt_of_pos v hp
    have := Int.mul_ediv_add_emod v (2 ^ b)
    rw [h] at this
    omega
  · intro h
    exact Int.ediv_eq_zero_of_lt hv h

set_option maxRecDepth 100000 in
set_option maxHeartbeats 4000000 in
theorem fits_calls (h : Hd) (e : Ent) (hh : headedR h = 0) (hs : e.c.size ≤ 140737488351232) (w : World) : Calls Tryd.prog 32 #[h.val, e.val] w fun x w' => x = .returned (.int .i64 (fitsR h e)) ∧ Below w.heap.size w w' := by
  obtain ⟨m, hm, h1, h2, h3, hw, ht0, ht1, hb0, hb1, hl0, hl1, hl2⟩ := headedR_ok hh
  have CK := fun W => Check_calls h.w e.c hs W
  have hck : checkR h.w e.c.size = if (e.c.size : Int) = h.w / 8 then 0 else 11 := by unfold checkR; rw [hw, if_pos rfl]
  rw [hck] at CK
  clear hck
  have hB : ∀ o1 o2 : Obj, Below w.heap.size w ((w.alloc o1).alloc o2) := fun o1 o2 => ((Below.refl _ w).alloc (Nat.le_refl _) o1).alloc (by simp) o2
  obtain ⟨r, hr⟩ : ∃ r, fitsR h e = r := ⟨_, rfl⟩
  rw [hr]
  unfold fitsR at hr
  obtain ⟨a, t, b, lo, hi, n⟩ := h
  obtain ⟨v, c, i, s, d⟩ := e
  simp only [Hd.val, Ent.val] at *
  subst hm
  clear hh hw
  obtain ⟨k, rfl⟩ := Int.eq_ofNat_of_zero_le (show 0 ≤ b by omega)
  simp only [Int.toNat_natCast] at hr
  by_cases g1 : (c.size : Int) = (m : Int) / 8
  · rw [if_neg (by simpa using g1)] at hr
    rw [if_pos g1] at CK
    clear g1
    by_cases g2 : v < 0
    · obtain rfl : r = 13 := by rw [← hr, if_pos (.inl g2)]
      clear hr
      go_enter Tryd.func32, Tryd.ntmps32
      go_wp2_with fail
      refine (CK _).mono ?_
      rintro e w1 ⟨rfl, rfl⟩
      go_wp2
      go_ret
      exact ⟨rfl, hB _ _⟩
    have HS := Lib.hid (shr_zero (v := v) (b := k) (by omega))
    by_cases g3 : 2 ^ k ≤ v
    · obtain rfl : r = 13 := by rw [← hr, if_pos (.inr g3)]
      clear hr
      have hne : (v / 2 ^ k != 0) = true := by rw [bne_iff_ne]; intro e; have := HS.out.1 e; omega
      clear g3
      go_enter Tryd.func32, Tryd.ntmps32
      go_wp2_with fail
      refine (CK _).mono ?_
      rintro e w1 ⟨rfl, rfl⟩
      go_wp2
      go_ret
      exact ⟨rfl, hB _ _⟩
    have hne : (v / 2 ^ k != 0) = false := by rw [bne_eq_false_iff_eq]; exact HS.out.2 (by omega)
    rw [if_neg (by omega)] at hr
    by_cases g4 : i < 0
    · obtain rfl : r = 60 := by rw [← hr, if_pos (.inl g4)]
      clear hr g3
      go_enter Tryd.func32, Tryd.ntmps32
      go_wp2_with fail
      refine (CK _).mono ?_
      rintro e w1 ⟨rfl, rfl⟩
      go_wp2
      go_ret
      exact ⟨rfl, hB _ _⟩
    by_cases g5 : 281474976710656 < i
    · obtain rfl : r = 60 := by rw [← hr, if_pos (.inr g5)]
      clear hr g3
      go_enter Tryd.func32, Tryd.ntmps32
      go_wp2_with fail
      refine (CK _).mono ?_
      rintro e w1 ⟨rfl, rfl⟩
      go_wp2
      go_ret
      exact ⟨rfl, hB _ _⟩
    rw [if_neg (by omega)] at hr
    by_cases g6 : s ≤ lo
    · obtain rfl : r = 51 := by rw [← hr, if_pos (.inl g6)]
      clear hr g3
      go_enter Tryd.func32, Tryd.ntmps32
      go_wp2_with fail
      refine (CK _).mono ?_
      rintro e w1 ⟨rfl, rfl⟩
      go_wp2
      go_ret
      exact ⟨rfl, hB _ _⟩
    by_cases g7 : hi < s
    · obtain rfl : r = 51 := by rw [← hr, if_pos (.inr g7)]
      clear hr g3
      go_enter Tryd.func32, Tryd.ntmps32
      go_wp2_with fail
      refine (CK _).mono ?_
      rintro e w1 ⟨rfl, rfl⟩
      go_wp2
      go_ret
      exact ⟨rfl, hB _ _⟩
    obtain rfl : r = 0 := by rw [← hr, if_neg (by omega)]
    clear hr g3
    go_enter Tryd.func32, Tryd.ntmps32
    go_wp2_with fail
    refine (CK _).mono ?_
    rintro e w1 ⟨rfl, rfl⟩
    go_wp2
    go_ret
    exact ⟨rfl, hB _ _⟩
  · rw [if_pos (by simpa using g1)] at hr
    rw [if_neg g1] at CK
    clear g1
    subst hr
    go_enter Tryd.func32, Tryd.ntmps32
    go_wp2_with fail
    refine (CK _).mono ?_
    rintro e w1 ⟨rfl, rfl⟩
    go_wp2
    go_ret
    exact ⟨rfl, hB _ _⟩

set_option maxRecDepth 100000 in
set_option maxHeartbeats 4000000 in
theorem one_calls (h : Hd) (e : Ent) (hh : headedR h = 0) (hs : e.c.size ≤ 140737488351232) (w : World) : Calls Tryd.prog 63 #[h.val, e.val] w fun x w' => x = .returned (.int .i64 (fitsR h e)) ∧ Below w.heap.size w w' := by
  obtain ⟨m, hm, h1, h2, h3, hw, ht0, ht1, hb0, hb1, hl0, hl1, hl2⟩ := headedR_ok hh
  have hB : ∀ o1 o2 : Obj, Below w.heap.size w ((w.alloc o1).alloc o2) := fun o1 o2 => ((Below.refl _ w).alloc (Nat.le_refl _) o1).alloc (by simp) o2
  obtain ⟨r, hr⟩ : ∃ r, fitsR h e = r := ⟨_, rfl⟩
  rw [hr]
  unfold fitsR at hr
  obtain ⟨a, t, b, lo, hi, n⟩ := h
  obtain ⟨v, c, i, s, d⟩ := e
  simp only [Hd.val, Ent.val] at *
  subst hm
  clear hh hw
  obtain ⟨k, rfl⟩ := Int.eq_ofNat_of_zero_le (show 0 ≤ b by omega)
  simp only [Int.toNat_natCast] at hr
  by_cases g1 : (c.size : Int) = (m : Int) / 8
  · rw [if_neg (by simpa using g1)] at hr
    have hz : ((c.size : Int) != (m : Int) / 8) = false := by rw [bne_eq_false_iff_eq]; exact g1
    clear g1
    have hpw : (2 : Int) ^ k ≤ 4294967296 := by
      have := Nat.pow_le_pow_right (show 0 < 2 by decide) (show k ≤ 32 by omega)
      have e : (2 : Int) ^ k = ((2 ^ k : Nat) : Int) := by simp
      rw [e]
      omega
    have hpw0 : (0 : Int) ≤ 2 ^ k := Int.le_of_lt (Int.pow_pos (by decide))
    by_cases g2 : v < 0
    · obtain rfl : r = 13 := by rw [← hr, if_pos (.inl g2)]
      clear hr
      clear hpw hpw0
      go_enter Tryd.func63, Tryd.ntmps63
      go_wp2
      go_ret
      exact ⟨rfl, hB _ _⟩
    by_cases g3 : 2 ^ k ≤ v
    · obtain rfl : r = 13 := by rw [← hr, if_pos (.inr g3)]
      clear hr
      go_enter Tryd.func63, Tryd.ntmps63
      go_wp2
      go_ret
      exact ⟨rfl, hB _ _⟩
    rw [if_neg (by omega)] at hr
    by_cases g4 : i < 0
    · obtain rfl : r = 60 := by rw [← hr, if_pos (.inl g4)]
      clear hr
      go_enter Tryd.func63, Tryd.ntmps63
      go_wp2
      go_ret
      exact ⟨rfl, hB _ _⟩
    by_cases g5 : 281474976710656 < i
    · obtain rfl : r = 60 := by rw [← hr, if_pos (.inr g5)]
      clear hr
      go_enter Tryd.func63, Tryd.ntmps63
      go_wp2
      go_ret
      exact ⟨rfl, hB _ _⟩
    rw [if_neg (by omega)] at hr
    by_cases g6 : s ≤ lo
    · obtain rfl : r = 51 := by rw [← hr, if_pos (.inl g6)]
      clear hr
      go_enter Tryd.func63, Tryd.ntmps63
      go_wp2
      go_ret
      exact ⟨rfl, hB _ _⟩
    by_cases g7 : hi < s
    · obtain rfl : r = 51 := by rw [← hr, if_pos (.inr g7)]
      clear hr
      go_enter Tryd.func63, Tryd.ntmps63
      go_wp2
      go_ret
      exact ⟨rfl, hB _ _⟩
    obtain rfl : r = 0 := by rw [← hr, if_neg (by omega)]
    clear hr
    go_enter Tryd.func63, Tryd.ntmps63
    go_wp2
    go_ret
    exact ⟨rfl, hB _ _⟩
  · rw [if_pos (by simpa using g1)] at hr
    have hz : ((c.size : Int) != (m : Int) / 8) = true := by rw [bne_iff_ne]; exact g1
    clear g1
    subst hr
    go_enter Tryd.func63, Tryd.ntmps63
    go_wp2
    go_ret
    exact ⟨rfl, hB _ _⟩
end Go.Proofs.YtihgjihdmlomaaaDoor
