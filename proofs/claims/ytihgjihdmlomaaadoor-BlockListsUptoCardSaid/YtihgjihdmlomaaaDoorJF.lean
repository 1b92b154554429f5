/-
  SORTED FILES: heads, what goes into a file, the order; as plain Lean, and by the program.
  SORTED FILES: the order, by the program and by the document; whether an entry goes.
  SORTED FILES: does an entry go: by the program and by the document.
  SORTED FILES: numbers and entries as bytes, by the program and by the document.
  SORTED FILES: entries and heads as bytes, by the document. (Printed by wip/tools/bkgen.py.)
  SORTED FILES as plain Lean: texts one behind the other in blocks; a file's bytes.
  WALKS: the program's builder of sorted files: a strings.Builder that lies in a struct, lines, a sum.
-/
import Derived.Test.YtihgjihdmlomaaaDoorJD
import Derived.Test.YtihgjihdmlomaaaDoorJA
import Derived.Test.YtihgjihdmlomaaaDoorJB
import Derived.Lib.Bytealg
import Derived.Laws.Externs
import Derived.Deep.QuietTactic
import Derived.BigQuiet
import Derived.Deep.RegionHeld3
import Derived.Outline
import Derived.Lib.Builder
import Derived.Lib.AppendStr
import Derived.Lib.UnsafeStr
import Derived.Deep.WholeRow
import Derived.Laws.ResultCell
import Derived.Shelf.RegionOpenPlain
namespace Go.Proofs.YtihgjihdmlomaaaDoor
open Go.RowKit
set_option linter.unusedVariables false

/-- A file's head. -/
structure Hd where
  w : Int
  t : Int
  b : Int
  lo : Int
  hi : Int
  n : Int
deriving DecidableEq
def Hd.cells (h : Hd) : List Value := [.int .i64 h.w, .int .i64 h.t, .int .i64 h.b, .int .i64 h.lo, .int .i64 h.hi, .int .i64 h.n]
def Hd.val (h : Hd) : Value := .agg #[.int .i64 h.w, .int .i64 h.t, .int .i64 h.b, .int .i64 h.lo, .int .i64 h.hi, .int .i64 h.n]

/-- Why a file cannot have this head. -/
def headedR (h : Hd) : Int :=
  if widthB h.w = false then 10 else
  if h.t < 0 ∨ 128 ≤ h.t ∨ h.b < 1 ∨ 32 < h.b ∨ h.lo < 0 ∨ h.hi < h.lo ∨ 1152921504606846976 < h.hi then 13 else 0

/-- Why an entry cannot stand in a file of this head. -/
def fitsR (h : Hd) (e : Ent) : Int :=
  if (e.c.size : Int) ≠ h.w / 8 then 11 else
  if e.v < 0 ∨ 2 ^ h.b.toNat ≤ e.v then 13 else
  if e.i < 0 ∨ 281474976710656 < e.i then 60 else
  if e.s ≤ h.lo ∨ h.hi < e.s then 51 else 0

set_option maxRecDepth 100000 in
set_option maxHeartbeats 2000000 in
theorem headed_calls (h : Hd) (w : World) : Calls Tryd.prog 31 #[h.val] w fun e w' => e = .returned (.int .i64 (headedR h)) ∧ Below w.heap.size w w' := by
  obtain ⟨a, t, b, lo, hi, n⟩ := h
  obtain ⟨r, hr⟩ : ∃ r, headedR ⟨a, t, b, lo, hi, n⟩ = r := ⟨_, rfl⟩
  rw [hr]
  have HR := Lib.hid hr
  unfold Hd.val
  simp only
  clear hr
  have hB : ∀ o : Obj, Below w.heap.size w (w.alloc o) := fun o => (Below.refl _ w).alloc (Nat.le_refl _) o
  rcases hw : widthB a with _ | _
  · have hr : r = 10 := by rw [← HR.out]; unfold headedR; simp [hw]
    subst hr
    by_cases h1 : a < 64
    · clear hw
      go_enter Tryd.func31, Tryd.ntmps31
      go_wp2
      go_ret
      exact ⟨rfl, hB _⟩
    by_cases h2 : 1024 < a
    · clear hw
      go_enter Tryd.func31, Tryd.ntmps31
      go_wp2
      go_ret
      exact ⟨rfl, hB _⟩
    have h3 : ¬ a % 64 = 0 := fun e => by
      have : widthB a = true := by unfold widthB; simp; omega
      rw [this] at hw
      cases hw
    have h4 : (a % 64 != 0) = true := by rw [bne_iff_ne]; exact h3
    have h5 : 0 ≤ a := by omega
    clear hw h3
    go_enter Tryd.func31, Tryd.ntmps31
    go_wp2
    go_ret
    exact ⟨rfl, hB _⟩
  · obtain ⟨m, rfl, h1, h2, h3⟩ := widthB_true hw
    have h4 : ((m : Int) % 64 != 0) = false := by rw [bne_eq_false_iff_eq]; omega
    have hr : r = if t < 0 ∨ 128 ≤ t ∨ b < 1 ∨ 32 < b ∨ lo < 0 ∨ hi < lo ∨ 1152921504606846976 < hi then 13 else 0 := by rw [← HR.out]; unfold headedR; simp [hw]
    have H := Lib.hid hr
    clear hr hw h3
    have key : ∀ k : Int, r = k → (k = 13 ∨ k = 0) → True := fun _ _ _ => trivial
    by_cases g1 : t < 0
    · obtain rfl : r = 13 := by rw [H.out, if_pos (.inl g1)]
      go_enter Tryd.func31, Tryd.ntmps31
      go_wp2
      go_ret
      exact ⟨rfl, hB _⟩
    by_cases g2 : 128 ≤ t
    · obtain rfl : r = 13 := by rw [H.out, if_pos (by omega)]
      go_enter Tryd.func31, Tryd.ntmps31
      go_wp2
      go_ret
      exact ⟨rfl, hB _⟩
    by_cases g3 : b < 1
    · obtain rfl : r = 13 := by rw [H.out, if_pos (by omega)]
      go_enter Tryd.func31, Tryd.ntmps31
      go_wp2
      go_ret
      exact ⟨rfl, hB _⟩
    by_cases g4 : 32 < b
    · obtain rfl : r = 13 := by rw [H.out, if_pos (by omega)]
      go_enter Tryd.func31, Tryd.ntmps31
      go_wp2
      go_ret
      exact ⟨rfl, hB _⟩
    by_cases g5 : lo < 0
    · obtain rfl : r = 13 := by rw [H.out, if_pos (by omega)]
      go_enter Tryd.func31, Tryd.ntmps31
      go_wp2
      go_ret
      exact ⟨rfl, hB _⟩
    by_cases g6 : hi < lo
    · obtain rfl : r = 13 := by rw [H.out, if_pos (by omega)]
      go_enter Tryd.func31, Tryd.ntmps31
      go_wp2
      go_ret
      exact ⟨rfl, hB _⟩
    by_cases g7 : 1152921504606846976 < hi
    · obtain rfl : r = 13 := by rw [H.out, if_pos (by omega)]
      go_enter Tryd.func31, Tryd.ntmps31
      go_wp2
      go_ret
      exact ⟨rfl, hB _⟩
    obtain rfl : r = 0 := by rw [H.out, if_neg (by omega)]
    go_enter Tryd.func31, Tryd.ntmps31
    go_wp2
    go_ret
    exact ⟨rfl, hB _⟩
end Go.Proofs.YtihgjihdmlomaaaDoor

namespace Go.Proofs.YtihgjihdmlomaaaDoor
open Go.RowKit
set_option linter.unusedVariables false

theorem cmpB_eq : ∀ a b : List UInt8, Lib.compareBytes a b = if Op.bytesLess a b then -1 else if Op.bytesLess b a then 1 else 0
  | [], [] => rfl
  | [], _ :: _ => rfl
  | _ :: _, [] => rfl
  | a :: x, b :: y => by
    rw [Lib.compareBytes, cmpB_eq x y]
    simp only [Op.bytesLess, Bool.or_eq_true, Bool.and_eq_true, decide_eq_true_eq, beq_iff_eq]
    by_cases h1 : a < b
    · simp [h1]
    · by_cases h2 : b < a
      · have h3 : a ≠ b := fun e => by subst e; exact h1 h2
        simp [h1, h2, h3]
      · obtain rfl : a = b := UInt8.le_antisymm (UInt8.not_lt.1 h2) (UInt8.not_lt.1 h1)
        simp [h1]

theorem cmpB_S (a b : ByteArray) : Lib.compareBytes a.data.toList b.data.toList = cmpS a b := by
  rw [cmpB_eq]
  unfold cmpS sless
  rw [ByteArray.toList_eq, ByteArray.toList_eq]

set_option maxRecDepth 100000 in
set_option maxHeartbeats 1000000 in
theorem StrCompare_calls (a b : ByteArray) (w : World) : Calls Tryd.prog 56 #[.string a, .string b] w fun e w' => e = .returned (.int .i64 (cmpS a b)) ∧ w' = w := by
  have hc : Calls Tryd.prog 79 #[.string a, .string b] w fun e w' => e = .returned (.int .i64 (cmpS a b)) ∧ w' = w := by
    go_enter Tryd.func79, Tryd.ntmps79
    go_wp2
    rw [run_callFunc_extern Tryd.func99 (by kernel_rfl) (by kernel_rfl) (by kernel_rfl) (e := Extern.BytealgCompare.compare) (by kernel_rfl)]
    rw [Lib.run_compareString, cmpB_S]
    simp only [Result.andThen]
    rw [Oper.upon_value]
    go_wp2
    go_ret
    exact ⟨rfl, rfl⟩
  go_enter Tryd.func56, Tryd.ntmps56
  go_wp2_with fail
  refine hc.mono ?_
  rintro e w1 ⟨rfl, rfl⟩
  go_wp2
  go_ret
  exact ⟨rfl, rfl⟩

set_option maxRecDepth 100000 in
set_option maxHeartbeats 1000000 in
theorem Compare_calls (a b : Ent) (w : World) : Calls Tryd.prog 33 #[a.val, b.val] w fun e w' => e = .returned (.int .i64 (cmpE a b)) ∧ Below w.heap.size w w' := by
  have hB : ∀ o1 o2 : Obj, Below w.heap.size w ((w.alloc o1).alloc o2) := fun o1 o2 => ((Below.refl _ w).alloc (Nat.le_refl _) o1).alloc (by simp) o2
  obtain ⟨r, hr⟩ : ∃ r, cmpE a b = r := ⟨_, rfl⟩
  rw [hr]
  unfold cmpE at hr
  obtain ⟨v, c, i, s, d⟩ := a
  obtain ⟨v', c', i', s', d'⟩ := b
  simp only [Ent.val] at hr ⊢
  by_cases h1 : v < v'
  · obtain rfl : r = -1 := by rw [← hr]; unfold cmpI; simp [h1]
    have hne : (v != v') = true := by rw [bne_iff_ne]; omega
    clear hr
    go_enter Tryd.func33, Tryd.ntmps33
    go_wp2
    go_ret
    exact ⟨rfl, hB _ _⟩
  by_cases h2 : v' < v
  · obtain rfl : r = 1 := by rw [← hr]; unfold cmpI; simp [h1, h2]
    have hne : (v != v') = true := by rw [bne_iff_ne]; omega
    clear hr
    go_enter Tryd.func33, Tryd.ntmps33
    go_wp2
    go_ret
    exact ⟨rfl, hB _ _⟩
  obtain rfl : v = v' := by omega
  have hI : cmpI v v = 0 := by unfold cmpI; simp
  rw [hI] at hr
  simp only [ne_eq, not_true_eq_false, if_false] at hr
  by_cases hc : c = c'
  · subst hc
    have hS : cmpS c c = 0 := by unfold cmpS; rw [sless_irrefl]; simp
    rw [hS] at hr
    simp only [not_true_eq_false, if_false] at hr
    by_cases h3 : i < i'
    · obtain rfl : r = -1 := by rw [← hr]; unfold cmpI; simp [h3]
      clear hr hI hS
      go_enter Tryd.func33, Tryd.ntmps33
      go_wp2
      go_ret
      exact ⟨rfl, hB _ _⟩
    by_cases h4 : i' < i
    · obtain rfl : r = 1 := by rw [← hr]; unfold cmpI; simp [h3, h4]
      clear hr hI hS
      go_enter Tryd.func33, Tryd.ntmps33
      go_wp2
      go_ret
      exact ⟨rfl, hB _ _⟩
    obtain rfl : r = 0 := by rw [← hr]; unfold cmpI; simp [h3, h4]
    clear hr hI hS
    go_enter Tryd.func33, Tryd.ntmps33
    go_wp2
    go_ret
    exact ⟨rfl, hB _ _⟩
  · have hS : ¬ cmpS c c' = 0 := by
      unfold cmpS
      intro h
      cases h5 : sless c c'
      · cases h6 : sless c' c
        · exact hc (sless_total h5 h6)
        · rw [h5, h6] at h; simp at h
      · rw [h5] at h; simp at h
    rw [if_pos hS] at hr
    have h2b : (c.toList == c'.toList) = false := beq_eq_false_iff_ne.2 (fun e => hc (toList_inj e))
    have h2c : (!c.toList == c'.toList) = true := by rw [h2b]; rfl
    have HR := Lib.hid hr
    clear hr hI hS hc
    go_enter Tryd.func33, Tryd.ntmps33
    go_wp2_with fail
    refine (StrCompare_calls c c' _).mono ?_
    rintro e w1 ⟨rfl, rfl⟩
    go_wp2
    go_ret
    exact ⟨by rw [HR.out]; rfl, hB _ _⟩

set_option maxRecDepth 100000 in
set_option maxHeartbeats 1000000 in
theorem Less_calls (a b : Ent) (w : World) : Calls Tryd.prog 54 #[a.val, b.val] w fun e w' => e = .returned (.bool (decide (eless a b))) ∧ Below w.heap.size w w' := by
  have hcmp : decide (eless a b) = if a.v = b.v then (if a.c = b.c then decide (a.i < b.i) else sless a.c b.c) else decide (a.v < b.v) := by
    rw [Bool.eq_iff_iff, decide_eq_true_iff]
    unfold eless
    by_cases h1 : a.v = b.v
    · rw [if_pos h1]
      by_cases h2 : a.c = b.c
      · rw [if_pos h2, h1, h2, sless_irrefl, decide_eq_true_iff]
        constructor
        · rintro (h | ⟨_, h | ⟨_, h⟩⟩)
          · omega
          · cases h
          · exact h
        · exact fun h => .inr ⟨rfl, .inr ⟨rfl, h⟩⟩
      · rw [if_neg h2]
        constructor
        · rintro (h | ⟨_, h | ⟨h, _⟩⟩)
          · omega
          · exact h
          · exact absurd h h2
        · exact fun h => .inr ⟨h1, .inl h⟩
    · rw [if_neg h1, decide_eq_true_iff]
      constructor
      · rintro (h | ⟨h, _⟩)
        · exact h
        · exact absurd h h1
      · exact fun h => .inl h
  obtain ⟨r, hr⟩ : ∃ r, decide (eless a b) = r := ⟨_, rfl⟩
  rw [hr] at hcmp ⊢
  clear hr
  obtain ⟨v, c, i, s, d⟩ := a
  obtain ⟨v', c', i', s', d'⟩ := b
  simp only [Ent.val] at hcmp ⊢
  have HE := Lib.hid hcmp
  clear hcmp
  by_cases h1 : v = v'
  · subst h1
    by_cases h2 : c = c'
    · subst h2
      go_enter Tryd.func54, Tryd.ntmps54
      go_wp2
      go_ret
      exact ⟨by rw [HE.out]; simp, ((Below.refl _ w).alloc (Nat.le_refl _) _).alloc (by simp) _⟩
    · have h2b : (c.toList == c'.toList) = false := beq_eq_false_iff_ne.2 (fun e => h2 (toList_inj e))
      have h2e : ¬ (c.toList = c'.toList) := fun e => h2 (toList_inj e)
      have h2c : (!c.toList == c'.toList) = true := by rw [h2b]; rfl
      have H2 := Lib.hid h2
      clear h2
      go_enter Tryd.func54, Tryd.ntmps54
      go_wp2
      go_ret
      exact ⟨by rw [HE.out]; simp [H2.out]; rfl, ((Below.refl _ w).alloc (Nat.le_refl _) _).alloc (by simp) _⟩
  · have h1b : (v != v') = true := by simp [h1]
    have H1 := Lib.hid h1
    clear h1
    go_enter Tryd.func54, Tryd.ntmps54
    go_wp2
    go_ret
    exact ⟨by rw [HE.out]; simp [H1.out], ((Below.refl _ w).alloc (Nat.le_refl _) _).alloc (by simp) _⟩

set_option maxRecDepth 100000 in
set_option maxHeartbeats 1000000 in
theorem less_calls (a b : Ent) (w : World) : Calls Tryd.prog 22 #[a.val, b.val] w fun e w' => e = .returned (.bool (decide (eless a b))) ∧ Below w.heap.size w w' := by
  have hcmp : decide (eless a b) = if a.v = b.v then (if a.c = b.c then decide (a.i < b.i) else sless a.c b.c) else decide (a.v < b.v) := by
    rw [Bool.eq_iff_iff, decide_eq_true_iff]
    unfold eless
    by_cases h1 : a.v = b.v
    · rw [if_pos h1]
      by_cases h2 : a.c = b.c
      · rw [if_pos h2, h1, h2, sless_irrefl, decide_eq_true_iff]
        constructor
        · rintro (h | ⟨_, h | ⟨_, h⟩⟩)
          · omega
          · cases h
          · exact h
        · exact fun h => .inr ⟨rfl, .inr ⟨rfl, h⟩⟩
      · rw [if_neg h2]
        constructor
        · rintro (h | ⟨_, h | ⟨h, _⟩⟩)
          · omega
          · exact h
          · exact absurd h h2
        · exact fun h => .inr ⟨h1, .inl h⟩
    · rw [if_neg h1, decide_eq_true_iff]
      constructor
      · rintro (h | ⟨h, _⟩)
        · exact h
        · exact absurd h h1
      · exact fun h => .inl h
  obtain ⟨r, hr⟩ : ∃ r, decide (eless a b) = r := ⟨_, rfl⟩
  rw [hr] at hcmp ⊢
  clear hr
  obtain ⟨v, c, i, s, d⟩ := a
  obtain ⟨v', c', i', s', d'⟩ := b
  simp only [Ent.val] at hcmp ⊢
  have HE := Lib.hid hcmp
  clear hcmp
  by_cases h1 : v = v'
  · subst h1
    by_cases h2 : c = c'
    · subst h2
      go_enter Tryd.func22, Tryd.ntmps22
      go_wp2
      go_ret
      exact ⟨by rw [HE.out]; simp, ((Below.refl _ w).alloc (Nat.le_refl _) _).alloc (by simp) _⟩
    · have h2b : (c.toList == c'.toList) = false := beq_eq_false_iff_ne.2 (fun e => h2 (toList_inj e))
      have h2e : ¬ (c.toList = c'.toList) := fun e => h2 (toList_inj e)
      have h2c : (!c.toList == c'.toList) = true := by rw [h2b]; rfl
      have H2 := Lib.hid h2
      clear h2
      go_enter Tryd.func22, Tryd.ntmps22
      go_wp2
      go_ret
      exact ⟨by rw [HE.out]; simp [H2.out]; rfl, ((Below.refl _ w).alloc (Nat.le_refl _) _).alloc (by simp) _⟩
  · have h1b : (v != v') = true := by simp [h1]
    have H1 := Lib.hid h1
    clear h1
    go_enter Tryd.func22, Tryd.ntmps22
    go_wp2
    go_ret
    exact ⟨by rw [HE.out]; simp [H1.out], ((Below.refl _ w).alloc (Nat.le_refl _) _).alloc (by simp) _⟩
end Go.Proofs.YtihgjihdmlomaaaDoor

namespace Go.Proofs.YtihgjihdmlomaaaDoor
open Go.RowKit
set_option linter.unusedVariables false

/-- A head that goes. -/
theorem headedR_ok {h : Hd} (hh : headedR h = 0) : ∃ m : Nat, h.w = m ∧ 64 ≤ m ∧ m ≤ 1024 ∧ m % 64 = 0 ∧ widthB h.w = true ∧ 0 ≤ h.t ∧ h.t < 128 ∧ 1 ≤ h.b ∧ h.b ≤ 32 ∧ 0 ≤ h.lo ∧ h.lo ≤ h.hi ∧ h.hi ≤ 1152921504606846976 := by
  unfold headedR at hh
  cases hw : widthB h.w with
  | false => rw [hw] at hh; simp at hh
  | true =>
    rw [hw] at hh
    simp only [Bool.true_eq_false, if_false] at hh
    split at hh
    · cases hh
    · obtain ⟨m, e, h1, h2, h3⟩ := widthB_true hw
      exact ⟨m, e, h1, h2, h3, rfl, by omega, by omega, by omega, by omega, by omega, by omega, by omega⟩

theorem shr_zero {v : Int} {b : Nat} (hv : 0 ≤ v) : v / 2 ^ b = 0 ↔ v < 2 ^ b := by
  have hp : (0 : Int) < 2 ^ b := Int.pow_pos (by decide)
  constructor
  · intro h
    have := Int.emod_lt_of_pos v hp
    have := Int.mul_ediv_add_emod v (2 ^ b)
    rw [h] at this
    omega
  · intro h
    exact Int.ediv_eq_zero_of_lt hv h

set_option maxRecDepth 100000 in
set_option maxHeartbeats 4000000 in
theorem fits_calls (h : Hd) (e : Ent) (hh : headedR h = 0) (hs : e.c.size ≤ 140737488351232) (w : World) : Calls Tryd.prog 32 #[h.val, e.val] w fun x w' => x = .returned (.int .i64 (fitsR h e)) ∧ Below w.heap.size w w' := by
  obtain ⟨m, hm, h1, h2, h3, hw, ht0, ht1, hb0, hb1, hl0, hl1, hl2⟩ := headedR_ok hh
  have CK := fun W => Check_calls h.w e.c hs W
  have hck : checkR h.w e.c.size = if (e.c.size : Int) = h.w / 8 then 0 else 11 := by unfold checkR; rw [hw, if_pos rfl]
  rw [hck] at CK
  clear hck
  have hB : ∀ o1 o2 : Obj, Below w.heap.size w ((w.alloc o1).alloc o2) := fun o1 o2 => ((Below.refl _ w).alloc (Nat.le_refl _) o1).alloc (by simp) o2
  obtain ⟨r, hr⟩ : ∃ r, fitsR h e = r := ⟨_, rfl⟩
  rw [hr]
  unfold fitsR at hr
  obtain ⟨a, t, b, lo, hi, n⟩ := h
  obtain ⟨v, c, i, s, d⟩ := e
  simp only [Hd.val, Ent.val] at *
  subst hm
  clear hh hw
  obtain ⟨k, rfl⟩ := Int.eq_ofNat_of_zero_le (show 0 ≤ b by omega)
  simp only [Int.toNat_natCast] at hr
  by_cases g1 : (c.size : Int) = (m : Int) / 8
  · rw [if_neg (by simpa using g1)] at hr
    rw [if_pos g1] at CK
    clear g1
    by_cases g2 : v < 0
    · obtain rfl : r = 13 := by rw [← hr, if_pos (.inl g2)]
      clear hr
      go_enter Tryd.func32, Tryd.ntmps32
      go_wp2_with fail
      refine (CK _).mono ?_
      rintro e w1 ⟨rfl, rfl⟩
      go_wp2
      go_ret
      exact ⟨rfl, hB _ _⟩
    have HS := Lib.hid (shr_zero (v := v) (b := k) (by omega))
    by_cases g3 : 2 ^ k ≤ v
    · obtain rfl : r = 13 := by rw [← hr, if_pos (.inr g3)]
      clear hr
      have hne : (v / 2 ^ k != 0) = true := by rw [bne_iff_ne]; intro e; have := HS.out.1 e; omega
      clear g3
      go_enter Tryd.func32, Tryd.ntmps32
      go_wp2_with fail
      refine (CK _).mono ?_
      rintro e w1 ⟨rfl, rfl⟩
      go_wp2
      go_ret
      exact ⟨rfl, hB _ _⟩
    have hne : (v / 2 ^ k != 0) = false := by rw [bne_eq_false_iff_eq]; exact HS.out.2 (by omega)
    rw [if_neg (by omega)] at hr
    by_cases g4 : i < 0
    · obtain rfl : r = 60 := by rw [← hr, if_pos (.inl g4)]
      clear hr g3
      go_enter Tryd.func32, Tryd.ntmps32
      go_wp2_with fail
      refine (CK _).mono ?_
      rintro e w1 ⟨rfl, rfl⟩
      go_wp2
      go_ret
      exact ⟨rfl, hB _ _⟩
    by_cases g5 : 281474976710656 < i
    · obtain rfl : r = 60 := by rw [← hr, if_pos (.inr g5)]
      clear hr g3
      go_enter Tryd.func32, Tryd.ntmps32
      go_wp2_with fail
      refine (CK _).mono ?_
      rintro e w1 ⟨rfl, rfl⟩
      go_wp2
      go_ret
      exact ⟨rfl, hB _ _⟩
    rw [if_neg (by omega)] at hr
    by_cases g6 : s ≤ lo
    · obtain rfl : r = 51 := by rw [← hr, if_pos (.inl g6)]
      clear hr g3
      go_enter Tryd.func32, Tryd.ntmps32
      go_wp2_with fail
      refine (CK _).mono ?_
      rintro e w1 ⟨rfl, rfl⟩
      go_wp2
      go_ret
      exact ⟨rfl, hB _ _⟩
    by_cases g7 : hi < s
    · obtain rfl : r = 51 := by rw [← hr, if_pos (.inr g7)]
      clear hr g3
      go_enter Tryd.func32, Tryd.ntmps32
      go_wp2_with fail
      refine (CK _).mono ?_
      rintro e w1 ⟨rfl, rfl⟩
      go_wp2
      go_ret
      exact ⟨rfl, hB _ _⟩
    obtain rfl : r = 0 := by rw [← hr, if_neg (by omega)]
    clear hr g3
    go_enter Tryd.func32, Tryd.ntmps32
    go_wp2_with fail
    refine (CK _).mono ?_
    rintro e w1 ⟨rfl, rfl⟩
    go_wp2
    go_ret
    exact ⟨rfl, hB _ _⟩
  · rw [if_pos (by simpa using g1)] at hr
    rw [if_neg g1] at CK
    clear g1
    subst hr
    go_enter Tryd.func32, Tryd.ntmps32
    go_wp2_with fail
    refine (CK _).mono ?_
    rintro e w1 ⟨rfl, rfl⟩
    go_wp2
    go_ret
    exact ⟨rfl, hB _ _⟩

set_option maxRecDepth 100000 in
set_option maxHeartbeats 4000000 in
theorem one_calls (h : Hd) (e : Ent) (hh : headedR h = 0) (hs : e.c.size ≤ 140737488351232) (w : World) : Calls Tryd.prog 63 #[h.val, e.val] w fun x w' => x = .returned (.int .i64 (fitsR h e)) ∧ Below w.heap.size w w' := by
  obtain ⟨m, hm, h1, h2, h3, hw, ht0, ht1, hb0, hb1, hl0, hl1, hl2⟩ := headedR_ok hh
  have hB : ∀ o1 o2 : Obj, Below w.heap.size w ((w.alloc o1).alloc o2) := fun o1 o2 => ((Below.refl _ w).alloc (Nat.le_refl _) o1).alloc (by simp) o2
  obtain ⟨r, hr⟩ : ∃ r, fitsR h e = r := ⟨_, rfl⟩
  rw [hr]
  unfold fitsR at hr
  obtain ⟨a, t, b, lo, hi, n⟩ := h
  obtain ⟨v, c, i, s, d⟩ := e
  simp only [Hd.val, Ent.val] at *
  subst hm
  clear hh hw
  obtain ⟨k, rfl⟩ := Int.eq_ofNat_of_zero_le (show 0 ≤ b by omega)
  simp only [Int.toNat_natCast] at hr
  by_cases g1 : (c.size : Int) = (m : Int) / 8
  · rw [if_neg (by simpa using g1)] at hr
    have hz : ((c.size : Int) != (m : Int) / 8) = false := by rw [bne_eq_false_iff_eq]; exact g1
    clear g1
    have hpw : (2 : Int) ^ k ≤ 4294967296 := by
      have := Nat.pow_le_pow_right (show 0 < 2 by decide) (show k ≤ 32 by omega)
      have e : (2 : Int) ^ k = ((2 ^ k : Nat) : Int) := by simp
      rw [e]
      omega
    have hpw0 : (0 : Int) ≤ 2 ^ k := Int.le_of_lt (Int.pow_pos (by decide))
    by_cases g2 : v < 0
    · obtain rfl : r = 13 := by rw [← hr, if_pos (.inl g2)]
      clear hr
      clear hpw hpw0
      go_enter Tryd.func63, Tryd.ntmps63
      go_wp2
      go_ret
      exact ⟨rfl, hB _ _⟩
    by_cases g3 : 2 ^ k ≤ v
    · obtain rfl : r = 13 := by rw [← hr, if_pos (.inr g3)]
      clear hr
      go_enter Tryd.func63, Tryd.ntmps63
      go_wp2
      go_ret
      exact ⟨rfl, hB _ _⟩
    rw [if_neg (by omega)] at hr
    by_cases g4 : i < 0
    · obtain rfl : r = 60 := by rw [← hr, if_pos (.inl g4)]
      clear hr
      go_enter Tryd.func63, Tryd.ntmps63
      go_wp2
      go_ret
      exact ⟨rfl, hB _ _⟩
    by_cases g5 : 281474976710656 < i
    · obtain rfl : r = 60 := by rw [← hr, if_pos (.inr g5)]
      clear hr
      go_enter Tryd.func63, Tryd.ntmps63
      go_wp2
      go_ret
      exact ⟨rfl, hB _ _⟩
    rw [if_neg (by omega)] at hr
    by_cases g6 : s ≤ lo
    · obtain rfl : r = 51 := by rw [← hr, if_pos (.inl g6)]
      clear hr
      go_enter Tryd.func63, Tryd.ntmps63
      go_wp2
      go_ret
      exact ⟨rfl, hB _ _⟩
    by_cases g7 : hi < s
    · obtain rfl : r = 51 := by rw [← hr, if_pos (.inr g7)]
      clear hr
      go_enter Tryd.func63, Tryd.ntmps63
      go_wp2
      go_ret
      exact ⟨rfl, hB _ _⟩
    obtain rfl : r = 0 := by rw [← hr, if_neg (by omega)]
    clear hr
    go_enter Tryd.func63, Tryd.ntmps63
    go_wp2
    go_ret
    exact ⟨rfl, hB _ _⟩
  · rw [if_pos (by simpa using g1)] at hr
    have hz : ((c.size : Int) != (m : Int) / 8) = true := by rw [bne_iff_ne]; exact g1
    clear g1
    subst hr
    go_enter Tryd.func63, Tryd.ntmps63
    go_wp2
    go_ret
    exact ⟨rfl, hB _ _⟩
end Go.Proofs.YtihgjihdmlomaaaDoor

namespace Go.Proofs.YtihgjihdmlomaaaDoor
open Go.RowKit
set_option linter.unusedVariables false

def vNum (n : Int) : List UInt8 := varB (IntKind.u64.wrap n).toNat
theorem varF_len : ∀ (f v : Nat), (varF f v).length ≤ f + 1
  | 0, v => by simp [varF]
  | f + 1, v => by
    unfold varF
    split
    · simp
    · have := varF_len f (v / 128)
      simp
      omega
theorem vNum_len (n : Int) : (vNum n).length ≤ 10 := varF_len 9 _
theorem wrap_u64_nat (n : Int) : ∃ v : Nat, IntKind.u64.wrap n = v ∧ v < 18446744073709551616 := ⟨(IntKind.u64.wrap n).toNat, by rw [IntKind.wrap_u64]; omega, by rw [IntKind.wrap_u64]; omega⟩

/-- Texts one behind the other. -/
theorem str_app (x y : List UInt8) : (⟨x.toArray⟩ : ByteArray) ++ ⟨y.toArray⟩ = ⟨(x ++ y).toArray⟩ := by
  rw [ByteArray.ext_iff]
  simp

/-- An entry's place as bytes; an entry as bytes. -/
def fourB (n : Int) : List UInt8 := fixedB n.toNat 4
def placedB (e : Ent) : List UInt8 := fourB e.v ++ e.c.data.toList ++ vNum e.i
def deadB (d : Bool) : List UInt8 := if d then [1] else [0]
def writtenB (e : Ent) : List UInt8 := placedB e ++ vNum e.s ++ deadB e.d

set_option maxRecDepth 100000 in
set_option maxHeartbeats 1000000 in
theorem number_calls (n : Int) (w : World) : Calls Tryd.prog 58 #[.int .i64 n] w fun e w' => e = .returned (.string ⟨(vNum n).toArray⟩) ∧ Below w.heap.size w w' := by
  obtain ⟨v, hv, hlt⟩ := wrap_u64_nat n
  have hV : varB v = vNum n := by unfold vNum; rw [hv]; rfl
  have HV := Lib.hid hV
  clear hV
  go_enter Tryd.func58, Tryd.ntmps58
  go_wp2_with fail
  refine (PutVar_calls v hlt _).mono ?_
  rintro e w1 ⟨rfl, hb⟩
  have HB := Lib.hid hb
  clear hb hv
  go_wp2
  go_ret
  exact ⟨by rw [HV.out]; rfl, HB.out⟩

set_option maxRecDepth 100000 in
set_option maxHeartbeats 1000000 in
theorem num6_calls (n : Int) (w : World) : Calls Tryd.prog 41 #[.int .i64 n] w fun e w' => e = .returned (.string ⟨(vNum n).toArray⟩) ∧ Below w.heap.size w w' := by
  obtain ⟨v, hv, hlt⟩ := wrap_u64_nat n
  have hV : varB v = vNum n := by unfold vNum; rw [hv]; rfl
  have HV := Lib.hid hV
  clear hV
  go_enter Tryd.func41, Tryd.ntmps41
  go_wp2_with fail
  refine (RefPutVar_calls v hlt _).mono ?_
  rintro e w1 ⟨rfl, hb⟩
  have HB := Lib.hid hb
  clear hb hv
  go_wp2
  go_ret
  exact ⟨by rw [HV.out]; rfl, HB.out⟩

theorem putFix_four {v : Nat} (h : v < 4294967296) : putFix v 4 = (fixedB v 4, 0) := by
  unfold putFix
  simp
  omega

set_option maxRecDepth 100000 in
set_option maxHeartbeats 1000000 in
theorem four_calls (n : Int) (h0 : 0 ≤ n) (h1 : n < 4294967296) (w : World) : Calls Tryd.prog 40 #[.int .i64 n] w fun e w' => e = .returned (.string ⟨(fourB n).toArray⟩) ∧ Below w.heap.size w w' := by
  obtain ⟨v, rfl⟩ := Int.eq_ofNat_of_zero_le h0
  have hF : fixedB v 4 = fourB v := rfl
  have C := RefPutFix_calls v (by omega) 4 w
  rw [putFix_four (by omega), hF] at C
  generalize fourB (v : Int) = F at C ⊢
  clear hF
  go_enter Tryd.func40, Tryd.ntmps40
  go_wp2_with fail
  refine C.mono ?_
  rintro e w1 ⟨rfl, hb⟩
  have HB := Lib.hid hb
  clear hb
  go_wp2
  go_ret
  exact ⟨rfl, HB.out⟩

theorem fourB_len (n : Int) : (fourB n).length = 4 := fixedB_length _ _
theorem deadB_len (d : Bool) : (deadB d).length = 1 := by cases d <;> rfl

/-- A text and its name. -/
theorem name_s (l : List UInt8) : ∃ s : ByteArray, (⟨l.toArray⟩ : ByteArray) = s ∧ s.data.toList = l ∧ s.size = l.length := ⟨_, rfl, rfl, rfl⟩

theorem add_run {a b : ByteArray} (h : a.size + b.size ≤ 9223372036854775807) (W : World) : (Op.stringOp .add a b).run Tryd.prog W = .ok (.string (a ++ b)) W := run_string_add_sum W a b h

set_option maxRecDepth 100000 in
set_option maxHeartbeats 2000000 in
theorem placed_calls (e : Ent) (h0 : 0 ≤ e.v) (h1 : e.v < 4294967296) (hs : e.c.size ≤ 140737488351232) (w : World) : Calls Tryd.prog 86 #[e.val] w fun x w' => x = .returned (.string ⟨(placedB e).toArray⟩) ∧ Below w.heap.size w w' := by
  obtain ⟨n, hn⟩ := Int.eq_ofNat_of_zero_le h0
  have C := fun W => PutFix_calls n (by omega) 4 W
  have hF : fixedB n 4 = fourB e.v := by unfold fourB; rw [hn]; rfl
  rw [putFix_four (by omega), hF] at C
  have CN := number_calls e.i
  obtain ⟨F, hF1, hF2, hF3⟩ := name_s (fourB e.v)
  obtain ⟨V, hV1, hV2, hV3⟩ := name_s (vNum e.i)
  have hP : (F ++ e.c) ++ V = ⟨(placedB e).toArray⟩ := by
    unfold placedB
    rw [← str_app, ← str_app, hF1, hV1]
  rw [fourB_len] at hF3
  have hvl := vNum_len e.i
  simp only [hF1, hV1] at C CN
  clear hF1 hF2 hV1 hV2
  generalize (⟨(placedB e).toArray⟩ : ByteArray) = R at hP ⊢
  obtain ⟨v, c, i, s, d⟩ := e
  simp only [Ent.val] at *
  subst hn
  have r1 := add_run (a := F) (b := c) (by omega)
  have r2 := add_run (a := F ++ c) (b := V) (by rw [ByteArray.size_append]; omega)
  have HP := Lib.hid hP
  have HC := Lib.hid C
  have HN := Lib.hid CN
  clear hP C CN hF hF3 hV3 hvl
  go_enter Tryd.func86, Tryd.ntmps86
  go_wp2_with fail
  refine (HC.out _).mono ?_
  rintro e w1 ⟨rfl, hb⟩
  have hz := (hb.block w.heap.size (by simp)).trans (World.alloc_heap_new w _)
  have hb0 := ((Below.refl _ w).alloc (Nat.le_refl _) (.cells #[.int .i64 (n : Nat), .string c, .int .i64 i, .int .i64 s, .bool d] 33)).trans (hb.mono (by simp))
  have HB := Lib.hid hb0
  have c1 : w1.cell? ⟨w.heap.size, 1, none⟩ = some (.string c) := by rw [cell_of_row _ _ 1 _ _ _ hz]; rfl
  have c2 : w1.cell? ⟨w.heap.size, 2, none⟩ = some (.int .i64 i) := by rw [cell_of_row _ _ 2 _ _ _ hz]; rfl
  have hl : w.heap.size < w1.heap.size := (Array.getElem?_eq_some_iff.1 hz).1
  have HL := Lib.hid hl
  clear hb hz hb0
  go_wp2
  go_region_held3 (fun W => W.cell? ⟨w.heap.size, 1, none⟩ = some (.string c) ∧ W.cell? ⟨w.heap.size, 2, none⟩ = some (.int .i64 i)) (first | exact ⟨c1, c2⟩ | exact ⟨(hc1.cell (p := ⟨w.heap.size, 1, none⟩) HL.out).trans c1, (hc1.cell (p := ⟨w.heap.size, 2, none⟩) HL.out).trans c2⟩) (first | (go_at_call 58; refine (HN.out _).mono ?_; rintro e w2 ⟨rfl, hc1⟩))
  have HE := Lib.hid (HB.out.trans ((show Below w1.heap.size w1 w2 from ⟨hc1.os, hc1.tape, hc1.output, hc1.size, hc1.block⟩).mono HB.out.size))
  clear hc1
  go_wp2
  go_ret
  exact ⟨by rw [← HP.out]; rfl, HE.out⟩

theorem below_of {a b : World} (h : Below a.drew.heap.size a.drew b) : Below a.heap.size a b := ⟨h.os, h.tape, h.output, h.size, h.block⟩

set_option maxRecDepth 100000 in
set_option maxHeartbeats 2000000 in
theorem written_calls (e : Ent) (h0 : 0 ≤ e.v) (h1 : e.v < 4294967296) (hs : e.c.size ≤ 140737488351232) (w : World) : Calls Tryd.prog 83 #[e.val] w fun x w' => x = .returned (.string ⟨(writtenB e).toArray⟩) ∧ Below w.heap.size w w' := by
  have CP := placed_calls e h0 h1 hs
  have CN := number_calls e.s
  obtain ⟨F, hF1, hF2, hF3⟩ := name_s (placedB e)
  obtain ⟨V, hV1, hV2, hV3⟩ := name_s (vNum e.s)
  have hP : (F ++ V) ++ ⟨(deadB e.d).toArray⟩ = ⟨(writtenB e).toArray⟩ := by
    unfold writtenB
    rw [← str_app, ← str_app, hF1, hV1]
  have hpl : F.size ≤ 140737488351300 := by
    rw [hF3]
    have h4 := vNum_len e.i
    have h5 := fourB_len e.v
    have h6 : e.c.data.toList.length = e.c.size := rfl
    simp [placedB]
    omega
  have hvl := vNum_len e.s
  have hdl := deadB_len e.d
  simp only [hF1, hV1] at CP CN
  clear hF1 hF2 hV1 hV2 hF3
  generalize (⟨(writtenB e).toArray⟩ : ByteArray) = R at hP ⊢
  obtain ⟨v, c, i, s, d⟩ := e
  simp only [Ent.val] at *
  have HP := Lib.hid hP
  have HC := Lib.hid CP
  have HN := Lib.hid CN
  have hB := (Below.refl _ w).alloc (Nat.le_refl _) (.cells #[.int .i64 v, .string c, .int .i64 i, .int .i64 s, .bool d] 33)
  have hz := World.alloc_heap_new w (.cells #[.int .i64 v, .string c, .int .i64 i, .int .i64 s, .bool d] 33)
  obtain ⟨w1, hw1⟩ : ∃ w1, w.alloc (.cells #[.int .i64 v, .string c, .int .i64 i, .int .i64 s, .bool d] 33) = w1 := ⟨_, rfl⟩
  rw [hw1] at hz hB
  have HB := Lib.hid hB
  have c0 : w1.cell? ⟨w.heap.size, 0, none⟩ = some (.int .i64 v) := by rw [cell_of_row _ _ 0 _ _ _ hz]; rfl
  have c1 : w1.cell? ⟨w.heap.size, 1, none⟩ = some (.string c) := by rw [cell_of_row _ _ 1 _ _ _ hz]; rfl
  have c2 : w1.cell? ⟨w.heap.size, 2, none⟩ = some (.int .i64 i) := by rw [cell_of_row _ _ 2 _ _ _ hz]; rfl
  have c3 : w1.cell? ⟨w.heap.size, 3, none⟩ = some (.int .i64 s) := by rw [cell_of_row _ _ 3 _ _ _ hz]; rfl
  have c4 : w1.cell? ⟨w.heap.size, 4, none⟩ = some (.bool d) := by rw [cell_of_row _ _ 4 _ _ _ hz]; rfl
  have hl : w.heap.size < w1.heap.size := (Array.getElem?_eq_some_iff.1 hz).1
  have HL := Lib.hid hl
  have HW := Lib.hid hw1
  have r1 := add_run (a := F) (b := V) (by omega)
  have HK : Hid (∀ W, Below w1.heap.size w1 W → W.cell? ⟨w.heap.size, 0, none⟩ = some (.int .i64 v) ∧ W.cell? ⟨w.heap.size, 1, none⟩ = some (.string c) ∧ W.cell? ⟨w.heap.size, 2, none⟩ = some (.int .i64 i) ∧ W.cell? ⟨w.heap.size, 3, none⟩ = some (.int .i64 s) ∧ W.cell? ⟨w.heap.size, 4, none⟩ = some (.bool d)) := Lib.hid (fun W hW => ⟨(hW.cell (p := ⟨w.heap.size, 0, none⟩) hl).trans c0, (hW.cell (p := ⟨w.heap.size, 1, none⟩) hl).trans c1, (hW.cell (p := ⟨w.heap.size, 2, none⟩) hl).trans c2, (hW.cell (p := ⟨w.heap.size, 3, none⟩) hl).trans c3, (hW.cell (p := ⟨w.heap.size, 4, none⟩) hl).trans c4⟩)
  cases d with
  | false =>
    have hd : (⟨(deadB false).toArray⟩ : ByteArray) = ⟨#[0]⟩ := rfl
    rw [hd] at HP
    have r2 := add_run (a := F ++ V) (b := ⟨#[0]⟩) (by rw [ByteArray.size_append]; have : (⟨#[0]⟩ : ByteArray).size = 1 := rfl; omega)
    clear hP CP CN hw1 hz hB hl hd hvl hpl hdl hV3
    go_enter Tryd.func83, Tryd.ntmps83
    go_wp2
    rw [HW.out]
    go_region_held3 (fun W => W.cell? ⟨w.heap.size, 0, none⟩ = some (.int .i64 v) ∧ W.cell? ⟨w.heap.size, 1, none⟩ = some (.string c) ∧ W.cell? ⟨w.heap.size, 2, none⟩ = some (.int .i64 i) ∧ W.cell? ⟨w.heap.size, 3, none⟩ = some (.int .i64 s) ∧ W.cell? ⟨w.heap.size, 4, none⟩ = some (.bool false)) (first | exact ⟨c0, c1, c2, c3, c4⟩ | exact HK.out _ (below_of hc1) | exact HK.out _ ((below_of hc1).trans (hc2.mono hc1.size))) (first | (go_at_call 86; refine (HC.out _).mono ?_; rintro e w2 ⟨rfl, hc1⟩) | (go_at_call 58; refine (HN.out _).mono ?_; rintro e w3 ⟨rfl, hc2⟩))
    have HE := Lib.hid (HB.out.trans (((below_of hc1).trans (hc2.mono hc1.size)).mono HB.out.size))
    clear hc1 hc2
    go_wp2
    go_ret
    exact ⟨by rw [← HP.out]; rfl, HE.out⟩
  | true =>
    have hd : (⟨(deadB true).toArray⟩ : ByteArray) = ⟨#[1]⟩ := rfl
    rw [hd] at HP
    have r2 := add_run (a := F ++ V) (b := ⟨#[1]⟩) (by rw [ByteArray.size_append]; have : (⟨#[1]⟩ : ByteArray).size = 1 := rfl; omega)
    clear hP CP CN hw1 hz hB hl hd hvl hpl hdl hV3
    go_enter Tryd.func83, Tryd.ntmps83
    go_wp2
    rw [HW.out]
    go_region_held3 (fun W => W.cell? ⟨w.heap.size, 0, none⟩ = some (.int .i64 v) ∧ W.cell? ⟨w.heap.size, 1, none⟩ = some (.string c) ∧ W.cell? ⟨w.heap.size, 2, none⟩ = some (.int .i64 i) ∧ W.cell? ⟨w.heap.size, 3, none⟩ = some (.int .i64 s) ∧ W.cell? ⟨w.heap.size, 4, none⟩ = some (.bool true)) (first | exact ⟨c0, c1, c2, c3, c4⟩ | exact HK.out _ (below_of hc1) | exact HK.out _ ((below_of hc1).trans (hc2.mono hc1.size))) (first | (go_at_call 86; refine (HC.out _).mono ?_; rintro e w2 ⟨rfl, hc1⟩) | (go_at_call 58; refine (HN.out _).mono ?_; rintro e w3 ⟨rfl, hc2⟩))
    have HE := Lib.hid (HB.out.trans (((below_of hc1).trans (hc2.mono hc1.size)).mono HB.out.size))
    clear hc1 hc2
    go_wp2
    go_ret
    exact ⟨by rw [← HP.out]; rfl, HE.out⟩
end Go.Proofs.YtihgjihdmlomaaaDoor

namespace Go.Proofs.YtihgjihdmlomaaaDoor
open Go.RowKit
set_option linter.unusedVariables false

/-- The text of a head. -/
def headTB (h : Hd) (n : Int) : List UInt8 := vNum h.w ++ vNum h.t ++ vNum h.b ++ vNum h.lo ++ vNum h.hi ++ vNum n
theorem headTB_len (h : Hd) (n : Int) : (headTB h n).length ≤ 60 := by
  have := vNum_len h.w
  have := vNum_len h.t
  have := vNum_len h.b
  have := vNum_len h.lo
  have := vNum_len h.hi
  have := vNum_len n
  simp [headTB]
  omega

theorem cells5 {W : World} {b : Nat} {v0 v1 v2 v3 v4 : Value} {t : TypeId} {fr : Nat × Nat} (h : W.heap[b]? = some (.cells #[v0, v1, v2, v3, v4] t fr)) : W.cell? ⟨b, 0, none⟩ = some v0 ∧ W.cell? ⟨b, 1, none⟩ = some v1 ∧ W.cell? ⟨b, 2, none⟩ = some v2 ∧ W.cell? ⟨b, 3, none⟩ = some v3 ∧ W.cell? ⟨b, 4, none⟩ = some v4 :=
  ⟨by rw [cell_of_row _ _ 0 _ _ _ h]; rfl, by rw [cell_of_row _ _ 1 _ _ _ h]; rfl, by rw [cell_of_row _ _ 2 _ _ _ h]; rfl, by rw [cell_of_row _ _ 3 _ _ _ h]; rfl, by rw [cell_of_row _ _ 4 _ _ _ h]; rfl⟩

theorem cells6 {W : World} {b : Nat} {v0 v1 v2 v3 v4 v5 : Value} {t : TypeId} {fr : Nat × Nat} (h : W.heap[b]? = some (.cells #[v0, v1, v2, v3, v4, v5] t fr)) : W.cell? ⟨b, 0, none⟩ = some v0 ∧ W.cell? ⟨b, 1, none⟩ = some v1 ∧ W.cell? ⟨b, 2, none⟩ = some v2 ∧ W.cell? ⟨b, 3, none⟩ = some v3 ∧ W.cell? ⟨b, 4, none⟩ = some v4 ∧ W.cell? ⟨b, 5, none⟩ = some v5 :=
  ⟨by rw [cell_of_row _ _ 0 _ _ _ h]; rfl, by rw [cell_of_row _ _ 1 _ _ _ h]; rfl, by rw [cell_of_row _ _ 2 _ _ _ h]; rfl, by rw [cell_of_row _ _ 3 _ _ _ h]; rfl, by rw [cell_of_row _ _ 4 _ _ _ h]; rfl, by rw [cell_of_row _ _ 5 _ _ _ h]; rfl⟩


set_option maxRecDepth 100000 in
set_option maxHeartbeats 4000000 in
theorem bytes_false (v : Int) (c : ByteArray) (i s : Int) (h0 : 0 ≤ v) (h1 : v < 4294967296) (hs : c.size ≤ 140737488351232) (w : World) : Calls Tryd.prog 36 #[.agg #[.int .i64 v, .string c, .int .i64 i, .int .i64 s, .bool false]] w fun x w' => x = .returned (.string ⟨(writtenB ⟨v, c, i, s, false⟩).toArray⟩) ∧ Below w.heap.size w w' := by
  have h2 := vNum_len i
  have h3 := vNum_len s
  have h4 := fourB_len v
  obtain ⟨F, hFa, _, hFb⟩ := name_s (fourB v)
  obtain ⟨I, hIa, _, hIb⟩ := name_s (vNum i)
  obtain ⟨S, hSa, _, hSb⟩ := name_s (vNum s)
  have hD : (⟨#[0]⟩ : ByteArray).size = 1 := rfl
  have hP : (((F ++ c) ++ I) ++ S) ++ ⟨#[0]⟩ = ⟨(writtenB ⟨v, c, i, s, false⟩).toArray⟩ := by
    have hd : (⟨#[0]⟩ : ByteArray) = ⟨(deadB false).toArray⟩ := rfl
    unfold writtenB placedB
    rw [← str_app, ← str_app, ← str_app, ← str_app, hFa, hIa, hSa, hd]
  have HP := Lib.hid hP
  clear hP
  generalize (⟨(writtenB ⟨v, c, i, s, false⟩).toArray⟩ : ByteArray) = R at HP ⊢
  obtain ⟨w1, hw1⟩ : ∃ w1, w.alloc (.cells #[.int .i64 v, .string c, .int .i64 i, .int .i64 s, .bool false] 33) = w1 := ⟨_, rfl⟩
  have hz : w1.heap[w.heap.size]? = some (.cells #[.int .i64 v, .string c, .int .i64 i, .int .i64 s, .bool false] 33 (0, 0)) := by rw [← hw1]; exact World.alloc_heap_new w _
  have hB : Below w.heap.size w w1 := by rw [← hw1]; exact (Below.refl _ w).alloc (Nat.le_refl _) _
  have HB := Lib.hid hB
  have HW := Lib.hid hw1
  have HF : Hid (∀ W, Below w1.heap.size w1 W → Calls Tryd.prog 40 #[.int .i64 v] W (fun e W' => e = .returned (.string F) ∧ Below w1.heap.size w1 W')) := Lib.hid (fun W hW => by rw [← hFa]; exact (four_calls v h0 h1 W).mono (fun e W' ⟨k1, k2⟩ => ⟨k1, hW.trans (k2.mono hW.size)⟩))
  have HI : Hid (∀ W, Below w1.heap.size w1 W → Calls Tryd.prog 41 #[.int .i64 i] W (fun e W' => e = .returned (.string I) ∧ Below w1.heap.size w1 W')) := Lib.hid (fun W hW => by rw [← hIa]; exact (num6_calls i W).mono (fun e W' ⟨k1, k2⟩ => ⟨k1, hW.trans (k2.mono hW.size)⟩))
  have HS : Hid (∀ W, Below w1.heap.size w1 W → Calls Tryd.prog 41 #[.int .i64 s] W (fun e W' => e = .returned (.string S) ∧ Below w1.heap.size w1 W')) := Lib.hid (fun W hW => by rw [← hSa]; exact (num6_calls s W).mono (fun e W' ⟨k1, k2⟩ => ⟨k1, hW.trans (k2.mono hW.size)⟩))
  have HK : Hid (∀ W, Below w1.heap.size w1 W → W.cell? ⟨w.heap.size, 0, none⟩ = some (.int .i64 v) ∧ W.cell? ⟨w.heap.size, 1, none⟩ = some (.string c) ∧ W.cell? ⟨w.heap.size, 2, none⟩ = some (.int .i64 i) ∧ W.cell? ⟨w.heap.size, 3, none⟩ = some (.int .i64 s) ∧ W.cell? ⟨w.heap.size, 4, none⟩ = some (.bool false)) := Lib.hid (fun W hW => cells5 ((hW.block w.heap.size (Array.getElem?_eq_some_iff.1 hz).1).trans hz))
  obtain ⟨c0, c1, c2, c3, c4⟩ := cells5 hz
  have hb0 : Below w1.heap.size w1 w1.drew := (Below.refl _ w1).drew
  have q1 := add_run (a := F) (b := c) (by omega)
  have q2 := add_run (a := F ++ c) (b := I) (by simp only [ByteArray.size_append]; omega)
  have q3 := add_run (a := (F ++ c) ++ I) (b := S) (by simp only [ByteArray.size_append]; omega)
  have q4 := add_run (a := ((F ++ c) ++ I) ++ S) (b := ⟨#[0]⟩) (by simp only [ByteArray.size_append]; omega)
  clear hz hB hw1 hFa hIa hSa hFb hIb hSb hD h2 h3 h4
  go_enter Tryd.func36, Tryd.ntmps36
  go_wp2
  rw [HW.out]
  go_region_held3 (fun W => W.cell? ⟨w.heap.size, 0, none⟩ = some (.int .i64 v) ∧ W.cell? ⟨w.heap.size, 1, none⟩ = some (.string c) ∧ W.cell? ⟨w.heap.size, 2, none⟩ = some (.int .i64 i) ∧ W.cell? ⟨w.heap.size, 3, none⟩ = some (.int .i64 s) ∧ W.cell? ⟨w.heap.size, 4, none⟩ = some (.bool false)) (first | exact ⟨c0, c1, c2, c3, c4⟩ | exact HK.out _ (by assumption)) (first | (go_at_call 40; (with_reducible refine (HF.out _ (by assumption)).mono ?_); rintro e wq ⟨rfl, hcq⟩) | (go_at_call 41; (with_reducible refine (HI.out _ (by assumption)).mono ?_); rintro e wq ⟨rfl, hcq⟩) | (go_at_call 41; (with_reducible refine (HS.out _ (by assumption)).mono ?_); rintro e wq ⟨rfl, hcq⟩))
  have HE := Lib.hid (HB.out.trans (hcq.mono HB.out.size))
  go_wp2
  go_ret
  exact ⟨by rw [← HP.out]; rfl, HE.out⟩

set_option maxRecDepth 100000 in
set_option maxHeartbeats 4000000 in
theorem bytes_true (v : Int) (c : ByteArray) (i s : Int) (h0 : 0 ≤ v) (h1 : v < 4294967296) (hs : c.size ≤ 140737488351232) (w : World) : Calls Tryd.prog 36 #[.agg #[.int .i64 v, .string c, .int .i64 i, .int .i64 s, .bool true]] w fun x w' => x = .returned (.string ⟨(writtenB ⟨v, c, i, s, true⟩).toArray⟩) ∧ Below w.heap.size w w' := by
  have h2 := vNum_len i
  have h3 := vNum_len s
  have h4 := fourB_len v
  obtain ⟨F, hFa, _, hFb⟩ := name_s (fourB v)
  obtain ⟨I, hIa, _, hIb⟩ := name_s (vNum i)
  obtain ⟨S, hSa, _, hSb⟩ := name_s (vNum s)
  have hD : (⟨#[1]⟩ : ByteArray).size = 1 := rfl
  have hP : (((F ++ c) ++ I) ++ S) ++ ⟨#[1]⟩ = ⟨(writtenB ⟨v, c, i, s, true⟩).toArray⟩ := by
    have hd : (⟨#[1]⟩ : ByteArray) = ⟨(deadB true).toArray⟩ := rfl
    unfold writtenB placedB
    rw [← str_app, ← str_app, ← str_app, ← str_app, hFa, hIa, hSa, hd]
  have HP := Lib.hid hP
  clear hP
  generalize (⟨(writtenB ⟨v, c, i, s, true⟩).toArray⟩ : ByteArray) = R at HP ⊢
  obtain ⟨w1, hw1⟩ : ∃ w1, w.alloc (.cells #[.int .i64 v, .string c, .int .i64 i, .int .i64 s, .bool true] 33) = w1 := ⟨_, rfl⟩
  have hz : w1.heap[w.heap.size]? = some (.cells #[.int .i64 v, .string c, .int .i64 i, .int .i64 s, .bool true] 33 (0, 0)) := by rw [← hw1]; exact World.alloc_heap_new w _
  have hB : Below w.heap.size w w1 := by rw [← hw1]; exact (Below.refl _ w).alloc (Nat.le_refl _) _
  have HB := Lib.hid hB
  have HW := Lib.hid hw1
  have HF : Hid (∀ W, Below w1.heap.size w1 W → Calls Tryd.prog 40 #[.int .i64 v] W (fun e W' => e = .returned (.string F) ∧ Below w1.heap.size w1 W')) := Lib.hid (fun W hW => by rw [← hFa]; exact (four_calls v h0 h1 W).mono (fun e W' ⟨k1, k2⟩ => ⟨k1, hW.trans (k2.mono hW.size)⟩))
  have HI : Hid (∀ W, Below w1.heap.size w1 W → Calls Tryd.prog 41 #[.int .i64 i] W (fun e W' => e = .returned (.string I) ∧ Below w1.heap.size w1 W')) := Lib.hid (fun W hW => by rw [← hIa]; exact (num6_calls i W).mono (fun e W' ⟨k1, k2⟩ => ⟨k1, hW.trans (k2.mono hW.size)⟩))
  have HS : Hid (∀ W, Below w1.heap.size w1 W → Calls Tryd.prog 41 #[.int .i64 s] W (fun e W' => e = .returned (.string S) ∧ Below w1.heap.size w1 W')) := Lib.hid (fun W hW => by rw [← hSa]; exact (num6_calls s W).mono (fun e W' ⟨k1, k2⟩ => ⟨k1, hW.trans (k2.mono hW.size)⟩))
  have HK : Hid (∀ W, Below w1.heap.size w1 W → W.cell? ⟨w.heap.size, 0, none⟩ = some (.int .i64 v) ∧ W.cell? ⟨w.heap.size, 1, none⟩ = some (.string c) ∧ W.cell? ⟨w.heap.size, 2, none⟩ = some (.int .i64 i) ∧ W.cell? ⟨w.heap.size, 3, none⟩ = some (.int .i64 s) ∧ W.cell? ⟨w.heap.size, 4, none⟩ = some (.bool true)) := Lib.hid (fun W hW => cells5 ((hW.block w.heap.size (Array.getElem?_eq_some_iff.1 hz).1).trans hz))
  obtain ⟨c0, c1, c2, c3, c4⟩ := cells5 hz
  have hb0 : Below w1.heap.size w1 w1.drew := (Below.refl _ w1).drew
  have q1 := add_run (a := F) (b := c) (by omega)
  have q2 := add_run (a := F ++ c) (b := I) (by simp only [ByteArray.size_append]; omega)
  have q3 := add_run (a := (F ++ c) ++ I) (b := S) (by simp only [ByteArray.size_append]; omega)
  have q4 := add_run (a := ((F ++ c) ++ I) ++ S) (b := ⟨#[1]⟩) (by simp only [ByteArray.size_append]; omega)
  clear hz hB hw1 hFa hIa hSa hFb hIb hSb hD h2 h3 h4
  go_enter Tryd.func36, Tryd.ntmps36
  go_wp2
  rw [HW.out]
  go_region_held3 (fun W => W.cell? ⟨w.heap.size, 0, none⟩ = some (.int .i64 v) ∧ W.cell? ⟨w.heap.size, 1, none⟩ = some (.string c) ∧ W.cell? ⟨w.heap.size, 2, none⟩ = some (.int .i64 i) ∧ W.cell? ⟨w.heap.size, 3, none⟩ = some (.int .i64 s) ∧ W.cell? ⟨w.heap.size, 4, none⟩ = some (.bool true)) (first | exact ⟨c0, c1, c2, c3, c4⟩ | exact HK.out _ (by assumption)) (first | (go_at_call 40; (with_reducible refine (HF.out _ (by assumption)).mono ?_); rintro e wq ⟨rfl, hcq⟩) | (go_at_call 41; (with_reducible refine (HI.out _ (by assumption)).mono ?_); rintro e wq ⟨rfl, hcq⟩) | (go_at_call 41; (with_reducible refine (HS.out _ (by assumption)).mono ?_); rintro e wq ⟨rfl, hcq⟩))
  have HE := Lib.hid (HB.out.trans (hcq.mono HB.out.size))
  go_wp2
  go_ret
  exact ⟨by rw [← HP.out]; rfl, HE.out⟩

set_option maxRecDepth 100000 in
set_option maxHeartbeats 4000000 in
theorem headText_calls (h : Hd) (n : Int) (w : World) : Calls Tryd.prog 38 #[h.val, .int .i64 n] w fun x w' => x = .returned (.string ⟨(headTB h n).toArray⟩) ∧ Below w.heap.size w w' := by
  obtain ⟨a, t, b, lo, hi, u⟩ := h
  have l0 := vNum_len a
  have l1 := vNum_len t
  have l2 := vNum_len b
  have l3 := vNum_len lo
  have l4 := vNum_len hi
  have l5 := vNum_len n
  obtain ⟨A, hAa, _, hAb⟩ := name_s (vNum a)
  obtain ⟨T, hTa, _, hTb⟩ := name_s (vNum t)
  obtain ⟨Bb, hBba, _, hBbb⟩ := name_s (vNum b)
  obtain ⟨L, hLa, _, hLb⟩ := name_s (vNum lo)
  obtain ⟨H, hHa, _, hHb⟩ := name_s (vNum hi)
  obtain ⟨N, hNa, _, hNb⟩ := name_s (vNum n)
  have hP : ((((A ++ T) ++ Bb) ++ L) ++ H) ++ N = ⟨(headTB ⟨a, t, b, lo, hi, u⟩ n).toArray⟩ := by
    unfold headTB
    rw [← str_app, ← str_app, ← str_app, ← str_app, ← str_app, hAa, hTa, hBba, hLa, hHa, hNa]
  have HP := Lib.hid hP
  clear hP
  generalize (⟨(headTB ⟨a, t, b, lo, hi, u⟩ n).toArray⟩ : ByteArray) = R at HP ⊢
  simp only [Hd.val]
  obtain ⟨w1, hw1⟩ : ∃ w1, w.alloc (.cells #[.int .i64 a, .int .i64 t, .int .i64 b, .int .i64 lo, .int .i64 hi, .int .i64 u] 23) = w1 := ⟨_, rfl⟩
  have hz : w1.heap[w.heap.size]? = some (.cells #[.int .i64 a, .int .i64 t, .int .i64 b, .int .i64 lo, .int .i64 hi, .int .i64 u] 23 (0, 0)) := by rw [← hw1]; exact World.alloc_heap_new w _
  have hB : Below w.heap.size w w1 := by rw [← hw1]; exact (Below.refl _ w).alloc (Nat.le_refl _) _
  have HB := Lib.hid hB
  have HW := Lib.hid hw1
  have HnA : Hid (∀ W, Below w1.heap.size w1 W → Calls Tryd.prog 41 #[.int .i64 a] W (fun e W' => e = .returned (.string A) ∧ Below w1.heap.size w1 W')) := Lib.hid (fun W hW => by rw [← hAa]; exact (num6_calls a W).mono (fun e W' ⟨k1, k2⟩ => ⟨k1, hW.trans (k2.mono hW.size)⟩))
  have HnT : Hid (∀ W, Below w1.heap.size w1 W → Calls Tryd.prog 41 #[.int .i64 t] W (fun e W' => e = .returned (.string T) ∧ Below w1.heap.size w1 W')) := Lib.hid (fun W hW => by rw [← hTa]; exact (num6_calls t W).mono (fun e W' ⟨k1, k2⟩ => ⟨k1, hW.trans (k2.mono hW.size)⟩))
  have HnBb : Hid (∀ W, Below w1.heap.size w1 W → Calls Tryd.prog 41 #[.int .i64 b] W (fun e W' => e = .returned (.string Bb) ∧ Below w1.heap.size w1 W')) := Lib.hid (fun W hW => by rw [← hBba]; exact (num6_calls b W).mono (fun e W' ⟨k1, k2⟩ => ⟨k1, hW.trans (k2.mono hW.size)⟩))
  have HnL : Hid (∀ W, Below w1.heap.size w1 W → Calls Tryd.prog 41 #[.int .i64 lo] W (fun e W' => e = .returned (.string L) ∧ Below w1.heap.size w1 W')) := Lib.hid (fun W hW => by rw [← hLa]; exact (num6_calls lo W).mono (fun e W' ⟨k1, k2⟩ => ⟨k1, hW.trans (k2.mono hW.size)⟩))
  have HnH : Hid (∀ W, Below w1.heap.size w1 W → Calls Tryd.prog 41 #[.int .i64 hi] W (fun e W' => e = .returned (.string H) ∧ Below w1.heap.size w1 W')) := Lib.hid (fun W hW => by rw [← hHa]; exact (num6_calls hi W).mono (fun e W' ⟨k1, k2⟩ => ⟨k1, hW.trans (k2.mono hW.size)⟩))
  have HnN : Hid (∀ W, Below w1.heap.size w1 W → Calls Tryd.prog 41 #[.int .i64 n] W (fun e W' => e = .returned (.string N) ∧ Below w1.heap.size w1 W')) := Lib.hid (fun W hW => by rw [← hNa]; exact (num6_calls n W).mono (fun e W' ⟨k1, k2⟩ => ⟨k1, hW.trans (k2.mono hW.size)⟩))
  have HK : Hid (∀ W, Below w1.heap.size w1 W → W.cell? ⟨w.heap.size, 0, none⟩ = some (.int .i64 a) ∧ W.cell? ⟨w.heap.size, 1, none⟩ = some (.int .i64 t) ∧ W.cell? ⟨w.heap.size, 2, none⟩ = some (.int .i64 b) ∧ W.cell? ⟨w.heap.size, 3, none⟩ = some (.int .i64 lo) ∧ W.cell? ⟨w.heap.size, 4, none⟩ = some (.int .i64 hi) ∧ W.cell? ⟨w.heap.size, 5, none⟩ = some (.int .i64 u)) := Lib.hid (fun W hW => cells6 ((hW.block w.heap.size (Array.getElem?_eq_some_iff.1 hz).1).trans hz))
  obtain ⟨c0, c1, c2, c3, c4, c5⟩ := cells6 hz
  have hb0 : Below w1.heap.size w1 w1.drew := (Below.refl _ w1).drew
  have q1 := add_run (a := A) (b := T) (by (try simp only [ByteArray.size_append]); omega)
  have q2 := add_run (a := (A) ++ T) (b := Bb) (by (try simp only [ByteArray.size_append]); omega)
  have q3 := add_run (a := ((A) ++ T) ++ Bb) (b := L) (by (try simp only [ByteArray.size_append]); omega)
  have q4 := add_run (a := (((A) ++ T) ++ Bb) ++ L) (b := H) (by (try simp only [ByteArray.size_append]); omega)
  have q5 := add_run (a := ((((A) ++ T) ++ Bb) ++ L) ++ H) (b := N) (by (try simp only [ByteArray.size_append]); omega)
  clear hz hB hw1 hAa hAb hTa hTb hBba hBbb hLa hLb hHa hHb hNa hNb l0 l1 l2 l3 l4 l5
  go_enter Tryd.func38, Tryd.ntmps38
  go_wp2
  rw [HW.out]
  go_region_held3 (fun W => W.cell? ⟨w.heap.size, 0, none⟩ = some (.int .i64 a) ∧ W.cell? ⟨w.heap.size, 1, none⟩ = some (.int .i64 t) ∧ W.cell? ⟨w.heap.size, 2, none⟩ = some (.int .i64 b) ∧ W.cell? ⟨w.heap.size, 3, none⟩ = some (.int .i64 lo) ∧ W.cell? ⟨w.heap.size, 4, none⟩ = some (.int .i64 hi) ∧ W.cell? ⟨w.heap.size, 5, none⟩ = some (.int .i64 u)) (first | exact ⟨c0, c1, c2, c3, c4, c5⟩ | exact HK.out _ (by assumption)) (first | (go_at_call 41; (with_reducible refine (HnA.out _ (by assumption)).mono ?_); rintro e wq ⟨rfl, hcq⟩) | (go_at_call 41; (with_reducible refine (HnT.out _ (by assumption)).mono ?_); rintro e wq ⟨rfl, hcq⟩) | (go_at_call 41; (with_reducible refine (HnBb.out _ (by assumption)).mono ?_); rintro e wq ⟨rfl, hcq⟩) | (go_at_call 41; (with_reducible refine (HnL.out _ (by assumption)).mono ?_); rintro e wq ⟨rfl, hcq⟩) | (go_at_call 41; (with_reducible refine (HnH.out _ (by assumption)).mono ?_); rintro e wq ⟨rfl, hcq⟩) | (go_at_call 41; (with_reducible refine (HnN.out _ (by assumption)).mono ?_); rintro e wq ⟨rfl, hcq⟩))
  have HE := Lib.hid (HB.out.trans (hcq.mono HB.out.size))
  go_wp2
  go_ret
  exact ⟨by rw [← HP.out]; rfl, HE.out⟩

theorem frameR_ok {k : Nat} {p : List UInt8} (h1 : 1 ≤ k) (h2 : k ≤ 255) (h3 : p.length ≤ 65536) : frameR k p = (frameB k p, 0) := by
  unfold frameR
  rw [if_neg (by omega), if_neg (by omega)]
  simp

set_option maxRecDepth 100000 in
set_option maxHeartbeats 1000000 in
theorem framed_calls (k : Nat) (h1 : 1 ≤ k) (h2 : k ≤ 255) (p : ByteArray) (h3 : p.size ≤ 65536) (w : World) : Calls Tryd.prog 37 #[.int .i64 k, .string p] w fun x w' => x = .returned (.string ⟨(frameB k p.data.toList).toArray⟩) ∧ Below w.heap.size w w' := by
  have C := RefFrame_calls k p (by omega) w
  rw [frameR_ok h1 h2 (by exact h3)] at C
  generalize (⟨(frameB k p.data.toList).toArray⟩ : ByteArray) = R at C ⊢
  go_enter Tryd.func37, Tryd.ntmps37
  go_wp2_with fail
  refine C.mono ?_
  rintro e w1 ⟨rfl, hb⟩
  have HB := Lib.hid hb
  clear hb
  go_wp2
  go_ret
  exact ⟨rfl, HB.out⟩

theorem bytes_calls (e : Ent) (h0 : 0 ≤ e.v) (h1 : e.v < 4294967296) (hs : e.c.size ≤ 140737488351232) (w : World) : Calls Tryd.prog 36 #[e.val] w fun x w' => x = .returned (.string ⟨(writtenB e).toArray⟩) ∧ Below w.heap.size w w' := by
  obtain ⟨v, c, i, s, d⟩ := e
  cases d with
  | false => exact bytes_false v c i s h0 h1 hs w
  | true => exact bytes_true v c i s h0 h1 hs w
end Go.Proofs.YtihgjihdmlomaaaDoor

namespace Go.Proofs.YtihgjihdmlomaaaDoor
open Go.RowKit
set_option linter.unusedVariables false

/-- Items in groups: each goes to the last one while there is room. -/
def grpGo {α : Type} (sz : α → Nat) : List α → List α → Nat → List (List α)
  | [], cur, _ => if cur.isEmpty then [] else [cur]
  | x :: l, cur, u => if 4096 < u + sz x then cur :: grpGo sz l [x] (sz x) else grpGo sz l (cur ++ [x]) (u + sz x)

def grp {α : Type} (sz : α → Nat) (l : List α) : List (List α) := grpGo sz l [] 0

def sumSz {α : Type} (sz : α → Nat) (l : List α) : Nat := (l.map sz).sum
theorem sumSz_append {α : Type} (sz : α → Nat) (a b : List α) : sumSz sz (a ++ b) = sumSz sz a + sumSz sz b := by simp [sumSz]

theorem grpGo_flat {α : Type} (sz : α → Nat) : ∀ (l cur : List α) (u : Nat), (grpGo sz l cur u).flatten = cur ++ l
  | [], cur, u => by
    unfold grpGo
    cases cur <;> simp
  | x :: l, cur, u => by
    unfold grpGo
    split
    · rw [List.flatten_cons, grpGo_flat sz l]; simp
    · rw [grpGo_flat sz l]; simp

theorem grp_flat {α : Type} (sz : α → Nat) (l : List α) : (grp sz l).flatten = l := grpGo_flat sz l [] 0

theorem grpGo_ok {α : Type} (sz : α → Nat) : ∀ (l cur : List α) (u : Nat), (∀ x ∈ l, 0 < sz x ∧ sz x ≤ 4096) → u = sumSz sz cur → u ≤ 4096 → ∀ g ∈ grpGo sz l cur u, g ≠ [] ∧ sumSz sz g ≤ 4096
  | [], cur, u, hl, hu, h4, g, hg => by
    unfold grpGo at hg
    split at hg
    · cases hg
    · next hc =>
      simp at hg hc
      subst hg
      exact ⟨hc, by omega⟩
  | x :: l, cur, u, hl, hu, h4, g, hg => by
    unfold grpGo at hg
    have hx := hl x (by simp)
    have hl' : ∀ y ∈ l, 0 < sz y ∧ sz y ≤ 4096 := fun y hy => hl y (by simp [hy])
    split at hg
    · next hlt =>
      rcases List.mem_cons.1 hg with rfl | hg
      · refine ⟨fun e => ?_, by omega⟩
        subst e
        simp [sumSz] at hu
        omega
      · exact grpGo_ok sz l [x] (sz x) hl' (by simp [sumSz]) hx.2 g hg
    · exact grpGo_ok sz l (cur ++ [x]) (u + sz x) hl' (by rw [sumSz_append, ← hu]; simp [sumSz]) (by omega) g hg

theorem grp_ok {α : Type} {sz : α → Nat} {l : List α} (h : ∀ x ∈ l, 0 < sz x ∧ sz x ≤ 4096) : ∀ g ∈ grp sz l, g ≠ [] ∧ sumSz sz g ≤ 4096 := grpGo_ok sz l [] 0 h rfl (Nat.zero_le _)

/-- Groups by sizes alone. -/
theorem grpGo_map {α β : Type} (f : α → β) (sz : β → Nat) : ∀ (l cur : List α) (u : Nat), grpGo sz (l.map f) (cur.map f) u = (grpGo (fun x => sz (f x)) l cur u).map (List.map f)
  | [], cur, u => by
    unfold grpGo
    cases cur <;> simp
  | x :: l, cur, u => by
    rw [List.map_cons, grpGo, grpGo]
    split
    · have := grpGo_map f sz l [x] (sz (f x))
      simp only [List.map_cons, List.map_nil] at this
      rw [this, List.map_cons]
    · have := grpGo_map f sz l (cur ++ [x]) (u + sz (f x))
      simp only [List.map_append, List.map_cons, List.map_nil] at this
      rw [this]

theorem grp_map {α β : Type} (f : α → β) (sz : β → Nat) (l : List α) : grp sz (l.map f) = (grp (fun x => sz (f x)) l).map (List.map f) := grpGo_map f sz l [] 0

/-- What the index says of a block. -/
structure Ln where
  first : Ent
  count : Nat
  pos : Nat

/-- A file that is being written: its bytes, its index, the sum of its blocks. -/
structure BSt where
  l : List UInt8
  lines : List Ln
  sum : Nat

def zE : Ent := ⟨0, ⟨#[]⟩, 0, 0, false⟩
def payB (g : List Ent) : List UInt8 := g.flatMap writtenB
def putBlock (st : BSt) (g : List Ent) : BSt := ⟨st.l ++ frameB 5 (payB g), st.lines ++ [⟨g.headD zE, g.length, st.l.length⟩], Crc.on st.sum (payB g)⟩
def szE (e : Ent) : Nat := (writtenB e).length
def groups (list : List Ent) : List (List Ent) := grp szE list
def headSt (h : Hd) (list : List Ent) : BSt := ⟨frameB 4 (headTB h list.length), [], 0⟩
def blocksSt (h : Hd) (list : List Ent) : BSt := (groups list).foldl putBlock (headSt h list)
def lineB (x : Ln) : List UInt8 := placedB x.first ++ vNum x.count ++ vNum x.pos
def szL (x : Ln) : Nat := (lineB x).length
def rowsB (lines : List Ln) : List UInt8 := (grp szL lines).flatMap (fun r => frameB 6 (r.flatMap lineB))
def footB (st : BSt) : List UInt8 := vNum st.lines.length ++ vNum st.l.length ++ fourB st.sum
def fileB (h : Hd) (list : List Ent) : List UInt8 := (blocksSt h list).l ++ rowsB (blocksSt h list).lines ++ frameB 7 (footB (blocksSt h list))
def linesB (h : Hd) (list : List Ent) : List Ln := (blocksSt h list).lines

/-- Entries as they may stand in a file. -/
def Good (e : Ent) : Prop := 0 ≤ e.v ∧ e.v < 4294967296 ∧ e.c.size ≤ 128

theorem writtenB_len {e : Ent} (h : Good e) : 0 < (writtenB e).length ∧ (writtenB e).length ≤ 153 := by
  have h1 := vNum_len e.i
  have h2 := vNum_len e.s
  have h3 := fourB_len e.v
  have h4 := deadB_len e.d
  have h5 : e.c.data.toList.length = e.c.size := rfl
  have h6 := h.2.2
  simp only [writtenB, placedB, List.length_append]
  omega

theorem lineB_len {x : Ln} (h : Good x.first) : 0 < (lineB x).length ∧ (lineB x).length ≤ 162 := by
  have h1 := vNum_len x.first.i
  have h2 := vNum_len (x.count : Int)
  have h2' := vNum_len (x.pos : Int)
  have h3 := fourB_len x.first.v
  have h5 : x.first.c.data.toList.length = x.first.c.size := rfl
  have h6 := h.2.2
  simp only [lineB, placedB, List.length_append]
  omega

theorem szE_ok {list : List Ent} (h : ∀ e ∈ list, Good e) : ∀ e ∈ list, 0 < szE e ∧ szE e ≤ 4096 := fun e he => by
  have := writtenB_len (h e he)
  unfold szE
  omega

theorem payB_len (g : List Ent) : (payB g).length = sumSz szE g := by
  unfold payB sumSz szE
  induction g with
  | nil => rfl
  | cons x g ih => simp [ih]

theorem group_good {list g : List Ent} (h : ∀ e ∈ list, Good e) (hg : g ∈ groups list) : g ≠ [] ∧ (payB g).length ≤ 4096 ∧ ∀ e ∈ g, Good e := by
  obtain ⟨h1, h2⟩ := grp_ok (szE_ok h) g hg
  refine ⟨h1, by rw [payB_len]; exact h2, fun e he => h e ?_⟩
  rw [← grp_flat szE list]
  exact List.mem_flatten.2 ⟨g, hg, he⟩

theorem headD_good {g : List Ent} (h1 : g ≠ []) (h : ∀ e ∈ g, Good e) : Good (g.headD zE) := by
  cases g with
  | nil => exact absurd rfl h1
  | cons x g => exact h x (by simp)

/-- What is so of a file while it is written. -/
structure StOk (st : BSt) : Prop where
  good : ∀ x ∈ st.lines, Good x.first
  sum : st.sum < 4294967296

theorem putBlock_ok {st : BSt} {g : List Ent} (h : StOk st) (h1 : g ≠ []) (h2 : ∀ e ∈ g, Good e) : StOk (putBlock st g) := by
  refine ⟨fun x hx => ?_, Crc.on_lt _ _ h.sum⟩
  unfold putBlock at hx
  rcases List.mem_append.1 hx with hx | hx
  · exact h.good x hx
  · rw [List.mem_singleton] at hx
    subst hx
    exact headD_good h1 h2

theorem foldl_ok : ∀ (gs : List (List Ent)) (st : BSt), StOk st → (∀ g ∈ gs, g ≠ [] ∧ ∀ e ∈ g, Good e) → StOk (gs.foldl putBlock st) ∧ (gs.foldl putBlock st).lines.length = st.lines.length + gs.length
  | [], st, h, _ => ⟨h, rfl⟩
  | g :: gs, st, h, hg => by
    obtain ⟨h1, h2⟩ := hg g (by simp)
    obtain ⟨k1, k2⟩ := foldl_ok gs (putBlock st g) (putBlock_ok h h1 h2) (fun x hx => hg x (by simp [hx]))
    refine ⟨k1, ?_⟩
    rw [List.foldl_cons, k2]
    simp [putBlock]
    omega

theorem foldl_len : ∀ (gs : List (List Ent)) (st : BSt), (gs.foldl putBlock st).l.length = st.l.length + gs.length * 14 + sumSz szE gs.flatten
  | [], st => by simp [sumSz]
  | g :: gs, st => by
    rw [List.foldl_cons, foldl_len gs]
    simp only [putBlock, List.length_append, frameB_length, payB_len, List.flatten_cons, sumSz_append, List.length_cons]
    omega

theorem sumSz_le {α : Type} {sz : α → Nat} {m : Nat} : ∀ (l : List α), (∀ x ∈ l, sz x ≤ m) → sumSz sz l ≤ l.length * m
  | [], _ => by simp [sumSz]
  | x :: l, h => by
    have h1 := h x (by simp)
    have h2 := sumSz_le l (fun y hy => h y (by simp [hy]))
    have e : sumSz sz (x :: l) = sz x + sumSz sz l := by simp [sumSz]
    rw [e, List.length_cons, Nat.add_mul]
    omega

theorem flat_count {α : Type} : ∀ (gs : List (List α)), (∀ g ∈ gs, g ≠ []) → gs.length ≤ gs.flatten.length
  | [], _ => by simp
  | g :: gs, h => by
    have h1 := List.length_pos_iff.2 (h g (by simp))
    have h2 := flat_count gs (fun x hx => h x (by simp [hx]))
    rw [List.flatten_cons, List.length_append, List.length_cons]
    omega

theorem groups_le {list : List Ent} (h : ∀ e ∈ list, Good e) : (groups list).length ≤ list.length := by
  have := flat_count (groups list) (fun g hg => (group_good h hg).1)
  unfold groups at this
  rw [grp_flat] at this
  exact this

theorem headSt_ok (h : Hd) (list : List Ent) : StOk (headSt h list) := ⟨fun x hx => by simp [headSt] at hx, by simp [headSt]⟩

theorem blocksSt_ok (h : Hd) {list : List Ent} (hg : ∀ e ∈ list, Good e) : StOk (blocksSt h list) ∧ (blocksSt h list).lines.length = (groups list).length ∧ (blocksSt h list).l.length ≤ 74 + list.length * 167 := by
  obtain ⟨h1, h2⟩ := foldl_ok (groups list) (headSt h list) (headSt_ok h list) (fun g hg' => ⟨(group_good hg hg').1, (group_good hg hg').2.2⟩)
  refine ⟨h1, by unfold blocksSt; rw [h2]; simp [headSt], ?_⟩
  unfold blocksSt
  rw [foldl_len]
  have h3 := groups_le hg
  have h4 : sumSz szE (groups list).flatten ≤ list.length * 153 := by
    unfold groups
    rw [grp_flat]
    exact sumSz_le list (fun e he => (writtenB_len (hg e he)).2)
  have h5 := headTB_len h list.length
  have h6 : (headSt h list).l.length ≤ 74 := by simp only [headSt, frameB_length]; omega
  omega

theorem rowsB_len {lines : List Ln} (h : ∀ x ∈ lines, Good x.first) : (rowsB lines).length ≤ lines.length * 176 := by
  have hs : ∀ x ∈ lines, 0 < szL x ∧ szL x ≤ 4096 := fun x hx => by have := lineB_len (h x hx); unfold szL; omega
  have key : ∀ gs : List (List Ln), (gs.flatMap (fun r => frameB 6 (r.flatMap lineB))).length = gs.length * 14 + sumSz szL gs.flatten := by
    intro gs
    induction gs with
    | nil => rfl
    | cons g gs ih =>
      have hp : (g.flatMap lineB).length = sumSz szL g := by
        unfold sumSz szL
        induction g with
        | nil => rfl
        | cons x g ih => simp [ih]
      simp only [List.flatMap_cons, List.length_append, frameB_length, ih, hp, List.flatten_cons, sumSz_append, List.length_cons]
      omega
  unfold rowsB
  rw [key, grp_flat]
  have h1 := flat_count (grp szL lines) (fun g hg => (grp_ok hs g hg).1)
  rw [grp_flat] at h1
  have h2 : sumSz szL lines ≤ lines.length * 162 := sumSz_le lines (fun x hx => (lineB_len (h x hx)).2)
  omega

theorem footB_len {st : BSt} : (footB st).length ≤ 24 := by
  have h1 := vNum_len (st.lines.length : Int)
  have h2 := vNum_len (st.l.length : Int)
  have h3 := fourB_len (st.sum : Int)
  simp only [footB, List.length_append]
  omega

theorem fileB_len (h : Hd) {list : List Ent} (hg : ∀ e ∈ list, Good e) : (fileB h list).length ≤ 112 + list.length * 343 := by
  obtain ⟨h1, h2, h3⟩ := blocksSt_ok h hg
  have h4 := rowsB_len h1.good
  have h5 := footB_len (st := blocksSt h list)
  have h6 := groups_le hg
  simp only [fileB, List.length_append, frameB_length]
  omega
end Go.Proofs.YtihgjihdmlomaaaDoor

namespace Go.Proofs.YtihgjihdmlomaaaDoor
open Go.RowKit
set_option linter.unusedVariables false

def Ln.cells (x : Ln) : List Value := x.first.cells ++ [.int .i64 x.count, .int .i64 x.pos]
def encL (ls : List Ln) : List Value := ls.flatMap Ln.cells
theorem encL_snoc (ls : List Ln) (x : Ln) : encL (ls ++ [x]) = encL ls ++ x.cells := by unfold encL; rw [List.flatMap_append]; simp
theorem ln_cells_length (x : Ln) : x.cells.length = 7 := rfl
theorem encL_length : ∀ (ls : List Ln), (encL ls).length = ls.length * 7
  | [] => rfl
  | x :: ls => by
    have := encL_length ls
    unfold encL at *
    rw [List.flatMap_cons, List.length_append, this, ln_cells_length, List.length_cons]
    omega
theorem encL_get : ∀ (ls : List Ln) (i : Nat) (x : Ln), ls[i]? = some x → ∀ k, k < 7 → (encL ls)[i * 7 + k]? = x.cells[k]?
  | [], i, x, h, k, hk => by simp at h
  | y :: ls, 0, x, h, k, hk => by
    simp at h
    subst h
    unfold encL
    rw [List.flatMap_cons, Nat.zero_mul, Nat.zero_add, List.getElem?_append_left (by rw [ln_cells_length]; exact hk)]
  | y :: ls, i + 1, x, h, k, hk => by
    have := encL_get ls i x (by simpa using h) k hk
    unfold encL at *
    rw [List.flatMap_cons, List.getElem?_append_right (by rw [ln_cells_length]; omega), ln_cells_length, show (i + 1) * 7 + k - 7 = i * 7 + k by omega]
    exact this

theorem own_neB {w : World} {B : Nat} {e : TypeId} {size : Nat} {v : Value} {m q : Nat} {xs : List Value} {cs : Array Value} {T : TypeId} {fr : Nat × Nat} (h : w.ownsRow B e size v m xs) (hq : w.heap[q]? = some (.cells cs T fr)) (hT : T ≠ e) : v.ownBlock ≠ some q := by
  rcases h.2 with ⟨rfl, _⟩ | ⟨g, c, cur, rfl, hbg, hg, rest⟩
  · simp [Value.ownBlock]
  · intro e2
    simp [Value.ownBlock] at e2
    subst e2
    rw [hq] at hg
    simp at hg
    exact hT hg.2.1

theorem own_keepB {w w' : World} {B : Nat} {e : TypeId} {size : Nat} {v : Value} {m : Nat} {xs : List Value} (h : w.ownsRow B e size v m xs) (hk : ∀ g, v.ownBlock = some g → g < w.heap.size → w'.heap[g]? = w.heap[g]?) : w'.ownsRow B e size v m xs := by
  refine ⟨h.1, ?_⟩
  rcases h.2 with hn | ⟨g, c, cur, rfl, hbg, hg, rest⟩
  · exact .inl hn
  · exact .inr ⟨g, c, cur, rfl, hbg, (hk g rfl (Array.getElem?_eq_some_iff.1 hg).1).trans hg, rest⟩

/-- Blocks of other types than bytes, but r, are as they were. -/
def Oth (w w' : World) (r : Nat) : Prop := ∀ k cs T fr, k ≠ r → T ≠ 5 → w.heap[k]? = some (.cells cs T fr) → w'.heap[k]? = w.heap[k]?
theorem Oth.refl (w : World) (r : Nat) : Oth w w r := fun _ _ _ _ _ _ _ => rfl
theorem Oth.trans {a b c : World} {r : Nat} (h1 : Oth a b r) (h2 : Oth b c r) : Oth a c r := fun k cs T fr hk hT e => (h2 k cs T fr hk hT ((h1 k cs T fr hk hT e).trans e)).trans (h1 k cs T fr hk hT e)
theorem Oth.below {w w' : World} (r : Nat) (h : Below w.heap.size w w') : Oth w w' r := fun k cs T fr hk hT e => h.block k (Array.getElem?_eq_some_iff.1 e).1
theorem Oth.drew (w : World) (r : Nat) : Oth w w.drew r := fun _ _ _ _ _ _ _ => rfl
theorem Oth.setCell (w : World) (r j : Nat) (v : Value) : Oth w (w.setCell ⟨r, j, none⟩ v) r := fun k cs T fr hk hT e => Below.heap_setCell _ _ _ _ hk
theorem Oth.grown {w w' : World} {r : Nat} {B n : Nat} {v : Value} {xs : List Value} (h : w.grownBy w' v.ownBlock) (hown : w.ownsRow B 5 1 v n xs) : Oth w w' r := by
  intro k cs T fr hk hT e
  refine h.block k (Array.getElem?_eq_some_iff.1 e).1 ?_
  rcases hown.2 with ⟨rfl, _⟩ | ⟨g, c, cur, rfl, hbg, hg, rest⟩
  · simp [Value.ownBlock]
  · intro e2
    simp [Value.ownBlock] at e2
    subst e2
    rw [e] at hg
    simp at hg
    exact hT hg.2.1

theorem Oth.own {w w' : World} {r B n size : Nat} {e : TypeId} {v : Value} {xs : List Value} (h : Oth w w' r) (ho : w.ownsRow B e size v n xs) (he : e ≠ 5) (hr : v.ownBlock ≠ some r) : w'.ownsRow B e size v n xs := by
  refine ⟨ho.1, ?_⟩
  rcases ho.2 with hn | ⟨g, c, cur, rfl, hbg, hg, rest⟩
  · exact .inl hn
  · exact .inr ⟨g, c, cur, rfl, hbg, (h g cur e _ (fun e => hr (by rw [e]; rfl)) he hg).trans hg, rest⟩

/-- A builder's block. -/
def bdB (p v lv : Value) (s : Nat) : Obj := .cells #[p, v, lv, .int .u32 s] 107 (0, 0)

/-- A builder in memory, of its text's own address p. -/
def Bp (w : World) (B r : Nat) (p : Value) (st : BSt) : Prop :=
  B ≤ r ∧ ∃ v lv, w.heap[r]? = some (bdB p v lv st.sum) ∧ w.ownsRow B 5 1 v st.l.length (Lib.byteCells st.l) ∧ w.ownsRow B 134 7 lv st.lines.length (encL st.lines)
def Bd (w : World) (B r : Nat) (st : BSt) : Prop := Bp w B r (.pointer none) st ∨ Bp w B r (.pointer (some ⟨r, 0, none⟩)) st

theorem Bd.ex {w : World} {B r : Nat} {st : BSt} (h : Bd w B r st) : ∃ p, Bp w B r p st := by
  rcases h with h | h
  · exact ⟨_, h⟩
  · exact ⟨_, h⟩
theorem Bp.bd {w : World} {B r : Nat} {st : BSt} (h : Bp w B r (.pointer (some ⟨r, 0, none⟩)) st) : Bd w B r st := .inr h
theorem Bp.lt {w : World} {B r : Nat} {p : Value} {st : BSt} (h : Bp w B r p st) : r < w.heap.size := by
  obtain ⟨_, v, lv, hb, _⟩ := h
  exact (Array.getElem?_eq_some_iff.1 hb).1
theorem Bd.lt {w : World} {B r : Nat} {st : BSt} (h : Bd w B r st) : r < w.heap.size := by
  obtain ⟨p, h⟩ := h.ex
  exact h.lt
theorem Bd.le {w : World} {B r : Nat} {st : BSt} (h : Bd w B r st) : B ≤ r := by
  obtain ⟨p, h⟩ := h.ex
  exact h.1
/-- What leaves the blocks that are there as they were leaves a builder as it was. -/
theorem Bp.keep {w w' : World} {B r : Nat} {p : Value} {st : BSt} (h : Bp w B r p st) (hk : ∀ k, k < w.heap.size → w'.heap[k]? = w.heap[k]?) : Bp w' B r p st := by
  have hlt := h.lt
  obtain ⟨hB, v, lv, hb, h1, h2⟩ := h
  exact ⟨hB, v, lv, (hk r hlt).trans hb, own_keepB h1 (fun g _ hg => hk g hg), own_keepB h2 (fun g _ hg => hk g hg)⟩
theorem Bd.below {w w' : World} {B r : Nat} {st : BSt} (h : Bd w B r st) (hb : Below w.heap.size w w') : Bd w' B r st := by
  rcases h with h | h
  · exact .inl (h.keep fun k hk => hb.block k hk)
  · exact .inr (h.keep fun k hk => hb.block k hk)
theorem Bd.new (w : World) : Bd (w.alloc (bdB (.pointer none) (.slice none 0 0) (.slice none 0 0) 0)) w.heap.size w.heap.size ⟨[], [], 0⟩ :=
  .inl ⟨Nat.le_refl _, _, _, heap_alloc_last w _, ⟨rfl, .inl ⟨rfl, rfl⟩⟩, ⟨rfl, .inl ⟨rfl, rfl⟩⟩⟩

/-- Cell k of a builder is written over. -/
theorem set_bd {w : World} {r : Nat} {cs : Array Value} {T : TypeId} (h : w.heap[r]? = some (.cells cs T (0, 0))) (k : Nat) (x : Value) : (w.setCell ⟨r, k, none⟩ x).heap[r]? = some (.cells (cs.set! k x) T (0, 0)) := by
  simp [World.setCell, Array.getElem?_modify, h]

theorem Bp.set {w : World} {B r : Nat} {p : Value} {st : BSt} (h : Bp w B r p st) (q : Value) : Bp (w.setCell ⟨r, 0, none⟩ q) B r q st := by
  obtain ⟨hB, v, lv, hb, h1, h2⟩ := h
  have n1 := own_neB h1 hb (by decide)
  have n2 := own_neB h2 hb (by decide)
  exact ⟨hB, v, lv, set_bd hb 0 q, own_keepB h1 (fun g hg _ => Below.heap_setCell _ _ _ _ (fun e => n1 (hg.trans (congrArg some e)))), own_keepB h2 (fun g hg _ => Below.heap_setCell _ _ _ _ (fun e => n2 (hg.trans (congrArg some e))))⟩

set_option maxHeartbeats 1000000 in
set_option maxRecDepth 100000 in
theorem copyCheck_calls (B r : Nat) (st : BSt) (w : World) (h : Bd w B r st) :
    Calls Tryd.prog 100 #[.pointer (some ⟨r, 0, none⟩)] w fun e w' => e = .returned (.tuple #[]) ∧ Bp w' B r (.pointer (some ⟨r, 0, none⟩)) st ∧ Below B w w' ∧ Oth w w' r := by
  obtain ⟨j, hj, hjs⟩ := Option.map_eq_some_iff.1 (show (Tryd.prog.info? 105).map (·.size) = some 2 by kernel_rfl)
  have hlies : liesAt Tryd.prog Tryd.prog.depth 107 (4 / Tryd.prog.cellsOf 107) 0 105 1 = true := by kernel_rfl
  rcases h with h | h
  · have hsh : w.shape? r = some (107, 4) := by
      obtain ⟨_, v, lv, hb, _⟩ := h
      unfold bdB at hb
      simp [World.shape?, hb]
    have c0 : w.cell? ⟨r, 0, none⟩ = some (.pointer none) := by
      obtain ⟨_, v, lv, hb, _⟩ := h
      unfold bdB at hb
      simp [World.cell?, hb]
    have hfz : w.frozen? ⟨r, 0, none⟩ = false := by
      obtain ⟨_, v, lv, hb, _⟩ := h
      unfold bdB at hb
      simp [World.frozen?, hb]
    have HW := Lib.hid (h.set (.pointer (some ⟨r, 0, none⟩)))
    have HB := Lib.hid ((Below.refl B w).setCell (p := ⟨r, 0, none⟩) h.1 (.pointer (some ⟨r, 0, none⟩)))
    clear h
    go_enter Tryd.func100, Tryd.ntmps100
    go_wp2
    rw [Lib.run_to_unsafe w ⟨r, 0, none⟩ Tryd.underlying103 Tryd.underlying159 hj (by rw [hjs]; decide) hsh (Nat.zero_lt_succ 3)]
    simp only [Result.andThen]
    rw [Oper.upon_value]
    go_wp2
    rw [run_callFunc_extern Tryd.func104 (by kernel_rfl) (by kernel_rfl) (by kernel_rfl) (e := Extern.AbiNoEscape.same) (by kernel_rfl)]
    rw [Lib.run_noEscape]
    simp only [Result.andThen]
    rw [Oper.upon_value]
    go_wp2
    rw [Lib.run_from_unsafe w ⟨r, 0, none⟩ Tryd.underlying159 Tryd.underlying103 hj hsh hlies]
    simp only [Result.andThen]
    rw [Oper.upon_value]
    go_wp2
    go_end0
    exact ⟨rfl, HW.out, HB.out, Oth.setCell _ _ _ _⟩
  · have c0 : w.cell? ⟨r, 0, none⟩ = some (.pointer (some ⟨r, 0, none⟩)) := by
      obtain ⟨_, v, lv, hb, _⟩ := h
      unfold bdB at hb
      simp [World.cell?, hb]
    have HW := Lib.hid h
    clear h
    go_enter Tryd.func100, Tryd.ntmps100
    go_wp2
    rw [Lib.run_neq_ptr_same w _ Tryd.underlying103 hj]
    go_wp2
    go_end0
    exact ⟨rfl, HW.out, Below.refl B _, Oth.refl _ _⟩

set_option maxHeartbeats 2000000 in
set_option maxRecDepth 100000 in
theorem WriteString_calls (B r : Nat) (st : BSt) (s : ByteArray) (w : World) (h : Bd w B r st) (hlen : st.l.length + s.size ≤ 140737488355328) :
    Calls Tryd.prog 81 #[.pointer (some ⟨r, 0, none⟩), .string s] w fun e w' => e = .returned (.tuple #[.int .i64 s.size, .nilIface]) ∧ Bd w' B r ⟨st.l ++ s.data.toList, st.lines, st.sum⟩ ∧ Below B w w' ∧ Oth w w' r := by
  obtain ⟨i0, hi, hz0, hz1, hz2⟩ := info_parts u8info'
  have C := Lib.hid (copyCheck_calls B r st w h)
  have hBw : B ≤ w.heap.size := Nat.le_trans h.le (Nat.le_of_lt h.lt)
  clear h
  go_enter Tryd.func81, Tryd.ntmps81
  go_wp2_with fail
  refine C.out.mono ?_
  rintro e w1 ⟨rfl, h1, hb1, hot1⟩
  have HOT1 := Lib.hid hot1
  clear hot1
  have hlt := h1.lt
  have hBsz : B ≤ w1.heap.size := Nat.le_trans hBw hb1.size
  obtain ⟨hB, v, lv, hbk, hown, hlin⟩ := h1
  have n1 := own_neB hown hbk (by decide)
  have n2 := own_neB hlin hbk (by decide)
  have c1 : w1.cell? ⟨r, 1, none⟩ = some v := by
    unfold bdB at hbk
    simp [World.cell?, hbk]
  have HK := Lib.hid hbk
  have HO := Lib.hid hown
  have HLn := Lib.hid hlin
  have HB1 := Lib.hid hb1
  have N1 := Lib.hid n1
  have N2 := Lib.hid n2
  clear hbk hown hlin hb1 n1 n2
  go_wp2_with (at_builtin; refine Lib.wpList_append_own_string _ rfl _ _ 53 9 rfl B 5 i0 Tryd.underlying53 Tryd.underlying9 hi hz0 hz1 hz2 _ _ _ rfl HO.out s rfl ?c3 ?c4 ?c5 ?_)
  case c3 => unfold maxLen; omega
  case c4 => omega
  case c5 => exact hBsz
  intro v' w2 hown' hgrow _
  have hb2 : w2.heap[r]? = some (bdB (.pointer (some ⟨r, 0, none⟩)) v lv st.sum) := by
    rw [hgrow.block r hlt (fun e => N1.out e.symm)]
    exact HK.out
  have d0 : w2.cell? ⟨r, 1, none⟩ = some v := by
    have h := hb2
    unfold bdB at h
    simp [World.cell?, h]
  have f1 : w2.frozen? ⟨r, 1, none⟩ = false := by
    have h := hb2
    unfold bdB at h
    simp [World.frozen?, h]
  have hown2 : w2.ownsRow B 5 1 v' (st.l ++ s.data.toList).length (Lib.byteCells (st.l ++ s.data.toList)) := by
    have e1 : (st.l ++ s.data.toList).length = st.l.length + s.size := by rw [List.length_append]; rfl
    rw [e1, Lib.byteCells_append]
    exact hown'
  have hlin2 : w2.ownsRow B 134 7 lv st.lines.length (encL st.lines) := own_keepB HLn.out (fun g hg hlt' => hgrow.block g hlt' (fun e => own_ne HLn.out HO.out (by decide) g hg e.symm))
  have n3 := own_neB hown2 hb2 (by decide)
  have HW : Hid (Bd (w2.setCell ⟨r, 1, none⟩ v') B r ⟨st.l ++ s.data.toList, st.lines, st.sum⟩) := Lib.hid (.inr ⟨hB, v', lv, set_bd hb2 1 v', own_keepB hown2 (fun g hg _ => Below.heap_setCell _ _ _ _ (fun e => n3 (hg.trans (congrArg some e)))), own_keepB hlin2 (fun g hg _ => Below.heap_setCell _ _ _ _ (fun e => N2.out (hg.trans (congrArg some e))))⟩)
  have HBB := Lib.hid ((HB1.out.grown hgrow hBsz (fun k hk => (HO.out.lt k hk).1)).setCell (p := ⟨r, 1, none⟩) hB v')
  have HOT := Lib.hid ((HOT1.out.trans (Oth.grown hgrow HO.out)).trans (Oth.setCell w2 r 1 v'))
  obtain ⟨ao, n', cap, rfl⟩ : ∃ ao n' cap, v' = .slice ao n' cap := by
    rcases hown'.2 with ⟨hv, _⟩ | ⟨g, cap, cur, hv, _⟩
    · exact ⟨_, _, _, hv⟩
    · exact ⟨_, _, _, hv⟩
  clear hown' hown2 hb2 hgrow HO HK HLn hlin2 n3
  go_wp2
  go_ret2
  exact ⟨rfl, HW.out, HBB.out, HOT.out⟩

set_option maxRecDepth 100000 in
set_option maxHeartbeats 1000000 in
theorem Len_calls (B r : Nat) (st : BSt) (w : World) (h : Bd w B r st) :
    Calls Tryd.prog 85 #[.pointer (some ⟨r, 0, none⟩)] w fun e w' => e = .returned (.int .i64 st.l.length) ∧ w' = w := by
  obtain ⟨p, hB, v, lv, hbk, hown, _⟩ := h.ex
  obtain ⟨q, c, rfl, _⟩ := own_rd hown
  have c1 : w.cell? ⟨r, 1, none⟩ = some (.slice q st.l.length c) := by
    unfold bdB at hbk
    simp [World.cell?, hbk]
  clear hbk hown h
  go_enter Tryd.func85, Tryd.ntmps85
  go_wp2
  go_ret
  exact ⟨rfl, rfl⟩

set_option maxHeartbeats 1000000 in
set_option maxRecDepth 100000 in
theorem String_calls (B r : Nat) (st : BSt) (w : World) (h : Bd w B r st) (h0 : st.l ≠ []) :
    Calls Tryd.prog 61 #[.pointer (some ⟨r, 0, none⟩)] w fun e w' => e = .returned (.string ⟨st.l.toArray⟩) ∧ Below B w w' ∧ (∃ lv, w'.cell? ⟨r, 2, none⟩ = some lv ∧ w.cell? ⟨r, 2, none⟩ = some lv ∧ w'.ownsRow B 134 7 lv st.lines.length (encL st.lines)) := by
  obtain ⟨p, hB, v, lv, hbk, hown, hlin⟩ := h.ex
  have n1 := own_neB hown hbk (by decide)
  have hl0 : st.l.length ≠ 0 := by simpa using h0
  obtain ⟨g, cap, cur, rfl, hbg, hg, hnc, hcm, hcs, htake⟩ : ∃ g cap cur, v = .slice (some ⟨g, 0, none⟩) st.l.length cap ∧ B ≤ g ∧ w.heap[g]? = some (.cells cur 5 (0, 0)) ∧ st.l.length ≤ cap ∧ cap ≤ maxLen ∧ cur.size = cap * 1 ∧ cur.toList.take (st.l.length * 1) = Lib.byteCells st.l := by
    rcases hown.2 with ⟨_, hz⟩ | ⟨g, cap, cur, hv, r⟩
    · exact absurd hz hl0
    · exact ⟨g, cap, cur, hv, r⟩
  have c1 : w.drew.cell? ⟨r, 1, none⟩ = some (.slice (some ⟨g, 0, none⟩) st.l.length cap) := by
    have : w.drew.heap[r]? = some (bdB p (.slice (some ⟨g, 0, none⟩) st.l.length cap) lv st.sum) := hbk
    unfold bdB at this
    simp [World.cell?, this]
  have c2 : w.cell? ⟨r, 2, none⟩ = some lv := by
    unfold bdB at hbk
    simp [World.cell?, hbk]
  have hSD : (Builtin.unsafeSliceData_ #[53] 144 #[.slice (some ⟨g, 0, none⟩) st.l.length cap]).run Tryd.prog w.drew = .ok (.pointer (some ⟨g, 0, none⟩)) w.drew :=
    Lib.run_unsafeSliceData_row _ _ _ _ _ _ (by omega)
  have hUS : (Builtin.unsafeString_ #[144, 3] 9 #[.pointer (some ⟨g, 0, none⟩), .int .i64 st.l.length]).run Tryd.prog w.drew = .ok (.string ⟨st.l.toArray⟩) (w.drew.freeze ⟨g, 0, none⟩ st.l.length) := by
    refine Lib.run_unsafeString_row w.drew 144 3 9 5 Tryd.underlying144 (by kernel_rfl) g cur.size (by have hg' : w.drew.heap[g]? = some (.cells cur 5 (0, 0)) := hg; simp [World.shape?, hg']) st.l h0 (by omega) (by unfold maxLen at hcm; omega) ?_
    intro j x hx
    exact hown.cells (g := g) rfl j (.int .u8 x.toNat) (by simp [Lib.byteCells, hx])
  have hgr : g ≠ r := fun e => n1 (by rw [e]; rfl)
  have hfz : ∀ k, k ≠ g → (w.drew.freeze ⟨g, 0, none⟩ st.l.length).heap[k]? = w.heap[k]? := fun k hk => by
    unfold World.freeze
    split
    · rfl
    · simp only [Array.getElem?_modify]
      rw [if_neg (fun e => hk e.symm)]
      rfl
  have HL : Hid (∃ lv', (w.drew.freeze ⟨g, 0, none⟩ st.l.length).cell? ⟨r, 2, none⟩ = some lv' ∧ w.cell? ⟨r, 2, none⟩ = some lv' ∧ (w.drew.freeze ⟨g, 0, none⟩ st.l.length).ownsRow B 134 7 lv' st.lines.length (encL st.lines)) := Lib.hid ⟨lv, (World.cell?_of_block (a := ⟨r, 2, none⟩) (hfz r (fun e => hgr e.symm))).trans c2, c2, own_keepB hlin (fun k hk _ => hfz k (fun e => own_ne hown hlin (by decide) g rfl (e ▸ hk)))⟩
  have hbg' := Lib.hid hbg
  have mixed : Tryd.prog.follows .mixedOrders = true := by kernel_rfl
  clear hown hbk hg htake h hbg hlin n1 c2 hfz
  go_enter Tryd.func61, Tryd.ntmps61
  go_wp2
  go_region_o
  all_goals (go_wp2; go_ret; exact ⟨rfl, Lib.below_freeze (Below.drew (Below.refl B w)) (p := ⟨g, 0, none⟩) hbg'.out _, HL.out⟩)
end Go.Proofs.YtihgjihdmlomaaaDoor
