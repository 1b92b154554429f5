/-
  PLAIN LAWS: how far two codes are, by their sums.
-/
import Derived.Test.YtcdlmjbjpeokfaaDoorCodeP
import Derived.Test.YtcdlmjbjpeokfaaDoorDist
namespace Go.Proofs.YtcdlmjbjpeokfaaDoor
open Go.RowKit
set_option linter.unusedVariables false

def b01 (b : Bool) : Nat := if b then 1 else 0
/-- In how many parts of the first k pairs the one is above 0 and the other is not. -/
def farN (A B : List (Int × Int)) : Nat → Nat
  | 0 => 0
  | k + 1 => farN A B k + b01 (decide (0 < (A.getD k (0, 0)).1) != decide (0 < (B.getD k (0, 0)).1)) + b01 (decide (0 < (A.getD k (0, 0)).2) != decide (0 < (B.getD k (0, 0)).2))
theorem farN_eq (A B : List (Int × Int)) (k : Nat) : farN A B (k + 1) = farN A B k + b01 (decide (0 < (A.getD k (0, 0)).1) != decide (0 < (B.getD k (0, 0)).1)) + b01 (decide (0 < (A.getD k (0, 0)).2) != decide (0 < (B.getD k (0, 0)).2)) := rfl
theorem farN_le (A B : List (Int × Int)) (k : Nat) : farN A B k ≤ 2 * k := by
  induction k with
  | zero => simp [farN]
  | succ k ih =>
    rw [farN_eq]
    unfold b01
    split <;> split <;> omega
theorem farN_succ (A B : List (Int × Int)) (k : Nat) (x y : Int × Int) (hx : A[k]? = some x) (hy : B[k]? = some y) (p q : Bool) (hp : (decide (0 < x.1) != decide (0 < y.1)) = p) (hq : (decide (0 < x.2) != decide (0 < y.2)) = q) : farN A B (k + 1) = farN A B k + b01 p + b01 q := by
  have e1 : A.getD k (0, 0) = x := by simp [List.getD, hx]
  have e2 : B.getD k (0, 0) = y := by simp [List.getD, hy]
  rw [farN_eq, e1, e2, hp, hq]
theorem cdC_length (sd : Int) (h : Nat) (zs : List (Int × Int)) : (cdC sd h zs).data.toList.length = h / 4 := cdC_size sd h zs
theorem cnt_far (sd : Int) (h : Nat) (hh4 : h % 4 = 0) (U V : List (Int × Int)) (k : Nat) (hk : k ≤ h) : cnt (xorL (cdC sd h U).data.toList (cdC sd h V).data.toList) (2 * k) = farN (sgL sd h U) (sgL sd h V) k := by
  induction k with
  | zero => rfl
  | succ k ih =>
    have hl : (cdC sd h U).data.toList.length = (cdC sd h V).data.toList.length := by rw [cdC_length, cdC_length]
    have hn := cdC_length sd h U
    have e : cnt (xorL (cdC sd h U).data.toList (cdC sd h V).data.toList) (2 * (k + 1)) = cnt (xorL (cdC sd h U).data.toList (cdC sd h V).data.toList) (2 * k) + (bitB (xorL (cdC sd h U).data.toList (cdC sd h V).data.toList) (2 * k)).toNat + (bitB (xorL (cdC sd h U).data.toList (cdC sd h V).data.toList) (2 * k + 1)).toNat := rfl
    rw [e, ih (by omega), bitB_xor _ _ hl _ (by omega), bitB_xor _ _ hl _ (by omega), cdC_bit _ _ _ hh4 _ (by omega), cdC_bit _ _ _ hh4 _ (by omega), cdC_bit _ _ _ hh4 _ (by omega), cdC_bit _ _ _ hh4 _ (by omega)]
    unfold sgnAt
    rw [if_pos (by omega), if_pos (by omega), if_neg (by omega), if_neg (by omega), show 2 * k / 2 = k by omega, show (2 * k + 1) / 2 = k by omega]
    rw [farN_eq]
    unfold b01
    generalize decide (0 < ((sgL sd h U).getD k (0, 0)).1) = a
    generalize decide (0 < ((sgL sd h U).getD k (0, 0)).2) = b
    generalize decide (0 < ((sgL sd h V).getD k (0, 0)).1) = c
    generalize decide (0 < ((sgL sd h V).getD k (0, 0)).2) = d
    cases a <;> cases b <;> cases c <;> cases d <;> rfl
theorem dist_far (sd : Int) (h : Nat) (hh4 : h % 4 = 0) (U V : List (Int × Int)) : distR (cdC sd h U).data.toList (cdC sd h V).data.toList = (farN (sgL sd h U) (sgL sd h V) h, 0) := by
  have hl : (cdC sd h U).data.toList.length = (cdC sd h V).data.toList.length := by rw [cdC_length, cdC_length]
  unfold distR
  rw [if_neg (by omega)]
  have := cnt_far sd h hh4 U V h (Nat.le_refl _)
  rw [← this, ← cnt_all, xorL_length _ _ hl, cdC_length]
  congr 2
  omega
theorem cnt_none (l : List UInt8) (n : Nat) (h : ∀ i, i < n → bitB l i = false) : cnt l n = 0 := by
  induction n with
  | zero => rfl
  | succ n ih =>
    show cnt l n + (bitB l n).toNat = 0
    rw [ih (fun i hi => h i (by omega)), h n (by omega)]
    rfl
theorem sgL_none (sd : Int) (h : Nat) (zs : List (Int × Int)) (hz : ∀ x ∈ zs, x = (0, 0)) (i : Nat) (hi : i < h) : (sgL sd h zs).getD i (0, 0) = (0, 0) := by
  have e : mulL 0 zs = zs := by
    unfold mulL
    have : ∀ x ∈ zs, ((0 : Int) * x.1, (0 : Int) * x.2) = id x := fun x hx => by rw [hz x hx]; simp
    rw [List.map_congr_left this, List.map_id]
  have := sgL_mul sd h 0 zs i hi
  rw [e] at this
  rw [this]
  simp
theorem wt_none (sd : Int) (h : Nat) (hh4 : h % 4 = 0) (zs : List (Int × Int)) (hz : ∀ x ∈ zs, x = (0, 0)) : wt (cdC sd h zs).data.toList = 0 := by
  rw [← cnt_all]
  apply cnt_none
  intro i hi
  rw [cdC_length] at hi
  rw [cdC_bit _ _ _ hh4 _ (by omega)]
  unfold sgnAt
  split
  · rw [sgL_none _ _ _ hz _ (by omega)]; rfl
  · rw [sgL_none _ _ _ hz _ (by omega)]; rfl
theorem vecL_nil (n : Nat) (most : Int) : ∀ x ∈ vecL [] n most, x = (0, 0) := by
  intro x hx
  unfold vecL at hx
  rw [List.mem_map] at hx
  obtain ⟨k, _, rfl⟩ := hx
  exact Prod.ext (fitR_zero _) (fitR_zero _)
end Go.Proofs.YtcdlmjbjpeokfaaDoor
