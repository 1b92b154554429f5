/-
  PLAIN LAWS on bits that are turned one after the other.
-/
import Derived.Test.YtldcfgifimdmmaaDoorDistP
import Derived.Test.YtldcfgifimdmmaaDoorBits2
namespace Go.Proofs.YtldcfgifimdmmaaDoor
set_option linter.unusedVariables false

theorem w8_flip (c : UInt8) (j : Nat) (hj : j < 8) : w8 (UInt8.ofNat (c.toNat ^^^ 2 ^ j)) + 2 * (c.toNat / 2 ^ j % 2) = w8 c + 1 := by
  have : ∀ (n : Fin 256) (j : Fin 8), ones16.getD ((n.val ^^^ 2 ^ j.val) / 16) 0 + ones16.getD ((n.val ^^^ 2 ^ j.val) % 16) 0 + 2 * (n.val / 2 ^ j.val % 2) = ones16.getD (n.val / 16) 0 + ones16.getD (n.val % 16) 0 + 1 := by decide +kernel
  have h := this ⟨c.toNat, c.toNat_lt⟩ ⟨j, hj⟩
  have hp2 : 2 ^ j < 256 := Nat.pow_lt_pow_right (a := 2) (n := 8) (by omega) hj
  have hx : c.toNat ^^^ 2 ^ j < 256 := Nat.xor_lt_two_pow (n := 8) c.toNat_lt hp2
  unfold w8
  rw [UInt8.toNat_ofNat', Nat.mod_eq_of_lt hx]
  exact h
theorem wt_set : ∀ (l : List UInt8) (k : Nat) (x : UInt8), k < l.length → wt (l.set k x) + w8 (l.getD k 0) = wt l + w8 x
  | [], _, _, h => by simp at h
  | c :: l, 0, x, _ => by simp only [List.set_cons_zero, wt_cons]; simp [List.getD]; omega
  | c :: l, k + 1, x, h => by
    have ih := wt_set l k x (by simpa using h)
    simp only [List.set_cons_succ, wt_cons, List.getD_cons_succ]
    omega
theorem flipB_length (l : List UInt8) (i : Nat) : (flipB l i).length = l.length := by simp [flipB]
theorem flipB_getD (l : List UInt8) (i : Nat) (h : i < 8 * l.length) : (flipB l i).getD (i / 8) 0 = UInt8.ofNat ((l.getD (i / 8) 0).toNat ^^^ 2 ^ (7 - i % 8)) := by
  unfold flipB
  simp [List.getD, show i / 8 < l.length by omega]
theorem wt_flip (l : List UInt8) (i : Nat) (h : i < 8 * l.length) : wt (flipB l i) + 2 * (bitB l i).toNat = wt l + 1 := by
  have h1 := wt_set l (i / 8) (UInt8.ofNat ((l.getD (i / 8) 0).toNat ^^^ 2 ^ (7 - i % 8))) (by omega)
  have h2 := w8_flip (l.getD (i / 8) 0) (7 - i % 8) (by omega)
  rw [bitB_toNat]
  show wt (l.set _ _) + _ = _
  omega
theorem flip_twice (c : UInt8) (j : Nat) (hj : j < 8) : UInt8.ofNat ((UInt8.ofNat (c.toNat ^^^ 2 ^ j)).toNat ^^^ 2 ^ j) = c := by
  have hp2 : 2 ^ j < 256 := Nat.pow_lt_pow_right (a := 2) (n := 8) (by omega) hj
  have hx : c.toNat ^^^ 2 ^ j < 256 := Nat.xor_lt_two_pow (n := 8) c.toNat_lt hp2
  rw [UInt8.toNat_ofNat', Nat.mod_eq_of_lt hx, Nat.xor_assoc, Nat.xor_self, Nat.xor_zero]
  simp
theorem flipB_flipB (l : List UInt8) (i : Nat) (h : i < 8 * l.length) : flipB (flipB l i) i = l := by
  have hg := flipB_getD l i h
  have e : flipB (flipB l i) i = (flipB l i).set (i / 8) (UInt8.ofNat (((flipB l i).getD (i / 8) 0).toNat ^^^ 2 ^ (7 - i % 8))) := rfl
  rw [e, hg, flip_twice _ _ (by omega)]
  unfold flipB
  rw [List.set_set]
  apply List.ext_getElem?
  intro k
  rw [List.getElem?_set]
  split
  · rename_i hk
    subst hk
    simp [List.getD, show i / 8 < l.length by omega]
  · rfl
theorem xorL_flip : ∀ (a b : List UInt8) (k : Nat) (f : UInt8), a.length = b.length → xorL a (b.set k (b.getD k 0 ^^^ f)) = (xorL a b).set k ((xorL a b).getD k 0 ^^^ f)
  | [], [], k, f, _ => by simp [xorL]
  | x :: a, y :: b, 0, f, h => by
    simp only [List.set_cons_zero, xorL, List.zipWith_cons_cons, List.getD_cons_zero]
    rw [UInt8.xor_assoc]
  | x :: a, y :: b, k + 1, f, h => by
    have ih := xorL_flip a b k f (by simpa using h)
    unfold xorL at *
    simp only [List.set_cons_succ, List.zipWith_cons_cons, List.getD_cons_succ, ih]
  | [], _ :: _, _, _, h => by simp at h
  | _ :: _, [], _, _, h => by simp at h
theorem ofNat_xor (c : UInt8) (j : Nat) (hj : j < 8) : UInt8.ofNat (c.toNat ^^^ 2 ^ j) = c ^^^ UInt8.ofNat (2 ^ j) := by
  have hp2 : 2 ^ j < 256 := Nat.pow_lt_pow_right (a := 2) (n := 8) (by omega) hj
  apply UInt8.toNat_inj.1
  have hx : c.toNat ^^^ 2 ^ j < 256 := Nat.xor_lt_two_pow (n := 8) c.toNat_lt hp2
  rw [UInt8.toNat_xor, UInt8.toNat_ofNat', UInt8.toNat_ofNat', Nat.mod_eq_of_lt hx, Nat.mod_eq_of_lt hp2]
theorem xorL_flipB (a b : List UInt8) (i : Nat) (h : a.length = b.length) : xorL a (flipB b i) = flipB (xorL a b) i := by
  unfold flipB
  rw [ofNat_xor _ _ (by omega), ofNat_xor _ _ (by omega)]
  exact xorL_flip a b (i / 8) _ h
/-- How a bit turned changes the distance. -/
theorem far_flip (a b : List UInt8) (i : Nat) (h : a.length = b.length) (hi : i < 8 * a.length) : wt (xorL a (flipB b i)) + 2 * ((bitB a i) ^^ (bitB b i)).toNat = wt (xorL a b) + 1 := by
  rw [xorL_flipB a b i h, ← bitB_xor a b h i hi]
  exact wt_flip _ _ (by rw [xorL_length a b h]; exact hi)
end Go.Proofs.YtldcfgifimdmmaaDoor
