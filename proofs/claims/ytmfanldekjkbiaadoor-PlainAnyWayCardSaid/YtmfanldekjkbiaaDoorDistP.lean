/-
  PLAIN LAWS on the weight of a text and on what is unlike in two (no program in sight).
-/
import Derived.Test.YtmfanldekjkbiaaDoorBitsP
namespace Go.Proofs.YtmfanldekjkbiaaDoor
set_option linter.unusedVariables false

/-- How many bits of half a byte are one. -/
def ones16 : List Nat := [0, 1, 1, 2, 1, 2, 2, 3, 1, 2, 2, 3, 2, 3, 3, 4]

/-- How many bits of a byte are one. -/
def w8 (c : UInt8) : Nat := ones16.getD (c.toNat / 16) 0 + ones16.getD (c.toNat % 16) 0

def wt (l : List UInt8) : Nat := (l.map w8).sum

def xorL (a b : List UInt8) : List UInt8 := List.zipWith (· ^^^ ·) a b

theorem ones16_le (i : Nat) (h : i < 16) : ones16.getD i 0 ≤ 4 := by
  have : ∀ i : Fin 16, ones16.getD i.val 0 ≤ 4 := by decide +kernel
  exact this ⟨i, h⟩

theorem ones16_zero (i : Nat) (h : i < 16) (h0 : ones16.getD i 0 = 0) : i = 0 := by
  have : ∀ i : Fin 16, ones16.getD i.val 0 = 0 → i.val = 0 := by decide +kernel
  exact this ⟨i, h⟩ h0

theorem ones16_tri (i j : Nat) (h : i < 16) (k : j < 16) : ones16.getD (i ^^^ j) 0 ≤ ones16.getD i 0 + ones16.getD j 0 := by
  have : ∀ i j : Fin 16, ones16.getD (i.val ^^^ j.val) 0 ≤ ones16.getD i.val 0 + ones16.getD j.val 0 := by decide +kernel
  exact this ⟨i, h⟩ ⟨j, k⟩

theorem w8_le (c : UInt8) : w8 c ≤ 8 := by
  have := c.toNat_lt
  have a := ones16_le (c.toNat / 16) (by omega)
  have b := ones16_le (c.toNat % 16) (by omega)
  unfold w8; omega

theorem w8_zero (c : UInt8) : w8 c = 0 ↔ c = 0 := by
  constructor
  · intro h
    have := c.toNat_lt
    unfold w8 at h
    have a := ones16_zero (c.toNat / 16) (by omega) (by omega)
    have b := ones16_zero (c.toNat % 16) (by omega) (by omega)
    exact UInt8.toNat_inj.1 (by show c.toNat = 0; omega)
  · rintro rfl; rfl

theorem w8_tri (a b : UInt8) : w8 (a ^^^ b) ≤ w8 a + w8 b := by
  have ha := a.toNat_lt
  have hb := b.toNat_lt
  have e1 : (a ^^^ b).toNat / 16 = (a.toNat / 16) ^^^ (b.toNat / 16) := by rw [UInt8.toNat_xor]; exact Nat.xor_div_two_pow (n := 4)
  have e2 : (a ^^^ b).toNat % 16 = (a.toNat % 16) ^^^ (b.toNat % 16) := by rw [UInt8.toNat_xor]; exact Nat.xor_mod_two_pow (n := 4)
  have t1 := ones16_tri (a.toNat / 16) (b.toNat / 16) (by omega) (by omega)
  have t2 := ones16_tri (a.toNat % 16) (b.toNat % 16) (by omega) (by omega)
  unfold w8
  rw [e1, e2]; omega

theorem wt_nil : wt [] = 0 := rfl

theorem wt_cons (c : UInt8) (l : List UInt8) : wt (c :: l) = w8 c + wt l := by simp [wt]

theorem wt_snoc (l : List UInt8) (c : UInt8) : wt (l ++ [c]) = wt l + w8 c := by simp [wt]

theorem wt_le : ∀ l : List UInt8, wt l ≤ 8 * l.length
  | [] => by simp [wt]
  | c :: l => by
    have := wt_le l
    have := w8_le c
    rw [wt_cons, List.length_cons]; omega

theorem xorL_length (a b : List UInt8) (h : a.length = b.length) : (xorL a b).length = a.length := by simp [xorL, h]

theorem xorL_comm (a b : List UInt8) : xorL a b = xorL b a := by
  unfold xorL; rw [List.zipWith_comm]; congr 1; funext x y; exact UInt8.xor_comm _ _

theorem xorL_xorL : ∀ (a b : List UInt8), a.length = b.length → xorL a (xorL a b) = b
  | [], [], _ => rfl
  | x :: a, y :: b, h => by
    have := xorL_xorL a b (by simpa using h)
    unfold xorL at *
    simp only [List.zipWith_cons_cons, this]
    rw [← UInt8.xor_assoc, UInt8.xor_self, UInt8.zero_xor]
  | [], _ :: _, h => by simp at h
  | _ :: _, [], h => by simp at h

theorem wt_xor_zero : ∀ (a b : List UInt8), a.length = b.length → (wt (xorL a b) = 0 ↔ a = b)
  | [], [], _ => by simp [xorL, wt]
  | x :: a, y :: b, h => by
    have ih := wt_xor_zero a b (by simpa using h)
    have e : xorL (x :: a) (y :: b) = (x ^^^ y) :: xorL a b := rfl
    rw [e, wt_cons]
    constructor
    · intro hz
      have h1 : w8 (x ^^^ y) = 0 := by omega
      have h2 := ih.1 (by omega)
      rw [w8_zero] at h1
      rw [h2, UInt8.xor_eq_zero_iff.1 h1]
    · intro hz
      obtain ⟨rfl, rfl⟩ := List.cons.inj hz
      rw [ih.2 rfl, UInt8.xor_self]; rfl
  | [], _ :: _, h => by simp at h
  | _ :: _, [], h => by simp at h

theorem wt_tri : ∀ (a b c : List UInt8), a.length = b.length → a.length = c.length → wt (xorL a b) ≤ wt (xorL a c) + wt (xorL c b)
  | [], [], [], _, _ => by simp [xorL, wt]
  | x :: a, y :: b, z :: c, h, k => by
    have ih := wt_tri a b c (by simpa using h) (by simpa using k)
    have e1 : xorL (x :: a) (y :: b) = (x ^^^ y) :: xorL a b := rfl
    have e2 : xorL (x :: a) (z :: c) = (x ^^^ z) :: xorL a c := rfl
    have e3 : xorL (z :: c) (y :: b) = (z ^^^ y) :: xorL c b := rfl
    have t := w8_tri (x ^^^ z) (z ^^^ y)
    have e : (x ^^^ z) ^^^ (z ^^^ y) = x ^^^ y := by rw [UInt8.xor_assoc, ← UInt8.xor_assoc z, UInt8.xor_self, UInt8.zero_xor]
    rw [e] at t
    rw [e1, e2, e3, wt_cons, wt_cons, wt_cons]; omega
  | [], _ :: _, _, h, _ => by simp at h
  | _ :: _, [], _, h, _ => by simp at h
  | [], [], _ :: _, _, k => by simp at k
  | _ :: _, _ :: _, [], _, k => by simp at k

theorem xorL_self (a : List UInt8) : wt (xorL a a) = 0 := (wt_xor_zero a a rfl).2 rfl

theorem xorL_getElem (a b : List UInt8) (k : Nat) (h : k < a.length) (h2 : k < b.length) : (xorL a b).take (k + 1) = (xorL a b).take k ++ [a[k] ^^^ b[k]] := by
  have : k < (xorL a b).length := by simp [xorL]; omega
  rw [List.take_succ_eq_append_getElem this]
  simp [xorL]

/-- The ones among the first n bits. -/
def cnt (l : List UInt8) : Nat → Nat
  | 0 => 0
  | n + 1 => cnt l n + (bitB l n).toNat

theorem cnt_le (l : List UInt8) : ∀ n, cnt l n ≤ n
  | 0 => Nat.le_refl _
  | n + 1 => by
    have := cnt_le l n
    have : (bitB l n).toNat ≤ 1 := by cases bitB l n <;> decide
    simp only [cnt]; omega

theorem w8_bits (c : UInt8) : w8 c = c.toNat / 2 ^ 7 % 2 + c.toNat / 2 ^ 6 % 2 + c.toNat / 2 ^ 5 % 2 + c.toNat / 2 ^ 4 % 2 + c.toNat / 2 ^ 3 % 2 + c.toNat / 2 ^ 2 % 2 + c.toNat / 2 ^ 1 % 2 + c.toNat / 2 ^ 0 % 2 := by
  have : ∀ n : Fin 256, ones16.getD (n.val / 16) 0 + ones16.getD (n.val % 16) 0 = n.val / 2 ^ 7 % 2 + n.val / 2 ^ 6 % 2 + n.val / 2 ^ 5 % 2 + n.val / 2 ^ 4 % 2 + n.val / 2 ^ 3 % 2 + n.val / 2 ^ 2 % 2 + n.val / 2 ^ 1 % 2 + n.val / 2 ^ 0 % 2 := by decide +kernel
  exact this ⟨c.toNat, c.toNat_lt⟩

theorem cnt_wt (l : List UInt8) : ∀ k, k ≤ l.length → cnt l (8 * k) = wt (l.take k)
  | 0, _ => by simp [cnt, wt]
  | k + 1, h => by
    have ih := cnt_wt l k (by omega)
    have e : 8 * (k + 1) = 8 * k + 7 + 1 := by omega
    have hb : ∀ t, t < 8 → (bitB l (8 * k + t)).toNat = (l.getD k 0).toNat / 2 ^ (7 - t) % 2 := by
      intro t ht
      rw [bitB_toNat, show (8 * k + t) / 8 = k by omega, show (8 * k + t) % 8 = t by omega]
    have h0 := hb 0 (by omega)
    have h1 := hb 1 (by omega)
    have h2 := hb 2 (by omega)
    have h3 := hb 3 (by omega)
    have h4 := hb 4 (by omega)
    have h5 := hb 5 (by omega)
    have h6 := hb 6 (by omega)
    have h7 := hb 7 (by omega)
    have hw := w8_bits (l.getD k 0)
    have hd : l.take (k + 1) = l.take k ++ [l.getD k 0] := by
      rw [List.take_succ_eq_append_getElem (by omega)]
      simp [List.getD, show k < l.length by omega]
    rw [hd, wt_snoc, e]
    simp only [cnt]
    rw [ih, hw, h1, h2, h3, h4, h5, h6, h7]
    rw [Nat.add_zero] at h0
    rw [h0]
    simp only [Nat.sub_zero, Nat.reduceSub]
    omega

theorem cnt_all (l : List UInt8) : cnt l (8 * l.length) = wt l := by rw [cnt_wt l _ (Nat.le_refl _), List.take_length]

theorem bitB_xor (a b : List UInt8) (h : a.length = b.length) (i : Nat) (hi : i < 8 * a.length) : bitB (xorL a b) i = (bitB a i ^^ bitB b i) := by
  have hk : i / 8 < a.length := by omega
  have e : (xorL a b).getD (i / 8) 0 = a.getD (i / 8) 0 ^^^ b.getD (i / 8) 0 := by
    simp [xorL, List.getD, List.getElem?_zipWith, hk, show i / 8 < b.length by omega]
  unfold bitB
  rw [e, UInt8.toNat_xor]
  have t := fun n => @Nat.testBit_eq_decide_div_mod_eq (7 - i % 8) n
  have d : ∀ n : Nat, (n / 2 ^ (7 - i % 8) % 2 == 1) = n.testBit (7 - i % 8) := by
    intro n; rw [t]; rfl
  rw [d, d, d, Nat.testBit_xor]

/-- A text of n bytes: l, cut or filled up. -/
def fitL (l : List UInt8) (n : Nat) : List UInt8 := l.take n ++ List.replicate (n - l.length) 0

theorem fitL_length (l : List UInt8) (n : Nat) : (fitL l n).length = n := by simp [fitL]; omega

/-- .. its first k bytes, and zeros. -/
def fitK (l : List UInt8) (n k : Nat) : List UInt8 := l.take k ++ List.replicate (n - k) 0

theorem fitK_length (l : List UInt8) (n k : Nat) (h : k ≤ n) (h2 : k ≤ l.length) : (fitK l n k).length = n := by simp [fitK]; omega

theorem fitK_set (l : List UInt8) (n k : Nat) (h : k < n) (h2 : k < l.length) : (fitK l n k).set k (l.getD k 0) = fitK l n (k + 1) := by
  unfold fitK
  have hl : (l.take k).length = k := by simp; omega
  rw [List.set_append_right _ _ (by omega), hl, Nat.sub_self, show n - k = (n - (k + 1)) + 1 by omega, List.replicate_succ, List.set_cons_zero,
    List.take_succ_eq_append_getElem h2, List.append_assoc, List.singleton_append]
  congr 2
  simp [List.getD, h2]

theorem fitK_end (l : List UInt8) (n k : Nat) (hk : k ≤ n) (h2 : k ≤ l.length) (h : ¬ (k < n ∧ k < l.length)) : fitK l n k = fitL l n := by
  unfold fitK fitL
  by_cases e : k = n
  · subst e
    simp; omega
  · have : k = l.length := by omega
    subst this
    rw [List.take_of_length_le (Nat.le_refl _), List.take_of_length_le (by omega)]

/-- Where Xor stands: its first k bytes are unlike. -/
def xorK (a b : List UInt8) (k : Nat) : List UInt8 := (xorL a b).take k ++ a.drop k

theorem xorK_zero (a b : List UInt8) : xorK a b 0 = a := by simp [xorK]

theorem xorK_length (a b : List UInt8) (h : a.length = b.length) (k : Nat) (hk : k ≤ a.length) : (xorK a b k).length = a.length := by simp [xorK, xorL, h]; omega

theorem xorK_all (a b : List UInt8) (h : a.length = b.length) : xorK a b a.length = xorL a b := by
  unfold xorK
  rw [List.take_of_length_le (by rw [xorL_length a b h]; omega), List.drop_length, List.append_nil]

theorem xorK_get (a b : List UInt8) (h : a.length = b.length) (k : Nat) (hk : k < a.length) : (xorK a b k).getD k 0 = a.getD k 0 := by
  have hl : ((xorL a b).take k).length = k := by simp [xorL, h]; omega
  unfold xorK
  simp [List.getD, List.getElem?_append_right, hl]

theorem xorK_set (a b : List UInt8) (h : a.length = b.length) (k : Nat) (hk : k < a.length) : (xorK a b k).set k (a.getD k 0 ^^^ b.getD k 0) = xorK a b (k + 1) := by
  have hl : ((xorL a b).take k).length = k := by simp [xorL, h]; omega
  unfold xorK
  rw [List.set_append_right _ _ (by omega), hl, Nat.sub_self, xorL_getElem a b k hk (by omega), List.drop_eq_getElem_cons hk, List.set_cons_zero, List.append_assoc]
  simp [List.getD, hk, show k < b.length by omega]
end Go.Proofs.YtmfanldekjkbiaaDoor
