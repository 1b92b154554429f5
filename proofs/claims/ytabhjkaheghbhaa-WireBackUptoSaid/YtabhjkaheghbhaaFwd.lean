/-
  PLAIN LAWS: what is written is read as it was.
-/
import Derived.Test.YtabhjkaheghbhaaInv
namespace Go.Proofs.Ytabhjkaheghbhaa
open Go.RowKit
set_option linter.unusedVariables false

theorem scanV_fwd : ∀ (f a k v u : Nat) (rest : List UInt8), k + f = 9 → u < 2 ^ (64 - 7 * k) → (0 < k → u ≠ 0) →
    scanV a k v (varF f u ++ rest) = (v + u * 2 ^ (7 * k), ((a + k + (varF f u).length : Nat) : Int), 0)
  | 0, a, k, v, u, rest, hk, hu, h0 => by
    obtain rfl : k = 9 := by omega
    have hu1 : u ≤ 1 := by have : u < 2 ^ (64 - 7 * 9) := hu; simp at this; omega
    have hn : (UInt8.ofNat u).toNat = u := by simp; omega
    have he : varF 0 u = [UInt8.ofNat u] := rfl
    rw [he]
    unfold scanV
    simp only [List.cons_append, List.nil_append, hn, List.length_singleton]
    rw [if_neg (by omega), if_pos (by omega), if_neg (fun h => h0 h.2 h.1), Nat.mod_eq_of_lt (by omega : u < 128)]
  | f + 1, a, k, v, u, rest, hk, hu, h0 => by
    by_cases hs : u < 128
    · have hn : (UInt8.ofNat u).toNat = u := by simp; omega
      rw [varF_low _ _ hs]
      unfold scanV
      simp only [List.cons_append, List.nil_append, hn, List.length_singleton]
      rw [if_neg (by omega), if_pos hs, if_neg (fun h => h0 h.2 h.1), Nat.mod_eq_of_lt hs]
    · have hn : (UInt8.ofNat (u % 128 + 128)).toNat = u % 128 + 128 := by simp; omega
      rw [varF_high _ _ hs, List.cons_append]
      unfold scanV
      simp only [hn]
      rw [if_neg (by omega), if_neg (by omega)]
      have hd : u / 128 < 2 ^ (64 - 7 * (k + 1)) := div_bound k u (by omega) hu
      have hm : (u % 128 + 128) % 128 = u % 128 := by omega
      rw [hm, scanV_fwd f a (k + 1) _ (u / 128) rest (by omega) hd (fun _ => by omega)]
      simp only [Prod.mk.injEq, and_true]
      refine ⟨?_, ?_⟩
      · rw [show 7 * (k + 1) = 7 * k + 7 by omega, Nat.pow_add, Nat.add_assoc]
        congr 1
        have h7 : (2 : Nat) ^ 7 = 128 := rfl
        have hdm := Nat.div_add_mod u 128
        rw [h7]
        generalize hp : 2 ^ (7 * k) = p
        generalize hq : u / 128 = q at hdm
        generalize hr : u % 128 = r at hdm
        subst hdm
        rw [Nat.add_mul, Nat.mul_comm p 128, ← Nat.mul_assoc, Nat.mul_comm q 128, Nat.add_comm]
      · rw [List.length_cons]
        congr 1
        omega
/-- A number that stands at a place in a text is read as it was. -/
theorem varR_fwd (l : List UInt8) (a u : Nat) (rest : List UInt8) (ha : a ≤ l.length) (hu : u < 18446744073709551616) (h : l.drop a = varB u ++ rest) : varR l a = (u, ((a + (varB u).length : Nat) : Int), 0) := by
  unfold varR
  rw [if_neg (by omega)]
  simp only [Int.toNat_natCast]
  rw [h]
  have := scanV_fwd 9 a 0 0 u rest (by omega) (by simpa using hu) (fun h => absurd h (Nat.lt_irrefl _))
  simpa [varB] using this

theorem tl_add (b : ByteArray) (a : Nat) (x rest : List UInt8) (h : tl b a = x ++ rest) : tl b (a + x.length) = rest := by
  unfold tl at h ⊢
  rw [← List.drop_drop, h, List.drop_left]
theorem pNum_fwd {b : ByteArray} {most : Nat} {E : Int} {a : Nat} {n : Int} {rest : List UInt8} (hm : most ≤ 9223372036854775807) (h0 : 0 ≤ n) (h1 : n ≤ most) (ha : a ≤ b.size) (h : tl b a = vNum n ++ rest) :
    pNum b most E (.ok a) = (.ok (a + (vNum n).length), n) ∧ tl b (a + (vNum n).length) = rest := by
  refine ⟨?_, tl_add b a _ _ h⟩
  obtain ⟨v, rfl⟩ : ∃ v : Nat, n = v := ⟨n.toNat, by omega⟩
  have hw : IntKind.u64.wrap (v : Int) = (v : Int) := by rw [IntKind.wrap_u64]; omega
  have hv : vNum (v : Int) = varB v := by unfold vNum; rw [hw]; rfl
  rw [hv] at h ⊢
  have hr := varR_fwd b.data.toList a v rest (by rw [size_len]; exact ha) (by omega) h
  unfold pNum
  simp only [hr]
  rw [if_neg (fun h => h rfl), if_neg (by omega), if_neg (by omega), Int.toNat_natCast]
theorem pText_fwd {b : ByteArray} {a : Nat} {c : ByteArray} {rest : List UInt8} (hc : c.size ≤ 65536) (ha : a ≤ b.size) (h : tl b a = vNum c.size ++ c.data.toList ++ rest) :
    pText b (.ok a) = (.ok (a + (vNum c.size).length + c.size), c) ∧ tl b (a + (vNum c.size).length + c.size) = rest := by
  rw [List.append_assoc] at h
  obtain ⟨h1, h2⟩ := pNum_fwd (most := 65536) (E := 36) (n := c.size) (by decide) (by omega) (by omega) ha h
  have hl : (tl b (a + (vNum c.size).length)).length = b.size - (a + (vNum c.size).length) := by unfold tl; rw [List.length_drop, size_len]
  have hl2 : (c.data.toList ++ rest).length = c.size + rest.length := by rw [List.length_append, size_len]
  rw [h2, hl2] at hl
  refine ⟨?_, ?_⟩
  · unfold pText
    rw [h1]
    simp only
    by_cases hlt : (b.size : Int) - ((a + (vNum c.size).length : Nat) : Int) < (c.size : Int)
    · exfalso
      have hz : c.size = 0 ∨ a + (vNum c.size).length ≤ b.size := by omega
      rcases hz with hz | hz
      · have hn := pNum_ok h1
        omega
      · omega
    · rw [if_neg hlt, Int.toNat_natCast]
      have hn := pNum_ok h1
      obtain ⟨t1, t2⟩ := tl_take b (a + (vNum c.size).length) c.size (by omega)
      rw [h2] at t1
      have hcut := List.append_inj t1 (by rw [size_len, size_len, t2])
      have : b.extract (a + (vNum c.size).length) (a + (vNum c.size).length + c.size) = c := ByteArray.ext (Array.toList_inj.1 hcut.1.symm)
      rw [this]
  · have := tl_add b (a + (vNum c.size).length) _ _ h2
    rwa [size_len] at this

/-- A number that was cut is ErrShort. -/
theorem scanV_short : ∀ (f a k v u : Nat) (x y : List UInt8), k + f = 9 → varF f u = x ++ y → y ≠ [] → scanV a k v x = (0, 0, 31)
  | f, a, k, v, u, [], y, hk, h, hy => rfl
  | 0, a, k, v, u, c :: x, y, hk, h, hy => by
    have he : varF 0 u = [UInt8.ofNat u] := rfl
    rw [he] at h
    simp at h
    exact absurd h.2.2 hy
  | f + 1, a, k, v, u, c :: x, y, hk, h, hy => by
    by_cases hs : u < 128
    · rw [varF_low _ _ hs] at h
      simp at h
      exact absurd h.2.2 hy
    · rw [varF_high _ _ hs, List.cons_append] at h
      obtain ⟨rfl, h2⟩ := List.cons.inj h
      have hn : (UInt8.ofNat (u % 128 + 128)).toNat = u % 128 + 128 := by simp; omega
      unfold scanV
      simp only [hn]
      rw [if_neg (by omega), if_neg (by omega)]
      exact scanV_short f a (k + 1) _ (u / 128) x y (by omega) h2 hy
theorem pNum_short {b : ByteArray} {most : Nat} {E : Int} {a : Nat} {n : Int} {y : List UInt8} (h0 : 0 ≤ n) (h1 : n ≤ 9223372036854775807) (ha : a ≤ b.size) (h : vNum n = tl b a ++ y) (hy : y ≠ []) :
    pNum b most E (.ok a) = (.error 31, 0) := by
  obtain ⟨v, rfl⟩ : ∃ v : Nat, n = v := ⟨n.toNat, by omega⟩
  have hw : IntKind.u64.wrap (v : Int) = (v : Int) := by rw [IntKind.wrap_u64]; omega
  have hv : vNum (v : Int) = varB v := by unfold vNum; rw [hw]; rfl
  rw [hv] at h
  have hr : varR b.data.toList a = (0, 0, 31) := by
    unfold varR
    rw [if_neg (by rw [size_len]; omega)]
    simp only [Int.toNat_natCast]
    exact scanV_short 9 a 0 0 v _ y (by omega) h hy
  unfold pNum
  simp only [hr]
  rw [if_pos (by decide)]
/-- A text that was cut is ErrShort. -/
theorem pText_short {b : ByteArray} {a : Nat} {c : ByteArray} {y : List UInt8} (hc : c.size ≤ 65536) (ha : a ≤ b.size) (h : vNum c.size ++ c.data.toList = tl b a ++ y) (hy : y ≠ []) :
    pText b (.ok a) = (.error 31, ⟨#[]⟩) := by
  rcases Nat.lt_or_ge (tl b a).length (vNum c.size).length with hl | hl
  · have h2 : vNum c.size = tl b a ++ (vNum c.size).drop (tl b a).length := by
      have h3 := congrArg (List.take (vNum c.size).length) h
      rw [List.take_left] at h3
      have h4 := congrArg (List.take (tl b a).length) h
      rw [List.take_left, List.take_append_of_le_length (by omega)] at h4
      conv => lhs; rw [← List.take_append_drop (tl b a).length (vNum c.size)]
      rw [h4]
    have hne : (vNum c.size).drop (tl b a).length ≠ [] := by
      intro e
      rw [List.drop_eq_nil_iff] at e
      omega
    unfold pText
    rw [pNum_short (by omega) (by omega) ha h2 hne]
  · have h2 : tl b a = vNum c.size ++ (tl b a).drop (vNum c.size).length := by
      have h4 := congrArg (List.take (vNum c.size).length) h
      rw [List.take_left, List.take_append_of_le_length hl] at h4
      conv => lhs; rw [← List.take_append_drop (vNum c.size).length (tl b a)]
      rw [← h4]
    obtain ⟨h3, h5⟩ := pNum_fwd (most := 65536) (E := 36) (n := c.size) (by decide) (by omega) (by omega) ha h2
    have hlen := congrArg List.length h
    rw [List.length_append, List.length_append, size_len] at hlen
    have hyl : 0 < y.length := List.length_pos_iff.2 hy
    have htl : (tl b a).length = b.size - a := by unfold tl; rw [List.length_drop, size_len]
    have hn := pNum_ok h3
    unfold pText
    rw [h3]
    simp only
    rw [if_pos (by omega)]

/-- The two bytes ahead are read as they were. -/
theorem head_fwd {b : ByteArray} {l op : Int} {rest : List UInt8} (hl : 0 ≤ l ∧ l < 256) (hop : 1 ≤ op ∧ op ≤ 9) (h : b.data.toList = UInt8.ofNat l.toNat :: UInt8.ofNat op.toNat :: rest) :
    hd2 b l = .ok 2 ∧ hdv b l = op ∧ tl b 2 = rest := by
  have hs : b.size = rest.length + 2 := by rw [← size_len, h]; rfl
  have h0 : bat b 0 = l := by
    unfold bat
    rw [h]
    simp
    omega
  have h1 : bat b 1 = op := by
    unfold bat
    rw [h]
    simp
    omega
  have hp : pHead b l = (.ok 2, op) := by
    unfold pHead
    rw [if_neg (by omega), if_neg (by rw [h0]; simp), if_neg (by omega), h1, if_neg (by omega)]
  rw [pHead_eq] at hp
  obtain ⟨e1, e2⟩ := Prod.mk.inj hp
  refine ⟨e1, e2, ?_⟩
  unfold tl
  rw [h]
  rfl
/-- .. cut. -/
theorem head_short {b : ByteArray} {l : Int} (hl : 0 ≤ l ∧ l < 256) (h : b.data.toList = [UInt8.ofNat l.toNat]) : hd2 b l = .error 31 := by
  have hs : b.size = 1 := by rw [← size_len, h]; rfl
  have h0 : bat b 0 = l := by
    unfold bat
    rw [h]
    simp
    omega
  have hp : pHead b l = (.error 31, 0) := by
    unfold pHead
    rw [if_neg (by omega), if_neg (by rw [h0]; simp), if_pos hs]
  rw [pHead_eq] at hp
  exact (Prod.mk.inj hp).1
/-- A byte behind. -/
theorem pEnd_more {b : ByteArray} {a : Nat} {x : UInt8} {rest : List UInt8} (h : tl b a = x :: rest) : pEnd b (.ok a) = 37 := by
  have hl := congrArg List.length h
  unfold tl at hl
  rw [List.length_drop, size_len, List.length_cons] at hl
  unfold pEnd
  simp only
  rw [if_pos (by omega)]
theorem pEnd_done {b : ByteArray} {a : Nat} (h : tl b a = []) : pEnd b (.ok a) = 0 := by
  unfold tl at h
  rw [List.drop_eq_nil_iff, size_len] at h
  unfold pEnd
  simp only
  rw [if_neg (by omega)]
end Go.Proofs.Ytabhjkaheghbhaa
