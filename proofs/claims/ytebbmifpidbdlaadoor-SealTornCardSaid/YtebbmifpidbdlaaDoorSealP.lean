/-
  PLAIN LAWS: what was made is read back; what is taken is a frame; a torn frame is refused (no program in sight).
-/
import Derived.Test.YtebbmifpidbdlaaDoorParseP
namespace Go.Proofs.YtebbmifpidbdlaaDoor
set_option linter.unusedVariables false

theorem numB_fixed4 (v : Nat) (h : v < 4294967296) : numB 0 (fixedB v 4) = v := by
  have e : fixedB v 4 = [byteAt v 3, byteAt v 2, byteAt v 1, byteAt v 0] := rfl
  rw [e]
  simp only [numB, List.foldl_cons, List.foldl_nil, byteAt_toNat]
  have h3 : (2 : Nat) ^ (8 * 3) = 16777216 := by decide
  have h2 : (2 : Nat) ^ (8 * 2) = 65536 := by decide
  have h1 : (2 : Nat) ^ (8 * 1) = 256 := by decide
  have h0 : (2 : Nat) ^ (8 * 0) = 1 := by decide
  rw [h3, h2, h1, h0]
  omega
theorem fixed4_numB (l : List UInt8) (h : l.length = 4) : fixedB (numB 0 l) 4 = l := by
  match l, h with
  | [c0, c1, c2, c3], _ =>
    have e : fixedB (numB 0 [c0, c1, c2, c3]) 4 = [byteAt (numB 0 [c0, c1, c2, c3]) 3, byteAt (numB 0 [c0, c1, c2, c3]) 2, byteAt (numB 0 [c0, c1, c2, c3]) 1, byteAt (numB 0 [c0, c1, c2, c3]) 0] := rfl
    rw [e]
    have h0 := c0.toNat_lt
    have h1 := c1.toNat_lt
    have h2 := c2.toNat_lt
    have h3 := c3.toNat_lt
    have hn : numB 0 [c0, c1, c2, c3] = 16777216 * c0.toNat + 65536 * c1.toNat + 256 * c2.toNat + c3.toNat := by
      simp only [numB, List.foldl_cons, List.foldl_nil]; omega
    have k : ∀ (c : UInt8) (j : Nat), numB 0 [c0, c1, c2, c3] / 2 ^ (8 * j) % 256 = c.toNat → byteAt (numB 0 [c0, c1, c2, c3]) j = c := by
      intro c j hj
      apply UInt8.toNat_inj.1
      rw [byteAt_toNat]; exact hj
    have e3 : (2 : Nat) ^ (8 * 3) = 16777216 := by decide
    have e2 : (2 : Nat) ^ (8 * 2) = 65536 := by decide
    have e1 : (2 : Nat) ^ (8 * 1) = 256 := by decide
    have e0 : (2 : Nat) ^ (8 * 0) = 1 := by decide
    rw [k c0 3 (by rw [hn, e3]; omega), k c1 2 (by rw [hn, e2]; omega), k c2 1 (by rw [hn, e1]; omega), k c3 0 (by rw [hn, e0]; omega)]

/-- The parts of a frame with something behind it. -/
theorem frame_parts (k : Nat) (p y : List UInt8) (hk : 1 ≤ k) (hk2 : k ≤ 255) (hp : p.length ≤ 65536) :
    (frameB k p ++ y) ≠ [] ∧ (frameB k p ++ y).getD 0 0 = 167 ∧ 14 + p.length ≤ (frameB k p ++ y).length ∧ (frameB k p ++ y).take 6 = headB k p.length ∧
    ((frameB k p ++ y).drop 6).take 4 = sumB (headB k p.length) ∧ (frameB k p ++ y).getD 1 0 = UInt8.ofNat k ∧ ((frameB k p ++ y).drop 2).take 4 = fixedB p.length 4 ∧
    ((frameB k p ++ y).drop 10).take p.length = p ∧ ((frameB k p ++ y).drop (10 + p.length)).take 4 = sumB (headB k p.length ++ p) := by
  have hl := headB_length k p.length
  have hs := sumB_length (headB k p.length)
  have hs2 := sumB_length (headB k p.length ++ p)
  have hhead : headB k p.length = 167 :: UInt8.ofNat k :: fixedB p.length 4 := rfl
  have hfl := fixedB_length p.length 4
  refine ⟨by simp [frameB, hhead], by simp [frameB, hhead], by simp [frameB_length]; omega, ?_, ?_, by simp [frameB, hhead], ?_, ?_, ?_⟩
  · simp only [frameB, List.append_assoc]
    rw [List.take_append_of_le_length (by omega), List.take_of_length_le (by omega)]
  · simp only [frameB, List.append_assoc]
    rw [List.drop_append_of_le_length (by omega), List.drop_of_length_le (by omega), List.nil_append, List.take_append_of_le_length (by omega), List.take_of_length_le (by omega)]
  · simp only [frameB, hhead, List.cons_append, List.drop_succ_cons, List.drop_zero, List.append_assoc]
    rw [List.take_append_of_le_length (by omega), List.take_of_length_le (by omega)]
  · have e : frameB k p ++ y = (headB k p.length ++ sumB (headB k p.length)) ++ (p ++ (sumB (headB k p.length ++ p) ++ y)) := by simp [frameB]
    rw [e, List.drop_append_of_le_length (by simp; omega), List.drop_of_length_le (by simp; omega), List.nil_append, List.take_append_of_le_length (by omega), List.take_of_length_le (by omega)]
  · have e : frameB k p ++ y = (headB k p.length ++ sumB (headB k p.length) ++ p) ++ (sumB (headB k p.length ++ p) ++ y) := by simp [frameB]
    rw [e, List.drop_append_of_le_length (by simp; omega), List.drop_of_length_le (by simp; omega), List.nil_append, List.take_append_of_le_length (by omega), List.take_of_length_le (by omega)]

/-- What was made is read back, whatever stands behind it. -/
theorem parse_frame (a k : Nat) (p y : List UInt8) (hk : 1 ≤ k) (hk2 : k ≤ 255) (hp : p.length ≤ 65536) :
    parseAt a (frameB k p ++ y) = ((k : Int), p, ((a + p.length + 14 : Nat) : Int), 0) := by
  obtain ⟨h0, h1, h2, h3, h4, h5, h6, h7, h8⟩ := frame_parts k p y hk hk2 hp
  unfold parseAt
  rw [h6, numB_fixed4 _ (by omega), h1, h3, h4, h5, h7, h8]
  have hk' : (UInt8.ofNat k).toNat = k := by simp; omega
  rw [if_neg h0, if_neg (by decide), if_neg (by omega), if_neg (by simp), if_neg (by omega), if_neg (by omega), if_neg (by omega), if_neg (by simp), hk']

/-- What is taken is a frame. -/
theorem parse_only (a : Nat) (r : List UInt8) (x : Int × List UInt8 × Int × Int) (h : parseAt a r = x) (h0 : x.2.2.2 = 0) :
    ∃ (k : Nat), 1 ≤ k ∧ k ≤ 255 ∧ x.1 = (k : Int) ∧ x.2.1.length ≤ 65536 ∧ x.2.2.1 = ((a + x.2.1.length + 14 : Nat) : Int) ∧ r.take (x.2.1.length + 14) = frameB k x.2.1 ∧ x.2.1.length + 14 ≤ r.length := by
  unfold parseAt at h
  by_cases c0 : r = []
  · rw [if_pos c0] at h; subst h; cases h0
  rw [if_neg c0] at h
  by_cases c1 : (r.getD 0 0).toNat ≠ 167
  · rw [if_pos c1] at h; subst h; cases h0
  rw [if_neg c1] at h
  by_cases c2 : r.length < 10
  · rw [if_pos c2] at h; subst h; cases h0
  rw [if_neg c2] at h
  by_cases c3 : (r.drop 6).take 4 ≠ sumB (r.take 6)
  · rw [if_pos c3] at h; subst h; cases h0
  rw [if_neg c3] at h
  by_cases c4 : (r.getD 1 0).toNat = 0
  · rw [if_pos c4] at h; subst h; cases h0
  rw [if_neg c4] at h
  obtain ⟨n, hn⟩ : ∃ n, numB 0 ((r.drop 2).take 4) = n := ⟨_, rfl⟩
  rw [hn] at h
  by_cases c5 : 65536 < n
  · rw [if_pos c5] at h; subst h; cases h0
  rw [if_neg c5] at h
  by_cases c6 : r.length < n + 14
  · rw [if_pos c6] at h; subst h; cases h0
  rw [if_neg c6] at h
  by_cases c7 : (r.drop (10 + n)).take 4 ≠ sumB (r.take 6 ++ (r.drop 10).take n)
  · rw [if_pos c7] at h; subst h; cases h0
  rw [if_neg c7] at h
  subst h
  have c3' : (r.drop 6).take 4 = sumB (r.take 6) := by simpa using c3
  have c7' : (r.drop (10 + n)).take 4 = sumB (r.take 6 ++ (r.drop 10).take n) := by simpa using c7
  have hlen : ((r.drop 10).take n).length = n := by simp; omega
  have hb := (r.getD 1 0).toNat_lt
  refine ⟨(r.getD 1 0).toNat, by omega, by omega, rfl, by simp only [hlen]; omega, by simp only [hlen], ?_, by simp only [hlen]; omega⟩
  simp only [hlen]
  have hh : r.take 6 = headB (r.getD 1 0).toNat n := by
    match r, c2 with
    | b0 :: b1 :: b2 :: b3 :: b4 :: b5 :: rest, _ =>
      have e0 : b0 = 167 := by
        apply UInt8.toNat_inj.1
        have : b0.toNat = 167 := by simpa using c1
        rw [this]; rfl
      have e2 := fixed4_numB [b2, b3, b4, b5] rfl
      have hn' : numB 0 [b2, b3, b4, b5] = n := hn
      rw [hn'] at e2
      have hd : headB b1.toNat n = 167 :: UInt8.ofNat b1.toNat :: fixedB n 4 := rfl
      show [b0, b1, b2, b3, b4, b5] = headB b1.toNat n
      rw [hd, e2, e0]
      first | rfl | simp
    | [], h => exact absurd (by simp) h
    | [_], h => exact absurd (by simp) h
    | [_, _], h => exact absurd (by simp) h
    | [_, _, _], h => exact absurd (by simp) h
    | [_, _, _, _], h => exact absurd (by simp) h
    | [_, _, _, _, _], h => exact absurd (by simp) h
  have split1 : r.take (n + 14) = r.take 6 ++ ((r.drop 6).take 4 ++ ((r.drop 10).take n ++ (r.drop (10 + n)).take 4)) := by
    have s1 : ∀ (l : List UInt8) (i j : Nat), l.take (i + j) = l.take i ++ (l.drop i).take j := fun l i j => List.take_add ..
    rw [show n + 14 = 6 + (4 + (n + 4)) by omega, s1, s1, s1]
    simp only [List.drop_drop]
  rw [split1, c3', c7', hh]
  unfold frameB
  rw [hlen]
  simp only [List.append_assoc]

/-- A frame that is cut short is refused, its last byte whatever it may. -/
theorem parse_torn (a k : Nat) (p : List UInt8) (hk : 1 ≤ k) (hk2 : k ≤ 255) (hp : p.length ≤ 65536) (cut : Nat) (hc : cut < (frameB k p).length) (c : UInt8) :
    (parseAt a (((frameB k p).take cut).set (cut - 1) c)).2.2.2 ≠ 0 := by
  intro h0
  obtain ⟨t, ht⟩ : ∃ t, ((frameB k p).take cut).set (cut - 1) c = t := ⟨_, rfl⟩
  rw [ht] at h0
  obtain ⟨k', g1, g2, g3, g4, g5, g6, g7⟩ := parse_only a t _ rfl h0
  have htl : t.length = cut := by rw [← ht]; simp; omega
  have hfl := frameB_length k p
  -- the first ten bytes but the last one of the text are the frame's
  have hpref : ∀ i, i < cut - 1 → t.getD i 0 = (frameB k p).getD i 0 := by
    intro i hi
    rw [← ht]
    simp only [List.getD]
    rw [List.getElem?_set_ne (by omega), List.getElem?_take, if_pos (by omega)]
  have h14 : 14 ≤ cut := by omega
  -- so the length that stands there is the frame's
  have hparts := frame_parts k p [] hk hk2 hp
  simp only [List.append_nil] at hparts
  have hlen4 : (t.drop 2).take 4 = fixedB p.length 4 := by
    rw [← hparts.2.2.2.2.2.2.1]
    apply List.ext_getElem?
    intro i
    by_cases hi : i < 4
    · have := hpref (2 + i) (by omega)
      simp only [List.getD] at this
      rw [List.getElem?_take, List.getElem?_take, if_pos hi, if_pos hi, List.getElem?_drop, List.getElem?_drop]
      rw [List.getElem?_eq_getElem (by omega), List.getElem?_eq_getElem (by omega)] at this ⊢
      simpa using this
    · rw [List.getElem?_take, List.getElem?_take, if_neg hi, if_neg hi]
  have hfr := frame_parts k' (parseAt a t).2.1 (t.drop ((parseAt a t).2.1.length + 14)) g1 g2 g4
  rw [← g6, List.take_append_drop] at hfr
  have e := hfr.2.2.2.2.2.2.1
  rw [hlen4] at e
  have e2 := congrArg (numB 0) e
  rw [numB_fixed4 _ (by omega), numB_fixed4 _ (by omega)] at e2
  omega
end Go.Proofs.YtebbmifpidbdlaaDoor
