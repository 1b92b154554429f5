/-
  PLAIN LAWS: what taking a frame out of a text answers (no program in sight).
  PLAIN LAWS: what was made is read back; what is taken is a frame; a torn frame is refused (no program in sight).
  PLAIN LAWS on the frames that stand one behind the other (no program in sight).
  PLAIN LAWS: bits turned within 32 change a sum; a frame in which they are turned is refused (no program in sight).
  PLAIN LAWS: frames one behind the other, told; two such texts; one in which a byte is another.
  WALKS: taking a frame out of a text.
  WALKS: taking a frame out of a text, by the document's answer.
  WALKS: Frames, by the program and by the document. The text is of at most 2^40 bytes; or of any length below 2^62, with at most 2^42 frames.
-/
import Derived.Test.YtihgjihdmlomaaaDoorJB
import Derived.Deep.QuietTactic
import Derived.BigQuiet
import Derived.IntWalk
import Derived.Test.YtihgjihdmlomaaaDoorJA
namespace Go.Proofs.YtihgjihdmlomaaaDoor

/-- What stands at the beginning of r, r beginning at place a: its kind, its payload, the place behind it, the refusal. -/
def parseAt (a : Nat) (r : List UInt8) : Int × List UInt8 × Int × Int :=
  if r = [] then (0, [], 0, 31)
  else if (r.getD 0 0).toNat ≠ 167 then (0, [], 0, 33)
  else if r.length < 10 then (0, [], 0, 31)
  else if (r.drop 6).take 4 ≠ sumB (r.take 6) then (0, [], 0, 34)
  else if (r.getD 1 0).toNat = 0 then (0, [], 0, 35)
  else if 65536 < numB 0 ((r.drop 2).take 4) then (0, [], 0, 36)
  else if r.length < numB 0 ((r.drop 2).take 4) + 14 then (0, [], 0, 31)
  else if (r.drop (10 + numB 0 ((r.drop 2).take 4))).take 4 ≠ sumB (r.take 6 ++ (r.drop 10).take (numB 0 ((r.drop 2).take 4))) then (0, [], 0, 34)
  else (((r.getD 1 0).toNat : Int), (r.drop 10).take (numB 0 ((r.drop 2).take 4)), ((a + numB 0 ((r.drop 2).take 4) + 14 : Nat) : Int), 0)
def parseR (b : List UInt8) (at_ : Int) : Int × List UInt8 × Int × Int :=
  if at_ < 0 ∨ (b.length : Int) < at_ then (0, [], 0, 13) else parseAt at_.toNat (b.drop at_.toNat)

/-- Four bytes as a number, the lowest first. -/
def leN (l : List UInt8) : Nat := (l.getD 0 0).toNat + 256 * (l.getD 1 0).toNat + 65536 * (l.getD 2 0).toNat + 16777216 * (l.getD 3 0).toNat
theorem leN_lt (l : List UInt8) : leN l < 4294967296 := by
  unfold leN
  have h0 := (l.getD 0 0).toNat_lt
  have h1 := (l.getD 1 0).toNat_lt
  have h2 := (l.getD 2 0).toNat_lt
  have h3 := (l.getD 3 0).toNat_lt
  omega
theorem ofNat_eq (c : UInt8) (n : Nat) (h : c.toNat = n % 256) : c = UInt8.ofNat n := by
  apply UInt8.toNat_inj.1
  rw [h]; simp
theorem leN_eq (l : List UInt8) (h : l.length = 4) (s : Nat) (hs : s < 4294967296) : leN l = s ↔ l = le32 s := by
  match l, h with
  | [c0, c1, c2, c3], _ =>
    have h0 := c0.toNat_lt
    have h1 := c1.toNat_lt
    have h2 := c2.toNat_lt
    have h3 := c3.toNat_lt
    constructor
    · intro e
      unfold leN at e
      simp only [List.getD_cons_zero, List.getD_cons_succ] at e
      unfold le32
      rw [← ofNat_eq c0 s (by omega), ← ofNat_eq c1 (s / 256) (by omega), ← ofNat_eq c2 (s / 65536) (by omega), ← ofNat_eq c3 (s / 16777216) (by omega)]
    · intro e
      rw [e]
      unfold leN le32
      simp only [List.getD_cons_zero, List.getD_cons_succ, UInt8.toNat_ofNat']
      omega

/-- What the document's answer asks first: how many bytes the payload has, or the refusal. -/
def begunR (r : List UInt8) : Int × Int :=
  if r = [] then (0, 31)
  else if (r.getD 0 0).toNat ≠ 167 then (0, 33)
  else if r.length < 10 then (0, 31)
  else if leN ((r.drop 6).take 4) ≠ Crc.on 0 (r.take 6) then (0, 34)
  else if (r.getD 1 0).toNat = 0 then (0, 35)
  else if 65536 < numB 0 ((r.drop 2).take 4) then (0, 36) else ((numB 0 ((r.drop 2).take 4) : Nat), 0)
theorem parse_begun (a : Nat) (r : List UInt8) :
    ((begunR r).2 ≠ 0 → parseAt a r = (0, [], 0, (begunR r).2)) ∧
    ((begunR r).2 = 0 → ∃ n : Nat, (begunR r).1 = n ∧ n ≤ 65536 ∧ 10 ≤ r.length ∧ 
      parseAt a r = if r.length < n + 14 then (0, [], 0, 31)
        else if leN ((r.drop (10 + n)).take 4) ≠ Crc.on 0 (r.take 6 ++ (r.drop 10).take n) then (0, [], 0, 34)
        else (((r.getD 1 0).toNat : Int), (r.drop 10).take n, ((a + n + 14 : Nat) : Int), 0)) := by
  unfold begunR parseAt
  by_cases h0 : r = []
  · simp [h0]
  rw [if_neg h0, if_neg h0]
  by_cases h1 : (r.getD 0 0).toNat ≠ 167
  · rw [if_pos h1, if_pos h1]; exact ⟨fun _ => rfl, fun h => by cases h⟩
  rw [if_neg h1, if_neg h1]
  by_cases h2 : r.length < 10
  · rw [if_pos h2, if_pos h2]; exact ⟨fun _ => rfl, fun h => by cases h⟩
  rw [if_neg h2, if_neg h2]
  have hs : leN ((r.drop 6).take 4) = Crc.on 0 (r.take 6) ↔ (r.drop 6).take 4 = sumB (r.take 6) := leN_eq ((r.drop 6).take 4) (by simp; omega) (Crc.on 0 (r.take 6)) (Crc.on_lt _ _ (by decide))
  by_cases h3 : leN ((r.drop 6).take 4) = Crc.on 0 (r.take 6)
  rotate_left
  · rw [if_pos h3, if_pos (fun h => h3 (hs.2 h) : (r.drop 6).take 4 ≠ sumB (r.take 6))]; exact ⟨fun _ => rfl, fun h => by cases h⟩
  rw [if_neg (fun h => h h3 : ¬ (leN ((r.drop 6).take 4) ≠ Crc.on 0 (r.take 6))), if_neg (fun h => h (hs.1 h3) : ¬ ((r.drop 6).take 4 ≠ sumB (r.take 6)))]
  by_cases h4 : (r.getD 1 0).toNat = 0
  · rw [if_pos h4, if_pos h4]; exact ⟨fun _ => rfl, fun h => by cases h⟩
  rw [if_neg h4, if_neg h4]
  generalize numB 0 ((r.drop 2).take 4) = n
  by_cases h5 : 65536 < n
  · rw [if_pos h5, if_pos h5]; exact ⟨fun _ => rfl, fun h => by cases h⟩
  rw [if_neg h5, if_neg h5]
  refine ⟨fun h => absurd rfl h, fun _ => ⟨n, rfl, by omega, by omega, ?_⟩⟩
  by_cases h6 : r.length < n + 14
  · rw [if_pos h6, if_pos h6]
  rw [if_neg h6, if_neg h6]
  have hs2 : leN ((r.drop (10 + n)).take 4) = Crc.on 0 (r.take 6 ++ (r.drop 10).take n) ↔ (r.drop (10 + n)).take 4 = sumB (r.take 6 ++ (r.drop 10).take n) := leN_eq ((r.drop (10 + n)).take 4) (by simp; omega) (Crc.on 0 (r.take 6 ++ (r.drop 10).take n)) (Crc.on_lt _ _ (by decide))
  by_cases h7 : leN ((r.drop (10 + n)).take 4) = Crc.on 0 (r.take 6 ++ (r.drop 10).take n)
  · rw [if_neg (fun h => h h7 : ¬ (leN ((r.drop (10 + n)).take 4) ≠ Crc.on 0 (r.take 6 ++ (r.drop 10).take n))), if_neg (fun h => h (hs2.1 h7) : ¬ ((r.drop (10 + n)).take 4 ≠ sumB (r.take 6 ++ (r.drop 10).take n)))]
  · rw [if_pos h7, if_pos (fun h => h7 (hs2.2 h) : (r.drop (10 + n)).take 4 ≠ sumB (r.take 6 ++ (r.drop 10).take n))]
end Go.Proofs.YtihgjihdmlomaaaDoor

namespace Go.Proofs.YtihgjihdmlomaaaDoor
set_option linter.unusedVariables false

theorem numB_fixed4 (v : Nat) (h : v < 4294967296) : numB 0 (fixedB v 4) = v := by
  have e : fixedB v 4 = [byteAt v 3, byteAt v 2, byteAt v 1, byteAt v 0] := rfl
  rw [e]
  simp only [numB, List.foldl_cons, List.foldl_nil, byteAt_toNat]
  have h3 : (2 : Nat) ^ (8 * 3) = 16777216 := by decide
  have h2 : (2 : Nat) ^ (8 * 2) = 65536 := by decide
  have h1 : (2 : Nat) ^ (8 * 1) = 256 := by decide
  have h0 : (2 : Nat) ^ (8 * 0) = 1 := by decide
  rw [h3, h2, h1, h0]
  omega
theorem fixed4_numB (l : List UInt8) (h : l.length = 4) : fixedB (numB 0 l) 4 = l := by
  match l, h with
  | [c0, c1, c2, c3], _ =>
    have e : fixedB (numB 0 [c0, c1, c2, c3]) 4 = [byteAt (numB 0 [c0, c1, c2, c3]) 3, byteAt (numB 0 [c0, c1, c2, c3]) 2, byteAt (numB 0 [c0, c1, c2, c3]) 1, byteAt (numB 0 [c0, c1, c2, c3]) 0] := rfl
    rw [e]
    have h0 := c0.toNat_lt
    have h1 := c1.toNat_lt
    have h2 := c2.toNat_lt
    have h3 := c3.toNat_lt
    have hn : numB 0 [c0, c1, c2, c3] = 16777216 * c0.toNat + 65536 * c1.toNat + 256 * c2.toNat + c3.toNat := by
      simp only [numB, List.foldl_cons, List.foldl_nil]; omega
    have k : ∀ (c : UInt8) (j : Nat), numB 0 [c0, c1, c2, c3] / 2 ^ (8 * j) % 256 = c.toNat → byteAt (numB 0 [c0, c1, c2, c3]) j = c := by
      intro c j hj
      apply UInt8.toNat_inj.1
      rw [byteAt_toNat]; exact hj
    have e3 : (2 : Nat) ^ (8 * 3) = 16777216 := by decide
    have e2 : (2 : Nat) ^ (8 * 2) = 65536 := by decide
    have e1 : (2 : Nat) ^ (8 * 1) = 256 := by decide
    have e0 : (2 : Nat) ^ (8 * 0) = 1 := by decide
    rw [k c0 3 (by rw [hn, e3]; omega), k c1 2 (by rw [hn, e2]; omega), k c2 1 (by rw [hn, e1]; omega), k c3 0 (by rw [hn, e0]; omega)]

/-- The parts of a frame with something behind it. -/
theorem frame_parts (k : Nat) (p y : List UInt8) (hk : 1 ≤ k) (hk2 : k ≤ 255) (hp : p.length ≤ 65536) :
    (frameB k p ++ y) ≠ [] ∧ (frameB k p ++ y).getD 0 0 = 167 ∧ 14 + p.length ≤ (frameB k p ++ y).length ∧ (frameB k p ++ y).take 6 = headB k p.length ∧
    ((frameB k p ++ y).drop 6).take 4 = sumB (headB k p.length) ∧ (frameB k p ++ y).getD 1 0 = UInt8.ofNat k ∧ ((frameB k p ++ y).drop 2).take 4 = fixedB p.length 4 ∧
    ((frameB k p ++ y).drop 10).take p.length = p ∧ ((frameB k p ++ y).drop (10 + p.length)).take 4 = sumB (headB k p.length ++ p) := by
  have hl := headB_length k p.length
  have hs := sumB_length (headB k p.length)
  have hs2 := sumB_length (headB k p.length ++ p)
  have hhead : headB k p.length = 167 :: UInt8.ofNat k :: fixedB p.length 4 := rfl
  have hfl := fixedB_length p.length 4
  refine ⟨by simp [frameB, hhead], by simp [frameB, hhead], by simp [frameB_length]; omega, ?_, ?_, by simp [frameB, hhead], ?_, ?_, ?_⟩
  · simp only [frameB, List.append_assoc]
    rw [List.take_append_of_le_length (by omega), List.take_of_length_le (by omega)]
  · simp only [frameB, List.append_assoc]
    rw [List.drop_append_of_le_length (by omega), List.drop_of_length_le (by omega), List.nil_append, List.take_append_of_le_length (by omega), List.take_of_length_le (by omega)]
  · simp only [frameB, hhead, List.cons_append, List.drop_succ_cons, List.drop_zero, List.append_assoc]
    rw [List.take_append_of_le_length (by omega), List.take_of_length_le (by omega)]
  · have e : frameB k p ++ y = (headB k p.length ++ sumB (headB k p.length)) ++ (p ++ (sumB (headB k p.length ++ p) ++ y)) := by simp [frameB]
    rw [e, List.drop_append_of_le_length (by simp; omega), List.drop_of_length_le (by simp; omega), List.nil_append, List.take_append_of_le_length (by omega), List.take_of_length_le (by omega)]
  · have e : frameB k p ++ y = (headB k p.length ++ sumB (headB k p.length) ++ p) ++ (sumB (headB k p.length ++ p) ++ y) := by simp [frameB]
    rw [e, List.drop_append_of_le_length (by simp; omega), List.drop_of_length_le (by simp; omega), List.nil_append, List.take_append_of_le_length (by omega), List.take_of_length_le (by omega)]

/-- What was made is read back, whatever stands behind it. -/
theorem parse_frame (a k : Nat) (p y : List UInt8) (hk : 1 ≤ k) (hk2 : k ≤ 255) (hp : p.length ≤ 65536) :
    parseAt a (frameB k p ++ y) = ((k : Int), p, ((a + p.length + 14 : Nat) : Int), 0) := by
  obtain ⟨h0, h1, h2, h3, h4, h5, h6, h7, h8⟩ := frame_parts k p y hk hk2 hp
  unfold parseAt
  rw [h6, numB_fixed4 _ (by omega), h1, h3, h4, h5, h7, h8]
  have hk' : (UInt8.ofNat k).toNat = k := by simp; omega
  rw [if_neg h0, if_neg (by decide), if_neg (by omega), if_neg (by simp), if_neg (by omega), if_neg (by omega), if_neg (by omega), if_neg (by simp), hk']

/-- What is taken is a frame. -/
theorem parse_only (a : Nat) (r : List UInt8) (x : Int × List UInt8 × Int × Int) (h : parseAt a r = x) (h0 : x.2.2.2 = 0) :
    ∃ (k : Nat), 1 ≤ k ∧ k ≤ 255 ∧ x.1 = (k : Int) ∧ x.2.1.length ≤ 65536 ∧ x.2.2.1 = ((a + x.2.1.length + 14 : Nat) : Int) ∧ r.take (x.2.1.length + 14) = frameB k x.2.1 ∧ x.2.1.length + 14 ≤ r.length := by
  unfold parseAt at h
  by_cases c0 : r = []
  · rw [if_pos c0] at h; subst h; cases h0
  rw [if_neg c0] at h
  by_cases c1 : (r.getD 0 0).toNat ≠ 167
  · rw [if_pos c1] at h; subst h; cases h0
  rw [if_neg c1] at h
  by_cases c2 : r.length < 10
  · rw [if_pos c2] at h; subst h; cases h0
  rw [if_neg c2] at h
  by_cases c3 : (r.drop 6).take 4 ≠ sumB (r.take 6)
  · rw [if_pos c3] at h; subst h; cases h0
  rw [if_neg c3] at h
  by_cases c4 : (r.getD 1 0).toNat = 0
  · rw [if_pos c4] at h; subst h; cases h0
  rw [if_neg c4] at h
  obtain ⟨n, hn⟩ : ∃ n, numB 0 ((r.drop 2).take 4) = n := ⟨_, rfl⟩
  rw [hn] at h
  by_cases c5 : 65536 < n
  · rw [if_pos c5] at h; subst h; cases h0
  rw [if_neg c5] at h
  by_cases c6 : r.length < n + 14
  · rw [if_pos c6] at h; subst h; cases h0
  rw [if_neg c6] at h
  by_cases c7 : (r.drop (10 + n)).take 4 ≠ sumB (r.take 6 ++ (r.drop 10).take n)
  · rw [if_pos c7] at h; subst h; cases h0
  rw [if_neg c7] at h
  subst h
  have c3' : (r.drop 6).take 4 = sumB (r.take 6) := by simpa using c3
  have c7' : (r.drop (10 + n)).take 4 = sumB (r.take 6 ++ (r.drop 10).take n) := by simpa using c7
  have hlen : ((r.drop 10).take n).length = n := by simp; omega
  have hb := (r.getD 1 0).toNat_lt
  refine ⟨(r.getD 1 0).toNat, by omega, by omega, rfl, by simp only [hlen]; omega, by simp only [hlen], ?_, by simp only [hlen]; omega⟩
  simp only [hlen]
  have hh : r.take 6 = headB (r.getD 1 0).toNat n := by
    match r, c2 with
    | b0 :: b1 :: b2 :: b3 :: b4 :: b5 :: rest, _ =>
      have e0 : b0 = 167 := by
        apply UInt8.toNat_inj.1
        have : b0.toNat = 167 := by simpa using c1
        rw [this]; rfl
      have e2 := fixed4_numB [b2, b3, b4, b5] rfl
      have hn' : numB 0 [b2, b3, b4, b5] = n := hn
      rw [hn'] at e2
      have hd : headB b1.toNat n = 167 :: UInt8.ofNat b1.toNat :: fixedB n 4 := rfl
      show [b0, b1, b2, b3, b4, b5] = headB b1.toNat n
      rw [hd, e2, e0]
      first | rfl | simp
    | [], h => exact absurd (by simp) h
    | [_], h => exact absurd (by simp) h
    | [_, _], h => exact absurd (by simp) h
    | [_, _, _], h => exact absurd (by simp) h
    | [_, _, _, _], h => exact absurd (by simp) h
    | [_, _, _, _, _], h => exact absurd (by simp) h
  have split1 : r.take (n + 14) = r.take 6 ++ ((r.drop 6).take 4 ++ ((r.drop 10).take n ++ (r.drop (10 + n)).take 4)) := by
    have s1 : ∀ (l : List UInt8) (i j : Nat), l.take (i + j) = l.take i ++ (l.drop i).take j := fun l i j => List.take_add ..
    rw [show n + 14 = 6 + (4 + (n + 4)) by omega, s1, s1, s1]
    simp only [List.drop_drop]
  rw [split1, c3', c7', hh]
  unfold frameB
  rw [hlen]
  simp only [List.append_assoc]

/-- A frame that is cut short is refused, its last byte whatever it may. -/
theorem parse_torn (a k : Nat) (p : List UInt8) (hk : 1 ≤ k) (hk2 : k ≤ 255) (hp : p.length ≤ 65536) (cut : Nat) (hc : cut < (frameB k p).length) (c : UInt8) :
    (parseAt a (((frameB k p).take cut).set (cut - 1) c)).2.2.2 ≠ 0 := by
  intro h0
  obtain ⟨t, ht⟩ : ∃ t, ((frameB k p).take cut).set (cut - 1) c = t := ⟨_, rfl⟩
  rw [ht] at h0
  obtain ⟨k', g1, g2, g3, g4, g5, g6, g7⟩ := parse_only a t _ rfl h0
  have htl : t.length = cut := by rw [← ht]; simp; omega
  have hfl := frameB_length k p
  -- the first ten bytes but the last one of the text are the frame's
  have hpref : ∀ i, i < cut - 1 → t.getD i 0 = (frameB k p).getD i 0 := by
    intro i hi
    rw [← ht]
    simp only [List.getD]
    rw [List.getElem?_set_ne (by omega), List.getElem?_take, if_pos (by omega)]
  have h14 : 14 ≤ cut := by omega
  -- so the length that stands there is the frame's
  have hparts := frame_parts k p [] hk hk2 hp
  simp only [List.append_nil] at hparts
  have hlen4 : (t.drop 2).take 4 = fixedB p.length 4 := by
    rw [← hparts.2.2.2.2.2.2.1]
    apply List.ext_getElem?
    intro i
    by_cases hi : i < 4
    · have := hpref (2 + i) (by omega)
      simp only [List.getD] at this
      rw [List.getElem?_take, List.getElem?_take, if_pos hi, if_pos hi, List.getElem?_drop, List.getElem?_drop]
      rw [List.getElem?_eq_getElem (by omega), List.getElem?_eq_getElem (by omega)] at this ⊢
      simpa using this
    · rw [List.getElem?_take, List.getElem?_take, if_neg hi, if_neg hi]
  have hfr := frame_parts k' (parseAt a t).2.1 (t.drop ((parseAt a t).2.1.length + 14)) g1 g2 g4
  rw [← g6, List.take_append_drop] at hfr
  have e := hfr.2.2.2.2.2.2.1
  rw [hlen4] at e
  have e2 := congrArg (numB 0) e
  rw [numB_fixed4 _ (by omega), numB_fixed4 _ (by omega)] at e2
  omega
end Go.Proofs.YtihgjihdmlomaaaDoor

namespace Go.Proofs.YtihgjihdmlomaaaDoor
set_option linter.unusedVariables false

/-- What a text tells that stands at a place, up to n frames. -/
def frGo (b : List UInt8) : Nat → Nat → List (Int × List UInt8 × Nat) × Nat
  | 0, a => ([], a)
  | n + 1, a => if (parseR b a).2.2.2 ≠ 0 then ([], a) else
      (((parseR b a).1, (parseR b a).2.1, a) :: (frGo b n (a + (parseR b a).2.1.length + 14)).1, (frGo b n (a + (parseR b a).2.1.length + 14)).2)
/-- The frames of a text, and where they end. -/
def framesR (b : List UInt8) : List (Int × List UInt8 × Nat) × Nat := frGo b (b.length + 1) 0
theorem frGo_end (b : List UInt8) (n a : Nat) (h : (parseR b a).2.2.2 ≠ 0) : frGo b n a = ([], a) := by
  cases n with
  | zero => rfl
  | succ n => rw [frGo, if_pos h]
theorem frGo_step (b : List UInt8) (n a : Nat) (h : (parseR b a).2.2.2 = 0) : frGo b (n + 1) a = (((parseR b a).1, (parseR b a).2.1, a) :: (frGo b n (a + (parseR b a).2.1.length + 14)).1, (frGo b n (a + (parseR b a).2.1.length + 14)).2) := by
  rw [frGo, if_neg (by simpa using h)]
/-- What has been told so far, and what is still to be told. -/
def FrSo (b : List UInt8) (L : List (Int × List UInt8 × Nat)) (a n : Nat) : Prop :=
  framesR b = (L ++ (frGo b n a).1, (frGo b n a).2) ∧ L.length + n = b.length + 1 ∧ 14 * L.length ≤ a ∧ a ≤ b.length
theorem FrSo.start (b : List UInt8) : FrSo b [] 0 (b.length + 1) := ⟨rfl, by simp, by simp, Nat.zero_le _⟩
theorem FrSo.stop {b : List UInt8} {L : List (Int × List UInt8 × Nat)} {a n : Nat} (h : FrSo b L a n) (he : (parseR b a).2.2.2 ≠ 0) : framesR b = (L, a) := by
  rw [h.1, frGo_end b n a he, List.append_nil]
theorem parse_shape (r : List UInt8) (a : Nat) (x : Int × List UInt8 × Int × Int) (h : parseR r a = x) (h0 : x.2.2.2 = 0) : a ≤ r.length ∧ x.2.2.1 = ((a + x.2.1.length + 14 : Nat) : Int) ∧ a + x.2.1.length + 14 ≤ r.length := by
  unfold parseR at h
  by_cases c : (a : Int) < 0 ∨ (r.length : Int) < a
  · rw [if_pos c] at h; subst h; cases h0
  rw [if_neg c] at h
  obtain ⟨k, g1, g2, g3, g4, g5, g6, g7⟩ := parse_only _ _ x h h0
  simp only [Int.toNat_natCast] at g5
  simp at g7
  exact ⟨by omega, g5, by omega⟩
theorem FrSo.step {b : List UInt8} {L : List (Int × List UInt8 × Nat)} {a n : Nat} (h : FrSo b L a n) (he : (parseR b a).2.2.2 = 0) :
    ∃ m, FrSo b (L ++ [((parseR b a).1, (parseR b a).2.1, a)]) (a + (parseR b a).2.1.length + 14) m := by
  obtain ⟨h1, h2, h3, h4⟩ := h
  obtain ⟨_, _, g⟩ := parse_shape b a _ rfl he
  obtain ⟨m, rfl⟩ : ∃ m, n = m + 1 := ⟨n - 1, by omega⟩
  refine ⟨m, ?_, by simp; omega, by simp; omega, g⟩
  rw [h1, frGo_step b m a he]
  simp
theorem parse_at_end (b : List UInt8) : (parseR b b.length).2.2.2 ≠ 0 := by
  intro h
  obtain ⟨_, _, g⟩ := parse_shape b b.length _ rfl h
  omega
theorem framesR_le (b : List UInt8) : 14 * (framesR b).1.length ≤ b.length ∧ (framesR b).2 ≤ b.length := by
  have go : ∀ n a, a ≤ b.length → 14 * (frGo b n a).1.length + a ≤ b.length ∧ (frGo b n a).2 ≤ b.length := by
    intro n
    induction n with
    | zero => intro a h; simp [frGo]; omega
    | succ n ih =>
      intro a h
      by_cases he : (parseR b a).2.2.2 = 0
      · obtain ⟨_, _, g⟩ := parse_shape b a _ rfl he
        rw [frGo_step b n a he]
        have := ih (a + (parseR b a).2.1.length + 14) g
        simp; omega
      · rw [frGo_end b _ a he]; simp; omega
  have := go (b.length + 1) 0 (Nat.zero_le _)
  unfold framesR
  omega
end Go.Proofs.YtihgjihdmlomaaaDoor

namespace Go.Proofs.YtihgjihdmlomaaaDoor
set_option linter.unusedVariables false

/-- A text as a number, the lowest byte first. -/
def Xn : List UInt8 → Nat
  | [] => 0
  | c :: l => c.toNat + 256 * Xn l

/-- k bits of the register. -/
def rbN : Nat → Nat → Nat
  | 0, x => x
  | k + 1, x => rbN k (Crc.rb x)
theorem rbN_xor (k a b : Nat) : rbN k (a ^^^ b) = rbN k a ^^^ rbN k b := by
  induction k generalizing a b with
  | zero => rfl
  | succ k ih => simp only [rbN, Crc.rb_xor, ih]
theorem rbN_add (j k x : Nat) : rbN (j + k) x = rbN k (rbN j x) := by
  induction j generalizing x with
  | zero => simp [rbN]
  | succ j ih => rw [Nat.succ_add]; exact ih _
theorem rbN_two_pow (e q : Nat) : rbN e (q * 2 ^ e) = q := by
  induction e generalizing q with
  | zero => simp [rbN]
  | succ e ih =>
    show rbN e (Crc.rb (q * 2 ^ (e + 1))) = q
    rw [Nat.pow_succ, show q * (2 ^ e * 2) = 2 * (q * 2 ^ e) by rw [← Nat.mul_assoc, Nat.mul_comm], Crc.rb_even, ih]
theorem rb8_eq (x : Nat) : Crc.rb8 x = rbN 8 x := rfl

theorem xor_add (a b : Nat) (h : a < 256) : a + 256 * b = a ^^^ (256 * b) := by
  have h2 := Nat.two_pow_add_eq_or_of_lt (i := 8) (b := a) h b
  have e : a + 256 * b = 2 ^ 8 * b + a := by omega
  rw [e, h2]
  apply Nat.eq_of_testBit_eq
  intro i
  rw [Nat.testBit_xor, Nat.testBit_or]
  by_cases hi : i < 8
  · have : (2 ^ 8 * b).testBit i = false := by rw [Nat.testBit_two_pow_mul]; simp; omega
    rw [show 256 * b = 2 ^ 8 * b by omega, this]; simp
  · have : a.testBit i = false := by
      apply Nat.testBit_lt_two_pow
      calc a < 2 ^ 8 := h
        _ ≤ 2 ^ i := Nat.pow_le_pow_right (by omega) (by omega)
    rw [this]; simp

/-- The register behind a text is that of the number which the text is. -/
theorem crc_Xn (l : List UInt8) (r : Nat) : Crc.crc r l = rbN (8 * l.length) (r ^^^ Xn l) := by
  induction l generalizing r with
  | nil => simp [Crc.crc, Xn, rbN]
  | cons c l ih =>
    have hc := c.toNat_lt
    show Crc.crc (Crc.rb8 (r ^^^ c.toNat)) l = _
    rw [ih, List.length_cons, show 8 * (l.length + 1) = 8 + 8 * l.length by omega, rbN_add]
    congr 1
    rw [Xn, xor_add _ _ (by omega), ← Nat.xor_assoc, rbN_xor, ← rb8_eq]
    congr 1
    rw [show 256 * Xn l = Xn l * 2 ^ 8 by omega, rbN_two_pow]

theorem rb_ne (x : Nat) (h : x < 4294967296) (h0 : x ≠ 0) : Crc.rb x ≠ 0 := by
  unfold Crc.rb
  by_cases ho : x % 2 = 1
  · rw [if_pos ho]
    intro e
    have e2 : x / 2 = Crc.P := by
      have := Crc.xor_cancel (x / 2) Crc.P
      rw [e, Nat.zero_xor] at this
      exact this.symm
    have : Crc.P = 2197175160 := rfl
    omega
  · rw [if_neg ho, Nat.xor_zero]
    omega
theorem rbN_ne (k x : Nat) (h : x < 4294967296) (h0 : x ≠ 0) : rbN k x ≠ 0 := by
  induction k generalizing x with
  | zero => exact h0
  | succ k ih => exact ih _ (Crc.rb_lt x h) (rb_ne x h h0)
theorem rbN_burst (k q e : Nat) (h : q < 4294967296) (h0 : q ≠ 0) : rbN k (q * 2 ^ e) ≠ 0 := by
  by_cases hk : e ≤ k
  · rw [show k = e + (k - e) by omega, rbN_add, rbN_two_pow]
    exact rbN_ne _ _ h h0
  · have e2 : q * 2 ^ e = (q * 2 ^ (e - k)) * 2 ^ k := by rw [Nat.mul_assoc, ← Nat.pow_add]; congr 2; omega
    rw [e2, rbN_two_pow]
    intro hz
    rcases Nat.mul_eq_zero.1 hz with h1 | h1
    · exact h0 h1
    · exact absurd h1 (Nat.pos_iff_ne_zero.1 (Nat.two_pow_pos _))

theorem xor_eq_zero (a b : Nat) (h : a ^^^ b = 0) : a = b := by
  have := Crc.xor_cancel a b
  rw [h, Nat.zero_xor] at this
  exact this.symm

/-- Bits turned within 32 change a sum. -/
theorem sum_turned (s : Nat) (b x : List UInt8) (q e : Nat) (hl : x.length = b.length) (hx : Xn x ^^^ Xn b = q * 2 ^ e) (h : q < 4294967296) (h0 : q ≠ 0) : Crc.on s x ≠ Crc.on s b := by
  intro he
  unfold Crc.on at he
  have h1 := congrArg (· ^^^ Crc.M) he
  simp only [Crc.xor_cancel] at h1
  rw [crc_Xn, crc_Xn, hl] at h1
  have h2 : rbN (8 * b.length) (Xn x ^^^ Xn b) = 0 := by
    have : Xn x ^^^ Xn b = (s ^^^ Crc.M ^^^ Xn x) ^^^ (s ^^^ Crc.M ^^^ Xn b) := by
      rw [Nat.xor_comm (s ^^^ Crc.M) (Xn x), Nat.xor_assoc, Crc.xor_self_left]
    rw [this, rbN_xor, h1, Nat.xor_self]
  rw [hx] at h2
  exact rbN_burst _ _ _ h h0 h2

theorem Xn_lt (l : List UInt8) : Xn l < 256 ^ l.length := by
  induction l with
  | nil => simp [Xn]
  | cons c l ih =>
    have hc := c.toNat_lt
    simp only [Xn, List.length_cons, Nat.pow_succ]
    omega
theorem Xn_append (a b : List UInt8) : Xn (a ++ b) = Xn a + 256 ^ a.length * Xn b := by
  induction a with
  | nil => simp [Xn]
  | cons c a ih =>
    simp only [List.cons_append, Xn, ih, List.length_cons, Nat.pow_succ]
    rw [Nat.mul_add, ← Nat.add_assoc, Nat.mul_comm (256 ^ a.length) 256, Nat.mul_assoc]
theorem pow256 (n : Nat) : (256 : Nat) ^ n = 2 ^ (8 * n) := by rw [show (256 : Nat) = 2 ^ 8 by decide, ← Nat.pow_mul]
theorem Xn_take (l : List UInt8) (k : Nat) (h : k ≤ l.length) : Xn (l.take k) = Xn l % 2 ^ (8 * k) := by
  have e := Xn_append (l.take k) (l.drop k)
  rw [List.take_append_drop] at e
  have hl : (l.take k).length = k := by simp; omega
  rw [hl] at e
  have hlt := Xn_lt (l.take k)
  rw [hl] at hlt
  rw [e, ← pow256, Nat.add_mul_mod_self_left, Nat.mod_eq_of_lt hlt]
theorem Xn_drop (l : List UInt8) (k : Nat) (h : k ≤ l.length) : Xn (l.drop k) = Xn l / 2 ^ (8 * k) := by
  have e := Xn_append (l.take k) (l.drop k)
  rw [List.take_append_drop] at e
  have hl : (l.take k).length = k := by simp; omega
  rw [hl] at e
  have hlt := Xn_lt (l.take k)
  rw [hl] at hlt
  rw [e, ← pow256, Nat.add_mul_div_left _ _ (Nat.pow_pos (by omega)), Nat.div_eq_of_lt hlt, Nat.zero_add]
theorem Xn_le32 (s : Nat) (h : s < 4294967296) : Xn (le32 s) = s := by
  simp only [le32, Xn, UInt8.toNat_ofNat']
  omega

/-- The register behind a text and its sum. -/
theorem crc_residue (r : Nat) (a : List UInt8) (h : r < 4294967296) : Crc.crc r (a ++ le32 (Crc.crc r a ^^^ Crc.M)) = rbN 32 Crc.M := by
  rw [Crc.crc_append, crc_Xn (le32 _), le32_length, Xn_le32 _ (Crc.xor_lt _ _ (Crc.crc_lt _ _ h) (by decide)), Crc.xor_self_left]
theorem sum_residue (a c : List UInt8) (hc : c = sumB a) : Crc.crc Crc.M (a ++ c) = rbN 32 Crc.M := by
  subst hc
  have : sumB a = le32 (Crc.crc Crc.M a ^^^ Crc.M) := by unfold sumB Crc.on; rw [Nat.zero_xor]
  rw [this]; exact crc_residue _ _ (by decide)

/-- Two texts of one length whose registers are the same are not apart by a burst. -/
theorem no_burst (a b : List UInt8) (hl : a.length = b.length) (h : Crc.crc Crc.M a = Crc.crc Crc.M b) (q e : Nat) (hx : Xn a ^^^ Xn b = q * 2 ^ e) (hq : q < 4294967296) : q = 0 := by
  rcases Nat.eq_zero_or_pos q with h0 | h0
  · exact h0
  · exfalso
    have : Crc.on 0 a = Crc.on 0 b := by unfold Crc.on; rw [Nat.zero_xor, h]
    exact sum_turned 0 b a q e hl hx hq (by omega) this

theorem burst_mod (q at_ k : Nat) : ∃ q', q * 2 ^ at_ % 2 ^ k = q' * 2 ^ at_ ∧ q' ≤ q ∧ (q' = 0 → q * 2 ^ at_ % 2 ^ k = 0) := by
  by_cases h : at_ ≤ k
  · refine ⟨q % 2 ^ (k - at_), ?_, Nat.mod_le _ _, fun h0 => ?_⟩
    · rw [show k = (k - at_) + at_ by omega, Nat.pow_add, Nat.mul_mod_mul_right]
      rw [show k - at_ + at_ - at_ = k - at_ by omega]
    · rw [show k = (k - at_) + at_ by omega, Nat.pow_add, Nat.mul_mod_mul_right]
      rw [h0]; simp
  · refine ⟨0, ?_, by omega, fun _ => ?_⟩ <;>
    · rw [show at_ = (at_ - k) + k by omega, Nat.pow_add, ← Nat.mul_assoc, Nat.mul_mod_left]
      try simp
theorem burst_div (q at_ k : Nat) (h0 : q * 2 ^ at_ % 2 ^ k = 0) (hq : q ≠ 0) : ∃ q' e, q * 2 ^ at_ / 2 ^ k = q' * 2 ^ e ∧ q' ≤ q ∧ q' ≠ 0 := by
  by_cases h : at_ ≤ k
  · refine ⟨q / 2 ^ (k - at_), 0, ?_, Nat.div_le_self _ _, ?_⟩
    · rw [show k = (k - at_) + at_ by omega, Nat.pow_add, Nat.mul_div_mul_right _ _ (Nat.two_pow_pos _)]
      rw [show k - at_ + at_ - at_ = k - at_ by omega]; simp
    · rw [show k = (k - at_) + at_ by omega, Nat.pow_add, Nat.mul_mod_mul_right] at h0
      intro hz
      have h1 : q % 2 ^ (k - at_) = 0 := by
        rcases Nat.mul_eq_zero.1 h0 with h2 | h2
        · exact h2
        · exact absurd h2 (Nat.pos_iff_ne_zero.1 (Nat.two_pow_pos _))
      have := Nat.div_add_mod q (2 ^ (k - at_))
      rw [hz, h1] at this
      omega
  · refine ⟨q, at_ - k, ?_, Nat.le_refl _, hq⟩
    rw [show at_ = (at_ - k) + k by omega, Nat.pow_add, ← Nat.mul_assoc, Nat.mul_div_cancel _ (Nat.two_pow_pos _)]
    rw [show at_ - k + k - k = at_ - k by omega]

/-- A frame in which bits are turned within 32 is refused, whatever stands behind it. -/
theorem spoilt_refused (k : Nat) (p t y : List UInt8) (hk : 1 ≤ k) (hk2 : k ≤ 255) (hp : p.length ≤ 65536) (q at_ : Nat) (hq : q < 4294967296) (h0 : q ≠ 0)
    (hl : t.length = (frameB k p).length) (hx : Xn t ^^^ Xn (frameB k p) = q * 2 ^ at_) (a : Nat) : (parseAt a (t ++ y)).2.2.2 ≠ 0 := by
  intro herr
  obtain ⟨k', g1, g2, g3, g4, g5, g6, g7⟩ := parse_only a (t ++ y) _ rfl herr
  have hfl := frameB_length k p
  obtain ⟨p', hp'⟩ : ∃ p', (parseAt a (t ++ y)).2.1 = p' := ⟨_, rfl⟩
  rw [hp'] at g4 g6 g7
  -- the parts of what was made and of what is taken
  obtain ⟨_, _, _, s3, s4, _, s6, s7, s8⟩ := frame_parts k p [] hk hk2 hp
  simp only [List.append_nil] at s3 s4 s6 s7 s8
  have hfr := frame_parts k' p' ((t ++ y).drop (p'.length + 14)) g1 g2 g4
  rw [← g6, List.take_append_drop] at hfr
  obtain ⟨_, _, _, t3, t4, _, t6, t7, t8⟩ := hfr
  have ht14 : 14 ≤ t.length := by omega
  have cutd : ∀ i j, i + j ≤ t.length → ((t ++ y).drop i).take j = (t.drop i).take j := by
    intro i j hij
    rw [List.drop_append_of_le_length (by omega), List.take_append_of_le_length (by simp; omega)]
  have cut0 : ∀ j, j ≤ t.length → (t ++ y).take j = t.take j := fun j hj => List.take_append_of_le_length hj
  rw [cutd 6 4 (by omega)] at t4
  rw [cut0 6 (by omega)] at t3
  rw [cutd 2 4 (by omega)] at t6
  have ten : ∀ l : List UInt8, 10 ≤ l.length → l.take 10 = l.take 6 ++ (l.drop 6).take 4 := fun l _ => by
    rw [show 10 = 6 + 4 by rfl, List.take_add]
  -- the first ten bytes
  have r1 : Crc.crc Crc.M (t.take 10) = rbN 32 Crc.M := by
    rw [ten t (by omega)]; exact sum_residue _ _ (by rw [t4, t3])
  have r2 : Crc.crc Crc.M ((frameB k p).take 10) = rbN 32 Crc.M := by
    rw [ten _ (by omega)]; exact sum_residue _ _ (by rw [s4, s3])
  obtain ⟨q1, e1, e2, e3⟩ := burst_mod q at_ 80
  have x10 : Xn (t.take 10) ^^^ Xn ((frameB k p).take 10) = q1 * 2 ^ at_ := by
    rw [Xn_take _ _ (by omega), Xn_take _ _ (by omega), ← Nat.xor_mod_two_pow, hx]; exact e1
  have hq1 := no_burst _ _ (by simp; omega) (r1.trans r2.symm) q1 at_ x10 (by omega)
  have hz := e3 hq1
  -- so they are as they were: the payload is as long
  have hten : t.take 10 = (frameB k p).take 10 := by
    have hxe : Xn (t.take 10) = Xn ((frameB k p).take 10) := by
      apply xor_eq_zero; rw [x10, hq1]; simp
    have inj : ∀ (u v : List UInt8), u.length = v.length → Xn u = Xn v → u = v := by
      intro u
      induction u with
      | nil => intro v hv _; exact (List.eq_nil_of_length_eq_zero hv.symm).symm
      | cons c u ih =>
        intro v hv he
        match v, hv with
        | d :: v, hv =>
          have hc := c.toNat_lt
          have hd := d.toNat_lt
          simp only [Xn] at he
          have h1 : c.toNat = d.toNat := by omega
          have h2 : Xn u = Xn v := by omega
          rw [UInt8.toNat_inj.1 h1, ih v (by simpa using hv) h2]
    exact inj _ _ (by simp; omega) hxe
  have hlen : p'.length = p.length := by
    have h26 : (t.drop 2).take 4 = ((frameB k p).drop 2).take 4 := by
      have : ∀ l : List UInt8, (l.drop 2).take 4 = ((l.take 10).drop 2).take 4 := fun l => by
        rw [List.drop_take, List.take_take]; congr 1
      rw [this t, this (frameB k p), hten]
    rw [s6, t6] at h26
    have := congrArg (numB 0) h26
    rw [numB_fixed4 _ (by omega), numB_fixed4 _ (by omega)] at this
    exact this
  rw [hlen] at t7 t8
  rw [cutd 10 p.length (by omega)] at t7
  rw [cutd (10 + p.length) 4 (by omega)] at t8
  have hhead : t.take 6 = (frameB k p).take 6 := by
    have : ∀ l : List UInt8, l.take 6 = (l.take 10).take 6 := fun l => by rw [List.take_take]; congr 1
    rw [this t, this (frameB k p), hten]
  -- the rest: the payload and its sum, behind the head
  have rest : ∀ l : List UInt8, l.length = p.length + 14 → l.drop 10 = (l.drop 10).take p.length ++ (l.drop (10 + p.length)).take 4 := fun l hl => by
    have e : l.drop (10 + p.length) = (l.drop 10).drop p.length := by rw [List.drop_drop]
    rw [e, ← List.take_add, List.take_of_length_le (by simp; omega)]
  have q1' : Crc.crc Crc.M (t.take 6 ++ t.drop 10) = rbN 32 Crc.M := by
    rw [rest t (by omega), ← List.append_assoc]
    refine sum_residue _ _ ?_
    rw [t8, t7, t3, hlen]
  have q2' : Crc.crc Crc.M ((frameB k p).take 6 ++ (frameB k p).drop 10) = rbN 32 Crc.M := by
    rw [rest _ (by omega), ← List.append_assoc]
    refine sum_residue _ _ ?_
    rw [s8, s7, s3]
  obtain ⟨q2, e4, e5, e6, e7⟩ := burst_div q at_ 80 hz h0
  have hX : Xn (t.take 6 ++ t.drop 10) ^^^ Xn ((frameB k p).take 6 ++ (frameB k p).drop 10) = q2 * 2 ^ (e4 + 48) := by
    have hl6 : (t.take 6).length = 6 := by simp; omega
    have hl6' : ((frameB k p).take 6).length = 6 := by simp; omega
    rw [Xn_append, Xn_append, hl6, hl6', hhead, pow256]
    have hlt := Xn_lt ((frameB k p).take 6)
    rw [hl6', pow256] at hlt
    rw [Xn_drop _ _ (by omega), Xn_drop _ _ (by omega)]
    generalize Xn ((frameB k p).take 6) = z at *
    have hxd : Xn t / 2 ^ (8 * 10) ^^^ Xn (frameB k p) / 2 ^ (8 * 10) = q2 * 2 ^ e4 := by
      rw [← Nat.xor_div_two_pow, hx]; exact e5
    generalize Xn t / 2 ^ (8 * 10) = u at *
    generalize Xn (frameB k p) / 2 ^ (8 * 10) = v at *
    have join : ∀ w : Nat, z + 2 ^ (8 * 6) * w = z ^^^ (2 ^ (8 * 6) * w) := by
      intro w
      have h2 := Nat.two_pow_add_eq_or_of_lt (i := 48) (b := z) hlt w
      rw [show z + 2 ^ (8 * 6) * w = 2 ^ 48 * w + z by omega, h2]
      apply Nat.eq_of_testBit_eq
      intro i
      rw [Nat.testBit_xor, Nat.testBit_or]
      by_cases hi : i < 48
      · have : (2 ^ 48 * w).testBit i = false := by rw [Nat.testBit_two_pow_mul]; simp; omega
        rw [show 2 ^ (8 * 6) * w = 2 ^ 48 * w by rfl, this]; simp
      · have : z.testBit i = false := by
          apply Nat.testBit_lt_two_pow
          calc z < 2 ^ 48 := hlt
            _ ≤ 2 ^ i := Nat.pow_le_pow_right (by omega) (by omega)
        rw [this]; simp
    rw [join u, join v]
    have e8 : (z ^^^ 2 ^ (8 * 6) * u) ^^^ (z ^^^ 2 ^ (8 * 6) * v) = 2 ^ (8 * 6) * u ^^^ 2 ^ (8 * 6) * v := by
      rw [Nat.xor_comm z (2 ^ (8 * 6) * u), Nat.xor_assoc, Crc.xor_self_left]
    have sh : ∀ w : Nat, 2 ^ (8 * 6) * w = w <<< 48 := fun w => by rw [Nat.shiftLeft_eq, Nat.mul_comm]
    rw [e8, sh u, sh v, ← Nat.shiftLeft_xor_distrib, hxd, Nat.shiftLeft_eq, Nat.mul_assoc, ← Nat.pow_add]
  exact e7 (no_burst _ _ (by simp; omega) (q1'.trans q2'.symm) q2 (e4 + 48) hX (by omega))

theorem xor_shift (m n a : Nat) : (m * 2 ^ a) ^^^ (n * 2 ^ a) = (m ^^^ n) * 2 ^ a := by
  rw [← Nat.shiftLeft_eq, ← Nat.shiftLeft_eq, ← Nat.shiftLeft_eq, Nat.shiftLeft_xor_distrib]
theorem xor_top (m k : Nat) (h : m < 2 ^ k) : m ^^^ 2 ^ k = m + 2 ^ k := by
  have h2 := Nat.two_pow_add_eq_or_of_lt (i := k) (b := m) h 1
  rw [Nat.mul_one] at h2
  rw [Nat.add_comm, h2]
  apply Nat.eq_of_testBit_eq
  intro i
  rw [Nat.testBit_xor, Nat.testBit_or]
  by_cases hi : i < k
  · have : (2 ^ k).testBit i = false := by rw [Nat.testBit_two_pow]; simp; omega
    rw [this]; simp
  · have : m.testBit i = false := by
      apply Nat.testBit_lt_two_pow
      exact Nat.lt_of_lt_of_le h (Nat.pow_le_pow_right (by omega) (by omega))
    rw [this]; simp
theorem burst_step (p k a : Nat) (h : p / 2 ^ k % 2 = 1) : (p % 2 ^ k * 2 ^ a) ^^^ 2 ^ (a + k) = p % 2 ^ (k + 1) * 2 ^ a := by
  rw [Nat.add_comm a k, Nat.pow_add, xor_shift, xor_top _ _ (Nat.mod_lt _ (Nat.two_pow_pos _)), Nat.mod_pow_succ, h, Nat.mul_one]
theorem burst_none (p k : Nat) (h : p / 2 ^ k % 2 = 0) : p % 2 ^ k = p % 2 ^ (k + 1) := by
  rw [Nat.mod_pow_succ, h]; simp
theorem Xn_set (c : List UInt8) (i j : Nat) (d' : UInt8) (h : i < c.length) (hd : d'.toNat = (c.getD i 0).toNat ^^^ 2 ^ j) : Xn (c.set i d') = Xn c ^^^ 2 ^ (8 * i + j) := by
  induction c generalizing i with
  | nil => simp at h
  | cons x l ih =>
    have hx := x.toNat_lt
    have hd2 := d'.toNat_lt
    cases i with
    | zero =>
      simp only [List.getD_cons_zero] at hd
      simp only [List.set_cons_zero, Xn]
      rw [xor_add _ _ (by omega), xor_add _ _ (by omega), hd, show 8 * 0 + j = j by omega, Nat.xor_assoc, Nat.xor_comm (2 ^ j), ← Nat.xor_assoc]
    | succ i =>
      simp only [List.getD_cons_succ] at hd
      have := ih i (by simpa using h) hd
      simp only [List.set_cons_succ, Xn]
      rw [xor_add _ _ (by omega), xor_add _ _ (by omega), this]
      have e : 256 * (Xn l ^^^ 2 ^ (8 * i + j)) = 256 * Xn l ^^^ 2 ^ (8 * (i + 1) + j) := by
        rw [show 256 * (Xn l ^^^ 2 ^ (8 * i + j)) = (Xn l ^^^ 2 ^ (8 * i + j)) * 2 ^ 8 by omega, ← xor_shift, ← Nat.pow_add, show 8 * i + j + 8 = 8 * (i + 1) + j by omega, show Xn l * 2 ^ 8 = 256 * Xn l by omega]
      rw [e, ← Nat.xor_assoc]
theorem byte_xor_lt (d : UInt8) (j : Nat) (hj : j < 8) : d.toNat ^^^ 2 ^ j < 256 := by
  have hd := d.toNat_lt
  exact Nat.xor_lt_two_pow (n := 8) (by omega) (Nat.pow_lt_pow_right (by omega) hj)
end Go.Proofs.YtihgjihdmlomaaaDoor

namespace Go.Proofs.YtihgjihdmlomaaaDoor
set_option linter.unusedVariables false

/-- Frames one behind the other. -/
def catF (xs : List (Nat × List UInt8)) : List UInt8 := xs.flatMap (fun x => frameB x.1 x.2)
def FrOk (xs : List (Nat × List UInt8)) : Prop := ∀ x ∈ xs, 1 ≤ x.1 ∧ x.1 ≤ 255 ∧ x.2.length ≤ 65536
/-- What is told of them. -/
def placesF : Nat → List (Nat × List UInt8) → List (Int × List UInt8 × Nat)
  | _, [] => []
  | a, x :: xs => ((x.1 : Int), x.2, a) :: placesF (a + x.2.length + 14) xs

theorem catF_cons (x : Nat × List UInt8) (xs : List (Nat × List UInt8)) : catF (x :: xs) = frameB x.1 x.2 ++ catF xs := rfl
theorem catF_append (xs ys : List (Nat × List UInt8)) : catF (xs ++ ys) = catF xs ++ catF ys := by simp [catF]
theorem FrOk.head {x : Nat × List UInt8} {xs : List (Nat × List UInt8)} (h : FrOk (x :: xs)) : 1 ≤ x.1 ∧ x.1 ≤ 255 ∧ x.2.length ≤ 65536 := h x (by simp)
theorem FrOk.tail {x : Nat × List UInt8} {xs : List (Nat × List UInt8)} (h : FrOk (x :: xs)) : FrOk xs := fun y hy => h y (by simp [hy])
theorem catF_len : ∀ xs : List (Nat × List UInt8), 14 * xs.length ≤ (catF xs).length
  | [] => by simp
  | x :: xs => by
    have := catF_len xs
    rw [catF_cons, List.length_append, frameB_length, List.length_cons]
    omega

theorem parseR_at (b : List UInt8) (a : Nat) (ha : a ≤ b.length) : parseR b a = parseAt a (b.drop a) := by
  unfold parseR
  rw [if_neg (by omega)]
  simp

theorem frGo_cat (b : List UInt8) : ∀ (xs : List (Nat × List UInt8)) (n a : Nat), FrOk xs → a ≤ b.length → b.drop a = catF xs → xs.length ≤ n → frGo b n a = (placesF a xs, b.length)
  | [], n, a, _, ha, hd, _ => by
    have h1 : b.length ≤ a := by
      have h2 : (b.drop a).length = 0 := by rw [hd]; rfl
      rw [List.length_drop] at h2
      omega
    obtain rfl : a = b.length := by omega
    rw [frGo_end b n b.length (parse_at_end b)]
    rfl
  | x :: xs, n, a, ho, ha, hd, hn => by
    obtain ⟨n, rfl⟩ : ∃ m, n = m + 1 := ⟨n - 1, by simp at hn; omega⟩
    obtain ⟨h1, h2, h3⟩ := ho.head
    have hp : parseR b a = ((x.1 : Int), x.2, ((a + x.2.length + 14 : Nat) : Int), 0) := by
      rw [parseR_at b a ha, hd, catF_cons]
      exact parse_frame a x.1 x.2 _ h1 h2 h3
    have hl : (b.drop a).length = (frameB x.1 x.2).length + (catF xs).length := by rw [hd, catF_cons, List.length_append]
    rw [List.length_drop, frameB_length] at hl
    have hd2 : b.drop (a + x.2.length + 14) = catF xs := by
      rw [show a + x.2.length + 14 = a + (frameB x.1 x.2).length by rw [frameB_length]; omega, ← List.drop_drop, hd, catF_cons, List.drop_left]
    have hr := frGo_cat b xs n (a + x.2.length + 14) ho.tail (by omega) hd2 (by simp at hn; omega)
    rw [frGo_step b n a (by rw [hp]), hp]
    simp only
    rw [hr]
    rfl

theorem framesR_cat {xs : List (Nat × List UInt8)} (h : FrOk xs) : framesR (catF xs) = (placesF 0 xs, (catF xs).length) := by
  have := catF_len xs
  exact frGo_cat (catF xs) xs _ 0 h (Nat.zero_le _) (by simp) (by omega)

/-- What is told to its end is frames one behind the other. -/
theorem frGo_whole (b : List UInt8) : ∀ (n a : Nat), a ≤ b.length → (frGo b n a).2 = b.length → ∃ xs, FrOk xs ∧ b.drop a = catF xs ∧ (frGo b n a).1 = placesF a xs
  | 0, a, ha, h => by
    have h2 : a = b.length := h
    exact ⟨[], fun x hx => by simp at hx, by rw [h2]; simp [catF], rfl⟩
  | n + 1, a, ha, h => by
    by_cases he : (parseR b a).2.2.2 = 0
    · rw [frGo_step b n a he] at h ⊢
      simp only at h ⊢
      rw [parseR_at b a ha] at he h ⊢
      obtain ⟨k, g1, g2, g3, g4, g5, g6, g7⟩ := parse_only a (b.drop a) _ rfl he
      obtain ⟨p, hp⟩ : ∃ p, (parseAt a (b.drop a)).2.1 = p := ⟨_, rfl⟩
      rw [hp] at g4 g6 g7 h
      rw [List.length_drop] at g7
      obtain ⟨xs, x1, x2, x3⟩ := frGo_whole b n (a + p.length + 14) (by omega) h
      refine ⟨(k, p) :: xs, ?_, ?_, ?_⟩
      · intro y hy
        rcases List.mem_cons.1 hy with rfl | hy
        · exact ⟨g1, g2, g4⟩
        · exact x1 y hy
      · rw [catF_cons, ← x2]
        simp only
        rw [← g6, show a + p.length + 14 = a + (p.length + 14) by omega, ← List.drop_drop, List.take_append_drop]
      · rw [g3, hp, x3]
        rfl
    · rw [frGo_end b (n + 1) a he] at h ⊢
      have h2 : a = b.length := h
      exact ⟨[], fun x hx => by simp at hx, by rw [h2]; simp [catF], rfl⟩

theorem framesR_whole {b : List UInt8} (h : (framesR b).2 = b.length) : ∃ xs, FrOk xs ∧ b = catF xs := by
  obtain ⟨xs, h1, h2, _⟩ := frGo_whole b (b.length + 1) 0 (Nat.zero_le _) h
  exact ⟨xs, h1, by simpa using h2⟩

theorem frame_inj {k k' : Nat} {p p' u u' : List UInt8} (h1 : 1 ≤ k ∧ k ≤ 255 ∧ p.length ≤ 65536) (h2 : 1 ≤ k' ∧ k' ≤ 255 ∧ p'.length ≤ 65536) (h : frameB k p ++ u = frameB k' p' ++ u') : k = k' ∧ p = p' ∧ u = u' := by
  have e1 := parse_frame 0 k p u h1.1 h1.2.1 h1.2.2
  have e2 := parse_frame 0 k' p' u' h2.1 h2.2.1 h2.2.2
  rw [h, e2] at e1
  simp only [Prod.mk.injEq] at e1
  obtain ⟨e3, e4, _⟩ := e1
  have hk : k' = k := by omega
  subst hk
  subst e4
  exact ⟨rfl, rfl, List.append_cancel_left h⟩

theorem catF_prefix : ∀ (xs ys : List (Nat × List UInt8)) (z : List UInt8), FrOk xs → FrOk ys → catF ys = catF xs ++ z → ∃ zs, ys = xs ++ zs ∧ z = catF zs
  | [], ys, z, _, _, h => ⟨ys, rfl, by simpa [catF] using h.symm⟩
  | x :: xs, [], z, _, _, h => by
    have h2 : (catF []).length = (catF (x :: xs) ++ z).length := by rw [h]
    rw [List.length_append, catF_cons, List.length_append, frameB_length] at h2
    simp [catF] at h2
    omega
  | x :: xs, y :: ys, z, hx, hy, h => by
    rw [catF_cons, catF_cons, List.append_assoc] at h
    obtain ⟨e1, e2, e3⟩ := frame_inj hy.head hx.head h
    obtain ⟨zs, h1, h2⟩ := catF_prefix xs ys z hx.tail hy.tail e3
    obtain ⟨k, p⟩ := x
    obtain ⟨k', p'⟩ := y
    simp only at e1 e2
    subst e1 e2
    exact ⟨zs, by rw [h1]; rfl, h2⟩

theorem catF_inj {xs ys : List (Nat × List UInt8)} (hx : FrOk xs) (hy : FrOk ys) (h : catF ys = catF xs) : ys = xs := by
  obtain ⟨zs, h1, h2⟩ := catF_prefix xs ys [] hx hy (by simpa using h)
  cases zs with
  | nil => simpa using h1
  | cons z zs =>
    have h3 : (catF (z :: zs)).length = 0 := by rw [← h2]; rfl
    rw [catF_cons, List.length_append, frameB_length] at h3
    omega

theorem Xn_put (c : List UInt8) (i : Nat) (d : UInt8) (h : i < c.length) : Xn (c.set i d) ^^^ Xn c = (d.toNat ^^^ (c.getD i 0).toNat) * 2 ^ (8 * i) := by
  induction c generalizing i with
  | nil => simp at h
  | cons x l ih =>
    have hx := x.toNat_lt
    have hd := d.toNat_lt
    cases i with
    | zero =>
      simp only [List.getD_cons_zero, List.set_cons_zero, Xn, Nat.mul_zero, Nat.pow_zero, Nat.mul_one]
      rw [xor_add _ _ (by omega), xor_add _ _ (by omega), Nat.xor_assoc, Nat.xor_comm x.toNat, ← Nat.xor_assoc (256 * Xn l), Nat.xor_self, Nat.zero_xor]
    | succ i =>
      have h2 := ih i (by simpa using h)
      simp only [List.getD_cons_succ, List.set_cons_succ, Xn]
      rw [xor_add _ _ (by omega), xor_add _ _ (by omega)]
      have e : (x.toNat ^^^ 256 * Xn (l.set i d)) ^^^ (x.toNat ^^^ 256 * Xn l) = 256 * Xn (l.set i d) ^^^ 256 * Xn l := by
        rw [Nat.xor_comm x.toNat (256 * Xn (l.set i d)), Nat.xor_assoc, ← Nat.xor_assoc x.toNat, Nat.xor_self, Nat.zero_xor]
      rw [e, show (256 : Nat) * Xn (l.set i d) = Xn (l.set i d) * 2 ^ 8 by omega, show (256 : Nat) * Xn l = Xn l * 2 ^ 8 by omega, xor_shift, h2, Nat.mul_assoc, ← Nat.pow_add, show 8 * i + 8 = 8 * (i + 1) by omega]

/-- A text of frames in which one byte is another is no text of frames. -/
theorem catF_spoilt : ∀ (xs ys : List (Nat × List UInt8)) (i : Nat) (d : UInt8), FrOk xs → FrOk ys → i < (catF xs).length → d ≠ (catF xs).getD i 0 → catF ys = (catF xs).set i d → False
  | [], ys, i, d, _, _, hi, _, _ => by simp [catF] at hi
  | x :: xs, [], i, d, _, _, hi, _, h => by
    have h2 : (catF []).length = ((catF (x :: xs)).set i d).length := by rw [h]
    rw [List.length_set] at h2
    simp [catF] at h2 hi
    omega
  | x :: xs, y :: ys, i, d, hx, hy, hi, hd, h => by
    obtain ⟨h1, h2, h3⟩ := hx.head
    obtain ⟨k1, k2, k3⟩ := hy.head
    rw [catF_cons] at hi hd
    rw [catF_cons, catF_cons] at h
    have hl := frameB_length x.1 x.2
    by_cases hlt : i < (frameB x.1 x.2).length
    · rw [List.set_append_left _ _ hlt] at h
      have e1 := parse_frame 0 y.1 y.2 (catF ys) k1 k2 k3
      rw [h] at e1
      have hg : (frameB x.1 x.2 ++ catF xs).getD i 0 = (frameB x.1 x.2).getD i 0 := by
        simp only [List.getD_eq_getElem?_getD]
        rw [List.getElem?_append_left hlt]
      rw [hg] at hd
      have hd0 : d.toNat ^^^ ((frameB x.1 x.2).getD i 0).toNat ≠ 0 := fun e => hd (UInt8.toNat_inj.1 (xor_eq_zero _ _ e))
      have hdl : d.toNat ^^^ ((frameB x.1 x.2).getD i 0).toNat < 256 := Nat.xor_lt_two_pow (n := 8) d.toNat_lt ((frameB x.1 x.2).getD i 0).toNat_lt
      refine spoilt_refused x.1 x.2 ((frameB x.1 x.2).set i d) (catF xs) h1 h2 h3 _ (8 * i) (by omega) hd0 (by rw [List.length_set]) (Xn_put _ i d hlt) 0 ?_
      rw [e1]
    · rw [List.set_append_right _ _ (by omega)] at h
      obtain ⟨_, _, e3⟩ := frame_inj hy.head hx.head h
      rw [List.length_append] at hi
      refine catF_spoilt xs ys (i - (frameB x.1 x.2).length) d hx.tail hy.tail (by omega) ?_ e3
      have hg : (frameB x.1 x.2 ++ catF xs).getD i 0 = (catF xs).getD (i - (frameB x.1 x.2).length) 0 := by
        simp only [List.getD_eq_getElem?_getD]
        rw [List.getElem?_append_right (by omega)]
      rwa [hg] at hd
end Go.Proofs.YtihgjihdmlomaaaDoor

namespace Go.Proofs.YtihgjihdmlomaaaDoor
open Go.RowKit
set_option linter.unusedVariables false

set_option maxHeartbeats 2000000 in
/-- The closure 'next': takes n bytes away from what is left. -/
theorem next_calls (n : Nat) (B : Nat) (l : ByteArray) (w : World) (hn : n ≤ l.size) (hl : l.size ≤ 9223372036854775807) (hc : w.cell? ⟨B, 0, none⟩ = some (.string l)) (hf : w.frozen? ⟨B, 0, none⟩ = false) :
    Calls Tryd.prog 92 #[.int .i64 n, .pointer (some ⟨B, 0, none⟩)] w fun e w' => e = .returned (.string (l.extract 0 n)) ∧ w.setCell ⟨B, 0, none⟩ (.string (l.extract n l.size)) = w' := by
  go_enter Tryd.func92, Tryd.ntmps92
  go_wp2
  go_ret
  exact ⟨rfl, rfl⟩

set_option maxRecDepth 100000 in
set_option maxHeartbeats 4000000 in
theorem Parse_calls (b : ByteArray) (hb : b.size ≤ 4611686018427387904) (at_ : Int) (w : World) (hT : Tab w) :
    Calls Tryd.prog 67 #[.string b, .int .i64 at_] w fun e w' => e = .returned (.tuple #[.int .i64 (parseR b.data.toList at_).1, .string ⟨(parseR b.data.toList at_).2.1.toArray⟩, .int .i64 (parseR b.data.toList at_).2.2.1, .int .i64 (parseR b.data.toList at_).2.2.2]) ∧ Below w.heap.size w w' := by
  have hlen : b.data.toList.length = b.size := by simp
  by_cases ha : at_ < 0
  · have hp : parseR b.data.toList at_ = (0, [], 0, 13) := by unfold parseR; rw [if_pos (by omega)]
    rw [hp]
    clear hp hlen
    go_enter Tryd.func67, Tryd.ntmps67
    go_wp2
    refine bodyPost_ret (results_tmp4 rfl _ _ _) rfl ?_
    exact ⟨rfl, Below.refl _ _⟩
  by_cases hl : (b.size : Int) < at_
  · have hp : parseR b.data.toList at_ = (0, [], 0, 13) := by unfold parseR; rw [if_pos (by omega)]
    rw [hp]
    clear hp hlen
    go_enter Tryd.func67, Tryd.ntmps67
    go_wp2
    refine bodyPost_ret (results_tmp4 rfl _ _ _) rfl ?_
    exact ⟨rfl, Below.refl _ _⟩
  obtain ⟨a, rfl⟩ := Int.eq_ofNat_of_zero_le (show 0 ≤ at_ by omega)
  have hp : parseR b.data.toList a = parseAt a (b.data.toList.drop a) := by unfold parseR; rw [if_neg (by omega)]; rfl
  rw [hp]
  clear hp hlen
  obtain ⟨r, hr, hrd, hrz⟩ := name_cut b a b.size (by omega) (by omega)
  rw [show b.data.toList.drop a = r.data.toList by rw [hrd, List.take_of_length_le (by simp)]]
  have hrb : r.size ≤ b.size := by omega
  have hra : b.size = a + r.size := by omega
  have HRA := Lib.hid hra
  clear hrd hrz hra
  by_cases h0 : r.size = 0
  · have hpa : parseAt a r.data.toList = (0, [], 0, 31) := by
      unfold parseAt; rw [if_pos (List.eq_nil_of_length_eq_zero h0)]
    rw [hpa]
    clear hpa
    have he : r.toList.isEmpty = true := by rw [ByteArray.toList_eq, List.isEmpty_iff]; exact List.eq_nil_of_length_eq_zero h0
    clear h0
    go_enter Tryd.func67, Tryd.ntmps67
    go_wp2
    refine bodyPost_ret (results_tmp4 rfl _ _ _) rfl ?_
    exact ⟨rfl, (Below.refl _ _).alloc (Nat.le_refl _) _⟩
  have h0' : 0 < r.size := by omega
  have he : r.toList.isEmpty = false := by
    rw [ByteArray.toList_eq, List.isEmpty_eq_false_iff]; intro h; rw [size_data, h] at h0; exact h0 rfl
  have hne : ¬ r.data.toList = [] := by intro h; rw [size_data, h] at h0; exact h0 rfl
  have hg0 : r.data.toList.getD 0 0 = r[0] := by simp [List.getD, h0']; rfl
  clear h0
  by_cases hm : r[0].toNat ≠ 167
  · have hpa : parseAt a r.data.toList = (0, [], 0, 33) := by
      unfold parseAt; rw [if_neg hne, hg0, if_pos hm]
    rw [hpa]
    clear hpa
    have hm' : ((r[0].toNat : Int) != 167) = true := by rw [bne_iff_ne]; omega
    clear hm hne hg0
    go_enter Tryd.func67, Tryd.ntmps67
    go_wp2
    refine bodyPost_ret (results_tmp4 rfl _ _ _) rfl ?_
    exact ⟨rfl, (Below.refl _ _).alloc (Nat.le_refl _) _⟩
  have hm' : ((r[0].toNat : Int) != 167) = false := by rw [bne_eq_false_iff_eq]; omega
  by_cases h10 : r.size < 10
  · have hpa : parseAt a r.data.toList = (0, [], 0, 31) := by
      unfold parseAt; rw [if_neg hne, hg0, if_neg hm, if_pos (show r.data.toList.length < 10 from h10)]
    rw [hpa]
    clear hpa hm hne hg0
    go_enter Tryd.func67, Tryd.ntmps67
    go_wp2
    refine bodyPost_ret (results_tmp4 rfl _ _ _) rfl ?_
    exact ⟨rfl, (Below.refl _ _).alloc (Nat.le_refl _) _⟩
  obtain ⟨h, hh, hhd, hhz⟩ := name_cut r 0 6 (by omega) (by omega)
  obtain ⟨r6, hr6, hr6d, hr6z⟩ := name_cut r 6 r.size (by omega) (by omega)
  obtain ⟨s1, hs1, hs1d, hs1z⟩ := name_cut r6 0 4 (by omega) (by omega)
  obtain ⟨r10, hr10, hr10d, hr10z⟩ := name_cut r6 4 r6.size (by omega) (by omega)
  obtain ⟨sm, hsm, hsmd, hsmz⟩ := name_str (sumB h.data.toList)
  simp only [List.drop_zero, Nat.sub_zero] at hhd hhz hs1d hs1z
  rw [List.take_of_length_le (by simp)] at hr6d
  rw [List.take_of_length_le (by simp), hr6d, List.drop_drop] at hr10d
  rw [hr6d] at hs1d
  have hpa : parseAt a r.data.toList = if s1.data.toList ≠ sm.data.toList then (0, [], 0, 34)
      else if (r.data.toList.getD 1 0).toNat = 0 then (0, [], 0, 35)
      else if 65536 < numB 0 ((r.data.toList.drop 2).take 4) then (0, [], 0, 36)
      else if r.data.toList.length < numB 0 ((r.data.toList.drop 2).take 4) + 14 then (0, [], 0, 31)
      else if (r.data.toList.drop (10 + numB 0 ((r.data.toList.drop 2).take 4))).take 4 ≠ sumB (h.data.toList ++ (r.data.toList.drop 10).take (numB 0 ((r.data.toList.drop 2).take 4))) then (0, [], 0, 34)
      else (((r.data.toList.getD 1 0).toNat : Int), (r.data.toList.drop 10).take (numB 0 ((r.data.toList.drop 2).take 4)), ((a + numB 0 ((r.data.toList.drop 2).take 4) + 14 : Nat) : Int), 0) := by
    unfold parseAt
    rw [if_neg hne, hg0, if_neg hm, if_neg (show ¬ r.data.toList.length < 10 from h10), hs1d, hsmd, hhd]
  have HPA := Lib.hid hpa
  obtain ⟨R, hR⟩ : ∃ R, parseAt a r.data.toList = R := ⟨_, rfl⟩
  rw [hR] at HPA ⊢
  obtain ⟨n, hn⟩ : ∃ n, numB 0 ((r.data.toList.drop 2).take 4) = n := ⟨_, rfl⟩
  rw [hn] at HPA
  have hnb : n < 4294967296 := by
    have h1 := numB_lt ((r.data.toList.drop 2).take 4)
    have h2 : ((r.data.toList.drop 2).take 4).length = 4 := by simp; omega
    rw [h2, hn] at h1; exact h1
  have hfix : fixR h 2 4 = (n, 0) := by
    unfold fixR
    rw [if_neg (by omega), if_neg (by omega), ← hn, hhd]
    congr 2
    simp [List.drop_take, List.take_take]
  have hh1 : 1 < h.size := by omega
  have hk1 : r.data.toList.getD 1 0 = h[1]'hh1 := by
    have e : h.data.toList.getD 1 0 = h[1]'hh1 := by simp [List.getD, hh1]; rfl
    rw [← e, hhd]
    simp [List.getD]
  rw [hk1] at HPA
  have HFIX := Lib.hid hfix
  clear hn hfix hk1
  have hB : (w.alloc (.cells #[.string r] 9)).cell? ⟨w.heap.size, 0, none⟩ = some (.string r) := by simp
  have hF : (w.alloc (.cells #[.string r] 9)).frozen? ⟨w.heap.size, 0, none⟩ = false := by simp
  have hbl : Below w.heap.size w (w.alloc (.cells #[.string r] 9)) := (Below.refl _ _).alloc (Nat.le_refl _) _
  have HHD := Lib.hid hhd
  have HR6D := Lib.hid hr6d
  have HS1D := Lib.hid hs1d
  have HR10D := Lib.hid hr10d
  have HSMD := Lib.hid hsmd
  have HSM := Lib.hid hsm
  have hhz' : 6 ≤ h.size := by omega
  have hhz'' : h.size ≤ 6 := by omega
  have hr6z' : r6.size + 6 ≤ r.size ∧ r.size ≤ r6.size + 6 := by omega
  have hs1z' : s1.size ≤ 4 := by omega
  have hr10z' : r10.size + 10 ≤ r.size ∧ r.size ≤ r10.size + 10 := by omega
  have hsmz' : sm.size ≤ 4 := by rw [hsmz, sumB_length]; omega
  have HH := Lib.hid hh
  have HR6 := Lib.hid hr6
  have HS1 := Lib.hid hs1
  have HR10 := Lib.hid hr10
  clear hhd hr6d hs1d hr10d hsmd hsm hhz hr6z hs1z hr10z hsmz hpa hR hne hg0 hm hh hr6 hs1 hr10
  go_enter Tryd.func67, Tryd.ntmps67
  go_wp2_with fail
  refine (next_calls 6 w.heap.size r _ (by omega) (by omega) hB hF).mono ?_
  rintro e w1 ⟨rfl, hw1⟩
  rw [HH.out]
  rw [HR6.out] at hw1
  have hB1 : w1.cell? ⟨w.heap.size, 0, none⟩ = some (.string r6) := by rw [← hw1]; exact World.cell?_setCell_same' _ _ _ (by rw [hB]; rfl)
  have hF1 : w1.frozen? ⟨w.heap.size, 0, none⟩ = false := by rw [← hw1, World.frozen?_setCell]; exact hF
  have hbl1 : Below w.heap.size w w1 := by rw [← hw1]; exact hbl.setCell (p := ⟨w.heap.size, 0, none⟩) (Nat.le_refl _) _
  clear hw1 hB hF hbl
  go_wp2_with fail
  refine (next_calls 4 w.heap.size r6 w1 (by omega) (by omega) hB1 hF1).mono ?_
  rintro e w2 ⟨rfl, hw2⟩
  rw [HS1.out]
  rw [HR10.out] at hw2
  have hB2 : w2.cell? ⟨w.heap.size, 0, none⟩ = some (.string r10) := by rw [← hw2]; exact World.cell?_setCell_same' _ _ _ (by rw [hB1]; rfl)
  have hF2 : w2.frozen? ⟨w.heap.size, 0, none⟩ = false := by rw [← hw2, World.frozen?_setCell]; exact hF1
  have hbl2 : Below w.heap.size w w2 := by rw [← hw2]; exact hbl1.setCell (p := ⟨w.heap.size, 0, none⟩) (Nat.le_refl _) _
  have hlt2 : w.heap.size < w2.heap.size := lt_of_cell hB2
  clear hw2 hB1 hF1 hbl1
  go_wp2_with fail
  refine (summed_calls h (by omega) w2 (hT.below hbl2)).mono ?_
  rintro e w3 ⟨rfl, hb3⟩
  rw [HSM.out]
  have hB3 := (hb3.cell (p := ⟨w.heap.size, 0, none⟩) hlt2).trans hB2
  have hF3 := (hb3.frozen (p := ⟨w.heap.size, 0, none⟩) hlt2).trans hF2
  have hbl3 := hbl2.trans (hb3.mono hbl2.size)
  clear hb3 hB2 hF2 hbl2
  by_cases hq1 : s1.data.toList = sm.data.toList
  rotate_left
  · have hpa := HPA.out
    rw [if_pos hq1] at hpa
    have hq : (s1.toList == sm.toList) = false := by rw [ByteArray.toList_eq, ByteArray.toList_eq]; simpa using hq1
    have HP := Lib.hid hpa
    clear hpa hq1 HPA
    go_wp2
    refine bodyPost_ret (results_tmp4 rfl _ _ _) rfl ?_
    exact ⟨by rw [HP.out]; rfl, hbl3⟩
  have hq : (s1.toList == sm.toList) = true := by rw [ByteArray.toList_eq, ByteArray.toList_eq, hq1]; simp
  have hpa := HPA.out
  rw [if_neg (by simpa using hq1)] at hpa
  clear HPA hq1
  have HPA := Lib.hid hpa
  clear hpa
  have hkb : (h[1]'hh1).toNat < 256 := (h[1]'hh1).toNat_lt
  go_wp2_with fail
  refine (Fix_calls h (by omega) 2 4 w3).mono ?_
  rw [HFIX.out]
  rintro e w3' ⟨rfl, rfl⟩
  clear hq HS1 HSM
  by_cases hk0 : h[1].toNat = 0
  · have hpa := HPA.out
    rw [if_pos hk0] at hpa
    have HP := Lib.hid hpa
    have hk0' : ((h[1].toNat : Int) == 0) = true := by simp; omega
    clear hpa HPA hk0
    go_wp2
    refine bodyPost_ret (results_tmp4 rfl _ _ _) rfl ?_
    exact ⟨by rw [HP.out]; rfl, hbl3⟩
  have hpa := HPA.out
  rw [if_neg hk0] at hpa
  have hk0' : ((h[1].toNat : Int) == 0) = false := by simp; omega
  clear HPA hk0
  by_cases hn1 : 65536 < n
  · rw [if_pos hn1] at hpa
    have HP := Lib.hid hpa
    clear hpa
    go_wp2
    refine bodyPost_ret (results_tmp4 rfl _ _ _) rfl ?_
    exact ⟨by rw [HP.out]; rfl, hbl3⟩
  rw [if_neg hn1] at hpa
  by_cases hn2 : r.size < n + 14
  · rw [if_pos (show r.data.toList.length < n + 14 from hn2)] at hpa
    have HP := Lib.hid hpa
    clear hpa
    go_wp2
    refine bodyPost_ret (results_tmp4 rfl _ _ _) rfl ?_
    exact ⟨by rw [HP.out]; rfl, hbl3⟩
  rw [if_neg (show ¬ r.data.toList.length < n + 14 from hn2)] at hpa
  obtain ⟨p, hp, hpd, hpz⟩ := name_cut r10 0 n (by omega) (by omega)
  obtain ⟨ra, hra, hrad, hraz⟩ := name_cut r10 n r10.size (by omega) (by omega)
  obtain ⟨s2, hs2, hs2d, hs2z⟩ := name_cut ra 0 4 (by omega) (by omega)
  obtain ⟨rb, hrb', hrbd, hrbz⟩ := name_cut ra 4 ra.size (by omega) (by omega)
  obtain ⟨st, hst, hstd, hstz⟩ := name_str (sumB (h ++ p).data.toList)
  simp only [List.drop_zero, Nat.sub_zero] at hpd hpz hs2d hs2z
  rw [List.take_of_length_le (by simp)] at hrad
  rw [hrad, HR10D.out, List.drop_drop] at hs2d
  rw [HR10D.out] at hpd
  rw [cat_data] at hstd
  have hs2e : s2.data.toList = (r.data.toList.drop (10 + n)).take 4 := hs2d
  rw [← hpd, ← hs2e, ← hstd] at hpa
  have hpz' : p.size ≤ 65536 := by omega
  have hraz' : ra.size + 10 + n ≤ r.size ∧ r.size ≤ ra.size + 10 + n := by omega
  have hs2z' : s2.size ≤ 4 := by omega
  have hrbz' : rb.size + 14 + n ≤ r.size ∧ r.size ≤ rb.size + 14 + n := by omega
  have HP' := Lib.hid hp
  have HRA' := Lib.hid hra
  have HS2 := Lib.hid hs2
  have HRB := Lib.hid hrb'
  have HST := Lib.hid hst
  have HPD := Lib.hid hpd
  have HPA := Lib.hid hpa
  have hn1' : ¬ (65536 : Int) < (n : Int) := by omega
  have hn2' : ¬ ((r10.size : Nat) : Int) < (n : Int) + 4 := by omega
  clear hp hra hs2 hrb' hst hpd hrad hs2d hrbd hstd hpz hraz hs2z hrbz hstz hpa hs2e
  go_wp2_with fail
  refine (next_calls n w.heap.size r10 w3 (by omega) (by omega) hB3 hF3).mono ?_
  rintro e w4 ⟨rfl, hw4⟩
  rw [HP'.out]
  rw [HRA'.out] at hw4
  have hB4 : w4.cell? ⟨w.heap.size, 0, none⟩ = some (.string ra) := by rw [← hw4]; exact World.cell?_setCell_same' _ _ _ (by rw [hB3]; rfl)
  have hF4 : w4.frozen? ⟨w.heap.size, 0, none⟩ = false := by rw [← hw4, World.frozen?_setCell]; exact hF3
  have hbl4 : Below w.heap.size w w4 := by rw [← hw4]; exact hbl3.setCell (p := ⟨w.heap.size, 0, none⟩) (Nat.le_refl _) _
  clear hw4 hB3 hF3 hbl3
  go_wp2_with fail
  refine (next_calls 4 w.heap.size ra w4 (by omega) (by omega) hB4 hF4).mono ?_
  rintro e w5 ⟨rfl, hw5⟩
  rw [HS2.out]
  rw [HRB.out] at hw5
  have hB5 : w5.cell? ⟨w.heap.size, 0, none⟩ = some (.string rb) := by rw [← hw5]; exact World.cell?_setCell_same' _ _ _ (by rw [hB4]; rfl)
  have hF5 : w5.frozen? ⟨w.heap.size, 0, none⟩ = false := by rw [← hw5, World.frozen?_setCell]; exact hF4
  have hbl5 : Below w.heap.size w w5 := by rw [← hw5]; exact hbl4.setCell (p := ⟨w.heap.size, 0, none⟩) (Nat.le_refl _) _
  have hlt5 : w.heap.size < w5.heap.size := lt_of_cell hB5
  clear hw5 hB4 hF4 hbl4
  go_wp2_with fail
  refine (summed_calls (h ++ p) (by rw [ByteArray.size_append]; omega) w5 (hT.below hbl5)).mono ?_
  rintro e w6 ⟨rfl, hb6⟩
  rw [HST.out]
  have hB6 := (hb6.cell (p := ⟨w.heap.size, 0, none⟩) hlt5).trans hB5
  have hbl6 := hbl5.trans (hb6.mono hbl5.size)
  clear hb6 hB5 hF5 hbl5
  by_cases hq2 : s2.data.toList = st.data.toList
  rotate_left
  · have hpa := HPA.out
    rw [if_pos hq2] at hpa
    have hq : (s2.toList == st.toList) = false := by rw [ByteArray.toList_eq, ByteArray.toList_eq]; simpa using hq2
    have HP := Lib.hid hpa
    clear hpa hq2 HPA
    go_wp2
    refine bodyPost_ret (results_tmp4 rfl _ _ _) rfl ?_
    exact ⟨by rw [HP.out]; rfl, hbl6⟩
  have hq : (s2.toList == st.toList) = true := by rw [ByteArray.toList_eq, ByteArray.toList_eq, hq2]; simp
  have hpa := HPA.out
  rw [if_neg (by simpa using hq2)] at hpa
  have HP := Lib.hid hpa
  have hra := HRA.out
  have hsub1 : IntKind.i64.wrap ((b.size : Int) - (rb.size : Int)) = (b.size : Int) - (rb.size : Int) := IntWalk.i64_in _ ⟨by omega, by omega⟩
  have hfin : (b.size : Int) - (rb.size : Int) = ((a + n + 14 : Nat) : Int) := by omega
  have HFIN := Lib.hid hfin
  clear hpa hq2 HPA hra hfin
  go_wp2
  go_quiet (fail)
  go_wp2
  refine bodyPost_ret (results_tmp4 rfl _ _ _) rfl ?_
  refine ⟨?_, ?_⟩
  · rw [HP.out]
    show Ending.returned (.tuple #[.int .i64 ((h[1]'hh1).toNat : Int), .string p, .int .i64 ((b.size : Int) - (rb.size : Int)), .int .i64 0]) = _
    rw [HFIN.out, ← str_of_data (a := p) rfl]
  · exact ⟨hbl6.os, hbl6.tape, hbl6.output, hbl6.size, hbl6.block⟩
end Go.Proofs.YtihgjihdmlomaaaDoor

namespace Go.Proofs.YtihgjihdmlomaaaDoor
open Go.RowKit
set_option linter.unusedVariables false

theorem or4 (c0 c1 c2 c3 : Nat) (h0 : c0 < 256) (h1 : c1 < 256) (h2 : c2 < 256) (h3 : c3 < 256) :
    bits BinOp.or IntKind.u32 (bits BinOp.or IntKind.u32 (bits BinOp.or IntKind.u32 (c0 : Int) ((c1 : Int) * 256)) ((c2 : Int) * 65536)) ((c3 : Int) * 16777216) = ((c0 + 256 * c1 + 65536 * c2 + 16777216 * c3 : Nat) : Int) := by
  rw [show (c1 : Int) * 256 = ((c1 * 256 : Nat) : Int) by omega, show (c2 : Int) * 65536 = ((c2 * 65536 : Nat) : Int) by omega, show (c3 : Int) * 16777216 = ((c3 * 16777216 : Nat) : Int) by omega]
  rw [u32_or_nat c0 (c1 * 256) (by omega) (by omega), Nat.or_comm, nat_join 8 (c1 * 256) c0 (by omega) (by omega)]
  rw [u32_or_nat _ (c2 * 65536) (by omega) (by omega), Nat.or_comm, nat_join 16 (c2 * 65536) _ (by omega) (by omega)]
  rw [u32_or_nat _ (c3 * 16777216) (by omega) (by omega), Nat.or_comm, nat_join 24 (c3 * 16777216) _ (by omega) (by omega)]
  omega

set_option maxRecDepth 100000 in
set_option maxHeartbeats 4000000 in
theorem RefSumAt_calls (b : ByteArray) (hb : b.size ≤ 4611686018427387904) (a : Nat) (h : a + 4 ≤ b.size) (w : World) :
    Calls Tryd.prog 96 #[.string b, .int .i64 a] w fun e w' => e = .returned (.int .u32 (leN ((b.data.toList.drop a).take 4) : Nat)) ∧ ∃ k, w' = w.drewN k := by
  have h0 : a < b.size := by omega
  have h1 : a + 1 < b.size := by omega
  have h2 : a + 2 < b.size := by omega
  have h3 : a + 3 < b.size := by omega
  have l0 := b[a].toNat_lt
  have l1 := b[a + 1].toNat_lt
  have l2 := b[a + 2].toNat_lt
  have l3 := b[a + 3].toNat_lt
  have w1 : IntKind.i64.wrap ((a : Int) + 1) = (a : Int) + 1 := IntWalk.i64_in _ ⟨by omega, by omega⟩
  have w2 : IntKind.i64.wrap ((a : Int) + 2) = (a : Int) + 2 := IntWalk.i64_in _ ⟨by omega, by omega⟩
  have w3 : IntKind.i64.wrap ((a : Int) + 3) = (a : Int) + 3 := IntWalk.i64_in _ ⟨by omega, by omega⟩
  have n0 : (0 : Int) ≤ (a : Int) := by omega
  have i0 : (a : Int) < (b.size : Int) := by omega
  have n1 : (0 : Int) ≤ (a : Int) + 1 := by omega
  have i1 : (a : Int) + 1 < (b.size : Int) := by omega
  have t1 : ((a : Int) + 1).toNat = a + 1 := by omega
  have n2 : (0 : Int) ≤ (a : Int) + 2 := by omega
  have i2 : (a : Int) + 2 < (b.size : Int) := by omega
  have t2 : ((a : Int) + 2).toNat = a + 2 := by omega
  have n3 : (0 : Int) ≤ (a : Int) + 3 := by omega
  have i3 : (a : Int) + 3 < (b.size : Int) := by omega
  have t3 : ((a : Int) + 3).toNat = a + 3 := by omega
  go_enter Tryd.func96, Tryd.ntmps96
  go_wp2
  go_quiet (fail)
  go_wp2
  go_ret
  refine ⟨?_, _, rfl⟩
  have e : leN ((b.data.toList.drop a).take 4) = b[a].toNat + 256 * b[a + 1].toNat + 65536 * b[a + 2].toNat + 16777216 * b[a + 3].toNat := by
    have g : ∀ j, j < 4 → (hj : a + j < b.size) → ((b.data.toList.drop a).take 4).getD j 0 = b[a + j] := by
      intro j hj4 hj
      simp [List.getD, hj4, List.getElem?_drop, hj]; rfl
    unfold leN
    rw [g 0 (by omega) (by omega), g 1 (by omega) (by omega), g 2 (by omega) (by omega), g 3 (by omega) (by omega)]
    rfl
  rw [e]
  show Ending.returned (.int .u32 (bits BinOp.or IntKind.u32 (bits BinOp.or IntKind.u32 (bits BinOp.or IntKind.u32 (b[a].toNat : Int) ((b[a + 1].toNat : Int) * 256)) ((b[a + 2].toNat : Int) * 65536)) ((b[a + 3].toNat : Int) * 16777216))) = _
  rw [or4 _ _ _ _ l0 l1 l2 l3]

theorem begun_facts (r : ByteArray) (h : 10 ≤ r.size) : ((r.data.toList.drop 6).take 4).length = 4 ∧ r.data.toList.take 6 = (r.extract 0 6).data.toList := by
  refine ⟨by simp; omega, ?_⟩
  simp

set_option maxRecDepth 100000 in
set_option maxHeartbeats 4000000 in
theorem RefBegun_calls (r : ByteArray) (hb : r.size ≤ 4611686018427387904) (w : World) :
    Calls Tryd.prog 95 #[.string r] w fun e w' => e = .returned (.tuple #[.int .i64 (begunR r.data.toList).1, .int .i64 (begunR r.data.toList).2]) ∧ ∃ k, w' = w.drewN k := by
  by_cases h0 : r.size = 0
  · have hpa : begunR r.data.toList = (0, 31) := by
      unfold begunR; rw [if_pos (List.eq_nil_of_length_eq_zero h0)]
    rw [hpa]
    clear hpa
    have h0' : ((r.size : Int) == 0) = true := by rw [beq_iff_eq]; omega
    clear h0
    go_enter Tryd.func95, Tryd.ntmps95
    go_wp2
    go_ret2
    exact ⟨rfl, 0, rfl⟩
  have h0' : 0 < r.size := by omega
  have he : ((r.size : Int) == 0) = false := by rw [beq_eq_false_iff_ne]; omega
  have hne : ¬ r.data.toList = [] := by intro h; rw [size_data, h] at h0; exact h0 rfl
  have hg0 : r.data.toList.getD 0 0 = r[0] := by simp [List.getD, h0']; rfl
  clear h0
  by_cases hm : r[0].toNat ≠ 167
  · have hpa : begunR r.data.toList = (0, 33) := by
      unfold begunR; rw [if_neg hne, hg0, if_pos hm]
    rw [hpa]
    clear hpa
    have hm' : ((r[0].toNat : Int) != 167) = true := by rw [bne_iff_ne]; omega
    clear hm hne hg0
    go_enter Tryd.func95, Tryd.ntmps95
    go_wp2
    go_ret2
    exact ⟨rfl, 0, rfl⟩
  have hm' : ((r[0].toNat : Int) != 167) = false := by rw [bne_eq_false_iff_eq]; omega
  by_cases h10 : r.size < 10
  · have hpa : begunR r.data.toList = (0, 31) := by
      unfold begunR; rw [if_neg hne, hg0, if_neg hm, if_pos (show r.data.toList.length < 10 from h10)]
    rw [hpa]
    clear hpa hm hne hg0
    go_enter Tryd.func95, Tryd.ntmps95
    go_wp2
    go_ret2
    exact ⟨rfl, 0, rfl⟩
  obtain ⟨h, hh, hhd, hhz⟩ := name_cut r 0 6 (by omega) (by omega)
  simp only [List.drop_zero, Nat.sub_zero] at hhd hhz
  have hpa : begunR r.data.toList = if leN ((r.data.toList.drop 6).take 4) ≠ Crc.on 0 h.data.toList then (0, 34)
      else if (r.data.toList.getD 1 0).toNat = 0 then (0, 35)
      else if 65536 < numB 0 ((r.data.toList.drop 2).take 4) then (0, 36) else (((numB 0 ((r.data.toList.drop 2).take 4) : Nat) : Int), 0) := by
    unfold begunR
    rw [if_neg hne, hg0, if_neg hm, if_neg (show ¬ r.data.toList.length < 10 from h10), hhd]
  have hnb : numB 0 ((r.data.toList.drop 2).take 4) < 4294967296 := by
    have h1 := numB_lt ((r.data.toList.drop 2).take 4)
    have h2 : ((r.data.toList.drop 2).take 4).length = 4 := by simp; omega
    rw [h2] at h1; exact h1
  obtain ⟨n, hn⟩ : ∃ n, numB 0 ((r.data.toList.drop 2).take 4) = n := ⟨_, rfl⟩
  rw [hn] at hpa hnb
  have h1 : 1 < r.size := by omega
  have hk1 : r.data.toList.getD 1 0 = r[1]'h1 := by simp [List.getD, h1]; rfl
  rw [hk1] at hpa
  have hkb : (r[1]'h1).toNat < 256 := (r[1]'h1).toNat_lt
  obtain ⟨x, hx⟩ : ∃ x, leN ((r.data.toList.drop 6).take 4) = x := ⟨_, rfl⟩
  obtain ⟨y, hy⟩ : ∃ y, Crc.on 0 h.data.toList = y := ⟨_, rfl⟩
  rw [hx, hy] at hpa
  have csum := fun W : World => RefSumAt_calls r hb 6 (by omega) W
  have ctot := fun W : World => RefSum_calls h (by omega) W
  have cnum := fun W : World => RefNumber_calls r (by omega) 2 4 (by omega) (by omega) W
  rw [hx] at csum
  rw [hy] at ctot
  rw [hn] at cnum
  have CSUM := Lib.hid csum
  have CTOT := Lib.hid ctot
  have CNUM := Lib.hid cnum
  have HPA := Lib.hid hpa
  obtain ⟨R, hR⟩ : ∃ R, begunR r.data.toList = R := ⟨_, rfl⟩
  rw [hR] at HPA ⊢
  clear csum ctot cnum hpa hx hy hn hk1 hhd hhz hne hg0 hm hR
  by_cases hxy : x = y
  rotate_left
  · have hpa := HPA.out
    rw [if_pos hxy] at hpa
    have HP := Lib.hid hpa
    have hxy' : ((x : Int) != (y : Int)) = true := by rw [bne_iff_ne]; omega
    clear hpa HPA hxy
    go_enter Tryd.func95, Tryd.ntmps95
    go_wp2_with fail
    go_quiet ((first | (go_at_call 96; exact quiet_some (CSUM.out _)) | (go_at_call 90; exact quiet_left (CTOT.out _))))
    go_wp2
    go_ret2
    exact ⟨by rw [HP.out]; rfl, _, rfl⟩
  have hpa := HPA.out
  rw [if_neg (by simpa using hxy)] at hpa
  have hxy' : ((x : Int) != (y : Int)) = false := by rw [bne_eq_false_iff_eq]; omega
  clear HPA hxy
  by_cases hk0 : (r[1]'h1).toNat = 0
  · rw [if_pos hk0] at hpa
    have HP := Lib.hid hpa
    have hk0' : (((r[1]'h1).toNat : Int) == 0) = true := by simp; omega
    clear hpa hk0
    go_enter Tryd.func95, Tryd.ntmps95
    go_wp2_with fail
    go_quiet ((first | (go_at_call 96; exact quiet_some (CSUM.out _)) | (go_at_call 90; exact quiet_left (CTOT.out _))))
    go_wp2
    go_ret2
    exact ⟨by rw [HP.out]; rfl, _, rfl⟩
  rw [if_neg hk0] at hpa
  have hk0' : (((r[1]'h1).toNat : Int) == 0) = false := by simp; omega
  clear hk0
  by_cases hn1 : 65536 < n
  all_goals
    first | rw [if_pos hn1] at hpa | rw [if_neg hn1] at hpa
    have HP := Lib.hid hpa
    clear hpa
    go_enter Tryd.func95, Tryd.ntmps95
    go_wp2_with fail
    go_quiet ((first | (go_at_call 96; exact quiet_some (CSUM.out _)) | (go_at_call 90; exact quiet_left (CTOT.out _))))
    go_wp2_with fail
    refine (CNUM.out _).mono ?_
    rintro e w1 ⟨rfl, rfl⟩
    go_wp2
    go_ret2
    exact ⟨by rw [HP.out]; rfl, _, rfl⟩

set_option maxRecDepth 100000 in
set_option maxHeartbeats 4000000 in
theorem RefParse_calls (b : ByteArray) (hb : b.size ≤ 4611686018427387904) (at_ : Int) (w : World) :
    Calls Tryd.prog 72 #[.string b, .int .i64 at_] w fun e w' => e = .returned (.tuple #[.int .i64 (parseR b.data.toList at_).1, .string ⟨(parseR b.data.toList at_).2.1.toArray⟩, .int .i64 (parseR b.data.toList at_).2.2.1, .int .i64 (parseR b.data.toList at_).2.2.2]) ∧ ∃ k, w' = w.drewN k := by
  have hlen : b.data.toList.length = b.size := by simp
  by_cases ha : at_ < 0
  · have hp : parseR b.data.toList at_ = (0, [], 0, 13) := by unfold parseR; rw [if_pos (by omega)]
    rw [hp]
    clear hp hlen
    go_enter Tryd.func72, Tryd.ntmps72
    go_wp2
    refine bodyPost_ret (results_tmp4 rfl _ _ _) rfl ?_
    exact ⟨rfl, 0, rfl⟩
  by_cases hl : (b.size : Int) < at_
  · have hp : parseR b.data.toList at_ = (0, [], 0, 13) := by unfold parseR; rw [if_pos (by omega)]
    rw [hp]
    clear hp hlen
    go_enter Tryd.func72, Tryd.ntmps72
    go_wp2
    refine bodyPost_ret (results_tmp4 rfl _ _ _) rfl ?_
    exact ⟨rfl, 0, rfl⟩
  obtain ⟨a, rfl⟩ := Int.eq_ofNat_of_zero_le (show 0 ≤ at_ by omega)
  have hp : parseR b.data.toList a = parseAt a (b.data.toList.drop a) := by unfold parseR; rw [if_neg (by omega)]; rfl
  rw [hp]
  clear hp hlen
  obtain ⟨r, hr, hrd, hrz⟩ := name_cut b a b.size (by omega) (by omega)
  rw [show b.data.toList.drop a = r.data.toList by rw [hrd, List.take_of_length_le (by simp)]]
  have hrb : r.size + a ≤ b.size := by omega
  clear hrd hrz
  have hpb := parse_begun a r.data.toList
  have cbeg := fun W : World => RefBegun_calls r (by omega) W
  obtain ⟨B, hB⟩ : ∃ B, begunR r.data.toList = B := ⟨_, rfl⟩
  rw [hB] at hpb
  simp only [hB] at cbeg
  have CBEG := Lib.hid cbeg
  clear hB cbeg
  obtain ⟨B1, B2⟩ := B
  simp only at hpb
  by_cases hB2 : B2 = 0
  rotate_left
  · have HP := Lib.hid (hpb.1 hB2)
    have hb2 : (B2 != 0) = true := by rw [bne_iff_ne]; exact hB2
    clear hpb hB2
    go_enter Tryd.func72, Tryd.ntmps72
    go_wp2_with fail
    refine (CBEG.out _).mono ?_
    rintro e w1 ⟨rfl, hk⟩
    go_wp2
    refine bodyPost_ret (results_tmp4 rfl _ _ _) rfl ?_
    exact ⟨by rw [HP.out]; rfl, hk⟩
  subst hB2
  obtain ⟨n, hn1, hn2, hn3, hpa⟩ := hpb.2 rfl
  clear hpb
  subst hn1
  have hn3' : 10 ≤ r.size := hn3
  clear hn3
  by_cases h6 : r.size < n + 14
  · rw [if_pos (show r.data.toList.length < n + 14 from h6)] at hpa
    have HP := Lib.hid hpa
    clear hpa
    go_enter Tryd.func72, Tryd.ntmps72
    go_wp2_with fail
    refine (CBEG.out _).mono ?_
    rintro e w1 ⟨rfl, hk⟩
    go_wp2
    refine bodyPost_ret (results_tmp4 rfl _ _ _) rfl ?_
    exact ⟨by rw [HP.out]; rfl, hk⟩
  rw [if_neg (show ¬ r.data.toList.length < n + 14 from h6)] at hpa
  obtain ⟨p, hp, hpd, hpz⟩ := name_cut r 10 (10 + n) (by omega) (by omega)
  obtain ⟨h, hh, hhd, hhz⟩ := name_cut r 0 6 (by omega) (by omega)
  simp only [List.drop_zero, Nat.sub_zero] at hhd hhz
  rw [show 10 + n - 10 = n by omega] at hpd hpz
  have hhz' : h.size ≤ 6 := by omega
  have hpz' : p.size ≤ 65536 := by omega
  rw [← hhd, ← hpd] at hpa
  have h1 : 1 < r.size := by omega
  have hk1 : r.data.toList.getD 1 0 = r[1]'h1 := by simp [List.getD, h1]; rfl
  rw [hk1] at hpa
  have hkb : (r[1]'h1).toNat < 256 := (r[1]'h1).toNat_lt
  obtain ⟨x, hx⟩ : ∃ x, leN ((r.data.toList.drop (10 + n)).take 4) = x := ⟨_, rfl⟩
  obtain ⟨y, hy⟩ : ∃ y, Crc.on 0 (h.data.toList ++ p.data.toList) = y := ⟨_, rfl⟩
  rw [hx, hy] at hpa
  have csum := fun W : World => RefSumAt_calls r (by omega) (10 + n) (by omega) W
  have ctot := fun W : World => RefSum_calls (h ++ p) (by rw [ByteArray.size_append]; omega) W
  rw [hx] at csum
  simp only [cat_data, hy] at ctot
  rw [show ((10 + n : Nat) : Int) = 10 + (n : Int) by omega] at csum
  have CSUM := Lib.hid csum
  have CTOT := Lib.hid ctot
  have HPA := Lib.hid hpa
  have HH := Lib.hid hh
  have hsl : ∀ W : World, (Instr.slice 9 (.string r) (some (.int .i64 10)) (some (.int .i64 (10 + (n : Int)))) none).run Tryd.prog W = .ok (.string p) W := by
    intro W
    rw [run_slice_string (P := Tryd.prog) W 9 r .i64 .i64 10 (10 + (n : Int)) Tryd.underlying9 (by omega) (by omega) (by omega), show (10 + (n : Int)).toNat = 10 + n by omega, ← hp]
    rfl
  have hcat : h.size + p.size ≤ 9223372036854775807 := by omega
  obtain ⟨R, hR⟩ : ∃ R, parseAt a r.data.toList = R := ⟨_, rfl⟩
  rw [hR] at HPA ⊢
  clear csum ctot hpa hx hy hk1 hhd hhz hpd hpz hR
  by_cases hxy : x = y
  rotate_left
  · have hpa := HPA.out
    rw [if_pos hxy] at hpa
    have HP := Lib.hid hpa
    have hxy' : ((x : Int) != (y : Int)) = true := by rw [bne_iff_ne]; omega
    clear hpa HPA hxy
    go_enter Tryd.func72, Tryd.ntmps72
    go_wp2_with fail
    refine (CBEG.out _).mono ?_
    rintro e w1 ⟨rfl, hk⟩
    go_wp2_with fail
    go_quiet ((first | (go_at_call 96; exact quiet_some (CSUM.out _)) | (go_at_call 90; exact quiet_left (CTOT.out _))))
    go_wp2
    refine bodyPost_ret (results_tmp4 rfl _ _ _) rfl ?_
    obtain ⟨k, rfl⟩ := hk
    exact ⟨by rw [HP.out]; rfl, _, World.drewN_drewN _ _ _⟩
  have hpa := HPA.out
  rw [if_neg (by simpa using hxy)] at hpa
  have hxy' : ((x : Int) != (y : Int)) = false := by rw [bne_eq_false_iff_eq]; omega
  have hfin : (a : Int) + 10 + (n : Int) + 4 = ((a + n + 14 : Nat) : Int) := by omega
  have HFIN := Lib.hid hfin
  have HP := Lib.hid hpa
  clear hpa HPA hxy hfin
  go_enter Tryd.func72, Tryd.ntmps72
  go_wp2_with fail
  refine (CBEG.out _).mono ?_
  rintro e w1 ⟨rfl, hk⟩
  go_wp2_with fail
  go_quiet ((first | (go_at_call 96; exact quiet_some (CSUM.out _)) | (go_at_call 90; exact quiet_left (CTOT.out _))))
  go_wp2
  refine bodyPost_ret (results_tmp4 rfl _ _ _) rfl ?_
  obtain ⟨k, rfl⟩ := hk
  refine ⟨?_, _, World.drewN_drewN _ _ _⟩
  rw [HP.out]
  show Ending.returned (.tuple #[.int .i64 ((r[1]'h1).toNat : Int), .string p, .int .i64 ((a : Int) + 10 + (n : Int) + 4), .int .i64 0]) = _
  rw [HFIN.out, ← str_of_data (a := p) rfl]

end Go.Proofs.YtihgjihdmlomaaaDoor

namespace Go.Proofs.YtihgjihdmlomaaaDoor
open Go.RowKit
set_option linter.unusedVariables false

/-- Frames as they lie in memory. -/
def encF (L : List (Int × List UInt8 × Nat)) : List Value := L.flatMap fun x => [.int .i64 x.1, .string ⟨x.2.1.toArray⟩, .int .i64 (x.2.2 : Nat)]
theorem encF_snoc (L : List (Int × List UInt8 × Nat)) (x : Int × List UInt8 × Nat) : encF (L ++ [x]) = encF L ++ [.int .i64 x.1, .string ⟨x.2.1.toArray⟩, .int .i64 (x.2.2 : Nat)] := by simp [encF]
theorem encF_length (L : List (Int × List UInt8 × Nat)) : (encF L).length = L.length * 3 := by
  induction L with
  | nil => rfl
  | cons x L ih => simp only [encF, List.flatMap_cons, List.length_append, List.length_cons, List.length_nil] at ih ⊢; omega
theorem encF_get (L : List (Int × List UInt8 × Nat)) : ∀ j, j < L.length → ∃ x, L[j]? = some x ∧ (encF L)[j * 3]? = some (.int .i64 x.1) ∧ (encF L)[j * 3 + 1]? = some (.string ⟨x.2.1.toArray⟩) ∧ (encF L)[j * 3 + 2]? = some (.int .i64 (x.2.2 : Nat)) := by
  induction L with
  | nil => intro j h; simp at h
  | cons x L ih =>
    intro j h
    cases j with
    | zero => exact ⟨x, rfl, rfl, rfl, rfl⟩
    | succ j =>
      obtain ⟨y, h1, h2, h3, h4⟩ := ih j (by simpa using h)
      refine ⟨y, by simpa using h1, ?_, ?_, ?_⟩
      · rw [show (j + 1) * 3 = j * 3 + 3 by omega]; simpa [encF] using h2
      · rw [show (j + 1) * 3 + 1 = (j * 3 + 1) + 3 by omega]; simpa [encF] using h3
      · rw [show (j + 1) * 3 + 2 = (j * 3 + 2) + 3 by omega]; simpa [encF] using h4
theorem framedinfo : (Tryd.prog.info? 83).map (fun i => (i.zero, i.size, i.bytes)) = some (some (.agg #[.int .i64 0, .string ⟨#[]⟩, .int .i64 0]), 3, 32) := by kernel_rfl

set_option maxRecDepth 100000 in
set_option maxHeartbeats 2000000 in
theorem Frames_calls2 (b : ByteArray) (hb : b.size ≤ 4611686018427387904) (hn : (framesR b.data.toList).1.length * 32 ≤ 140737488355328) (w : World) (hT : Tab w) :
    Calls Tryd.prog 44 #[.string b] w fun e w' => ∃ v, e = .returned (.tuple #[v, .int .i64 ((framesR b.data.toList).2 : Nat)]) ∧ w'.ownsRow w.heap.size 83 3 v (framesR b.data.toList).1.length (encF (framesR b.data.toList).1) ∧ Below w.heap.size w w' := by
  obtain ⟨i0, hi, hz0, hz1, hz2⟩ := info_parts framedinfo
  obtain ⟨FL, hFL⟩ : ∃ L, (framesR b.data.toList).1 = L := ⟨_, rfl⟩
  obtain ⟨FE, hFE⟩ : ∃ L, (framesR b.data.toList).2 = L := ⟨_, rfl⟩
  rw [hFL] at hn
  rw [hFL, hFE]
  have HFL := Lib.hid hFL
  have HFE := Lib.hid hFE
  clear hFL hFE
  go_enter Tryd.func44, Tryd.ntmps44
  go_wp2
  go_loopw [4, 5] (fun v at_ wr => ∃ (L : List (Int × List UInt8 × Nat)) (a n : Nat) (lv : Value), at_ = .int .i64 (a : Nat) ∧ lv = v ∧ Hid (FrSo b.data.toList L a n) ∧ wr.ownsRow w.heap.size 83 3 v L.length (encF L) ∧ Below w.heap.size w wr) (fun _ at_ _ => b.size + 1 - (intOf at_).toNat)
  case atStart => exact ⟨[], 0, _, _, rfl, rfl, Lib.hid (FrSo.start _), World.ownsRow_nil _ _ _ _, Below.refl _ _⟩
  case round =>
    obtain ⟨L, a, n, lv, rfl, rfl, HS, hown, hbl⟩ := hrel
    have CP := Parse_calls b (by omega) (a : Int) wr (hT.below hbl)
    have hla : 14 * L.length ≤ a ∧ a ≤ b.size := ⟨HS.out.2.2.1, HS.out.2.2.2⟩
    obtain ⟨hl1, hl2⟩ := hla
    by_cases he : (parseR b.data.toList a).2.2.2 = 0
    · obtain ⟨m, hm⟩ := HS.out.step he
      obtain ⟨_, hnx, hle⟩ := parse_shape b.data.toList a _ rfl he
      rw [show b.data.toList.length = b.size from rfl] at hle
      have HM := Lib.hid hm
      have hlq : L.length + 1 ≤ FL.length := by rw [← HFL.out, HM.out.1]; simp
      rw [he, hnx] at CP
      obtain ⟨k, hk⟩ : ∃ k, (parseR b.data.toList a).1 = k := ⟨_, rfl⟩
      obtain ⟨p, hp⟩ : ∃ p, (parseR b.data.toList a).2.1 = p := ⟨_, rfl⟩
      rw [hk, hp] at CP HM
      rw [hp] at hle
      obtain ⟨s, hs⟩ : ∃ s : ByteArray, (⟨p.toArray⟩ : ByteArray) = s := ⟨_, rfl⟩
      rw [hs] at CP
      obtain ⟨nx, hnxe⟩ : ∃ nx, a + p.length + 14 = nx := ⟨_, rfl⟩
      rw [hnxe] at CP HM hle
      have hpos : a < nx := by omega
      have HE := Lib.hid (encF_snoc L (k, p, a))
      simp only [hs] at HE
      have HC := Lib.hid CP
      clear CP hm hnx hk hp hs hnxe he
      go_wp2_with fail
      refine HC.out.mono ?_
      rintro e w1 ⟨rfl, hb1⟩
      have hown1 := own_belowAll hown hb1
      have hbl1 := hbl.trans (hb1.mono hbl.size)
      clear hown hb1
      go_wp2_with (at_builtin; refine wpList_append_two _ rfl _ _ 79 rfl w.heap.size 83 i0 (.agg #[.int .i64 0, .string ⟨#[]⟩, .int .i64 0]) 3 32 Tryd.underlying79 hi hz0 hz1 hz2 rfl (by decide) lv L.length _ rfl (hown1.alloc _) ⟨w1.heap.size, 0, none⟩ 1 1 [.int .i64 k, .string s, .int .i64 (a : Nat)] rfl rfl (World.news_of_block (heap_alloc_new w1 _)) (by simp [Value.oneCell']) (by decide) (by unfold maxLen; omega) (by omega) (by have := hbl1.size; simp; omega) ?_; intro g capn y1 hown' hold hlies hlt2)
      have hbn : Below w.heap.size w y1 := hlies.below (hbl1.alloc hbl1.size _) (by have := hbl1.size; simp; omega) (fun g hg => (hown1.lt g hg).1)
      go_roundw
      case rel => exact ⟨L ++ [(k, p, a)], nx, m, _, by go_num, rfl, HM, by rw [List.length_append, HE.out]; exact hown', hbn⟩
      case measure => simp [intOf]; omega
    · have hst := HS.out.stop he
      obtain rfl : FL = L := by rw [← HFL.out, hst]
      obtain rfl : a = FE := by rw [← HFE.out, hst]
      have hne : ((parseR b.data.toList a).2.2.2 != 0) = true := by rw [bne_iff_ne]; exact he
      obtain ⟨q1, hq1⟩ : ∃ k, (parseR b.data.toList a).1 = k := ⟨_, rfl⟩
      obtain ⟨q2, hq2⟩ : ∃ s : ByteArray, (⟨(parseR b.data.toList a).2.1.toArray⟩ : ByteArray) = s := ⟨_, rfl⟩
      obtain ⟨q3, hq3⟩ : ∃ k, (parseR b.data.toList a).2.2.1 = k := ⟨_, rfl⟩
      obtain ⟨q4, hq4⟩ : ∃ k, (parseR b.data.toList a).2.2.2 = k := ⟨_, rfl⟩
      rw [hq1, hq2, hq3, hq4] at CP
      rw [hq4] at hne
      have HC := Lib.hid CP
      clear CP hst hq1 hq2 hq3 hq4 he
      go_wp2_with fail
      refine HC.out.mono ?_
      rintro e w1 ⟨rfl, hb1⟩
      have hown1 := own_belowAll hown hb1
      have hbl1 := hbl.trans (hb1.mono hbl.size)
      go_wp2
      go_ret2
      exact ⟨_, rfl, hown1, hbl1⟩

theorem Frames_calls (b : ByteArray) (hb : b.size ≤ 1099511627776) (w : World) (hT : Tab w) :
    Calls Tryd.prog 44 #[.string b] w fun e w' => ∃ v, e = .returned (.tuple #[v, .int .i64 ((framesR b.data.toList).2 : Nat)]) ∧ w'.ownsRow w.heap.size 83 3 v (framesR b.data.toList).1.length (encF (framesR b.data.toList).1) ∧ Below w.heap.size w w' :=
  Frames_calls2 b (by omega) (by have h := (framesR_le b.data.toList).1; have e : b.data.toList.length = b.size := rfl; omega) w hT

set_option maxRecDepth 100000 in
set_option maxHeartbeats 2000000 in
theorem RefFrames_calls (b : ByteArray) (hb : b.size ≤ 1099511627776) (w : World) :
    Calls Tryd.prog 47 #[.string b] w fun e w' => ∃ v, e = .returned (.tuple #[v, .int .i64 ((framesR b.data.toList).2 : Nat)]) ∧ w'.ownsRow w.heap.size 83 3 v (framesR b.data.toList).1.length (encF (framesR b.data.toList).1) ∧ Below w.heap.size w w' := by
  obtain ⟨i0, hi, hz0, hz1, hz2⟩ := info_parts framedinfo
  obtain ⟨FL, hFL⟩ : ∃ L, (framesR b.data.toList).1 = L := ⟨_, rfl⟩
  obtain ⟨FE, hFE⟩ : ∃ L, (framesR b.data.toList).2 = L := ⟨_, rfl⟩
  rw [hFL, hFE]
  have HFL := Lib.hid hFL
  have HFE := Lib.hid hFE
  clear hFL hFE
  go_enter Tryd.func47, Tryd.ntmps47
  go_wp2
  go_loopw [4, 5] (fun v at_ wr => ∃ (L : List (Int × List UInt8 × Nat)) (a n : Nat) (lv : Value), at_ = .int .i64 (a : Nat) ∧ lv = v ∧ Hid (FrSo b.data.toList L a n) ∧ wr.ownsRow w.heap.size 83 3 v L.length (encF L) ∧ Below w.heap.size w wr) (fun _ at_ _ => b.size + 1 - (intOf at_).toNat)
  case atStart => exact ⟨[], 0, _, _, rfl, rfl, Lib.hid (FrSo.start _), World.ownsRow_nil _ _ _ _, Below.refl _ _⟩
  case round =>
    obtain ⟨L, a, n, lv, rfl, rfl, HS, hown, hbl⟩ := hrel
    have CP := RefParse_calls b (by omega) (a : Int) wr
    have hla : 14 * L.length ≤ a ∧ a ≤ b.size := ⟨HS.out.2.2.1, HS.out.2.2.2⟩
    obtain ⟨hl1, hl2⟩ := hla
    by_cases hend : a < b.size
    · by_cases he : (parseR b.data.toList a).2.2.2 = 0
      · obtain ⟨m, hm⟩ := HS.out.step he
        obtain ⟨_, hnx, hle⟩ := parse_shape b.data.toList a _ rfl he
        rw [show b.data.toList.length = b.size from rfl] at hle
        have HM := Lib.hid hm
        rw [he, hnx] at CP
        obtain ⟨k, hk⟩ : ∃ k, (parseR b.data.toList a).1 = k := ⟨_, rfl⟩
        obtain ⟨p, hp⟩ : ∃ p, (parseR b.data.toList a).2.1 = p := ⟨_, rfl⟩
        rw [hk, hp] at CP HM
        rw [hp] at hle
        obtain ⟨s, hs⟩ : ∃ s : ByteArray, (⟨p.toArray⟩ : ByteArray) = s := ⟨_, rfl⟩
        rw [hs] at CP
        obtain ⟨nx, hnxe⟩ : ∃ nx, a + p.length + 14 = nx := ⟨_, rfl⟩
        rw [hnxe] at CP HM hle
        have hpos : a < nx := by omega
        have HE := Lib.hid (encF_snoc L (k, p, a))
        simp only [hs] at HE
        have HC := Lib.hid CP
        clear CP hm hnx hk hp hs hnxe he
        go_wp2_with fail
        refine HC.out.mono ?_
        rintro e w1 ⟨rfl, q, rfl⟩
        have hown1 : (wr.drewN q).ownsRow w.heap.size 83 3 lv L.length (encF L) := hown
        have hbl1 := below_drewN hbl q
        clear hown
        go_wp2_with (at_builtin; refine wpList_append_two _ rfl _ _ 79 rfl w.heap.size 83 i0 (.agg #[.int .i64 0, .string ⟨#[]⟩, .int .i64 0]) 3 32 Tryd.underlying79 hi hz0 hz1 hz2 rfl (by decide) lv L.length _ rfl (hown1.alloc _) ⟨wr.heap.size, 0, none⟩ 1 1 [.int .i64 k, .string s, .int .i64 (a : Nat)] rfl rfl (World.news_of_block (heap_alloc_new (wr.drewN q) _)) (by simp [Value.oneCell']) (by decide) (by unfold maxLen; omega) (by omega) (by have := hbl1.size; simp at this ⊢; omega) ?_; intro g capn y1 hown' hold hlies hlt2)
        have hbn : Below w.heap.size w y1 := hlies.below (hbl1.alloc hbl1.size _) (by have := hbl1.size; simp at this ⊢; omega) (fun g hg => (hown1.lt g hg).1)
        go_roundw
        case rel => exact ⟨L ++ [(k, p, a)], nx, m, _, by go_num, rfl, HM, by rw [List.length_append, HE.out]; exact hown', hbn⟩
        case measure => simp [intOf]; omega
      · have hst := HS.out.stop he
        obtain rfl : FL = L := by rw [← HFL.out, hst]
        obtain rfl : a = FE := by rw [← HFE.out, hst]
        have hne : ((parseR b.data.toList a).2.2.2 != 0) = true := by rw [bne_iff_ne]; exact he
        obtain ⟨q1, hq1⟩ : ∃ k, (parseR b.data.toList a).1 = k := ⟨_, rfl⟩
        obtain ⟨q2, hq2⟩ : ∃ s : ByteArray, (⟨(parseR b.data.toList a).2.1.toArray⟩ : ByteArray) = s := ⟨_, rfl⟩
        obtain ⟨q3, hq3⟩ : ∃ k, (parseR b.data.toList a).2.2.1 = k := ⟨_, rfl⟩
        obtain ⟨q4, hq4⟩ : ∃ k, (parseR b.data.toList a).2.2.2 = k := ⟨_, rfl⟩
        rw [hq1, hq2, hq3, hq4] at CP
        rw [hq4] at hne
        have HC := Lib.hid CP
        clear CP hst hq1 hq2 hq3 hq4 he
        go_wp2_with fail
        refine HC.out.mono ?_
        rintro e w1 ⟨rfl, q, rfl⟩
        go_wp2
        go_ret2
        exact ⟨_, rfl, hown, below_drewN hbl q⟩
    · obtain rfl : a = b.size := by omega
      have hst := HS.out.stop (parse_at_end b.data.toList)
      obtain rfl : FL = L := by rw [← HFL.out, hst]
      have hfe : FE = b.size := by rw [← HFE.out, hst]
      subst hfe
      clear hst CP
      go_wp2
      go_ret2
      exact ⟨_, rfl, hown, hbl⟩
end Go.Proofs.YtihgjihdmlomaaaDoor
