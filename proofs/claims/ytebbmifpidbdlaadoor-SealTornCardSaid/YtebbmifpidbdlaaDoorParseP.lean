/-
  PLAIN LAWS: what taking a frame out of a text answers (no program in sight).
-/
import Derived.Test.YtebbmifpidbdlaaDoorFrameP
namespace Go.Proofs.YtebbmifpidbdlaaDoor

/-- What stands at the beginning of r, r beginning at place a: its kind, its payload, the place behind it, the refusal. -/
def parseAt (a : Nat) (r : List UInt8) : Int × List UInt8 × Int × Int :=
  if r = [] then (0, [], 0, 31)
  else if (r.getD 0 0).toNat ≠ 167 then (0, [], 0, 33)
  else if r.length < 10 then (0, [], 0, 31)
  else if (r.drop 6).take 4 ≠ sumB (r.take 6) then (0, [], 0, 34)
  else if (r.getD 1 0).toNat = 0 then (0, [], 0, 35)
  else if 65536 < numB 0 ((r.drop 2).take 4) then (0, [], 0, 36)
  else if r.length < numB 0 ((r.drop 2).take 4) + 14 then (0, [], 0, 31)
  else if (r.drop (10 + numB 0 ((r.drop 2).take 4))).take 4 ≠ sumB (r.take 6 ++ (r.drop 10).take (numB 0 ((r.drop 2).take 4))) then (0, [], 0, 34)
  else (((r.getD 1 0).toNat : Int), (r.drop 10).take (numB 0 ((r.drop 2).take 4)), ((a + numB 0 ((r.drop 2).take 4) + 14 : Nat) : Int), 0)
def parseR (b : List UInt8) (at_ : Int) : Int × List UInt8 × Int × Int :=
  if at_ < 0 ∨ (b.length : Int) < at_ then (0, [], 0, 13) else parseAt at_.toNat (b.drop at_.toNat)

/-- Four bytes as a number, the lowest first. -/
def leN (l : List UInt8) : Nat := (l.getD 0 0).toNat + 256 * (l.getD 1 0).toNat + 65536 * (l.getD 2 0).toNat + 16777216 * (l.getD 3 0).toNat
theorem leN_lt (l : List UInt8) : leN l < 4294967296 := by
  unfold leN
  have h0 := (l.getD 0 0).toNat_lt
  have h1 := (l.getD 1 0).toNat_lt
  have h2 := (l.getD 2 0).toNat_lt
  have h3 := (l.getD 3 0).toNat_lt
  omega
theorem ofNat_eq (c : UInt8) (n : Nat) (h : c.toNat = n % 256) : c = UInt8.ofNat n := by
  apply UInt8.toNat_inj.1
  rw [h]; simp
theorem leN_eq (l : List UInt8) (h : l.length = 4) (s : Nat) (hs : s < 4294967296) : leN l = s ↔ l = le32 s := by
  match l, h with
  | [c0, c1, c2, c3], _ =>
    have h0 := c0.toNat_lt
    have h1 := c1.toNat_lt
    have h2 := c2.toNat_lt
    have h3 := c3.toNat_lt
    constructor
    · intro e
      unfold leN at e
      simp only [List.getD_cons_zero, List.getD_cons_succ] at e
      unfold le32
      rw [← ofNat_eq c0 s (by omega), ← ofNat_eq c1 (s / 256) (by omega), ← ofNat_eq c2 (s / 65536) (by omega), ← ofNat_eq c3 (s / 16777216) (by omega)]
    · intro e
      rw [e]
      unfold leN le32
      simp only [List.getD_cons_zero, List.getD_cons_succ, UInt8.toNat_ofNat']
      omega

/-- What the document's answer asks first: how many bytes the payload has, or the refusal. -/
def begunR (r : List UInt8) : Int × Int :=
  if r = [] then (0, 31)
  else if (r.getD 0 0).toNat ≠ 167 then (0, 33)
  else if r.length < 10 then (0, 31)
  else if leN ((r.drop 6).take 4) ≠ Crc.on 0 (r.take 6) then (0, 34)
  else if (r.getD 1 0).toNat = 0 then (0, 35)
  else if 65536 < numB 0 ((r.drop 2).take 4) then (0, 36) else ((numB 0 ((r.drop 2).take 4) : Nat), 0)
theorem parse_begun (a : Nat) (r : List UInt8) :
    ((begunR r).2 ≠ 0 → parseAt a r = (0, [], 0, (begunR r).2)) ∧
    ((begunR r).2 = 0 → ∃ n : Nat, (begunR r).1 = n ∧ n ≤ 65536 ∧ 10 ≤ r.length ∧ 
      parseAt a r = if r.length < n + 14 then (0, [], 0, 31)
        else if leN ((r.drop (10 + n)).take 4) ≠ Crc.on 0 (r.take 6 ++ (r.drop 10).take n) then (0, [], 0, 34)
        else (((r.getD 1 0).toNat : Int), (r.drop 10).take n, ((a + n + 14 : Nat) : Int), 0)) := by
  unfold begunR parseAt
  by_cases h0 : r = []
  · simp [h0]
  rw [if_neg h0, if_neg h0]
  by_cases h1 : (r.getD 0 0).toNat ≠ 167
  · rw [if_pos h1, if_pos h1]; exact ⟨fun _ => rfl, fun h => by cases h⟩
  rw [if_neg h1, if_neg h1]
  by_cases h2 : r.length < 10
  · rw [if_pos h2, if_pos h2]; exact ⟨fun _ => rfl, fun h => by cases h⟩
  rw [if_neg h2, if_neg h2]
  have hs : leN ((r.drop 6).take 4) = Crc.on 0 (r.take 6) ↔ (r.drop 6).take 4 = sumB (r.take 6) := leN_eq ((r.drop 6).take 4) (by simp; omega) (Crc.on 0 (r.take 6)) (Crc.on_lt _ _ (by decide))
  by_cases h3 : leN ((r.drop 6).take 4) = Crc.on 0 (r.take 6)
  rotate_left
  · rw [if_pos h3, if_pos (fun h => h3 (hs.2 h) : (r.drop 6).take 4 ≠ sumB (r.take 6))]; exact ⟨fun _ => rfl, fun h => by cases h⟩
  rw [if_neg (fun h => h h3 : ¬ (leN ((r.drop 6).take 4) ≠ Crc.on 0 (r.take 6))), if_neg (fun h => h (hs.1 h3) : ¬ ((r.drop 6).take 4 ≠ sumB (r.take 6)))]
  by_cases h4 : (r.getD 1 0).toNat = 0
  · rw [if_pos h4, if_pos h4]; exact ⟨fun _ => rfl, fun h => by cases h⟩
  rw [if_neg h4, if_neg h4]
  generalize numB 0 ((r.drop 2).take 4) = n
  by_cases h5 : 65536 < n
  · rw [if_pos h5, if_pos h5]; exact ⟨fun _ => rfl, fun h => by cases h⟩
  rw [if_neg h5, if_neg h5]
  refine ⟨fun h => absurd rfl h, fun _ => ⟨n, rfl, by omega, by omega, ?_⟩⟩
  by_cases h6 : r.length < n + 14
  · rw [if_pos h6, if_pos h6]
  rw [if_neg h6, if_neg h6]
  have hs2 : leN ((r.drop (10 + n)).take 4) = Crc.on 0 (r.take 6 ++ (r.drop 10).take n) ↔ (r.drop (10 + n)).take 4 = sumB (r.take 6 ++ (r.drop 10).take n) := leN_eq ((r.drop (10 + n)).take 4) (by simp; omega) (Crc.on 0 (r.take 6 ++ (r.drop 10).take n)) (Crc.on_lt _ _ (by decide))
  by_cases h7 : leN ((r.drop (10 + n)).take 4) = Crc.on 0 (r.take 6 ++ (r.drop 10).take n)
  · rw [if_neg (fun h => h h7 : ¬ (leN ((r.drop (10 + n)).take 4) ≠ Crc.on 0 (r.take 6 ++ (r.drop 10).take n))), if_neg (fun h => h (hs2.1 h7) : ¬ ((r.drop (10 + n)).take 4 ≠ sumB (r.take 6 ++ (r.drop 10).take n)))]
  · rw [if_pos h7, if_pos (fun h => h7 (hs2.2 h) : (r.drop (10 + n)).take 4 ≠ sumB (r.take 6 ++ (r.drop 10).take n))]
end Go.Proofs.YtebbmifpidbdlaaDoor
