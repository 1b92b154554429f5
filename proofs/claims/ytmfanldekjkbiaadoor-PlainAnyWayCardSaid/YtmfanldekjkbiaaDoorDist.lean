/-
  WALKS: weights, distances, what is unlike in two texts; the check of a code; by the program and by the document's answer; a text brought to a length. Conditions: the texts are within the reach; the table holds its sixteen numbers.
-/
import Derived.Test.YtmfanldekjkbiaaDoorMem
import Derived.Test.YtmfanldekjkbiaaDoorDistP
import Derived.Lib.LaidTab
import Derived.WalkLawsBesides
import Derived.RegionTactic
import Derived.ChangeAlike
import Derived.BigRegion
import Derived.WalkSmall
import Derived.Outline
namespace Go.Proofs.YtmfanldekjkbiaaDoor
open Go.RowKit
set_option linter.unusedVariables false

/-- The sixteen cells of the table. -/
def OnesTab (w : World) : Prop := ∀ i : Nat, i < 16 → w.cell? ⟨0, i, none⟩ = some (.int .i64 (ones16.getD i 0 : Nat))

theorem cell_lt {w : World} {a : Addr} {v : Value} (h : w.cell? a = some v) : a.block < w.heap.size := by
  rcases Nat.lt_or_ge a.block w.heap.size with hlt | hge
  · exact hlt
  · simp [World.cell?, Array.getElem?_eq_none hge] at h

theorem OnesTab.below {w w' : World} (h : OnesTab w) (hb : Below w.heap.size w w') : OnesTab w' := fun i hi => (hb.cell (p := ⟨0, i, none⟩) (cell_lt (h i hi))).trans (h i hi)

theorem OnesTab.lt {w : World} (h : OnesTab w) : 0 < w.heap.size := cell_lt (h 0 (by decide))

/-- The table as the row lists it. -/
def TabLaid (w : World) : Prop := Lib.TabIs Tryd.prog w "kindred/bits.ones" .i64 [0, 1, 1, 2, 1, 2, 2, 3, 1, 2, 2, 3, 2, 3, 3, 4]

theorem tab_of_laid {w : World} (h : TabLaid w) : OnesTab w := by
  intro i hi
  have hg : Tryd.prog.globalNamed "kindred/bits.ones" = some 0 := by kernel_rfl
  have := h.cell hg i (by simpa using hi)
  rw [this]
  have e : ∀ i : Fin 16, ([0, 1, 1, 2, 1, 2, 2, 3, 1, 2, 2, 3, 2, 3, 3, 4] : List Int).getD i.val 0 = ((ones16.getD i.val 0 : Nat) : Int) := by decide +kernel
  exact congrArg (fun z => some (Value.int .i64 z)) (e ⟨i, hi⟩)

theorem u8_and15 (c : UInt8) : bits .and .u8 (c.toNat : Int) 15 = ((c.toNat % 16 : Nat) : Int) := by
  have : ∀ n : Fin 256, bits .and .u8 (n.val : Int) 15 = ((n.val % 16 : Nat) : Int) := by decide +kernel
  exact this ⟨c.toNat, c.toNat_lt⟩

set_option maxHeartbeats 1000000 in
theorem weight_calls (c : UInt8) (w : World) (hT : OnesTab w) :
    Calls Tryd.prog 27 #[.int .u8 (c.toNat : Int)] w fun e w' => e = .returned (.int .i64 (w8 c : Nat)) ∧ ∃ k, w' = w.drewN k := by
  have hc := c.toNat_lt
  have e1 := u8_and15 c
  have h1 := hT (c.toNat / 16) (by omega)
  have h2 := hT (c.toNat % 16) (by omega)
  have l1 := ones16_le (c.toNat / 16) (by omega)
  have l2 := ones16_le (c.toNat % 16) (by omega)
  have HW : Hid (w8 c = ones16.getD (c.toNat / 16) 0 + ones16.getD (c.toNat % 16) 0) := Lib.hid rfl
  obtain ⟨x, hx⟩ : ∃ x, ones16.getD (c.toNat / 16) 0 = x := ⟨_, rfl⟩
  obtain ⟨y, hy⟩ : ∃ y, ones16.getD (c.toNat % 16) 0 = y := ⟨_, rfl⟩
  rw [hx] at h1 l1 HW
  rw [hy] at h2 l2 HW
  rw [HW.out]
  clear hx hy hT HW
  go_enter Tryd.func27, Tryd.ntmps27
  go_wp2
  go_quiet (fail)
  go_wp2
  go_ret
  exact ⟨rfl, _, rfl⟩

theorem take_byte (s : ByteArray) (k : Nat) (h : k < s.size) : s.data.toList.take (k + 1) = s.data.toList.take k ++ [s[k]] := by
  rw [List.take_succ_eq_append_getElem (by simpa using h)]; rfl

/-- What Distance answers. -/
def distR (a b : List UInt8) : Nat × Int := if a.length ≠ b.length then (0, 11) else (wt (xorL a b), 0)

/-- What Xor answers. -/
def xorR (a b : List UInt8) : List UInt8 × Int := if a.length ≠ b.length then ([], 11) else (xorL a b, 0)

theorem xor_bytes (x y : UInt8) : bits .xor .u8 (x.toNat : Int) (y.toNat : Int) = ((x ^^^ y).toNat : Int) := by
  rw [u8_xor_nat x.toNat y.toNat x.toNat_lt y.toNat_lt, UInt8.toNat_xor]

set_option maxHeartbeats 1000000 in
theorem Distance_calls (a b : ByteArray) (ha : a.size ≤ 140737488351232) (hb : b.size ≤ 9223372036854775807) (w : World) (hT : OnesTab w) :
    Calls Tryd.prog 11 #[.string a, .string b] w fun e w' => e = .returned (.tuple #[.int .i64 ((distR a.data.toList b.data.toList).1 : Nat), .int .i64 (distR a.data.toList b.data.toList).2]) ∧ ∃ k, w' = w.drewN k := by
  have hla : a.data.toList.length = a.size := rfl
  have hlb : b.data.toList.length = b.size := rfl
  by_cases hne : a.size ≠ b.size
  · have hp : distR a.data.toList b.data.toList = (0, 11) := by unfold distR; rw [if_pos (by rw [hla, hlb]; exact hne)]
    rw [hp]
    have hne' : ((a.size : Int) != (b.size : Int)) = true := by rw [bne_iff_ne]; omega
    clear hp hla hlb
    go_enter Tryd.func11, Tryd.ntmps11
    go_wp2
    go_ret2
    exact ⟨rfl, 0, rfl⟩
  have heq : a.size = b.size := by omega
  have hp : distR a.data.toList b.data.toList = (wt (xorL a.data.toList b.data.toList), 0) := by unfold distR; rw [if_neg (by rw [hla, hlb]; exact hne)]
  rw [hp]
  have hne' : ((a.size : Int) != (b.size : Int)) = false := by rw [bne_eq_false_iff_eq]; omega
  have hxl := xorL_length a.data.toList b.data.toList (by rw [hla, hlb]; exact heq)
  rw [hla] at hxl
  have HXL := Lib.hid hxl
  clear hp hne hla hlb hxl
  go_enter Tryd.func11, Tryd.ntmps11
  go_wp2
  go_loopw [6, 7] (fun n i wr => ∃ k m : Nat, k ≤ a.size ∧ i = .int .i64 k ∧ n = .int .i64 (wt ((xorL a.data.toList b.data.toList).take k) : Nat) ∧ wr = w.drewN m) (fun _ i _ => a.size - (intOf i).toNat)
  case atStart => exact ⟨0, 0, Nat.zero_le _, rfl, rfl, rfl⟩
  case round =>
    obtain ⟨k, m, hk, rfl, rfl, hwr⟩ := hrel
    have HWR := Lib.hid hwr
    have hTr : OnesTab wr := by rw [hwr]; exact hT
    clear hwr
    have hle := wt_le ((xorL a.data.toList b.data.toList).take k)
    rw [List.length_take, HXL.out, Nat.min_eq_left hk] at hle
    by_cases hlt : k < a.size
    · have hlt2 : k < b.size := by omega
      have HS : Hid (wt ((xorL a.data.toList b.data.toList).take (k + 1)) = wt ((xorL a.data.toList b.data.toList).take k) + w8 (a[k] ^^^ b[k])) := Lib.hid (by rw [xorL_getElem _ _ k (by simpa using hlt) (by simpa using hlt2), wt_snoc]; rfl)
      have hx := xor_bytes a[k] b[k]
      obtain ⟨c, hc⟩ : ∃ c, a[k] ^^^ b[k] = c := ⟨_, rfl⟩
      rw [hc] at HS hx
      have h8 := w8_le c
      obtain ⟨n, hn⟩ : ∃ n, wt ((xorL a.data.toList b.data.toList).take k) = n := ⟨_, rfl⟩
      rw [hn] at hle HS
      rw [hn]
      clear hn hc
      have CW := Lib.hid (fun W (h : OnesTab W) => weight_calls c W h)
      go_wp2_with fail
      go_quiet ((go_at_call 27; exact quiet_some (CW.out _ hTr)))
      go_wp2
      go_roundw
      case rel => exact ⟨k + 1, _, by omega, by go_num, by rw [HS.out]; go_num, by rw [HWR.out]; first | rfl | exact World.drewN_drewN _ _ _⟩
      case measure => simp [intOf]; omega
    · obtain rfl : k = a.size := by omega
      rw [List.take_of_length_le (by rw [HXL.out]; omega)]
      clear hle
      go_wp2
      go_ret2
      exact ⟨rfl, _, HWR.out⟩

theorem Distance_below (a b : ByteArray) (ha : a.size ≤ 140737488351232) (hb : b.size ≤ 9223372036854775807) (w : World) (hT : OnesTab w) :
    Calls Tryd.prog 11 #[.string a, .string b] w fun e w' => e = .returned (.tuple #[.int .i64 ((distR a.data.toList b.data.toList).1 : Nat), .int .i64 (distR a.data.toList b.data.toList).2]) ∧ Below w.heap.size w w' :=
  (Distance_calls a b ha hb w hT).mono fun _ _ ⟨he, k, hk⟩ => ⟨he, by rw [hk]; exact below_drewN (Below.refl _ _) k⟩

end Go.Proofs.YtmfanldekjkbiaaDoor
