/-
  WALKS: numbers in fixed bytes (seal.PutFix, seal.Fix and the document's answer's).
-/
import Derived.Test.YtihgjihdmlomaaaDoorMem
import Derived.Test.YtihgjihdmlomaaaDoorFixP
import Derived.WalkLawsBesides
import Derived.Outline
namespace Go.Proofs.YtihgjihdmlomaaaDoor
open Go.RowKit
set_option linter.unusedVariables false

theorem u8info : (Tryd.prog.info? 5).map (fun i => (i.zero, i.size, i.bytes)) = some (some (.int .u8 0), 1, 1) := by kernel_rfl

/-- What PutFix answers. -/
def putFix (v : Nat) (size : Int) : List UInt8 × Int :=
  if size < 1 ∨ 8 < size then ([], 13) else if size < 8 ∧ v / 2 ^ (8 * size.toNat) ≠ 0 then ([], 30) else (fixedB v size.toNat, 0)

theorem fill_all' (L : List UInt8) (k : Nat) (h : L.length = k) : fill L k = L := by subst h; exact fill_all L

set_option maxRecDepth 100000 in
set_option maxHeartbeats 2000000 in
theorem PutFix_calls (v : Nat) (hv : v < 18446744073709551616) (size : Int) (w : World) :
    Calls Tryd.prog 87 #[.int .u64 v, .int .i64 size] w fun e w' => e = .returned (.tuple #[.string ⟨(putFix v size).1.toArray⟩, .int .i64 (putFix v size).2]) ∧ Below w.heap.size w w' := by
  by_cases h1 : size < 1
  · have hp : putFix v size = ([], 13) := by unfold putFix; rw [if_pos (by omega)]
    rw [hp]
    clear hp
    go_enter Tryd.func87, Tryd.ntmps87
    go_wp2
    go_ret2
    exact ⟨rfl, Below.refl _ _⟩
  by_cases h8 : 8 < size
  · have hp : putFix v size = ([], 13) := by unfold putFix; rw [if_pos (by omega)]
    rw [hp]
    clear hp
    go_enter Tryd.func87, Tryd.ntmps87
    go_wp2
    go_ret2
    exact ⟨rfl, Below.refl _ _⟩
  obtain ⟨n, rfl⟩ := Int.eq_ofNat_of_zero_le (show 0 ≤ size by omega)
  by_cases hov : n < 8 ∧ v / 2 ^ (8 * n) ≠ 0
  · have hp : putFix v n = ([], 30) := by unfold putFix; rw [if_neg (by omega), if_pos ⟨by omega, by simpa using hov.2⟩]
    rw [hp]
    clear hp
    have hz : ((v : Int) / 2 ^ (8 * n) != 0) = true := by
      rw [bne_iff_ne]
      have e : (v : Int) / 2 ^ (8 * n) = ((v / 2 ^ (8 * n) : Nat) : Int) := by simp
      rw [e]; omega
    have hn8 : (n : Int) < 8 := by omega
    clear hov
    go_enter Tryd.func87, Tryd.ntmps87
    go_wp2
    go_ret2
    exact ⟨rfl, Below.refl _ _⟩
  · have hp : putFix v n = (fixedB v n, 0) := by
      unfold putFix
      rw [if_neg (by omega), if_neg (fun h => hov ⟨by omega, by simpa using h.2⟩)]; rfl
    rw [hp]
    clear hp
    obtain ⟨i0, hi, hz0, hz1, hz2⟩ := info_parts u8info
    have hmk := fun W : World => run_make_bytes (P := Tryd.prog) 53 5 i0 Tryd.underlying53 hi hz0 hz1 hz2 n (by omega) W
    have hlen := fixedB_length v n
    by_cases hn8 : (n : Int) < 8
    all_goals
      have hz : (n : Int) < 8 → ((v : Int) / 2 ^ (8 * n) != 0) = false := fun hn => by
        rw [bne_eq_false_iff_eq]
        have e : (v : Int) / 2 ^ (8 * n) = ((v / 2 ^ (8 * n) : Nat) : Int) := by simp
        rw [e]
        have : v / 2 ^ (8 * n) = 0 := by
          rcases Nat.eq_zero_or_pos (v / 2 ^ (8 * n)) with h | h
          · exact h
          · exact absurd ⟨by omega, by omega⟩ hov
        omega
      clear hov
      first
      | have hzz := hz hn8
        clear hz
      | clear hz
      go_enter Tryd.func87, Tryd.ntmps87
      go_wp2
      obtain ⟨W0, hW0⟩ : ∃ W0, w.alloc (.cells (madeCells #[.int .u8 0] n) 5) = W0 := ⟨_, rfl⟩
      have hB0 : Bys W0 w.heap.size 5 (fill (fixedB v n) 0) := by rw [fill_zero, hlen, ← hW0]; exact Bys.made w _ n
      have hbel : Below w.heap.size w W0 := by rw [← hW0]; exact (Below.refl _ _).alloc (Nat.le_refl _) _
      rw [hW0]
      clear hW0 hmk
      go_loopw [7, 27] (fun _ i wr => ∃ k : Nat, k ≤ n ∧ i = .int .i64 k ∧ Bys wr w.heap.size 5 (fill (fixedB v n) k) ∧ Below w.heap.size w wr) (fun _ i _ => n - (intOf i).toNat)
      case atStart => exact ⟨0, Nat.zero_le _, rfl, hB0, hbel⟩
      case round =>
        obtain ⟨k, hk, rfl, hB, hbl⟩ := hrel
        by_cases hlt : k < n
        · have HL := Lib.hid hlen
          have hset := fill_set (fixedB v n) k (by omega)
          rw [fixedB_get v n k hlt] at hset
          have hl2 := fill_length (fixedB v n) k (by omega)
          have hc := hB.cell (i := k) (by omega)
          have hf := hB.frozen (i := k) (by omega)
          have hP := hB.put k (byteAt v (n - 1 - k))
          rw [hset, byteAt_int] at hP
          clear hset hl2 hlen
          go_wp2
          go_roundw
          case rel => exact ⟨k + 1, by omega, by go_num, hP, hbl.setCell (p := ⟨w.heap.size, k, none⟩) (Nat.le_refl _) _⟩
          case measure => simp [intOf]; omega
        · obtain rfl : k = n := by omega
          have hs := hB.toStr (P := Tryd.prog) 53 9 5 Tryd.underlying53 Tryd.underlying5 Tryd.underlying9 k k (by rw [fill_length] <;> omega)
          rw [fill_all' (fixedB v k) k hlen] at hs
          clear hlen
          go_wp2
          go_ret2
          exact ⟨rfl, hbl⟩

set_option maxRecDepth 100000 in
set_option maxHeartbeats 2000000 in
theorem RefFixed_calls (v : Nat) (hv : v < 18446744073709551616) (n : Nat) (hn : n ≤ 8) (w : World) :
    Calls Tryd.prog 91 #[.int .u64 v, .int .i64 n] w fun e w' => e = .returned (.string ⟨(fixedB v n).toArray⟩) ∧ Below w.heap.size w w' := by
  obtain ⟨i0, hi, hz0, hz1, hz2⟩ := info_parts u8info
  have hlen := Lib.hid (fixedB_length v n)
  go_enter Tryd.func91, Tryd.ntmps91
  go_wp2
  go_loopw [5, 6] (fun b k wr => ∃ m : Nat, m ≤ n ∧ k = .int .i64 ((m : Int) - 1) ∧ wr.ownsRow w.heap.size 5 1 b (n - m) (((fixedB v n).take (n - m)).map by8) ∧ Below w.heap.size w wr) (fun _ k _ => (intOf k + 1).toNat)
  case atStart => exact ⟨n, Nat.le_refl _, rfl, by simpa using World.ownsRow_nil _ _ _ _, Below.refl _ _⟩
  case round =>
    obtain ⟨m, hm, rfl, hown, hbl⟩ := hrel
    rcases m with _ | t
    · have hs := own_toStr (P := Tryd.prog) 53 9 5 Tryd.underlying53 Tryd.underlying5 Tryd.underlying9 hown
      rw [List.take_of_length_le (by rw [hlen.out]; omega)] at hs
      rw [show ((0 : Nat) : Int) - 1 = -1 by omega]
      clear hown
      go_wp2
      go_ret
      exact ⟨rfl, hbl⟩
    · rw [show ((t + 1 : Nat) : Int) - 1 = (t : Int) by omega]
      have hval : by8 (byteAt v t) = .int .u8 ((v : Int) / 2 ^ (8 * t) % 256) := by unfold by8; rw [byteAt_int]
      have HV := Lib.hid hval
      clear hval
      go_wp2_with (first
        | (at_builtin; refine wpList_append_own _ rfl _ _ 53 rfl w.heap.size 5 i0 (.int .u8 0) 1 1 Tryd.underlying53 hi hz0 hz1 hz2 rfl (by decide) _ _ _ rfl (hown.alloc _) ⟨wr.heap.size, 0, none⟩ 1 1 [.int .u8 ((v : Int) / 2 ^ (8 * t) % 256)] rfl rfl ?c1 ?c2 ?c3 ?c4 ?c5 ?_)
        | go_in)
      case c1 => exact cell_one_new _ _ _
      case c2 => intro u hu; simp at hu; subst hu; rfl
      case c3 => unfold maxLen; omega
      case c4 => omega
      case c5 => have := hbl.size; simp; omega
      · intro v' w1 hown' hgrow _
        have hb1 : Below w.heap.size w w1 := (hbl.alloc hbl.size _).grown hgrow (by have := hbl.size; simp; omega) (fun k hk => (hown.lt k (by simpa using hk)).1)
        have hl : ((fixedB v n).take (n - (t + 1))).map by8 ++ [.int .u8 ((v : Int) / 2 ^ (8 * t) % 256)] = ((fixedB v n).take (n - t)).map by8 := by
          rw [show n - t = (n - (t + 1)) + 1 by omega, List.take_succ_eq_append_getElem (by rw [hlen.out]; omega), List.map_append]
          have hg := fixedB_get v n (n - (t + 1)) (by omega)
          rw [show n - 1 - (n - (t + 1)) = t by omega] at hg
          simp only [List.map_cons, List.map_nil]
          rw [← HV.out, ← hg]
          congr 2
          simp [List.getD, fixedB_length, show n - (t + 1) < n by omega]
        rw [← List.map_take, hl, show n - (t + 1) + 1 = n - t by omega] at hown'
        clear hown hgrow hl HV
        go_wp2
        go_roundw
        case rel => exact ⟨t, by omega, rfl, hown', hb1⟩
        case measure => simp [intOf]

set_option maxRecDepth 100000 in
set_option maxHeartbeats 2000000 in
theorem RefPutFix_calls (v : Nat) (hv : v < 18446744073709551616) (size : Int) (w : World) :
    Calls Tryd.prog 65 #[.int .u64 v, .int .i64 size] w fun e w' => e = .returned (.tuple #[.string ⟨(putFix v size).1.toArray⟩, .int .i64 (putFix v size).2]) ∧ Below w.heap.size w w' := by
  by_cases h1 : size < 1
  · have hp : putFix v size = ([], 13) := by unfold putFix; rw [if_pos (by omega)]
    rw [hp]
    clear hp
    go_enter Tryd.func65, Tryd.ntmps65
    go_wp2
    go_ret2
    exact ⟨rfl, Below.refl _ _⟩
  by_cases h8 : 8 < size
  · have hp : putFix v size = ([], 13) := by unfold putFix; rw [if_pos (by omega)]
    rw [hp]
    clear hp
    go_enter Tryd.func65, Tryd.ntmps65
    go_wp2
    go_ret2
    exact ⟨rfl, Below.refl _ _⟩
  obtain ⟨n, rfl⟩ := Int.eq_ofNat_of_zero_le (show 0 ≤ size by omega)
  have e : (v : Int) / 2 ^ (8 * n) = ((v / 2 ^ (8 * n) : Nat) : Int) := by simp
  by_cases hov : n < 8 ∧ v / 2 ^ (8 * n) ≠ 0
  · have hp : putFix v n = ([], 30) := by unfold putFix; rw [if_neg (by omega), if_pos ⟨by omega, by simpa using hov.2⟩]
    rw [hp]
    clear hp
    have hz : ((v : Int) / 2 ^ (8 * n) != 0) = true := by
      rw [bne_iff_ne, e]; omega
    have hn8 : (n : Int) < 8 := by omega
    clear hov e
    go_enter Tryd.func65, Tryd.ntmps65
    go_wp2
    go_ret2
    exact ⟨rfl, Below.refl _ _⟩
  · have hp : putFix v n = (fixedB v n, 0) := by
      unfold putFix
      rw [if_neg (by omega), if_neg (fun h => hov ⟨by omega, by simpa using h.2⟩)]; rfl
    rw [hp]
    clear hp
    by_cases hn8 : (n : Int) < 8
    all_goals
      have hz : (n : Int) < 8 → ((v : Int) / 2 ^ (8 * n) != 0) = false := fun hn => by
        rw [bne_eq_false_iff_eq, e]
        have : v / 2 ^ (8 * n) = 0 := by
          rcases Nat.eq_zero_or_pos (v / 2 ^ (8 * n)) with h | h
          · exact h
          · exact absurd ⟨by omega, by omega⟩ hov
        omega
      clear hov e
      first
      | have hzz := hz hn8
        clear hz
      | clear hz
      go_enter Tryd.func65, Tryd.ntmps65
      go_wp2_with fail
      refine (RefFixed_calls v hv n (by omega) w).mono ?_
      rintro e w1 ⟨rfl, hb⟩
      go_wp2
      go_ret2
      exact ⟨rfl, hb⟩

/-- What Fix answers. -/
def fixR (b : ByteArray) (at_ size : Int) : Nat × Int :=
  if size < 1 ∨ 8 < size ∨ at_ < 0 ∨ (b.size : Int) < at_ then (0, 13) else if (b.size : Int) - at_ < size then (0, 31)
  else (numB 0 ((b.data.toList.drop at_.toNat).take size.toNat), 0)

theorem or_byte (v : Nat) (c : UInt8) (h : v * 256 < 18446744073709551616) : bits .or .u64 ((v : Int) * 256) (c.toNat : Int) = ((256 * v + c.toNat : Nat) : Int) := by
  have hc := c.toNat_lt
  have e : ((v : Int) * 256) = ((v * 256 : Nat) : Int) := by omega
  rw [e, u64_or_nat _ _ h (by omega), nat_join 8 (v * 256) c.toNat (by omega) (by omega)]
  omega
theorem numB_step (b : ByteArray) (a k : Nat) (h : a + k < b.size) :
    numB 0 ((b.data.toList.drop a).take (k + 1)) = 256 * numB 0 ((b.data.toList.drop a).take k) + b[a + k].toNat := by
  rw [List.take_succ_eq_append_getElem (by simp; omega), numB_snoc]
  simp; rfl
theorem numB_bd (l : List UInt8) (k : Nat) (hk : k < 8) : numB 0 (l.take k) * 256 < 18446744073709551616 ∧ 256 * numB 0 (l.take k) + 255 < 18446744073709551616 := by
  have h := numB_lt (l.take k)
  have h2 : (l.take k).length ≤ 7 := by simp; omega
  have h3 : 256 ^ (l.take k).length ≤ 256 ^ 7 := Nat.pow_le_pow_right (by omega) h2
  have h4 : (256 : Nat) ^ 7 = 72057594037927936 := by decide
  omega

set_option maxRecDepth 100000 in
set_option maxHeartbeats 2000000 in
theorem Fix_calls (b : ByteArray) (hb : b.size ≤ 9223372036854775807) (at_ size : Int) (w : World) :
    Calls Tryd.prog 70 #[.string b, .int .i64 at_, .int .i64 size] w fun e w' => e = .returned (.tuple #[.int .u64 (fixR b at_ size).1, .int .i64 (fixR b at_ size).2]) ∧ w = w' := by
  by_cases h1 : size < 1
  · have hp : fixR b at_ size = (0, 13) := by unfold fixR; rw [if_pos (by omega)]
    rw [hp]
    clear hp
    go_enter Tryd.func70, Tryd.ntmps70
    go_wp2
    go_ret2
    exact ⟨rfl, rfl⟩
  by_cases h8 : 8 < size
  · have hp : fixR b at_ size = (0, 13) := by unfold fixR; rw [if_pos (by omega)]
    rw [hp]
    clear hp
    go_enter Tryd.func70, Tryd.ntmps70
    go_wp2
    go_ret2
    exact ⟨rfl, rfl⟩
  by_cases ha : at_ < 0
  · have hp : fixR b at_ size = (0, 13) := by unfold fixR; rw [if_pos (by omega)]
    rw [hp]
    clear hp
    go_enter Tryd.func70, Tryd.ntmps70
    go_wp2
    go_ret2
    exact ⟨rfl, rfl⟩
  by_cases hl : (b.size : Int) < at_
  · have hp : fixR b at_ size = (0, 13) := by unfold fixR; rw [if_pos (by omega)]
    rw [hp]
    clear hp
    go_enter Tryd.func70, Tryd.ntmps70
    go_wp2
    go_ret2
    exact ⟨rfl, rfl⟩
  by_cases hs : (b.size : Int) - at_ < size
  · have hp : fixR b at_ size = (0, 31) := by unfold fixR; rw [if_neg (by omega), if_pos hs]
    rw [hp]
    clear hp
    go_enter Tryd.func70, Tryd.ntmps70
    go_wp2
    go_ret2
    exact ⟨rfl, rfl⟩
  obtain ⟨n, rfl⟩ := Int.eq_ofNat_of_zero_le (show 0 ≤ size by omega)
  obtain ⟨a, rfl⟩ := Int.eq_ofNat_of_zero_le (show 0 ≤ at_ by omega)
  have hp : fixR b a n = (numB 0 ((b.data.toList.drop a).take n), 0) := by unfold fixR; rw [if_neg (by omega), if_neg hs]; rfl
  rw [hp]
  clear hp
  go_enter Tryd.func70, Tryd.ntmps70
  go_wp2
  go_loop [8, 9, 33] (fun v _ i => ∃ k : Nat, k ≤ n ∧ i = .int .i64 k ∧ v = .int .u64 (numB 0 ((b.data.toList.drop a).take k) : Nat)) (fun _ _ i => n - (intOf i).toNat)
  case atStart => exact ⟨0, Nat.zero_le _, rfl, rfl⟩
  case round =>
    obtain ⟨k, hk, rfl, hv⟩ := hrel
    by_cases hlt : k < n
    · have HS := Lib.hid (numB_step b a k (by omega))
      have hbd := numB_bd (b.data.toList.drop a) k (by omega)
      obtain ⟨v, hvv⟩ : ∃ v, numB 0 ((b.data.toList.drop a).take k) = v := ⟨_, rfl⟩
      rw [hvv] at hv hbd HS
      subst hv
      clear hvv
      have hidx : a + k < b.size := by omega
      have ho := or_byte v b[a + k] hbd.1
      have hc := b[a + k].toNat_lt
      go_wp2
      go_round
      case rel => exact ⟨k + 1, by omega, by go_num, by rw [HS.out]; go_num⟩
      case measure => simp [intOf]; omega
    · obtain rfl : k = n := by omega
      subst hv
      go_wp2
      go_ret2
      exact ⟨rfl, rfl⟩

set_option maxRecDepth 100000 in
set_option maxHeartbeats 2000000 in
theorem RefNumber_calls (b : ByteArray) (hb : b.size ≤ 9223372036854775807) (a n : Nat) (hn : n ≤ 8) (h : a + n ≤ b.size) (w : World) :
    Calls Tryd.prog 103 #[.string b, .int .i64 a, .int .i64 n] w fun e w' => e = .returned (.int .u64 (numB 0 ((b.data.toList.drop a).take n) : Nat)) ∧ w = w' := by
  go_enter Tryd.func103, Tryd.ntmps103
  go_wp2
  go_loop [7, 8] (fun v i => ∃ k : Nat, k ≤ n ∧ i = .int .i64 k ∧ v = .int .u64 (numB 0 ((b.data.toList.drop a).take k) : Nat)) (fun _ i => n - (intOf i).toNat)
  case atStart => exact ⟨0, Nat.zero_le _, rfl, rfl⟩
  case round =>
    obtain ⟨k, hk, rfl, hv⟩ := hrel
    by_cases hlt : k < n
    · have HS := Lib.hid (numB_step b a k (by omega))
      have hbd := numB_bd (b.data.toList.drop a) k (by omega)
      obtain ⟨v, hvv⟩ : ∃ v, numB 0 ((b.data.toList.drop a).take k) = v := ⟨_, rfl⟩
      rw [hvv] at hv hbd HS
      subst hv
      clear hvv
      have hidx : a + k < b.size := by omega
      have hc := b[a + k].toNat_lt
      obtain ⟨hbd1, hbd2⟩ := hbd
      go_wp2
      go_round
      case rel => exact ⟨k + 1, by omega, by go_num, by rw [HS.out]; go_num⟩
      case measure => simp [intOf]; omega
    · obtain rfl : k = n := by omega
      subst hv
      go_wp2
      go_ret
      exact ⟨rfl, rfl⟩

set_option maxRecDepth 100000 in
set_option maxHeartbeats 2000000 in
theorem RefFix_calls (b : ByteArray) (hb : b.size ≤ 9223372036854775807) (at_ size : Int) (w : World) :
    Calls Tryd.prog 98 #[.string b, .int .i64 at_, .int .i64 size] w fun e w' => e = .returned (.tuple #[.int .u64 (fixR b at_ size).1, .int .i64 (fixR b at_ size).2]) ∧ w = w' := by
  by_cases h1 : size < 1
  · have hp : fixR b at_ size = (0, 13) := by unfold fixR; rw [if_pos (by omega)]
    rw [hp]
    clear hp
    go_enter Tryd.func98, Tryd.ntmps98
    go_wp2
    go_ret2
    exact ⟨rfl, rfl⟩
  by_cases h8 : 8 < size
  · have hp : fixR b at_ size = (0, 13) := by unfold fixR; rw [if_pos (by omega)]
    rw [hp]
    clear hp
    go_enter Tryd.func98, Tryd.ntmps98
    go_wp2
    go_ret2
    exact ⟨rfl, rfl⟩
  by_cases ha : at_ < 0
  · have hp : fixR b at_ size = (0, 13) := by unfold fixR; rw [if_pos (by omega)]
    rw [hp]
    clear hp
    go_enter Tryd.func98, Tryd.ntmps98
    go_wp2
    go_ret2
    exact ⟨rfl, rfl⟩
  by_cases hl : (b.size : Int) < at_
  · have hp : fixR b at_ size = (0, 13) := by unfold fixR; rw [if_pos (by omega)]
    rw [hp]
    clear hp
    go_enter Tryd.func98, Tryd.ntmps98
    go_wp2
    go_ret2
    exact ⟨rfl, rfl⟩
  by_cases hs : (b.size : Int) - at_ < size
  · have hp : fixR b at_ size = (0, 31) := by unfold fixR; rw [if_neg (by omega), if_pos hs]
    rw [hp]
    clear hp
    go_enter Tryd.func98, Tryd.ntmps98
    go_wp2
    go_ret2
    exact ⟨rfl, rfl⟩
  obtain ⟨n, rfl⟩ := Int.eq_ofNat_of_zero_le (show 0 ≤ size by omega)
  obtain ⟨a, rfl⟩ := Int.eq_ofNat_of_zero_le (show 0 ≤ at_ by omega)
  have hp : fixR b a n = (numB 0 ((b.data.toList.drop a).take n), 0) := by unfold fixR; rw [if_neg (by omega), if_neg hs]; rfl
  rw [hp]
  clear hp
  go_enter Tryd.func98, Tryd.ntmps98
  go_wp2_with fail
  refine (RefNumber_calls b hb a n (by omega) (by omega) w).mono ?_
  rintro e w1 ⟨rfl, rfl⟩
  go_wp2
  go_ret2
  exact ⟨rfl, rfl⟩

end Go.Proofs.YtihgjihdmlomaaaDoor
