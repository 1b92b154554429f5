/-
  WALKS: numbers in bytes of seven bits (PutVar, Var and the document's answer's).
-/
import Derived.Test.YtihgjihdmlomaaaDoorMem
import Derived.Test.YtihgjihdmlomaaaDoorVarP
import Derived.WalkLawsBesides
import Derived.Outline
namespace Go.Proofs.YtihgjihdmlomaaaDoor
open Go.RowKit
set_option linter.unusedVariables false

theorem u8info' : (Tryd.prog.info? 5).map (fun i => (i.zero, i.size, i.bytes)) = some (some (.int .u8 0), 1, 1) := by kernel_rfl
theorem or128 (v : Nat) : bits .or .u8 ((v : Int) % 256) 128 = ((v % 128 + 128 : Nat) : Int) := by
  have h := u8_or_nat (v % 256) 128 (by omega) (by decide)
  rw [show ((v % 256 : Nat) : Int) = (v : Int) % 256 by omega] at h
  rw [show ((128 : Nat) : Int) = 128 by rfl] at h
  rw [h]
  have e : v % 256 ||| 128 = v % 128 + 128 := by
    rw [show v % 256 = v % 256 / 128 * 128 + v % 128 by omega]
    rcases (show v % 256 / 128 = 0 ∨ v % 256 / 128 = 1 by omega) with hq | hq
    · rw [hq, Nat.or_comm, nat_join 7 128 (0 * 128 + v % 128) (by decide) (by omega)]; omega
    · rw [hq, ← nat_join 7 (1 * 128) (v % 128) (by decide) (by omega), Nat.or_assoc, Nat.or_comm (v % 128) 128, ← Nat.or_assoc]
      rw [show (1 * 128 ||| 128 : Nat) = 128 by decide, nat_join 7 128 (v % 128) (by decide) (by omega)]; omega
  rw [e]
theorem u8ofNat_toNat (v : Nat) (h : v < 256) : ((UInt8.ofNat v).toNat : Int) = (v : Int) := by simp; omega

/-- The bytes that are written so far, and what is still to come. -/
def PutVarMid (v : Nat) (w0 : World) (b x : Value) (wr : World) : Prop :=
  ∃ (j cur : Nat) (l : List UInt8), j ≤ 9 ∧ cur < 2 ^ (64 - 7 * j) ∧ cur < 18446744073709551616 ∧ x = .int .u64 (cur : Nat) ∧ l.length = j ∧ l ++ varF (9 - j) cur = varB v ∧ wr.ownsRow w0.heap.size 5 1 b j (l.map by8) ∧ Below w0.heap.size w0 wr

theorem pv_done {v j cur : Nat} {l : List UInt8} (h : l ++ varF (9 - j) cur = varB v) (hc : cur < 128) : l ++ [UInt8.ofNat cur] = varB v := by
  rw [← h, varF_low _ _ hc]
theorem pv_next {v j cur : Nat} {l : List UInt8} (h : l ++ varF (9 - j) cur = varB v) (hj : j < 9) (hc : ¬ cur < 128) : (l ++ [UInt8.ofNat (cur % 128 + 128)]) ++ varF (9 - (j + 1)) (cur / 128) = varB v := by
  rw [← h, show 9 - j = (9 - (j + 1)) + 1 by omega, varF_high _ _ hc]
  simp

set_option maxRecDepth 100000 in
set_option maxHeartbeats 4000000 in
theorem PutVar_calls (v : Nat) (hv : v < 18446744073709551616) (w : World) :
    Calls Tryd.prog 82 #[.int .u64 v] w fun e w' => e = .returned (.string ⟨(varB v).toArray⟩) ∧ Below w.heap.size w w' := by
  obtain ⟨i0, hi, hz0, hz1, hz2⟩ := info_parts u8info'
  go_enter Tryd.func82, Tryd.ntmps82
  go_wp2
  go_loopw [3, 0] (fun b x wr => PutVarMid v w b x wr) (fun _ x _ => (intOf x).toNat)
  case atStart => exact ⟨0, v, [], by omega, by simpa using hv, hv, rfl, rfl, rfl, World.ownsRow_nil _ _ _ _, Below.refl _ _⟩
  case round =>
    obtain ⟨j, cur, l, hj, hcb, hc64, rfl, hl, hall, hown, hbl⟩ := hrel
    have HL := Lib.hid hl
    clear hl
    by_cases hlow : cur < 128
    · have HD := Lib.hid (pv_done hall hlow)
      clear hall hcb
      go_wp2_with (first
        | (at_builtin; refine wpList_append_own _ rfl _ _ 53 rfl w.heap.size 5 i0 (.int .u8 0) 1 1 Tryd.underlying53 hi hz0 hz1 hz2 rfl (by decide) _ _ _ rfl (hown.alloc _) ⟨wr.heap.size, 0, none⟩ 1 1 [.int .u8 (cur : Nat)] rfl rfl ?c1 ?c2 ?c3 ?c4 ?c5 ?_)
        | go_in)
      case c1 => exact cell_one_new _ _ _
      case c2 => intro u hu; simp at hu; subst hu; rfl
      case c3 => unfold maxLen; omega
      case c4 => omega
      case c5 => have := hbl.size; simp; omega
      · intro v' w1 hown' hgrow _
        have hb1 : Below w.heap.size w w1 := (hbl.alloc hbl.size _).grown hgrow (by have := hbl.size; simp; omega) (fun k hk => (hown.lt k (by simpa using hk)).1)
        have hl' : l.map by8 ++ [Value.int .u8 (cur : Nat)] = (varB v).map by8 := by
          rw [← HD.out, List.map_append]; simp only [List.map_cons, List.map_nil, by8]; rw [u8ofNat_toNat _ (by omega)]
        rw [hl'] at hown'
        have hs := own_toStr (P := Tryd.prog) 53 9 5 Tryd.underlying53 Tryd.underlying5 Tryd.underlying9 hown'
        clear hown hgrow hl' HD hown'
        go_wp2
        go_ret
        exact ⟨rfl, hb1⟩
    · have hj9 : j < 9 := by
        rcases Nat.lt_or_ge j 9 with h | h
        · exact h
        · obtain rfl : j = 9 := by omega
          exact absurd (low_at_9 cur hcb) hlow
      have HN := Lib.hid (pv_next hall hj9 hlow)
      have HB := Lib.hid (div_bound j cur hj9 hcb)
      have ho := or128 cur
      clear hall hcb
      go_wp2_with (first
        | (at_builtin; refine wpList_append_own _ rfl _ _ 53 rfl w.heap.size 5 i0 (.int .u8 0) 1 1 Tryd.underlying53 hi hz0 hz1 hz2 rfl (by decide) _ _ _ rfl (hown.alloc _) ⟨wr.heap.size, 0, none⟩ 1 1 [.int .u8 ((cur % 128 + 128 : Nat) : Int)] rfl rfl ?d1 ?d2 ?d3 ?d4 ?d5 ?_)
        | go_in)
      case d1 => exact cell_one_new _ _ _
      case d2 => intro u hu; simp at hu; subst hu; rfl
      case d3 => unfold maxLen; omega
      case d4 => omega
      case d5 => have := hbl.size; simp; omega
      · intro v' w1 hown' hgrow _
        have hb1 : Below w.heap.size w w1 := (hbl.alloc hbl.size _).grown hgrow (by have := hbl.size; simp; omega) (fun k hk => (hown.lt k (by simpa using hk)).1)
        have hl' : l.map by8 ++ [Value.int .u8 ((cur : Int) % 128 + 128)] = (l ++ [UInt8.ofNat (cur % 128 + 128)]).map by8 := by
          rw [List.map_append]; simp only [List.map_cons, List.map_nil, by8]; rw [u8ofNat_toNat _ (by omega), show ((cur % 128 + 128 : Nat) : Int) = (cur : Int) % 128 + 128 by omega]
        rw [hl'] at hown'
        clear hown hgrow hl' ho
        go_wp2
        go_roundw
        case rel => exact ⟨j + 1, cur / 128, _, by omega, HB.out, by omega, by go_num, by simp [HL.out], HN.out, hown', hb1⟩
        case measure => simp [intOf]; omega

set_option maxRecDepth 100000 in
set_option maxHeartbeats 4000000 in
theorem RefPutVar_calls (v : Nat) (hv : v < 18446744073709551616) (w : World) :
    Calls Tryd.prog 66 #[.int .u64 v] w fun e w' => e = .returned (.string ⟨(varB v).toArray⟩) ∧ Below w.heap.size w w' := by
  obtain ⟨i0, hi, hz0, hz1, hz2⟩ := info_parts u8info'
  go_enter Tryd.func66, Tryd.ntmps66
  go_wp2
  go_loopw [3, 0] (fun b x wr => PutVarMid v w b x wr) (fun _ x _ => (intOf x).toNat)
  case atStart => exact ⟨0, v, [], by omega, by simpa using hv, hv, rfl, rfl, rfl, World.ownsRow_nil _ _ _ _, Below.refl _ _⟩
  case round =>
    obtain ⟨j, cur, l, hj, hcb, hc64, rfl, hl, hall, hown, hbl⟩ := hrel
    have HL := Lib.hid hl
    clear hl
    by_cases hlow : cur < 128
    · have HD := Lib.hid (pv_done hall hlow)
      clear hall hcb
      go_wp2_with (first
        | (at_builtin; refine wpList_append_own _ rfl _ _ 53 rfl w.heap.size 5 i0 (.int .u8 0) 1 1 Tryd.underlying53 hi hz0 hz1 hz2 rfl (by decide) _ _ _ rfl (hown.alloc _) ⟨wr.heap.size, 0, none⟩ 1 1 [.int .u8 (cur : Nat)] rfl rfl ?c1 ?c2 ?c3 ?c4 ?c5 ?_)
        | go_in)
      case c1 => exact cell_one_new _ _ _
      case c2 => intro u hu; simp at hu; subst hu; rfl
      case c3 => unfold maxLen; omega
      case c4 => omega
      case c5 => have := hbl.size; simp; omega
      · intro v' w1 hown' hgrow _
        have hb1 : Below w.heap.size w w1 := (hbl.alloc hbl.size _).grown hgrow (by have := hbl.size; simp; omega) (fun k hk => (hown.lt k (by simpa using hk)).1)
        have hl' : l.map by8 ++ [Value.int .u8 (cur : Nat)] = (varB v).map by8 := by
          rw [← HD.out, List.map_append]; simp only [List.map_cons, List.map_nil, by8]; rw [u8ofNat_toNat _ (by omega)]
        rw [hl'] at hown'
        have hs := own_toStr (P := Tryd.prog) 53 9 5 Tryd.underlying53 Tryd.underlying5 Tryd.underlying9 hown'
        clear hown hgrow hl' HD hown'
        go_wp2
        go_ret
        exact ⟨rfl, hb1⟩
    · have hj9 : j < 9 := by
        rcases Nat.lt_or_ge j 9 with h | h
        · exact h
        · obtain rfl : j = 9 := by omega
          exact absurd (low_at_9 cur hcb) hlow
      have HN := Lib.hid (pv_next hall hj9 hlow)
      have HB := Lib.hid (div_bound j cur hj9 hcb)
      clear hall hcb
      go_wp2_with (first
        | (at_builtin; refine wpList_append_own _ rfl _ _ 53 rfl w.heap.size 5 i0 (.int .u8 0) 1 1 Tryd.underlying53 hi hz0 hz1 hz2 rfl (by decide) _ _ _ rfl (hown.alloc _) ⟨wr.heap.size, 0, none⟩ 1 1 [.int .u8 (128 + (cur : Int) % 128)] rfl rfl ?d1 ?d2 ?d3 ?d4 ?d5 ?_)
        | go_in)
      case d1 => exact cell_one_new _ _ _
      case d2 => intro u hu; simp at hu; subst hu; rfl
      case d3 => unfold maxLen; omega
      case d4 => omega
      case d5 => have := hbl.size; simp; omega
      · intro v' w1 hown' hgrow _
        have hb1 : Below w.heap.size w w1 := (hbl.alloc hbl.size _).grown hgrow (by have := hbl.size; simp; omega) (fun k hk => (hown.lt k (by simpa using hk)).1)
        have hl' : l.map by8 ++ [Value.int .u8 (128 + (cur : Int) % 128)] = (l ++ [UInt8.ofNat (cur % 128 + 128)]).map by8 := by
          rw [List.map_append]; simp only [List.map_cons, List.map_nil, by8]; rw [u8ofNat_toNat _ (by omega), show ((cur % 128 + 128 : Nat) : Int) = 128 + (cur : Int) % 128 by omega]
        rw [hl'] at hown'
        clear hown hgrow hl'
        go_wp2
        go_roundw
        case rel => exact ⟨j + 1, cur / 128, _, by omega, HB.out, by omega, by go_num, by simp [HL.out], HN.out, hown', hb1⟩
        case measure => simp [intOf]; omega

set_option maxRecDepth 100000 in
set_option maxHeartbeats 8000000 in
theorem Var_calls (b : ByteArray) (hb : b.size ≤ 4611686018427387904) (at_ : Int) (w : World) :
    Calls Tryd.prog 94 #[.string b, .int .i64 at_] w fun e w' => e = .returned (.tuple #[.int .u64 (varR b.data.toList at_).1, .int .i64 (varR b.data.toList at_).2.1, .int .i64 (varR b.data.toList at_).2.2]) ∧ w = w' := by
  have hlen : b.data.toList.length = b.size := by simp
  by_cases ha : at_ < 0
  · have hp : varR b.data.toList at_ = (0, 0, 13) := by unfold varR; rw [if_pos (by omega)]
    rw [hp]
    clear hp hlen
    go_enter Tryd.func94, Tryd.ntmps94
    go_wp2
    go_ret3
    exact ⟨rfl, rfl⟩
  by_cases hl : (b.size : Int) < at_
  · have hp : varR b.data.toList at_ = (0, 0, 13) := by unfold varR; rw [if_pos (by omega)]
    rw [hp]
    clear hp hlen
    go_enter Tryd.func94, Tryd.ntmps94
    go_wp2
    go_ret3
    exact ⟨rfl, rfl⟩
  obtain ⟨a, rfl⟩ := Int.eq_ofNat_of_zero_le (show 0 ≤ at_ by omega)
  have hp : varR b.data.toList a = scanV a 0 0 (b.data.toList.drop a) := by unfold varR; rw [if_neg (by omega)]; rfl
  have HLEN := Lib.hid hlen
  have HP := Lib.hid hp
  clear hlen hp
  obtain ⟨R, hR⟩ : ∃ R, varR b.data.toList a = R := ⟨_, rfl⟩
  rw [hR] at HP
  rw [hR]
  clear hR
  go_enter Tryd.func94, Tryd.ntmps94
  go_wp2
  go_loop [7, 8, 9] (fun x i _ => ∃ k v : Nat, k ≤ 9 ∧ a + k ≤ b.size ∧ v < 2 ^ (7 * k) ∧ v < 18446744073709551616 ∧ i = .int .i64 k ∧ x = .int .u64 v ∧ Hid (R = scanV a k v (b.data.toList.drop (a + k)))) (fun _ i _ => 10 - (intOf i).toNat)
  case atStart => exact ⟨0, 0, by omega, by omega, by simp, by omega, rfl, rfl, HP⟩
  case round =>
    obtain ⟨k, v, hk, hak, hvb, hv64, rfl, rfl, HR⟩ := hrel
    clear HP
    by_cases hlt : a + k < b.size
    · have hdr : R = scanV a k v (b[a + k] :: b.data.toList.drop (a + k + 1)) := by
        rw [HR.out, drop_cons _ _ (by rw [HLEN.out]; exact hlt)]
        congr 2
        simp [List.getD, hlt]; rfl
      clear HR
      simp only [scanV] at hdr
      obtain ⟨c, hcc⟩ : ∃ c, b[a + k] = c := ⟨_, rfl⟩
      have hc := c.toNat_lt
      rw [hcc] at hdr
      have hcI : ((b[a + k].toNat : Nat) : Int) = ((c.toNat : Nat) : Int) := by rw [hcc]
      clear hcc
      by_cases hkk : k = 9
      · have hk9 : ((k : Int) == 9) = true := by simp; omega
        have hk0 : (0 : Int) < (k : Int) := by omega
        by_cases hc1 : 1 < c.toNat
        · rw [if_pos ⟨hkk, hc1⟩] at hdr
          have HD := Lib.hid hdr
          have hc1' : (1 : Int) < (c.toNat : Int) := by omega
          clear hdr hc1 hkk HLEN hvb
          go_wp2
          go_ret3
          exact ⟨by rw [HD.out]; rfl, rfl⟩
        · rw [if_neg (fun h => hc1 h.2), if_pos (by omega)] at hdr
          have hc1' : (c.toNat : Int) ≤ 1 := by omega
          have hlow : (c.toNat : Int) < 128 := by omega
          obtain ⟨m, hm⟩ : ∃ m, c.toNat % 128 = m := ⟨_, rfl⟩
          rw [hm] at hdr
          have hml : m < 128 := by omega
          obtain ⟨hs1, hs2, hs3⟩ := var_bound k v m hk hvb hml (fun h => by omega)
          obtain ⟨s, hs⟩ : ∃ s, m * 2 ^ (7 * k) = s := ⟨_, rfl⟩
          rw [hs] at hdr hs1 hs2 hs3
          have hsI : (m : Int) * 2 ^ (7 * k) = (s : Int) := by rw [← hs]; simp
          have hk63 : 7 * k ≤ 63 := by omega
          have hmask : bits .and .u8 (c.toNat : Int) 127 = (m : Int) := by
            have := u8_and_nat c.toNat 127 (by omega) (by decide)
            rw [nat_mask7, hm] at this; exact this
          have hor : bits .or .u64 (v : Int) (s : Int) = ((v + s : Nat) : Int) := by
            rw [u64_or_nat v s hv64 hs1, Nat.or_comm, nat_join (7 * k) s v (by rw [← hs]; exact Nat.mul_mod_left _ _) hvb, Nat.add_comm]
          clear hs
          by_cases hz : c.toNat = 0
          · rw [if_pos ⟨hz, by omega⟩] at hdr
            have HD := Lib.hid hdr
            have hz0 : ((c.toNat : Int) == 0) = true := by simp; omega
            clear hdr hz hm hkk HLEN hvb hc1
            go_wp2
            go_ret3
            exact ⟨by rw [HD.out]; rfl, rfl⟩
          · rw [if_neg (fun h => hz h.1)] at hdr
            have HD := Lib.hid hdr
            have hz0 : ((c.toNat : Int) == 0) = false := by simp; omega
            clear hdr hz hm hkk HLEN hvb hc1
            go_wp2
            go_ret3
            exact ⟨by rw [HD.out]; go_num, rfl⟩
      · have hk9 : ((k : Int) == 9) = false := by simp; omega
        rw [if_neg (fun h => hkk h.1)] at hdr
        obtain ⟨m, hm⟩ : ∃ m, c.toNat % 128 = m := ⟨_, rfl⟩
        rw [hm] at hdr
        have hml : m < 128 := by omega
        obtain ⟨hs1, hs2, hs3⟩ := var_bound k v m hk hvb hml (fun h => by omega)
        obtain ⟨s, hs⟩ : ∃ s, m * 2 ^ (7 * k) = s := ⟨_, rfl⟩
        rw [hs] at hdr hs1 hs2 hs3
        have hsI : (m : Int) * 2 ^ (7 * k) = (s : Int) := by rw [← hs]; simp
        have hk63 : 7 * k ≤ 63 := by omega
        have hmask : bits .and .u8 (c.toNat : Int) 127 = (m : Int) := by
          have := u8_and_nat c.toNat 127 (by omega) (by decide)
          rw [nat_mask7, hm] at this; exact this
        have hor : bits .or .u64 (v : Int) (s : Int) = ((v + s : Nat) : Int) := by
          rw [u64_or_nat v s hv64 hs1, Nat.or_comm, nat_join (7 * k) s v (by rw [← hs]; exact Nat.mul_mod_left _ _) hvb, Nat.add_comm]
        clear hs
        by_cases hlow : c.toNat < 128
        · rw [if_pos hlow] at hdr
          have hlow' : (c.toNat : Int) < 128 := by omega
          by_cases hz : c.toNat = 0
          · have hz0 : ((c.toNat : Int) == 0) = true := by simp; omega
            by_cases hk0 : 0 < k
            · rw [if_pos ⟨hz, hk0⟩] at hdr
              have HD := Lib.hid hdr
              have hk0' : (0 : Int) < (k : Int) := by omega
              clear hdr hz hm hkk HLEN hvb hlow hk0
              go_wp2
              go_ret3
              exact ⟨by rw [HD.out]; rfl, rfl⟩
            · rw [if_neg (fun h => hk0 h.2)] at hdr
              have HD := Lib.hid hdr
              have hk0' : ¬ (0 : Int) < (k : Int) := by omega
              clear hdr hz hm hkk HLEN hvb hlow hk0
              go_wp2
              go_ret3
              exact ⟨by rw [HD.out]; go_num, rfl⟩
          · rw [if_neg (fun h => hz h.1)] at hdr
            have HD := Lib.hid hdr
            have hz0 : ((c.toNat : Int) == 0) = false := by simp; omega
            clear hdr hz hm hkk HLEN hvb hlow
            go_wp2
            go_ret3
            exact ⟨by rw [HD.out]; go_num, rfl⟩
        · rw [if_neg hlow] at hdr
          have HD := Lib.hid hdr
          have hlow' : ¬ (c.toNat : Int) < 128 := by omega
          have HB := Lib.hid (hs3 (by omega))
          clear hdr hm HLEN hvb hlow hs3
          go_wp2
          go_round
          case rel => exact ⟨k + 1, v + s, by omega, by omega, HB.out, hs2, by go_num, by go_num, Lib.hid (by rw [HD.out]; congr 2)⟩
          case measure => simp [intOf]; omega
    · have hdr : R = (0, 0, 31) := by
        rw [HR.out, List.drop_eq_nil_of_le (by rw [HLEN.out]; omega)]; rfl
      have HD := Lib.hid hdr
      clear hdr HR HLEN hvb
      go_wp2
      go_ret3
      exact ⟨by rw [HD.out]; rfl, rfl⟩

set_option maxRecDepth 100000 in
set_option maxHeartbeats 8000000 in
theorem RefVar_calls (b : ByteArray) (hb : b.size ≤ 4611686018427387904) (at_ : Int) (w : World) :
    Calls Tryd.prog 97 #[.string b, .int .i64 at_] w fun e w' => e = .returned (.tuple #[.int .u64 (varR b.data.toList at_).1, .int .i64 (varR b.data.toList at_).2.1, .int .i64 (varR b.data.toList at_).2.2]) ∧ w = w' := by
  have hlen : b.data.toList.length = b.size := by simp
  by_cases ha : at_ < 0
  · have hp : varR b.data.toList at_ = (0, 0, 13) := by unfold varR; rw [if_pos (by omega)]
    rw [hp]
    clear hp hlen
    go_enter Tryd.func97, Tryd.ntmps97
    go_wp2
    go_ret3
    exact ⟨rfl, rfl⟩
  by_cases hl : (b.size : Int) < at_
  · have hp : varR b.data.toList at_ = (0, 0, 13) := by unfold varR; rw [if_pos (by omega)]
    rw [hp]
    clear hp hlen
    go_enter Tryd.func97, Tryd.ntmps97
    go_wp2
    go_ret3
    exact ⟨rfl, rfl⟩
  obtain ⟨a, rfl⟩ := Int.eq_ofNat_of_zero_le (show 0 ≤ at_ by omega)
  have hp : varR b.data.toList a = scanV a 0 0 (b.data.toList.drop a) := by unfold varR; rw [if_neg (by omega)]; rfl
  have HLEN := Lib.hid hlen
  have HP := Lib.hid hp
  clear hlen hp
  obtain ⟨R, hR⟩ : ∃ R, varR b.data.toList a = R := ⟨_, rfl⟩
  rw [hR] at HP
  rw [hR]
  clear hR
  go_enter Tryd.func97, Tryd.ntmps97
  go_wp2
  go_loop [7, 8, 9] (fun x i _ => ∃ k v : Nat, k ≤ 9 ∧ a + k ≤ b.size ∧ v < 2 ^ (7 * k) ∧ v < 18446744073709551616 ∧ i = .int .i64 k ∧ x = .int .u64 v ∧ Hid (R = scanV a k v (b.data.toList.drop (a + k)))) (fun _ i _ => 10 - (intOf i).toNat)
  case atStart => exact ⟨0, 0, by omega, by omega, by simp, by omega, rfl, rfl, HP⟩
  case round =>
    obtain ⟨k, v, hk, hak, hvb, hv64, rfl, rfl, HR⟩ := hrel
    clear HP
    by_cases hlt : a + k < b.size
    · have hdr : R = scanV a k v (b[a + k] :: b.data.toList.drop (a + k + 1)) := by
        rw [HR.out, drop_cons _ _ (by rw [HLEN.out]; exact hlt)]
        congr 2
        simp [List.getD, hlt]; rfl
      clear HR
      simp only [scanV] at hdr
      obtain ⟨c, hcc⟩ : ∃ c, b[a + k] = c := ⟨_, rfl⟩
      have hc := c.toNat_lt
      rw [hcc] at hdr
      have hcI : ((b[a + k].toNat : Nat) : Int) = ((c.toNat : Nat) : Int) := by rw [hcc]
      clear hcc
      by_cases hkk : k = 9
      · have hk9 : ((k : Int) == 9) = true := by simp; omega
        have hk0 : (0 : Int) < (k : Int) := by omega
        by_cases hc1 : 1 < c.toNat
        · rw [if_pos ⟨hkk, hc1⟩] at hdr
          have HD := Lib.hid hdr
          have hc1' : (1 : Int) < (c.toNat : Int) := by omega
          clear hdr hc1 hkk HLEN hvb
          go_wp2
          go_ret3
          exact ⟨by rw [HD.out]; rfl, rfl⟩
        · rw [if_neg (fun h => hc1 h.2), if_pos (by omega)] at hdr
          have hc1' : (c.toNat : Int) ≤ 1 := by omega
          have hlow : (c.toNat : Int) < 128 := by omega
          obtain ⟨m, hm⟩ : ∃ m, c.toNat % 128 = m := ⟨_, rfl⟩
          rw [hm] at hdr
          have hml : m < 128 := by omega
          obtain ⟨hs1, hs2, hs3⟩ := var_bound k v m hk hvb hml (fun h => by omega)
          obtain ⟨s, hs⟩ : ∃ s, m * 2 ^ (7 * k) = s := ⟨_, rfl⟩
          rw [hs] at hdr hs1 hs2 hs3
          have hsI : (m : Int) * 2 ^ (7 * k) = (s : Int) := by rw [← hs]; simp
          have hk63 : 7 * k ≤ 63 := by omega
          have hmask : (c.toNat : Int) % 128 = (m : Int) := by omega
          clear hs
          by_cases hz : c.toNat = 0
          · rw [if_pos ⟨hz, by omega⟩] at hdr
            have HD := Lib.hid hdr
            have hz0 : ((c.toNat : Int) == 0) = true := by simp; omega
            clear hdr hz hm hkk HLEN hvb hc1
            go_wp2
            go_ret3
            exact ⟨by rw [HD.out]; rfl, rfl⟩
          · rw [if_neg (fun h => hz h.1)] at hdr
            have HD := Lib.hid hdr
            have hz0 : ((c.toNat : Int) == 0) = false := by simp; omega
            clear hdr hz hm hkk HLEN hvb hc1
            go_wp2
            go_ret3
            exact ⟨by rw [HD.out]; go_num, rfl⟩
      · have hk9 : ((k : Int) == 9) = false := by simp; omega
        rw [if_neg (fun h => hkk h.1)] at hdr
        obtain ⟨m, hm⟩ : ∃ m, c.toNat % 128 = m := ⟨_, rfl⟩
        rw [hm] at hdr
        have hml : m < 128 := by omega
        obtain ⟨hs1, hs2, hs3⟩ := var_bound k v m hk hvb hml (fun h => by omega)
        obtain ⟨s, hs⟩ : ∃ s, m * 2 ^ (7 * k) = s := ⟨_, rfl⟩
        rw [hs] at hdr hs1 hs2 hs3
        have hsI : (m : Int) * 2 ^ (7 * k) = (s : Int) := by rw [← hs]; simp
        have hk63 : 7 * k ≤ 63 := by omega
        have hmask : (c.toNat : Int) % 128 = (m : Int) := by omega
        clear hs
        by_cases hlow : c.toNat < 128
        · rw [if_pos hlow] at hdr
          have hlow' : (c.toNat : Int) < 128 := by omega
          by_cases hz : c.toNat = 0
          · have hz0 : ((c.toNat : Int) == 0) = true := by simp; omega
            by_cases hk0 : 0 < k
            · rw [if_pos ⟨hz, hk0⟩] at hdr
              have HD := Lib.hid hdr
              have hk0' : (0 : Int) < (k : Int) := by omega
              clear hdr hz hm hkk HLEN hvb hlow hk0
              go_wp2
              go_ret3
              exact ⟨by rw [HD.out]; rfl, rfl⟩
            · rw [if_neg (fun h => hk0 h.2)] at hdr
              have HD := Lib.hid hdr
              have hk0' : ¬ (0 : Int) < (k : Int) := by omega
              clear hdr hz hm hkk HLEN hvb hlow hk0
              go_wp2
              go_ret3
              exact ⟨by rw [HD.out]; go_num, rfl⟩
          · rw [if_neg (fun h => hz h.1)] at hdr
            have HD := Lib.hid hdr
            have hz0 : ((c.toNat : Int) == 0) = false := by simp; omega
            clear hdr hz hm hkk HLEN hvb hlow
            go_wp2
            go_ret3
            exact ⟨by rw [HD.out]; go_num, rfl⟩
        · rw [if_neg hlow] at hdr
          have HD := Lib.hid hdr
          have hlow' : ¬ (c.toNat : Int) < 128 := by omega
          have HB := Lib.hid (hs3 (by omega))
          clear hdr hm HLEN hvb hlow hs3
          go_wp2
          go_round
          case rel => exact ⟨k + 1, v + s, by omega, by omega, HB.out, hs2, by go_num, by go_num, Lib.hid (by rw [HD.out]; congr 2)⟩
          case measure => simp [intOf]; omega
    · have hdr : R = (0, 0, 31) := by
        rw [HR.out, List.drop_eq_nil_of_le (by rw [HLEN.out]; omega)]; rfl
      have HD := Lib.hid hdr
      clear hdr HR HLEN hvb
      go_wp2
      go_ret3
      exact ⟨by rw [HD.out]; rfl, rfl⟩

end Go.Proofs.YtihgjihdmlomaaaDoor
