/-
  WALKS: the check of a code; weights, distances and what is unlike by the document's answer; the law BitsCodes.
-/
import Derived.Test.YtldcfgifimdmmaaDoorMetric
import Derived.Test.YtldcfgifimdmmaaDoorBits2
import Derived.Test.YtldcfgifimdmmaaDoorWidth
import Derived.Deep.RegionLaw
import Derived.Deep.AppendLies
namespace Go.Proofs.YtldcfgifimdmmaaDoor
open Go.RowKit
set_option linter.unusedVariables false

/-- What Check answers. -/
def checkR (w : Int) (n : Nat) : Int := if widthB w then (if (n : Int) = w / 8 then 0 else 11) else 10

set_option maxHeartbeats 1000000 in
theorem Check_calls (a : Int) (s : ByteArray) (hs : s.size ≤ 140737488351232) (w : World) :
    Calls Tryd.prog 13 #[.int .i64 a, .string s] w fun e w' => e = .returned (.int .i64 (checkR a s.size)) ∧ w = w' := by
  have C := isWidth_calls a w
  rcases hw : widthB a with _ | _
  · have hp : checkR a s.size = 10 := by unfold checkR; rw [hw]; rfl
    rw [hp]
    rw [hw] at C
    clear hp hw
    go_enter Tryd.func13, Tryd.ntmps13
    go_wp2_with fail
    refine C.mono ?_
    rintro e w1 ⟨rfl, rfl⟩
    go_wp2
    go_ret
    exact ⟨rfl, rfl⟩
  · rw [hw] at C
    obtain ⟨n, rfl, h1, h2, h3⟩ := widthB_true hw
    by_cases he : s.size = n / 8
    · have hp : checkR n s.size = 0 := by unfold checkR; rw [hw, if_pos rfl, if_pos (by omega)]
      have hne : ((s.size : Int) != (n : Int) / 8) = false := by rw [bne_eq_false_iff_eq]; omega
      rw [hp]
      clear hp he hw
      go_enter Tryd.func13, Tryd.ntmps13
      go_wp2_with fail
      refine C.mono ?_
      rintro e w1 ⟨rfl, rfl⟩
      go_wp2
      go_ret
      exact ⟨rfl, rfl⟩
    · have hp : checkR n s.size = 11 := by unfold checkR; rw [hw, if_pos rfl, if_neg (by omega)]
      have hne : ((s.size : Int) != (n : Int) / 8) = true := by rw [bne_iff_ne]; omega
      rw [hp]
      clear hp he hw
      go_enter Tryd.func13, Tryd.ntmps13
      go_wp2_with fail
      refine C.mono ?_
      rintro e w1 ⟨rfl, rfl⟩
      go_wp2
      go_ret
      exact ⟨rfl, rfl⟩

set_option maxHeartbeats 1000000 in
theorem RefCheck_calls (a : Int) (s : ByteArray) (hs : s.size ≤ 140737488351232) (w : World) :
    Calls Tryd.prog 14 #[.int .i64 a, .string s] w fun e w' => e = .returned (.int .i64 (checkR a s.size)) ∧ w = w' := by
  have C := RefWidth_calls a w
  rcases hw : widthB a with _ | _
  · have hp : checkR a s.size = 10 := by unfold checkR; rw [hw]; rfl
    rw [hp]
    rw [hw] at C
    clear hp hw
    go_enter Tryd.func14, Tryd.ntmps14
    go_wp2_with fail
    refine C.mono ?_
    rintro e w1 ⟨rfl, rfl⟩
    go_wp2
    go_ret
    exact ⟨rfl, rfl⟩
  · rw [hw] at C
    obtain ⟨n, rfl, h1, h2, h3⟩ := widthB_true hw
    by_cases he : s.size = n / 8
    · have hp : checkR n s.size = 0 := by unfold checkR; rw [hw, if_pos rfl, if_pos (by omega)]
      have hne : ((s.size : Int) != (n : Int) / 8) = false := by rw [bne_eq_false_iff_eq]; omega
      rw [hp]
      clear hp he hw
      go_enter Tryd.func14, Tryd.ntmps14
      go_wp2_with fail
      refine C.mono ?_
      rintro e w1 ⟨rfl, rfl⟩
      go_wp2
      go_ret
      exact ⟨rfl, rfl⟩
    · have hp : checkR n s.size = 11 := by unfold checkR; rw [hw, if_pos rfl, if_neg (by omega)]
      have hne : ((s.size : Int) != (n : Int) / 8) = true := by rw [bne_iff_ne]; omega
      rw [hp]
      clear hp he hw
      go_enter Tryd.func14, Tryd.ntmps14
      go_wp2_with fail
      refine C.mono ?_
      rintro e w1 ⟨rfl, rfl⟩
      go_wp2
      go_ret
      exact ⟨rfl, rfl⟩

set_option maxHeartbeats 1000000 in
theorem RefWeight_calls (s : ByteArray) (hs : s.size ≤ 140737488351232) (w : World) :
    Calls Tryd.prog 15 #[.string s] w fun e w' => e = .returned (.int .i64 (wt s.data.toList : Nat)) ∧ w = w' := by
  have hend : cnt s.data.toList (8 * s.size) = wt s.data.toList := cnt_all s.data.toList
  have HEND := Lib.hid hend
  clear hend
  go_enter Tryd.func15, Tryd.ntmps15
  go_wp2
  go_loop [3, 4] (fun n i => ∃ k : Nat, k ≤ 8 * s.size ∧ i = .int .i64 k ∧ n = .int .i64 (cnt s.data.toList k : Nat)) (fun _ i => 8 * s.size - (intOf i).toNat)
  case atStart => exact ⟨0, Nat.zero_le _, rfl, rfl⟩
  case round =>
    obtain ⟨k, hk, rfl, rfl⟩ := hrel
    have hle := cnt_le s.data.toList k
    by_cases hlt : k < 8 * s.size
    · have HS : Hid (cnt s.data.toList (k + 1) = cnt s.data.toList k + (bitB s.data.toList k).toNat) := Lib.hid rfl
      have hc := refBit1_calls s hs k hlt
      obtain ⟨x, hx⟩ : ∃ x, (bitB s.data.toList k).toNat = x := ⟨_, rfl⟩
      have hx1 : x ≤ 1 := by rw [← hx]; cases bitB s.data.toList k <;> decide
      rw [hx] at hc HS
      obtain ⟨n, hn⟩ : ∃ n, cnt s.data.toList k = n := ⟨_, rfl⟩
      rw [hn] at hle HS
      rw [hn]
      clear hn hx
      go_wp2_with fail
      refine (hc w).mono ?_
      rintro e w' ⟨rfl, rfl⟩
      go_wp2
      go_round
      case rel => exact ⟨k + 1, by omega, by go_num, by rw [HS.out]; go_num⟩
      case measure => simp [intOf]; omega
    · obtain rfl : k = 8 * s.size := by omega
      rw [HEND.out]
      clear hle
      have hge : ¬ (((8 * s.size : Nat) : Int) < 8 * (s.size : Int)) := by omega
      go_wp2
      go_ret
      exact ⟨rfl, rfl⟩

set_option maxHeartbeats 2000000 in
theorem RefDistance_calls (a b : ByteArray) (ha : a.size ≤ 140737488351232) (hb : b.size ≤ 140737488351232) (w : World) :
    Calls Tryd.prog 16 #[.string a, .string b] w fun e w' => e = .returned (.tuple #[.int .i64 ((distR a.data.toList b.data.toList).1 : Nat), .int .i64 (distR a.data.toList b.data.toList).2]) ∧ w = w' := by
  have hla : a.data.toList.length = a.size := rfl
  have hlb : b.data.toList.length = b.size := rfl
  by_cases hne : a.size ≠ b.size
  · have hp : distR a.data.toList b.data.toList = (0, 11) := by unfold distR; rw [if_pos (by rw [hla, hlb]; exact hne)]
    rw [hp]
    have hne' : ((a.size : Int) != (b.size : Int)) = true := by rw [bne_iff_ne]; omega
    clear hp hla hlb
    go_enter Tryd.func16, Tryd.ntmps16
    go_wp2
    go_ret2
    exact ⟨rfl, rfl⟩
  have heq : a.size = b.size := by omega
  have hp : distR a.data.toList b.data.toList = (wt (xorL a.data.toList b.data.toList), 0) := by unfold distR; rw [if_neg (by rw [hla, hlb]; exact hne)]
  rw [hp]
  have hne' : ((a.size : Int) != (b.size : Int)) = false := by rw [bne_eq_false_iff_eq]; omega
  have HLL : Hid (a.data.toList.length = b.data.toList.length) := Lib.hid (by rw [hla, hlb]; exact heq)
  have hxl := xorL_length a.data.toList b.data.toList HLL.out
  have hend := cnt_all (xorL a.data.toList b.data.toList)
  rw [hxl, hla] at hend
  have HEND := Lib.hid hend
  clear hp hne hlb hxl hend hla
  go_enter Tryd.func16, Tryd.ntmps16
  go_wp2
  go_loop [6, 7] (fun n i => ∃ k : Nat, k ≤ 8 * a.size ∧ i = .int .i64 k ∧ n = .int .i64 (cnt (xorL a.data.toList b.data.toList) k : Nat)) (fun _ i => 8 * a.size - (intOf i).toNat)
  case atStart => exact ⟨0, Nat.zero_le _, rfl, rfl⟩
  case round =>
    obtain ⟨k, hk, rfl, rfl⟩ := hrel
    have hle := cnt_le (xorL a.data.toList b.data.toList) k
    by_cases hlt : k < 8 * a.size
    · have hs : cnt (xorL a.data.toList b.data.toList) (k + 1) = cnt (xorL a.data.toList b.data.toList) k + ((bitB a.data.toList k) ^^ (bitB b.data.toList k)).toNat := by
        rw [← bitB_xor _ _ HLL.out k hlt]; rfl
      have hc := refBit1_calls a ha k hlt
      have hc2 := refBit1_calls b hb k (by omega)
      obtain ⟨n, hn⟩ : ∃ n, cnt (xorL a.data.toList b.data.toList) k = n := ⟨_, rfl⟩
      rw [hn] at hle hs
      rw [hn]
      clear hn
      rcases hp : bitB a.data.toList k with _ | _
      all_goals rcases hq : bitB b.data.toList k with _ | _
      all_goals
        rw [hp, hq] at hs
        rw [hp] at hc
        rw [hq] at hc2
        have HS := Lib.hid hs
        clear hs hp hq
        go_wp2_with fail
        refine (hc w).mono ?_
        rintro e w' ⟨rfl, rfl⟩
        go_wp2_with fail
        refine (hc2 w).mono ?_
        rintro e w' ⟨rfl, rfl⟩
        go_wp2
        go_round
        case rel => exact ⟨k + 1, by omega, by go_num, by rw [HS.out]; simp⟩
        case measure => simp [intOf]; omega
    · obtain rfl : k = 8 * a.size := by omega
      rw [HEND.out]
      clear hle
      have hge : ¬ (((8 * a.size : Nat) : Int) < 8 * (a.size : Int)) := by omega
      go_wp2
      go_ret2
      exact ⟨rfl, rfl⟩

set_option maxHeartbeats 2000000 in
theorem RefXor_calls (a b : ByteArray) (ha : a.size ≤ 140737488351232) (hb : b.size ≤ 140737488351232) (w : World) :
    Calls Tryd.prog 17 #[.string a, .string b] w fun e w' => e = .returned (.tuple #[.string ⟨(xorR a.data.toList b.data.toList).1.toArray⟩, .int .i64 (xorR a.data.toList b.data.toList).2]) ∧ Below w.heap.size w w' := by
  have hla : a.data.toList.length = a.size := rfl
  have hlb : b.data.toList.length = b.size := rfl
  by_cases hne : a.size ≠ b.size
  · have hp : xorR a.data.toList b.data.toList = ([], 11) := by unfold xorR; rw [if_pos (by rw [hla, hlb]; exact hne)]
    rw [hp]
    have hne' : ((a.size : Int) != (b.size : Int)) = true := by rw [bne_iff_ne]; omega
    clear hp hla hlb
    go_enter Tryd.func17, Tryd.ntmps17
    go_wp2
    go_ret2
    exact ⟨rfl, Below.refl _ _⟩
  have heq : a.size = b.size := by omega
  have hp : xorR a.data.toList b.data.toList = (xorL a.data.toList b.data.toList, 0) := by unfold xorR; rw [if_neg (by rw [hla, hlb]; exact hne)]
  rw [hp]
  have hne' : ((a.size : Int) != (b.size : Int)) = false := by rw [bne_eq_false_iff_eq]; omega
  have hxl := xorL_length a.data.toList b.data.toList (by rw [hla, hlb]; exact heq)
  rw [hla] at hxl
  have HXL := Lib.hid hxl
  clear hp hne hla hlb hxl
  obtain ⟨i0, hi, hz0, hz1, hz2⟩ := info_parts u8info
  go_enter Tryd.func17, Tryd.ntmps17
  go_wp2
  go_loopw [6, 7] (fun o i wr => ∃ k : Nat, k ≤ a.size ∧ i = .int .i64 k ∧ wr.ownsRow w.heap.size 5 1 o k (((xorL a.data.toList b.data.toList).take k).map by8) ∧ Below w.heap.size w wr) (fun _ i _ => a.size - (intOf i).toNat)
  case atStart => exact ⟨0, Nat.zero_le _, rfl, by simpa using World.ownsRow_nil _ _ _ _, Below.refl _ _⟩
  case round =>
    obtain ⟨k, hk, rfl, hown, hbl⟩ := hrel
    by_cases hlt : k < a.size
    · have hlt2 : k < b.size := by omega
      have hx := xor_bytes a[k] b[k]
      have hst := xorL_getElem a.data.toList b.data.toList k (by simpa using hlt) (by simpa using hlt2)
      have HST : Hid ((xorL a.data.toList b.data.toList).take (k + 1) = (xorL a.data.toList b.data.toList).take k ++ [a[k] ^^^ b[k]]) := Lib.hid hst
      obtain ⟨c, hc⟩ : ∃ c, a[k] ^^^ b[k] = c := ⟨_, rfl⟩
      rw [hc] at hx HST
      clear hst hc
      have HOWN := Lib.hid hown
      have HBL := Lib.hid hbl
      clear hown hbl
      go_wp2_with fail
      go_region_law ((refine step_append_lies _ (by rfl) (.tmp 19) (.tmp 27) 53 (by rfl) w.heap.size 5 i0 (.int .u8 0) 1 1 Tryd.underlying53 hi hz0 hz1 hz2 rfl (by decide) _ k _ (by rfl) (HOWN.out.alloc _) ⟨wr.heap.size, 0, none⟩ 1 1 [.int .u8 (c.toNat : Int)] (by rfl) rfl (cell_one_new _ _ _) (by intro u hu; simp at hu; subst hu; rfl) (by decide) (by unfold maxLen; omega) (by omega) (by have := HBL.out.size; simp; omega) (wr.heap.size + 1) (by simp) ?_; intro g cap w1 hown1 hgrow hat hlt1))
      all_goals
        have hfar : (w.heap.size : Nat) ≤ wr.heap.size := HBL.out.size
        have hb1 : Below w.heap.size w w1 := by
          first
          | exact (HBL.out.alloc HBL.out.size _).grown hgrow (by simp; omega) (fun k hk => (HOWN.out.lt k (by simpa using hk)).1)
          | exact (HBL.out.alloc HBL.out.size _).drew.grown hgrow (by simp; omega) (fun k hk => (HOWN.out.lt k (by simpa using hk)).1)
          | exact (HBL.out.alloc HBL.out.size _).drew.drew.grown hgrow (by simp; omega) (fun k hk => (HOWN.out.lt k (by simpa using hk)).1)
          | exact (HBL.out.alloc HBL.out.size _).drew.drew.drew.grown hgrow (by simp; omega) (fun k hk => (HOWN.out.lt k (by simpa using hk)).1)
        have hl : ((xorL a.data.toList b.data.toList).take k).map by8 ++ [.int .u8 (c.toNat : Int)] = ((xorL a.data.toList b.data.toList).take (k + 1)).map by8 := by
          rw [HST.out, List.map_append]; rfl
        rw [hl] at hown1
        clear HOWN HBL hgrow hl HST hat hlt1 hfar
        go_wp2
        go_roundw
        case rel => exact ⟨k + 1, by omega, by go_num, hown1, hb1⟩
        case measure => simp [intOf]; omega
    · obtain rfl : k = a.size := by omega
      have hs := own_toStr (P := Tryd.prog) 53 9 5 Tryd.underlying53 Tryd.underlying5 Tryd.underlying9 hown
      rw [List.take_of_length_le (by rw [HXL.out]; omega)] at hs
      clear hown
      go_wp2
      go_ret2
      exact ⟨rfl, hbl⟩

set_option maxHeartbeats 4000000 in
theorem BitsCodes_walk (a0 : Int) (w0 : (Lit.int .i64 a0).wf = true) (a1 : ByteArray) (s1 : a1.size ≤ 140737488351232) (a2 : ByteArray) (s2 : a2.size ≤ 140737488351232) (w : World) (hL : TabLaid w) :
    Calls Tryd.prog 5 #[.int .i64 a0, .string a1, .string a2] w fun e w' => e = .returned (.bool true) ∧ Below w.heap.size w w' := by
  have hT := tab_of_laid hL
  clear hL
  have k1 := Check_calls a0 a1 s1
  have k2 := RefCheck_calls a0 a1 s1
  have k3 := Weight_below a1 s1
  have k4 := RefWeight_calls a1 s1
  have k5 := Distance_below a1 a2 s1 (by omega)
  have k6 := RefDistance_calls a1 a2 s1 s2
  have k7 := Xor_calls a1 a2 s1 s2
  have k8 := RefXor_calls a1 a2 s1 s2
  obtain ⟨c, hc⟩ : ∃ c, checkR a0 a1.size = c := ⟨_, rfl⟩
  obtain ⟨n, hn⟩ : ∃ n, wt a1.data.toList = n := ⟨_, rfl⟩
  obtain ⟨d, hd⟩ : ∃ d, distR a1.data.toList a2.data.toList = d := ⟨_, rfl⟩
  obtain ⟨x, hx⟩ : ∃ x, xorR a1.data.toList a2.data.toList = x := ⟨_, rfl⟩
  rw [hc] at k1 k2
  rw [hn] at k3 k4
  rw [hd] at k5 k6
  simp only [hx] at k7 k8
  obtain ⟨y, hy⟩ : ∃ y, (⟨x.1.toArray⟩ : ByteArray) = y := ⟨_, rfl⟩
  simp only [hy] at k7 k8
  have he : (y.toList == y.toList) = true := by simp
  have C1 := Lib.hid k1
  have C2 := Lib.hid k2
  have C3 := Lib.hid k3
  have C4 := Lib.hid k4
  have C5 := Lib.hid k5
  have C6 := Lib.hid k6
  have C7 := Lib.hid k7
  have C8 := Lib.hid k8
  clear k1 k2 k3 k4 k5 k6 k7 k8 hc hn hd hx hy w0
  go_enter Tryd.func5, Tryd.ntmps5
  go_wp2_with fail
  refine (C1.out w).mono ?_
  rintro e w1 ⟨rfl, rfl⟩
  go_wp2_with fail
  refine (C2.out w).mono ?_
  rintro e w1 ⟨rfl, rfl⟩
  go_wp2_with fail
  refine (C3.out w hT).mono ?_
  rintro e w1 ⟨rfl, h1⟩
  have hT1 := hT.below h1
  go_wp2_with fail
  refine (C4.out w1).mono ?_
  rintro e w2 ⟨rfl, rfl⟩
  go_wp2_with fail
  refine (C5.out w1 hT1).mono ?_
  rintro e w2 ⟨rfl, h2⟩
  have hB2 := h1.trans (h2.mono h1.size)
  go_wp2_with fail
  refine (C6.out w2).mono ?_
  rintro e w3 ⟨rfl, rfl⟩
  go_wp2_with fail
  refine (C7.out w2).mono ?_
  rintro e w3 ⟨rfl, h3⟩
  have hB3 := hB2.trans (h3.mono hB2.size)
  go_wp2_with fail
  refine (C8.out w3).mono ?_
  rintro e w4 ⟨rfl, h4⟩
  have hB := hB3.trans (h4.mono hB3.size)
  clear C1 C2 C3 C4 C5 C6 C7 C8 h1 h2 h3 h4 hT hT1 hB2 hB3
  go_wp2
  go_ret
  exact ⟨by simp, hB⟩
end Go.Proofs.YtldcfgifimdmmaaDoor
