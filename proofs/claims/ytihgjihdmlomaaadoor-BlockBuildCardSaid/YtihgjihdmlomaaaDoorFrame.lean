/-
  WALKS: a sum as bytes; frames.
-/
import Derived.Test.YtihgjihdmlomaaaDoorMem
import Derived.Test.YtihgjihdmlomaaaDoorSum
import Derived.Test.YtihgjihdmlomaaaDoorFrameP
import Derived.Test.YtihgjihdmlomaaaDoorFix
import Derived.WalkLawsBesides
import Derived.Outline
import Derived.RegionTactic
import Derived.Deep.RegionWith
namespace Go.Proofs.YtihgjihdmlomaaaDoor
open Go.RowKit
set_option linter.unusedVariables false

set_option maxRecDepth 100000 in
set_option maxHeartbeats 2000000 in
theorem summed_calls (b : ByteArray) (hb : b.size ≤ 9223372036854775807) (w : World) (hT : Tab w) :
    Calls Tryd.prog 93 #[.string b] w fun e w' => e = .returned (.string ⟨(sumB b.data.toList).toArray⟩) ∧ Below w.heap.size w w' := by
  have hl := Crc.on_lt 0 b.data.toList (by decide)
  unfold sumB
  go_enter Tryd.func93, Tryd.ntmps93
  go_wp2_with fail
  refine (Sum_calls b hb w hT).mono ?_
  rintro e w1 ⟨rfl, rfl⟩
  obtain ⟨s, hse⟩ : ∃ s, s = Crc.on 0 b.data.toList := ⟨_, rfl⟩
  rw [← hse] at hl ⊢
  have HSE := Lib.hid hse
  clear hse
  have hs := lit_toStr (P := Tryd.prog) 53 9 5 Tryd.underlying53 Tryd.underlying5 Tryd.underlying9 w 5 (le32 s)
    #[.int .u8 ((s : Int) % 256), .int .u8 ((s : Int) / 256 % 256), .int .u8 ((s : Int) / 65536 % 256), .int .u8 ((s : Int) / 16777216)]
    (by simp [le32, by8_of]; omega) 4 rfl
  go_wp2
  go_ret
  exact ⟨by rw [← HSE.out]; rfl, (Below.refl _ _).alloc (Nat.le_refl _) _⟩

set_option maxRecDepth 100000 in
set_option maxHeartbeats 4000000 in
theorem Frame_calls (kind : Int) (p : ByteArray) (hp : p.size ≤ 140737488351232) (w : World) (hT : Tab w) :
    Calls Tryd.prog 80 #[.int .i64 kind, .string p] w fun e w' => e = .returned (.tuple #[.string ⟨(frameR kind p.data.toList).1.toArray⟩, .int .i64 (frameR kind p.data.toList).2]) ∧ Below w.heap.size w w' := by
  by_cases h1 : kind < 1
  · have hp : frameR kind p.data.toList = ([], 35) := by unfold frameR; rw [if_pos (by omega)]
    rw [hp]
    clear hp
    go_enter Tryd.func80, Tryd.ntmps80
    go_wp2
    go_ret2
    exact ⟨rfl, Below.refl _ _⟩
  by_cases h2 : 255 < kind
  · have hp : frameR kind p.data.toList = ([], 35) := by unfold frameR; rw [if_pos (by omega)]
    rw [hp]
    clear hp
    go_enter Tryd.func80, Tryd.ntmps80
    go_wp2
    go_ret2
    exact ⟨rfl, Below.refl _ _⟩
  by_cases h3 : 65536 < p.size
  · have hp : frameR kind p.data.toList = ([], 36) := by unfold frameR; rw [if_neg (by omega), if_pos (by simpa using h3)]
    rw [hp]
    clear hp
    go_enter Tryd.func80, Tryd.ntmps80
    go_wp2
    go_ret2
    exact ⟨rfl, Below.refl _ _⟩
  obtain ⟨k, rfl⟩ := Int.eq_ofNat_of_zero_le (show 0 ≤ kind by omega)
  have hpR : frameR k p.data.toList = (frameB k p.data.toList, 0) := by unfold frameR; rw [if_neg (by omega), if_neg (by simpa using h3)]; rfl
  have hput : putFix p.size (4 : Int) = (fixedB p.size 4, 0) := by
    unfold putFix
    rw [if_neg (by omega), if_neg (fun h => h.2 (Nat.div_eq_of_lt (show p.size < 4294967296 by omega)))]; rfl
  rw [hpR]
  clear hpR
  go_enter Tryd.func80, Tryd.ntmps80
  go_wp2_with fail
  refine (PutFix_calls p.size (by omega) 4 w).mono ?_
  rw [hput]
  clear hput
  rintro e w1 ⟨rfl, hb1⟩
  have hs2 := lit_toStr (P := Tryd.prog) 53 9 5 Tryd.underlying53 Tryd.underlying5 Tryd.underlying9 w1 5 [167, UInt8.ofNat k]
    #[.int .u8 167, .int .u8 (k : Int)] (by simp [by8_of]; constructor <;> first | rfl | omega) 2 rfl
  go_wp2_with fail
  obtain ⟨hd, hhd⟩ : ∃ hd : ByteArray, ({ data := #[167, UInt8.ofNat k] } ++ { data := (fixedB p.size 4).toArray } : ByteArray) = hd := ⟨_, rfl⟩
  have hdl : hd.data.toList = headB k p.size := by rw [← hhd]; simp [headB]
  have hds : hd.size = 6 := by
    have : hd.data.toList.length = 6 := by rw [hdl, headB_length]
    simpa using this
  rw [hhd]
  have HDL := Lib.hid hdl
  have hds' : hd.size ≤ 6 := by omega
  clear hhd hs2 hdl hds
  refine (summed_calls hd (by omega) _ ((hT.below hb1).alloc _)).mono ?_
  rintro e w2 ⟨rfl, hb2⟩
  obtain ⟨s1, hs1, hd1, hz1⟩ := name_str (sumB hd.data.toList)
  rw [hs1]
  have HD1 := Lib.hid hd1
  have hz1' : s1.size ≤ 4 := by rw [hz1, sumB_length]; omega
  clear hs1 hd1 hz1
  go_wp2_with fail
  have hbl : Below w.heap.size w w2 := hb1.trans (((Below.refl _ _).alloc (Nat.le_refl _) _).trans (hb2.mono (by simp)) |>.mono hb1.size)
  refine (summed_calls (hd ++ p) (by rw [ByteArray.size_append]; omega) _ (hT.below hbl)).mono ?_
  rintro e w3 ⟨rfl, hb3⟩
  obtain ⟨s2, hs2, hd2, hz2⟩ := name_str (sumB (hd ++ p).data.toList)
  rw [hs2]
  have HD2 := Lib.hid hd2
  have hz2' : s2.size ≤ 4 := by rw [hz2, sumB_length]; omega
  clear hs2 hd2 hz2
  go_wp2
  go_ret2
  refine ⟨?_, hbl.trans (hb3.mono hbl.size)⟩
  have hf : hd ++ s1 ++ p ++ s2 = ⟨(frameB k p.data.toList).toArray⟩ := by
    apply str_of_data
    rw [cat_data, cat_data, cat_data, HD1.out, HD2.out, cat_data, HDL.out]
    simp [frameB]
  rw [← hf]; rfl

set_option maxRecDepth 100000 in
set_option maxHeartbeats 2000000 in
theorem RefSummed_calls (s : Nat) (hl : s < 4294967296) (w : World) :
    Calls Tryd.prog 89 #[.int .u32 s] w fun e w' => e = .returned (.string ⟨(le32 s).toArray⟩) ∧ Below w.heap.size w w' := by
  have hs := lit_toStr (P := Tryd.prog) 53 9 5 Tryd.underlying53 Tryd.underlying5 Tryd.underlying9 w 5 (le32 s)
    #[.int .u8 ((s : Int) % 256), .int .u8 ((s : Int) / 256 % 256), .int .u8 ((s : Int) / 65536 % 256), .int .u8 ((s : Int) / 16777216)]
    (by simp [le32, by8_of]; omega) 4 rfl
  go_enter Tryd.func89, Tryd.ntmps89
  go_wp2
  go_ret
  exact ⟨rfl, (Below.refl _ _).alloc (Nat.le_refl _) _⟩

set_option maxRecDepth 100000 in
set_option maxHeartbeats 2000000 in
theorem RefHead_calls (k n : Nat) (h1 : 1 ≤ k) (h2 : k ≤ 255) (h3 : n ≤ 65536) (w : World) :
    Calls Tryd.prog 88 #[.int .i64 k, .int .i64 n] w fun e w' => e = .returned (.string ⟨(headB k n).toArray⟩) ∧ Below w.heap.size w w' := by
  have hv : (#[.int .u8 167, .int .u8 (k : Int)] : Array Value) = (([167, UInt8.ofNat k] : List UInt8).map by8).toArray := by simp [by8_of]; constructor <;> first | rfl | omega
  have hs2 := lit_toStr_later (P := Tryd.prog) 53 9 5 Tryd.underlying53 Tryd.underlying5 Tryd.underlying9 w (w.alloc (.cells #[.int .u8 167, .int .u8 (k : Int)] 5)).drew 5 [167, UInt8.ofNat k] _ hv 2 rfl w.heap.size rfl (Below.refl _ _).drew
  have HV := Lib.hid hv
  clear hv
  have hw8 : IntKind.u8.wrap (k : Int) = (k : Int) := IntWalk.u8_in _ ⟨by omega, by omega⟩
  have hw64 : IntKind.u64.wrap (n : Int) = (n : Int) := IntWalk.u64_in _ ⟨by omega, by omega⟩
  go_enter Tryd.func88, Tryd.ntmps88
  go_wp2_with fail
  go_region_with (go_at_call 91; refine (RefFixed_calls n (by omega) 4 (by omega) _).mono ?_; rintro e w1 ⟨rfl, hb1⟩; (try have hq := lit_toStr_later (P := Tryd.prog) 53 9 5 Tryd.underlying53 Tryd.underlying5 Tryd.underlying9 w w1 5 [167, UInt8.ofNat k] _ HV.out 2 rfl w.heap.size rfl ⟨hb1.os, hb1.tape, hb1.output, hb1.size, hb1.block⟩); have hq2 := lit_toStr (P := Tryd.prog) 53 9 5 Tryd.underlying53 Tryd.underlying5 Tryd.underlying9 w1 5 [167, UInt8.ofNat k] _ HV.out 2 rfl)
  all_goals
    go_wp2
    go_ret
    refine ⟨by rw [show ({ data := #[167, UInt8.ofNat k] } ++ { data := (fixedB n 4).toArray } : ByteArray) = ⟨(headB k n).toArray⟩ from str_of_data (by simp [headB])]; rfl, ?_⟩
    first
    | exact (((Below.refl _ _).alloc (Nat.le_refl _) _).drew).trans (hb1.mono (by simp))
    | exact (((Below.refl _ _).alloc (Nat.le_refl _) _)).trans (Below.mono ⟨hb1.os, hb1.tape, hb1.output, hb1.size, hb1.block⟩ (by simp))
    | exact (Below.trans (Below.refl w.heap.size w).drew hb1).alloc hb1.size _

set_option maxRecDepth 100000 in
set_option maxHeartbeats 4000000 in
theorem RefFrame_calls (kind : Int) (p : ByteArray) (hp : p.size ≤ 140737488351232) (w : World) :
    Calls Tryd.prog 64 #[.int .i64 kind, .string p] w fun e w' => e = .returned (.tuple #[.string ⟨(frameR kind p.data.toList).1.toArray⟩, .int .i64 (frameR kind p.data.toList).2]) ∧ Below w.heap.size w w' := by
  by_cases h1 : kind < 1
  · have hp : frameR kind p.data.toList = ([], 35) := by unfold frameR; rw [if_pos (by omega)]
    rw [hp]
    clear hp
    go_enter Tryd.func64, Tryd.ntmps64
    go_wp2
    go_ret2
    exact ⟨rfl, Below.refl _ _⟩
  by_cases h2 : 255 < kind
  · have hp : frameR kind p.data.toList = ([], 35) := by unfold frameR; rw [if_pos (by omega)]
    rw [hp]
    clear hp
    go_enter Tryd.func64, Tryd.ntmps64
    go_wp2
    go_ret2
    exact ⟨rfl, Below.refl _ _⟩
  by_cases h3 : 65536 < p.size
  · have hp : frameR kind p.data.toList = ([], 36) := by unfold frameR; rw [if_neg (by omega), if_pos (by simpa using h3)]
    rw [hp]
    clear hp
    go_enter Tryd.func64, Tryd.ntmps64
    go_wp2
    go_ret2
    exact ⟨rfl, Below.refl _ _⟩
  obtain ⟨k, rfl⟩ := Int.eq_ofNat_of_zero_le (show 0 ≤ kind by omega)
  have hpR : frameR k p.data.toList = (frameB k p.data.toList, 0) := by unfold frameR; rw [if_neg (by omega), if_neg (by simpa using h3)]; rfl
  rw [hpR]
  clear hpR
  go_enter Tryd.func64, Tryd.ntmps64
  go_wp2_with fail
  refine (RefHead_calls k p.size (by omega) (by omega) (by omega) _).mono ?_
  rintro e w1 ⟨rfl, hb1⟩
  obtain ⟨hd, hhd, hdl, hdz⟩ := name_str (headB k p.size)
  rw [hhd]
  have HDL := Lib.hid hdl
  have hdz' : hd.size ≤ 6 := by rw [hdz, headB_length]; omega
  clear hhd hdl hdz
  go_wp2_with fail
  refine (RefSum_calls hd (by omega) _).mono ?_
  rintro e w1' ⟨rfl, rfl⟩
  go_wp2_with fail
  refine (RefSummed_calls _ (Crc.on_lt _ _ (by decide)) _).mono ?_
  rintro e w2 ⟨rfl, hb2⟩
  obtain ⟨s1, hs1, hd1, hz1⟩ := name_str (le32 (Crc.on 0 hd.data.toList))
  rw [hs1]
  have HD1 := Lib.hid hd1
  have hz1' : s1.size ≤ 4 := by rw [hz1, le32_length]; omega
  clear hs1 hd1 hz1
  go_wp2_with fail
  have hbl : Below w.heap.size w w2 := hb1.trans (hb2.mono hb1.size)
  refine (RefSum_calls (hd ++ p) (by rw [ByteArray.size_append]; omega) _).mono ?_
  rintro e w2' ⟨rfl, rfl⟩
  go_wp2_with fail
  refine (RefSummed_calls _ (Crc.on_lt _ _ (by decide)) _).mono ?_
  rintro e w3 ⟨rfl, hb3⟩
  obtain ⟨s2, hs2, hd2, hz2⟩ := name_str (le32 (Crc.on 0 (hd.data.toList ++ p.data.toList)))
  rw [hs2]
  have HD2 := Lib.hid hd2
  have hz2' : s2.size ≤ 4 := by rw [hz2, le32_length]; omega
  clear hs2 hd2 hz2
  go_wp2
  go_ret2
  refine ⟨?_, hbl.trans (hb3.mono hbl.size)⟩
  have hf : hd ++ s1 ++ p ++ s2 = ⟨(frameB k p.data.toList).toArray⟩ := by
    apply str_of_data
    rw [cat_data, cat_data, cat_data, HD1.out, HD2.out, HDL.out]
    simp [frameB, sumB]
  rw [← hf]; rfl
end Go.Proofs.YtihgjihdmlomaaaDoor
