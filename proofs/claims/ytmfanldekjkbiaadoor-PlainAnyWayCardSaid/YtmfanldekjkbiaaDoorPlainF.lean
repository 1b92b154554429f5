/-
  WALKS: a text brought to a width; a width that goes.
-/
import Derived.Test.YtmfanldekjkbiaaDoorPlainA
import Derived.Test.YtmfanldekjkbiaaDoorDistP
import Derived.Test.YtmfanldekjkbiaaDoorMem
namespace Go.Proofs.YtmfanldekjkbiaaDoor
open Go.RowKit
set_option linter.unusedVariables false

theorem u8infoP : (Tryd.prog.info? 5).map (fun i => (i.zero, i.size, i.bytes)) = some (some (.int .u8 0), 1, 1) := by kernel_rfl

/-- A text brought to n bytes. -/
def fitB (s : ByteArray) (n : Nat) : ByteArray := ⟨(fitL s.data.toList n).toArray⟩

theorem fitB_size (s : ByteArray) (n : Nat) : (fitB s n).size = n := by
  show (fitL s.data.toList n).toArray.size = n
  rw [List.size_toArray, fitL_length]

set_option maxRecDepth 100000 in
set_option maxHeartbeats 2000000 in
theorem fit13_calls (s : ByteArray) (hs : s.size ≤ 140737488351232) (W : Nat) (hW : W ≤ 1024) (w : World) :
    Calls Tryd.prog 9 #[.string s, .int .i64 (W : Int)] w fun e w' => e = .returned (.string (fitB s (W / 8))) ∧ Below w.heap.size w w' := by
  obtain ⟨n, hn⟩ : ∃ n, W / 8 = n := ⟨_, rfl⟩
  have hn1 : n ≤ 128 := by omega
  have hdv : (W : Int) / 8 = (n : Int) := by omega
  have hw0 : (0 : Int) ≤ (W : Int) := by omega
  rw [hn]
  clear hn
  obtain ⟨i0, hi, hz0, hz1, hz2⟩ := info_parts u8infoP
  have hmk := fun W : World => run_make_bytes (P := Tryd.prog) 62 5 i0 Tryd.underlying62 hi hz0 hz1 hz2 n (by omega) W
  have hls : s.data.toList.length = s.size := rfl
  have HLS := Lib.hid hls
  unfold fitB
  clear hls
  go_enter Tryd.func9, Tryd.ntmps9
  go_wp2
  obtain ⟨W0, hW0⟩ : ∃ W0, w.alloc (.cells (madeCells #[.int .u8 0] n) 5) = W0 := ⟨_, rfl⟩
  have hB0 : Bys W0 w.heap.size 5 (fitK s.data.toList n 0) := by
    have : fitK s.data.toList n 0 = List.replicate n 0 := by simp [fitK]
    rw [this, ← hW0]; exact Bys.made w _ n
  have hbel : Below w.heap.size w W0 := by rw [← hW0]; exact (Below.refl _ _).alloc (Nat.le_refl _) _
  rw [hW0]
  clear hW0 hmk hdv
  go_loopw [6] (fun i wr => ∃ k : Nat, k ≤ n ∧ k ≤ s.size ∧ i = .int .i64 k ∧ Bys wr w.heap.size 5 (fitK s.data.toList n k) ∧ Below w.heap.size w wr) (fun i _ => n - (intOf i).toNat)
  case atStart => exact ⟨0, Nat.zero_le _, Nat.zero_le _, rfl, hB0, hbel⟩
  case round =>
    obtain ⟨k, hk, hks, rfl, hB, hbl⟩ := hrel
    have hlen := fitK_length s.data.toList n k hk (by rw [HLS.out]; exact hks)
    by_cases hlt : k < n ∧ k < s.size
    · obtain ⟨h1, h2⟩ := hlt
      have hset := fitK_set s.data.toList n k h1 (by rw [HLS.out]; exact h2)
      have hsk : s.data.toList.getD k 0 = s[k] := by simp [List.getD, h2]; rfl
      have hc := hB.cell (i := k) (by omega)
      have hf := hB.frozen (i := k) (by omega)
      have hP := hB.put k (s.data.toList.getD k 0)
      rw [hset, hsk] at hP
      clear hset hlen hsk
      go_wp2
      go_roundw
      case rel => exact ⟨k + 1, by omega, by omega, by go_num, hP, hbl.setCell (p := ⟨w.heap.size, k, none⟩) (Nat.le_refl _) _⟩
      case measure => simp [intOf]; omega
    · have hs := hB.toStr (P := Tryd.prog) 62 9 5 Tryd.underlying62 Tryd.underlying5 Tryd.underlying9 n n hlen.symm
      rw [fitK_end s.data.toList n k hk (by rw [HLS.out]; exact hks) (by rw [HLS.out]; exact hlt)] at hs
      clear hlen
      by_cases h1 : k < n
      · have h2 : s.size ≤ k := by omega
        clear hlt
        go_wp2
        go_ret
        exact ⟨rfl, hbl⟩
      · clear hlt
        go_wp2
        go_ret
        exact ⟨rfl, hbl⟩

/-- A width that goes. -/
def widN (a : Int) : Nat := if widthB a then a.toNat else 64

theorem widN_good (a : Int) : widthB (widN a : Nat) = true := by
  unfold widN
  by_cases h : widthB a = true
  · obtain ⟨n, rfl, _⟩ := widthB_true h
    rw [if_pos h]
    exact h
  · rw [if_neg h]
    decide

theorem widN_bd (a : Int) : 64 ≤ widN a ∧ widN a ≤ 1024 ∧ widN a % 64 = 0 := by
  obtain ⟨n, h1, h2, h3, h4⟩ := widthB_true (widN_good a)
  omega

set_option maxHeartbeats 1000000 in
theorem width13_calls (a : Int) (w : World) :
    Calls Tryd.prog 8 #[.int .i64 a] w fun e w' => e = .returned (.int .i64 (widN a : Nat)) ∧ w' = w := by
  by_cases h1 : a < 64
  · have hp : widN a = 64 := by unfold widN widthB; rw [if_neg]; simp; omega
    rw [hp]
    clear hp
    go_enter Tryd.func8, Tryd.ntmps8
    go_wp2
    go_ret
    exact ⟨rfl, rfl⟩
  by_cases h2 : 1024 < a
  · have hp : widN a = 64 := by unfold widN widthB; rw [if_neg]; simp; omega
    rw [hp]
    clear hp
    go_enter Tryd.func8, Tryd.ntmps8
    go_wp2
    go_ret
    exact ⟨rfl, rfl⟩
  obtain ⟨n, rfl⟩ := Int.eq_ofNat_of_zero_le (show 0 ≤ a by omega)
  by_cases h3 : n % 64 = 0
  · have hp : widN n = n := by unfold widN widthB; rw [if_pos]; simp; simp; omega
    have hz : ((n : Int) % 64 != 0) = false := by rw [bne_eq_false_iff_eq]; omega
    rw [hp]
    clear hp h3
    go_enter Tryd.func8, Tryd.ntmps8
    go_wp2
    go_ret
    exact ⟨rfl, rfl⟩
  · have hp : widN n = 64 := by unfold widN widthB; rw [if_neg]; simp; omega
    have hz : ((n : Int) % 64 != 0) = true := by rw [bne_iff_ne]; omega
    rw [hp]
    clear hp h3
    go_enter Tryd.func8, Tryd.ntmps8
    go_wp2
    go_ret
    exact ⟨rfl, rfl⟩
end Go.Proofs.YtmfanldekjkbiaaDoor
