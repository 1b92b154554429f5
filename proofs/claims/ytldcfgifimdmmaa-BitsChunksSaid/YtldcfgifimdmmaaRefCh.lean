/-
  WALKS: the document's Chunks, Split, Join; the program's refusals of Split and Join.
-/
import Derived.Test.YtldcfgifimdmmaaChunks2
import Derived.Test.YtldcfgifimdmmaaSplit
import Derived.Test.YtldcfgifimdmmaaJoin2
import Derived.Test.YtldcfgifimdmmaaRows2
import Derived.Test.YtldcfgifimdmmaaBits2
import Derived.Outline
import Derived.RegionTactic
import Derived.ChangeAlike
import Derived.BigRegion
namespace Go.Proofs.Ytldcfgifimdmmaa
open Go.RowKit XKit
set_option linter.unusedVariables false

theorem chunkedR_width {a b : Int} (h : widthB a = false) : chunkedR a b = 10 := by unfold chunkedR; rw [h]; rfl
theorem chunkedR_other {a b : Int} (h : widthB a = true) (h2 : b < (a + 31) / 32 ∨ a / 8 < b) : chunkedR a b = 12 := by unfold chunkedR; rw [h, if_pos rfl, if_pos h2]
attribute [local irreducible] chunkC

set_option maxHeartbeats 1000000 in
theorem RefChunks_no (a b : Int) (hc0 : chunkedR a b ≠ 0) (w : World) :
    Calls Try.prog 25 #[.int .i64 a, .int .i64 b] w fun e w' => e = .returned (.tuple #[.slice none 0 0, .int .i64 (chunkedR a b)]) ∧ w = w' := by
  have C := RefWidth_calls a w
  rcases hw : widthB a with _ | _
  · rw [chunkedR_width hw]
    rw [hw] at C
    clear hw hc0
    go_enter Try.func25, Try.ntmps25
    go_wp2_with fail
    refine C.mono ?_
    rintro e w1 ⟨rfl, rfl⟩
    go_wp2
    go_ret2
    exact ⟨rfl, rfl⟩
  · obtain ⟨n, rfl, h1, h2, h3⟩ := widthB_true hw
    have h12 : b < ((n : Int) + 31) / 32 ∨ (n : Int) / 8 < b := by
      by_cases h : b < ((n : Int) + 31) / 32 ∨ (n : Int) / 8 < b
      · exact h
      · exact absurd (by unfold chunkedR; rw [hw, if_pos rfl, if_neg h]) hc0
    rw [chunkedR_other hw h12]
    rw [hw] at C
    clear hw hc0
    by_cases hlow : b < ((n : Int) + 31) / 32
    · clear h12
      go_enter Try.func25, Try.ntmps25
      go_wp2_with fail
      refine C.mono ?_
      rintro e w1 ⟨rfl, rfl⟩
      go_wp2
      go_ret2
      exact ⟨rfl, rfl⟩
    · have hhigh : (n : Int) / 8 < b := h12.resolve_left hlow
      have hd : decide (b < ((n : Int) + 31) / 32) = false := decide_eq_false hlow
      clear h12
      go_enter Try.func25, Try.ntmps25
      go_wp2_with fail
      refine C.mono ?_
      rintro e w1 ⟨rfl, rfl⟩
      go_wp2
      go_ret2
      exact ⟨rfl, rfl⟩

set_option maxHeartbeats 1000000 in
theorem RefChunks_ok (w0 m0 : Nat) (hc0 : chunkedR w0 m0 = 0) (w : World) :
    Calls Try.prog 25 #[.int .i64 w0, .int .i64 m0] w fun e w' => ∃ v, e = .returned (.tuple #[v, .int .i64 0]) ∧ w'.ownsRow w.heap.size 49 2 v m0 (chunkC w0 m0 m0) ∧ Below w.heap.size w w' := by
  obtain ⟨a, b, ha, hb, h1, h2, h3, h4, h5⟩ := chunkedR_zero hc0
  obtain rfl : w0 = a := by omega
  obtain rfl : m0 = b := by omega
  have C := RefWidth_calls w0 w
  have hw : widthB w0 = true := by
    rcases h : widthB (w0 : Int) with _ | _
    · rw [chunkedR_width h] at hc0; cases hc0
    · rfl
  obtain ⟨i0, hi, hz0, hz1, hz2⟩ := info_parts chunkinfo
  rw [hw] at C
  have hd : decide ((m0 : Int) < ((w0 : Int) + 31) / 32) = false := decide_eq_false (by omega)
  have hd2 : decide ((w0 : Int) / 8 < (m0 : Int)) = false := decide_eq_false (by omega)
  clear hw hc0 ha hb
  go_enter Try.func25, Try.ntmps25
  go_wp2_with fail
  refine C.mono ?_
  rintro e w1 ⟨rfl, rfl⟩
  clear C
  go_wp2
  go_loopw [7, 8, 9] (fun v at_ j wr => ∃ k : Nat, k ≤ m0 ∧ j = .int .i64 k ∧ at_ = .int .i64 (cF w0 m0 k : Nat) ∧ wr.ownsRow w.heap.size 49 2 v k (chunkC w0 m0 k) ∧ Below w.heap.size w wr) (fun _ _ j _ => m0 - (intOf j).toNat)
  case atStart => exact ⟨0, Nat.zero_le _, rfl, rfl, (by rw [show chunkC w0 m0 0 = [] by unfold chunkC; rfl]; exact World.ownsRow_nil _ _ _ _), Below.refl _ _⟩
  case round =>
    obtain ⟨k, hk, rfl, rfl, hown, hbl⟩ := hrel
    by_cases hlt : k < m0
    · have hle := cF_end w0 m0 k (by omega) hlt
      have HF : Hid (cF w0 m0 (k + 1) = cF w0 m0 k + cN w0 m0 k) := Lib.hid rfl
      have HCH := Lib.hid (chunkC_succ w0 m0 k)
      have hcn : cN w0 m0 k = w0 / m0 + if k < w0 % m0 then 1 else 0 := rfl
      obtain ⟨q, hq⟩ : ∃ q, w0 / m0 = q := ⟨_, rfl⟩
      obtain ⟨r, hr⟩ : ∃ r, w0 % m0 = r := ⟨_, rfl⟩
      have hqi : (w0 : Int) / (m0 : Int) = (q : Int) := by rw [← hq]; exact (Int.natCast_ediv _ _).symm
      have hri : (w0 : Int) % (m0 : Int) = (r : Int) := by rw [← hr]; exact (Int.natCast_emod _ _).symm
      rw [hq, hr] at hcn
      obtain ⟨c, hc⟩ : ∃ c, cN w0 m0 k = c := ⟨_, rfl⟩
      obtain ⟨f, hf⟩ : ∃ f, cF w0 m0 k = f := ⟨_, rfl⟩
      rw [hc] at hle hcn HF HCH
      rw [hf] at hle HF HCH
      rw [hf]
      clear hc hf hq hr
      by_cases hlow : k < r
      all_goals
        first
        | (have hci : (q : Int) + 1 = (c : Int) := by rw [if_pos hlow] at hcn; omega)
        | (have hce : c = q := by rw [hcn, if_neg hlow]; rfl
           subst hce)
        clear hcn
        go_wp2_with (at_builtin; refine wpList_append_lies _ rfl _ _ 45 rfl w.heap.size 49 i0 (.agg #[.int .i64 0, .int .i64 0]) 2 16 Try.underlying45 hi hz0 hz1 hz2 rfl (by decide) _ k _ rfl (hown.alloc _) ⟨wr.heap.size, 0, none⟩ 1 1 [.int .i64 (f : Int), .int .i64 (c : Int)] rfl rfl (World.news_of_block (heap_alloc_new wr _)) (by simp [Value.oneCell']) (by decide) (by unfold maxLen; omega) (by omega) (by have := hbl.size; simp; omega) _ rfl ?_; intro g capn y1 hown' hgrow hat hlt2)
        have hbn : Below w.heap.size w y1 := (hbl.alloc hbl.size _).grown hgrow (by have := hbl.size; simp; omega) (fun g hg => (hown.lt g hg).1)
        go_roundw
        case rel => exact ⟨k + 1, by omega, by go_num, by rw [HF.out]; go_num, by rw [HCH.out]; exact hown', hbn⟩
        case measure => simp [intOf]; omega
    · obtain rfl : k = m0 := by omega
      go_wp2
      go_ret2
      exact ⟨_, rfl, hown, hbl⟩

set_option maxHeartbeats 1000000 in
theorem Split_no (a b : Int) (s : ByteArray) (hc0 : chunkedR a b ≠ 0) (w : World) :
    Calls Try.prog 20 #[.int .i64 a, .int .i64 b, .string s] w fun e w' => e = .returned (.tuple #[.slice none 0 0, .int .i64 (chunkedR a b)]) ∧ Below w.heap.size w w' := by
  have C := fun W => chunked_calls a b W
  have hne : (chunkedR a b != 0) = true := by rw [bne_iff_ne]; exact hc0
  obtain ⟨c, hc⟩ : ∃ c, chunkedR a b = c := ⟨_, rfl⟩
  simp only [hc] at C
  rw [hc] at hne
  rw [hc]
  have HC := Lib.hid C
  clear hc hc0 C
  go_enter Try.func20, Try.ntmps20
  go_wp2_with fail
  refine (HC.out _).mono ?_
  rintro e w1 ⟨rfl, rfl⟩
  go_wp2
  go_ret2
  exact ⟨rfl, (Below.refl _ _).alloc (Nat.le_refl _) _⟩

set_option maxHeartbeats 1000000 in
theorem Split_len (a b : Int) (s : ByteArray) (hc0 : chunkedR a b = 0) (hs : (s.size : Int) ≠ a / 8) (w : World) :
    Calls Try.prog 20 #[.int .i64 a, .int .i64 b, .string s] w fun e w' => e = .returned (.tuple #[.slice none 0 0, .int .i64 11]) ∧ Below w.heap.size w w' := by
  have C := fun W => chunked_calls a b W
  simp only [hc0] at C
  obtain ⟨w0, m0, rfl, rfl, h1, h2, h3, h4, h5⟩ := chunkedR_zero hc0
  have hne : ((s.size : Int) != (w0 : Int) / 8) = true := by rw [bne_iff_ne]; exact hs
  have HC := Lib.hid C
  clear hc0 C hs
  go_enter Try.func20, Try.ntmps20
  go_wp2_with fail
  refine (HC.out _).mono ?_
  rintro e w1 ⟨rfl, rfl⟩
  go_wp2
  go_ret2
  exact ⟨rfl, (Below.refl _ _).alloc (Nat.le_refl _) _⟩

set_option maxHeartbeats 1000000 in
theorem Join_no (a b : Int) (p : Option Addr) (n cap : Nat) (hc0 : chunkedR a b ≠ 0) (w : World) :
    Calls Try.prog 19 #[.int .i64 a, .int .i64 b, .slice p n cap] w fun e w' => e = .returned (.tuple #[.string ⟨#[]⟩, .int .i64 (chunkedR a b)]) ∧ Below w.heap.size w w' := by
  have C := fun W => chunked_calls a b W
  have hne : (chunkedR a b != 0) = true := by rw [bne_iff_ne]; exact hc0
  obtain ⟨c, hc⟩ : ∃ c, chunkedR a b = c := ⟨_, rfl⟩
  simp only [hc] at C
  rw [hc] at hne
  rw [hc]
  have HC := Lib.hid C
  clear hc hc0 C
  go_enter Try.func19, Try.ntmps19
  go_wp2_with fail
  refine (HC.out _).mono ?_
  rintro e w1 ⟨rfl, rfl⟩
  go_wp2
  refine bodyPost_ret (v := .tuple #[.string ⟨#[]⟩, .int .i64 c]) ?_ rfl ?_
  · rw [results_cells2 rfl]
    go_simp
  · refine ⟨rfl, ?_⟩
    repeat (first | exact Below.refl _ _ | (refine Below.alloc ?_ (by simp; omega) _) | (refine Below.alloc ?_ (by simp) _) | (refine Below.alloc ?_ (Nat.le_refl _) _) | (refine Below.setCell ?_ (by simp; omega) _) | (refine Below.setCell ?_ (by simp) _))
end Go.Proofs.Ytldcfgifimdmmaa
