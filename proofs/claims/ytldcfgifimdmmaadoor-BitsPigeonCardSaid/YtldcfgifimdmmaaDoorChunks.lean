/-
  WALKS: the iterator of chunks; whether w bits can be parted; Chunks. Conditions: none beyond the width's.
-/
import Derived.Test.YtldcfgifimdmmaaDoorBits
import Derived.Test.YtldcfgifimdmmaaDoorChunksP
namespace Go.Proofs.YtldcfgifimdmmaaDoor
open Go.RowKit Go.Shelf
set_option linter.unusedVariables false

attribute [local go_sem] Oper.semAt_some

/-- A chunk as the iterator hands it on. -/
def chunkA (x : Nat × Nat × Nat) : Array Value := #[.int .i64 (x.1 : Int), .agg #[.int .i64 (x.2.1 : Int), .int .i64 (x.2.2 : Int)]]

set_option maxRecDepth 100000 in
set_option maxHeartbeats 2000000 in
/-- The iterator's closure: the chunks one by one, while the body goes on. -/
theorem chunks1_in (n : Nat) (hn : 1 ≤ n) (l Bm Bw : Nat) (w0 m0 : Nat) (hm : 0 < m0) (hm2 : m0 ≤ 1024) (hw : w0 ≤ 1024) (J Jx : List (Nat × Nat × Nat) → World → Prop)
    (hY : ∀ pre x W, J pre W → pre.length < m0 → YieldAt Fence.wide (n - 1) Tryd.prog l (chunkA x) W fun e W' =>
      (e = .returned (.bool true) ∧ J (pre ++ [x]) W' ∧ KeepAt [Bm, Bw] W W') ∨ (e = .returned (.bool false) ∧ Jx (pre ++ [x]) W'))
    (W : World) (hcm : W.cell? ⟨Bm, 0, none⟩ = some (.int .i64 m0)) (hcw : W.cell? ⟨Bw, 0, none⟩ = some (.int .i64 w0)) (h0 : J [] W) :
    CallsIn Fence.wide n Tryd.prog 31 #[.func (.yield l) #[] #[], .pointer (some ⟨Bm, 0, none⟩), .pointer (some ⟨Bw, 0, none⟩)] W fun e W' => (∃ v, e = .returned v) ∧
      ((∃ ys, ys = chunkL w0 m0 m0 ∧ J ys W') ∨ (∃ pre, (∃ k, k ≤ m0 ∧ pre = chunkL w0 m0 k) ∧ Jx pre W')) := by
  refine callsIn_of_wp Tryd.func31 rfl trivial ?_ rfl
  simp only [Tryd.ntmps31, List.size_toArray, List.length_cons, List.length_nil, Nat.reduceAdd, Nat.reduceSub, Array.replicate_succ, Array.replicate_zero, List.push_toArray, List.append_toArray, List.nil_append, List.cons_append]
  gi_wp2
  gi_loopw [4, 5, 6, 8] (fun at_ _ _ i wr => ∃ k : Nat, k ≤ m0 ∧ at_ = .int .i64 (cF w0 m0 k : Nat) ∧ i = .int .i64 (k : Nat) ∧ J (chunkL w0 m0 k) wr ∧ KeepAt [Bm, Bw] W wr)
    (fun _ _ _ i _ => m0 - (intOf i).toNat)
  case atStart => exact ⟨0, Nat.zero_le _, rfl, rfl, h0, KeepAt.refl _ _⟩
  case round =>
    obtain ⟨k, hk, rfl, rfl, hJs, hnx⟩ := hrel
    have hcm' := hnx.cell (g := Bm) (by simp) hcm
    have hcw' := hnx.cell (g := Bw) (by simp) hcw
    by_cases hlt : k < m0
    · have hle := cF_end w0 m0 k hm hlt
      have HS := Lib.hid (chunkL_succ w0 m0 k)
      have HF : Hid (cF w0 m0 (k + 1) = cF w0 m0 k + cN w0 m0 k) := Lib.hid rfl
      have hcn : cN w0 m0 k = w0 / m0 + if k < w0 % m0 then 1 else 0 := rfl
      obtain ⟨q, hq⟩ : ∃ q, w0 / m0 = q := ⟨_, rfl⟩
      obtain ⟨r, hr⟩ : ∃ r, w0 % m0 = r := ⟨_, rfl⟩
      have hqi : (w0 : Int) / (m0 : Int) = (q : Int) := by rw [← hq]; exact (Int.natCast_ediv _ _).symm
      have hri : (w0 : Int) % (m0 : Int) = (r : Int) := by rw [← hr]; exact (Int.natCast_emod _ _).symm
      rw [hq, hr] at hcn
      obtain ⟨c, hc⟩ : ∃ c, cN w0 m0 k = c := ⟨_, rfl⟩
      obtain ⟨f, hf⟩ : ∃ f, cF w0 m0 k = f := ⟨_, rfl⟩
      rw [hc] at hle hcn HF HS
      rw [hf] at hle HF HS
      rw [hf]
      have hYk := hY _ (k, f, c) wr hJs (by rw [chunkL_length]; exact hlt)
      simp only [chunkA] at hYk
      obtain ⟨fn, tmps, assign, body, hy, hR⟩ := hYk
      clear hc hf hq hr
      by_cases hlow : k < r
      all_goals
        first
        | (have hci : (q : Int) + 1 = (c : Int) := by rw [if_pos hlow] at hcn; omega)
        | (have hce : c = q := by rw [hcn, if_neg hlow]; rfl
           subst hce)
        clear hcn
        gi_wp2
        refine hR.mono ?_
        rintro e W3 (⟨rfl, hJ3, hk3⟩ | ⟨rfl, hJx3⟩)
        · gi_wp2
          go_roundw
          case rel => exact ⟨k + 1, by omega, by rw [HF.out]; go_num, by go_num, by rw [HS.out]; exact hJ3, hnx.trans hk3⟩
          case measure => simp [intOf]; omega
        · gi_wp2
          refine bodyPost_ret (results_none rfl _ _ _) rfl ?_
          exact ⟨⟨_, rfl⟩, .inr ⟨_, ⟨k + 1, by omega, HS.out.symm⟩, hJx3⟩⟩
    · obtain rfl : k = m0 := by omega
      have hge : ¬ ((k : Int) < (k : Int)) := by omega
      gi_wp2
      go_end0
      exact ⟨⟨_, rfl⟩, .inl hJs⟩

set_option maxRecDepth 100000 in
set_option maxHeartbeats 1000000 in
/-- chunks: its two arguments are boxed; the function value captures the boxes. -/
theorem chunks_calls (a b : Int) (w : World) :
    Calls Tryd.prog 29 #[.int .i64 a, .int .i64 b] w fun e w' => e = .returned (.func (.func 31) #[] #[.pointer (some ⟨w.heap.size + 1, 0, none⟩), .pointer (some ⟨w.heap.size, 0, none⟩)]) ∧
      (w.alloc (.cells #[.int .i64 a] 3)).alloc (.cells #[.int .i64 b] 3) = w' := by
  go_enter Tryd.func29, Tryd.ntmps29
  go_wp2
  go_ret
  exact ⟨rfl, rfl⟩

/-- The iterator's contract. -/
theorem chunks_stops (n : Nat) (hn : 1 ≤ n) (Bm Bw : Nat) (w0 m0 : Nat) (hm : 0 < m0) (hm2 : m0 ≤ 1024) (hw : w0 ≤ 1024) (w : World)
    (hcm : w.cell? ⟨Bm, 0, none⟩ = some (.int .i64 m0)) (hcw : w.cell? ⟨Bw, 0, none⟩ = some (.int .i64 w0)) (hBm : Bm < w.heap.size) (hBw : Bw < w.heap.size) :
    SeqStopsK Fence.wide n Tryd.prog 31 #[.pointer (some ⟨Bm, 0, none⟩), .pointer (some ⟨Bw, 0, none⟩)] chunkA (KeepAt [Bm, Bw])
      (fun ys => ys = chunkL w0 m0 m0) (fun pre => ∃ k, k ≤ m0 ∧ pre = chunkL w0 m0 k) m0 w := fun l J Jx W hW _ _ hY h0 => by
  refine chunks1_in n hn l Bm Bw w0 m0 hm hm2 hw J Jx hY W ?_ ?_ h0
  · exact (hW.cell (p := ⟨Bm, 0, none⟩) hBm).trans hcm
  · exact (hW.cell (p := ⟨Bw, 0, none⟩) hBw).trans hcw
end Go.Proofs.YtldcfgifimdmmaaDoor
