/-
  WALKS: the iterator of chunks, each told by its number (so that a loop's body knows which numbers it may be handed).
-/
import Derived.Test.YtldcfgifimdmmaaDoorChunks
namespace Go.Proofs.YtldcfgifimdmmaaDoor
open Go.RowKit Go.Shelf
set_option linter.unusedVariables false

attribute [local go_sem] Oper.semAt_some

/-- Chunk x as the iterator hands it on. -/
def chunkF (w m : Nat) (x : Fin m) : Array Value := chunkA (x.val, cF w m x.val, cN w m x.val)
/-- The first k numbers. -/
def fr (m k : Nat) : List (Fin m) := (List.finRange m).take k
theorem fr_length (m k : Nat) (h : k ≤ m) : (fr m k).length = k := by simp [fr]; omega
theorem fr_zero (m : Nat) : fr m 0 = [] := rfl
theorem fr_succ (m k : Nat) (h : k < m) : fr m (k + 1) = fr m k ++ [⟨k, h⟩] := by
  unfold fr
  rw [List.take_succ_eq_append_getElem (by simpa using h)]
  simp

set_option maxRecDepth 100000 in
set_option maxHeartbeats 2000000 in
/-- The iterator's closure: the chunks one by one, while the body goes on. -/
theorem chunksF_in (n : Nat) (hn : 1 ≤ n) (l Bm Bw : Nat) (w0 m0 : Nat) (hm : 0 < m0) (hm2 : m0 ≤ 1024) (hw : w0 ≤ 1024) (J Jx : List (Fin m0) → World → Prop)
    (hY : ∀ pre x W, J pre W → pre.length < m0 → YieldAt Fence.wide (n - 1) Tryd.prog l (chunkF w0 m0 x) W fun e W' =>
      (e = .returned (.bool true) ∧ J (pre ++ [x]) W' ∧ KeepAt [Bm, Bw] W W') ∨ (e = .returned (.bool false) ∧ Jx (pre ++ [x]) W'))
    (W : World) (hcm : W.cell? ⟨Bm, 0, none⟩ = some (.int .i64 m0)) (hcw : W.cell? ⟨Bw, 0, none⟩ = some (.int .i64 w0)) (h0 : J [] W) :
    CallsIn Fence.wide n Tryd.prog 31 #[.func (.yield l) #[] #[], .pointer (some ⟨Bm, 0, none⟩), .pointer (some ⟨Bw, 0, none⟩)] W fun e W' => (∃ v, e = .returned v) ∧
      ((∃ ys, ys = fr m0 m0 ∧ J ys W') ∨ (∃ pre, (∃ k, k ≤ m0 ∧ pre = fr m0 k) ∧ Jx pre W')) := by
  refine callsIn_of_wp Tryd.func31 rfl trivial ?_ rfl
  simp only [Tryd.ntmps31, List.size_toArray, List.length_cons, List.length_nil, Nat.reduceAdd, Nat.reduceSub, Array.replicate_succ, Array.replicate_zero, List.push_toArray, List.append_toArray, List.nil_append, List.cons_append]
  gi_wp2
  gi_loopw [4, 5, 6, 8] (fun at_ _ _ i wr => ∃ k : Nat, k ≤ m0 ∧ at_ = .int .i64 (cF w0 m0 k : Nat) ∧ i = .int .i64 (k : Nat) ∧ J (fr m0 k) wr ∧ KeepAt [Bm, Bw] W wr)
    (fun _ _ _ i _ => m0 - (intOf i).toNat)
  case atStart => exact ⟨0, Nat.zero_le _, rfl, rfl, h0, KeepAt.refl _ _⟩
  case round =>
    obtain ⟨k, hk, rfl, rfl, hJs, hnx⟩ := hrel
    have hcm' := hnx.cell (g := Bm) (by simp) hcm
    have hcw' := hnx.cell (g := Bw) (by simp) hcw
    by_cases hlt : k < m0
    · have hle := cF_end w0 m0 k hm hlt
      have HS := Lib.hid (fr_succ m0 k hlt)
      have HF : Hid (cF w0 m0 (k + 1) = cF w0 m0 k + cN w0 m0 k) := Lib.hid rfl
      have hcn : cN w0 m0 k = w0 / m0 + if k < w0 % m0 then 1 else 0 := rfl
      obtain ⟨q, hq⟩ : ∃ q, w0 / m0 = q := ⟨_, rfl⟩
      obtain ⟨r, hr⟩ : ∃ r, w0 % m0 = r := ⟨_, rfl⟩
      have hqi : (w0 : Int) / (m0 : Int) = (q : Int) := by rw [← hq]; exact (Int.natCast_ediv _ _).symm
      have hri : (w0 : Int) % (m0 : Int) = (r : Int) := by rw [← hr]; exact (Int.natCast_emod _ _).symm
      rw [hq, hr] at hcn
      obtain ⟨c, hc⟩ : ∃ c, cN w0 m0 k = c := ⟨_, rfl⟩
      obtain ⟨f, hf⟩ : ∃ f, cF w0 m0 k = f := ⟨_, rfl⟩
      rw [hc] at hle hcn HF
      rw [hf] at hle HF
      rw [hf]
      have hYk := hY _ ⟨k, hlt⟩ wr hJs (by rw [fr_length _ _ hk]; exact hlt)
      simp only [chunkF, chunkA, hc, hf] at hYk
      obtain ⟨fn, tmps, assign, body, hy, hR⟩ := hYk
      clear hc hf hq hr
      by_cases hlow : k < r
      all_goals
        first
        | (have hci : (q : Int) + 1 = (c : Int) := by rw [if_pos hlow] at hcn; omega)
        | (have hce : c = q := by rw [hcn, if_neg hlow]; rfl
           subst hce)
        clear hcn
        gi_wp2
        refine hR.mono ?_
        rintro e W3 (⟨rfl, hJ3, hk3⟩ | ⟨rfl, hJx3⟩)
        · gi_wp2
          go_roundw
          case rel => exact ⟨k + 1, by omega, by rw [HF.out]; go_num, by go_num, by rw [HS.out]; exact hJ3, hnx.trans hk3⟩
          case measure => simp [intOf]; omega
        · gi_wp2
          refine bodyPost_ret (results_none rfl _ _ _) rfl ?_
          exact ⟨⟨_, rfl⟩, .inr ⟨_, ⟨k + 1, by omega, HS.out.symm⟩, hJx3⟩⟩
    · obtain rfl : k = m0 := by omega
      have hge : ¬ ((k : Int) < (k : Int)) := by omega
      gi_wp2
      go_end0
      exact ⟨⟨_, rfl⟩, .inl hJs⟩

/-- The iterator's contract. -/
theorem chunksF_stops (n : Nat) (hn : 1 ≤ n) (Bm Bw : Nat) (w0 m0 : Nat) (hm : 0 < m0) (hm2 : m0 ≤ 1024) (hw : w0 ≤ 1024) (w : World)
    (hcm : w.cell? ⟨Bm, 0, none⟩ = some (.int .i64 m0)) (hcw : w.cell? ⟨Bw, 0, none⟩ = some (.int .i64 w0)) (hBm : Bm < w.heap.size) (hBw : Bw < w.heap.size) :
    SeqStopsK Fence.wide n Tryd.prog 31 #[.pointer (some ⟨Bm, 0, none⟩), .pointer (some ⟨Bw, 0, none⟩)] (chunkF w0 m0) (KeepAt [Bm, Bw])
      (fun ys => ys = fr m0 m0) (fun pre => ∃ k, k ≤ m0 ∧ pre = fr m0 k) m0 w := fun l J Jx W hW _ _ hY h0 => by
  refine chunksF_in n hn l Bm Bw w0 m0 hm hm2 hw J Jx hY W ?_ ?_ h0
  · exact (hW.cell (p := ⟨Bm, 0, none⟩) hBm).trans hcm
  · exact (hW.cell (p := ⟨Bw, 0, none⟩) hBw).trans hcw
end Go.Proofs.YtldcfgifimdmmaaDoor
