/-
  WALKS: a signer's directions: the iterator.
-/
import Derived.Test.YtcdlmjbjpeokfaaDoorSignP
namespace Go.Proofs.YtcdlmjbjpeokfaaDoor
open Go.RowKit Go.Shelf
set_option linter.unusedVariables false

attribute [local go_sem] Oper.semAt_some

/-- The first k numbers. -/
def frS (m k : Nat) : List (Fin m) := (List.finRange m).take k

theorem frS_length (m k : Nat) (h : k ≤ m) : (frS m k).length = k := by simp [frS]; omega

theorem frS_zero (m : Nat) : frS m 0 = [] := rfl

theorem frS_succ (m k : Nat) (h : k < m) : frS m (k + 1) = frS m k ++ [⟨k, h⟩] := by
  unfold frS
  rw [List.take_succ_eq_append_getElem (by simpa using h)]
  simp

/-- A place and its unit, as the iterator hands them on. -/
def dirA (sd : Int) (j : Nat) {m : Nat} (x : Fin m) : Array Value := #[.int .i64 (x.val : Int), .complex .f64 (uw (unitN sd j x.val)).1 (uw (unitN sd j x.val)).2]

theorem direction_calls (b : Nat) (j : Int) (w : World) :
    Calls Tryd.prog 20 #[.pointer (some ⟨b, 0, none⟩), .int .i64 j] w fun x w' => x = .returned (.func (.func 21) #[] #[.pointer (some ⟨w.heap.size, 0, none⟩), .pointer (some ⟨w.heap.size + 1, 0, none⟩)]) ∧ w' = (w.alloc (.cells #[.pointer (some ⟨b, 0, none⟩)] 28)).alloc (.cells #[.int .i64 j] 3) := by
  go_enter Tryd.func20, Tryd.ntmps20
  go_wp2
  go_ret
  exact ⟨rfl, rfl⟩

set_option maxRecDepth 100000 in
set_option maxHeartbeats 2000000 in
/-- The iterator's closure: the places one by one, while the body goes on. -/
theorem dirF_in (n : Nat) (hn : 1 ≤ n) (l B2 B3 Bs : Nat) (wd sd : Int) (j m : Nat) (hj : j ≤ 1048576) (hm2 : m ≤ 1024) (J Jx : List (Fin m) → World → Prop)
    (hY : ∀ pre x W, J pre W → pre.length < m → YieldAt Fence.wide (n - 1) Tryd.prog l (dirA sd j x) W fun e W' =>
      (e = .returned (.bool true) ∧ J (pre ++ [x]) W' ∧ KeepS [B2, B3, Bs] W W') ∨ (e = .returned (.bool false) ∧ Jx (pre ++ [x]) W'))
    (W : World) (h2 : W.cell? ⟨B2, 0, none⟩ = some (.pointer (some ⟨Bs, 0, none⟩))) (h3 : W.cell? ⟨B3, 0, none⟩ = some (.int .i64 j)) (hs : Sg W 48 Bs wd m sd) (h0 : J [] W) :
    CallsIn Fence.wide n Tryd.prog 21 #[.func (.yield l) #[] #[], .pointer (some ⟨B2, 0, none⟩), .pointer (some ⟨B3, 0, none⟩)] W fun e W' => (∃ v, e = .returned v) ∧
      ((∃ ys, ys = frS m m ∧ J ys W') ∨ (∃ pre, (∃ k, k ≤ m ∧ pre = frS m k) ∧ Jx pre W')) := by
  refine callsIn_of_wp Tryd.func21 rfl trivial ?_ rfl
  simp only [Tryd.ntmps21, List.size_toArray, List.length_cons, List.length_nil, Nat.reduceAdd, Nat.reduceSub, Array.replicate_succ, Array.replicate_zero, List.push_toArray, List.append_toArray, List.nil_append, List.cons_append]
  obtain ⟨s0, s1, s2⟩ := hs.cells
  gi_wp2
  gi_loopw [9] (fun i wr => ∃ k : Nat, k ≤ m ∧ i = .int .i64 (k : Nat) ∧ J (frS m k) wr ∧ KeepS [B2, B3, Bs] W wr)
    (fun i _ => m - (intOf i).toNat)
  case atStart => exact ⟨0, Nat.zero_le _, rfl, h0, KeepS.refl _ _⟩
  case round =>
    obtain ⟨k, hk, rfl, hJs, hnx⟩ := hrel
    have h2' := hnx.cell (g := B2) (by simp) h2
    have h3' := hnx.cell (g := B3) (by simp) h3
    have hs' := hs.of (hnx Bs (by simp))
    by_cases hlt : k < m
    · have HS := Lib.hid (frS_succ m k hlt)
      have hYk := hY _ ⟨k, hlt⟩ wr hJs (by rw [frS_length _ _ hk]; exact hlt)
      have w1 : IntKind.i64.wrap (1024 * (j : Int)) = 1024 * (j : Int) := by rw [IntKind.wrap_i64]; omega
      have w2 : IntKind.i64.wrap (1024 * (j : Int) + (k : Int)) = 1024 * (j : Int) + (k : Int) := by rw [IntKind.wrap_i64]; omega
      have w3 : IntKind.i64.wrap (1024 * (j : Int) + (k : Int) + 1) = 1024 * (j : Int) + (k : Int) + 1 := by rw [IntKind.wrap_i64]; omega
      have w4 : IntKind.u64.wrap (1024 * (j : Int) + (k : Int) + 1) = 1024 * (j : Int) + (k : Int) + 1 := by rw [IntKind.wrap_u64]; omega
      have MX := Lib.hid (mixed_calls Bs wd m sd (1024 * (j : Int) + (k : Int) + 1) wr hs')
      obtain ⟨M, hM⟩ : ∃ M, mixN sd (1024 * (j : Int) + (k : Int) + 1) = M := ⟨_, rfl⟩
      obtain ⟨U, hU⟩ : ∃ U, M / 4611686018427387904 = U := ⟨_, rfl⟩
      have hUU : unitN sd j k = U := by rw [← hU, ← hM]; rfl
      rw [hM] at MX
      have UN := Lib.hid (unit_calls U wr)
      simp only [dirA, hUU] at hYk
      obtain ⟨fn, tmps, assign, body, hy, hR⟩ := hYk
      clear hM hUU
      gi_wp2_with (first
        | (refine ⟨trivial, ?_⟩; gi_at_call 23; refine (callsIn_wide.2 MX.out).mono ?_; rintro e w' ⟨rfl, rfl⟩)
        | (refine ⟨trivial, ?_⟩; gi_at_call 22; refine (callsIn_wide.2 UN.out).mono ?_; rintro e w' ⟨rfl, rfl⟩))
      refine hR.mono ?_
      rintro e W3 (⟨rfl, hJ3, hk3⟩ | ⟨rfl, hJx3⟩)
      · gi_wp2
        go_roundw
        case rel => exact ⟨k + 1, by omega, by go_num, by rw [HS.out]; exact hJ3, hnx.trans hk3⟩
        case measure => simp [intOf]; omega
      · gi_wp2
        refine bodyPost_ret (results_none rfl _ _ _) rfl ?_
        exact ⟨⟨_, rfl⟩, .inr ⟨_, ⟨k + 1, by omega, HS.out.symm⟩, hJx3⟩⟩
    · obtain rfl : k = m := by omega
      have hge : ¬ ((k : Int) < (k : Int)) := by omega
      gi_wp2
      go_end0
      exact ⟨⟨_, rfl⟩, .inl hJs⟩

/-- The iterator's contract. -/
theorem dirF_stops (n : Nat) (hn : 1 ≤ n) (B2 B3 Bs : Nat) (wd sd : Int) (j m : Nat) (hj : j ≤ 1048576) (hm2 : m ≤ 1024) (w : World)
    (h2 : w.cell? ⟨B2, 0, none⟩ = some (.pointer (some ⟨Bs, 0, none⟩))) (h3 : w.cell? ⟨B3, 0, none⟩ = some (.int .i64 j)) (hs : Sg w 48 Bs wd m sd) :
    SeqStopsK Fence.wide n Tryd.prog 21 #[.pointer (some ⟨B2, 0, none⟩), .pointer (some ⟨B3, 0, none⟩)] (dirA (m := m) sd j) (KeepS [B2, B3, Bs])
      (fun ys => ys = frS m m) (fun pre => ∃ k, k ≤ m ∧ pre = frS m k) m w := fun l J Jx W hW _ _ hY h0 => by
  refine dirF_in n hn l B2 B3 Bs wd sd j m hj hm2 J Jx hY W ?_ ?_ ?_ h0
  · exact (hW.cell (p := ⟨B2, 0, none⟩) (cell_ltS h2)).trans h2
  · exact (hW.cell (p := ⟨B3, 0, none⟩) (cell_ltS h3)).trans h3
  · exact hs.of (hW.block _ hs.lt)
end Go.Proofs.YtcdlmjbjpeokfaaDoor
