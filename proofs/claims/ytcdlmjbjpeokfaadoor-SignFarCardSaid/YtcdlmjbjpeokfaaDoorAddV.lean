/-
  WALK: a vector made.
-/
import Derived.Test.YtcdlmjbjpeokfaaDoorAddW
import Derived.StillTailTactics
namespace Go.Proofs.YtcdlmjbjpeokfaaDoor
open Go.RowKit ArgK
set_option linter.unusedVariables false

set_option maxRecDepth 100000 in
set_option maxHeartbeats 1000000 in
theorem vector_calls (p : Option Addr) (cap n : Nat) (most : Int) (zs : List (Int × Int)) (hzl : zs.length ≤ 140737488351232) (hn : n ≤ 1024) (hm : 0 ≤ most ∧ most ≤ 1048576) (w : World) (hz : PL w p zs) :
    Calls Tryd.prog 7 #[.slice p zs.length cap, .int .i64 n, .int .i64 most] w (LPost w (vecL zs n most)) := by
  obtain ⟨i0, hi, hy0, hy1, hy2⟩ := info_parts partinfo
  have LL := Lib.hid (vecL_length zs n most)
  have LG : Hid (∀ k, k < n → (vecL zs n most)[k]? = some (fitV most (zs.getD k (0, 0)))) := Lib.hid (fun k hk => vecL_get zs n most k hk)
  generalize vecL zs n most = L at LL LG ⊢
  have HM := Lib.hid hm
  have HZ := Lib.hid hz
  obtain ⟨m, hmm⟩ : ∃ m, zs.length = m := ⟨_, rfl⟩
  rw [hmm] at hzl ⊢
  have HN := Lib.hid hmm
  clear hm hz hmm
  go_enter Tryd.func7, Tryd.ntmps7
  go_wp2
  go_loopw [7, 8] (fun lv i ws => ∃ (k : Nat) (v : Value), k ≤ n ∧ i = .int .i64 k ∧ v = lv ∧ Hid (ws.ownsRow w.heap.size 36 2 lv k (encP (L.take k))) ∧ Hid (Below w.heap.size w ws)) (fun _ i _ => n - (intOf i).toNat)
  case atStart => exact ⟨0, _, Nat.zero_le _, rfl, rfl, Lib.hid (World.ownsRow_nil _ _ _ _), Lib.hid (Below.refl _ _)⟩
  case round =>
    obtain ⟨k, lv, hk, rfl, rfl, HV, HBr⟩ := hrel
    by_cases hlt : k < n
    · have hki : (k : Int) < (n : Int) := by omega
      have hk0 : (0 : Int) ≤ (k : Int) := by omega
      have hJX := LG.out k hlt
      have hwr : w.heap.size ≤ wr.heap.size := HBr.out.size
      by_cases hlm : k < m
      · have hkm : (k : Int) < (m : Int) := by omega
        obtain ⟨x, hx⟩ : ∃ x, zs[k]? = some x := ⟨_, List.getElem?_eq_getElem (by rw [HN.out]; exact hlm)⟩
        have hgx : zs.getD k (0, 0) = x := by simp [List.getD, hx]
        rw [hgx] at hJX
        obtain ⟨a, rfl, u0, u1⟩ := (HZ.out.below (HBr.out.alloc hwr (.cells #[.int .i64 0, .int .i64 0] 36))) k x hx
        have CF1 : Hid (∀ W, Calls Tryd.prog 11 #[.int .i64 x.1, .int .i64 most] W fun e w' => e = .returned (.int .i64 (fitR x.1 most)) ∧ w' = W) := Lib.hid (fun W => (fit_calls x.1 most HM.out W).mono (fun _ _ h => ⟨h.1, h.2.symm⟩))
        have CF2 : Hid (∀ W, Calls Tryd.prog 11 #[.int .i64 x.2, .int .i64 most] W fun e w' => e = .returned (.int .i64 (fitR x.2 most)) ∧ w' = W) := Lib.hid (fun W => (fit_calls x.2 most HM.out W).mono (fun _ _ h => ⟨h.1, h.2.symm⟩))
        obtain ⟨y, hy⟩ : ∃ y, fitV most x = y := ⟨_, rfl⟩
        have hy1' : fitR x.1 most = y.1 := by rw [← hy]; rfl
        have hy2' : fitR x.2 most = y.2 := by rw [← hy]; rfl
        rw [hy] at hJX
        rw [hy1'] at CF1
        rw [hy2'] at CF2
        have HTK : Hid (encP (L.take (k + 1)) = encP (L.take k) ++ cellsP y) := Lib.hid (by rw [List.take_add_one, hJX]; exact encP_snoc _ _)
        have chk1 : (k + 1) * 16 ≤ 140737488355328 := by omega
        have chk2 : k + 1 ≤ maxLen := by unfold maxLen; omega
        have chk3 : ∀ i u, (cellsP y)[i]? = some u → ((wr.alloc (.cells #[.int .i64 y.1, .int .i64 y.2] 36)).alloc (.cells #[.int .i64 y.1, .int .i64 y.2] 36)).drew.cell? ((⟨wr.heap.size + 1, 0, none⟩ : Addr).add i) = some u := fun i u hu => World.news_of_block (by rw [← World.size_alloc wr (.cells #[.int .i64 y.1, .int .i64 y.2] 36)]; exact heap_lastS (wr.alloc (.cells #[.int .i64 y.1, .int .i64 y.2] 36)) _) i u hu
        have chk4 : ∀ u ∈ cellsP y, u.oneCell' = true := by simp [cellsP, Value.oneCell']
        have chk5 : w.heap.size ≤ ((wr.alloc (.cells #[.int .i64 y.1, .int .i64 y.2] 36)).alloc (.cells #[.int .i64 y.1, .int .i64 y.2] 36)).drew.heap.size := by show w.heap.size ≤ ((wr.alloc (.cells #[.int .i64 y.1, .int .i64 y.2] 36)).alloc (.cells #[.int .i64 y.1, .int .i64 y.2] 36)).heap.size; rw [World.size_alloc, World.size_alloc]; omega
        clear hx hgx hJX hy hy1' hy2'
        go_wp2_with fail
        refine wp_region_still_tail 15 (by kernel_rfl) (by kernel_rfl) ?_
        change wpStill _ _ (wr.alloc (.cells #[.int .i64 0, .int .i64 0] 36)).drew _ _ _
        simp only [List.take_succ_cons, List.take_zero, List.drop_succ_cons, List.drop_zero]
        repeat still_step
        still_call (CF1.out _)
        repeat still_step
        still_call (CF2.out _)
        repeat still_step
        refine wpStill_nil ?_
        change wpList _ _ _ _ _ (wr.alloc (.cells #[.int .i64 0, .int .i64 0] 36)).drew
        go_wp2_with (at_builtin; refine wpList_append_own _ rfl _ _ 23 rfl w.heap.size 36 i0 _ 2 16 Tryd.underlying23 hi hy0 hy1 hy2 rfl (by decide) lv k _ rfl (((HV.out.alloc _).alloc _).drew) ⟨wr.heap.size + 1, 0, none⟩ 1 1 (cellsP y) rfl rfl chk3 chk4 chk2 chk1 chk5 ?_)
        intro v' w3 hown' hgrow _
        have N1 : Hid (w3.ownsRow w.heap.size 36 2 v' (k + 1) (encP (L.take (k + 1)))) := Lib.hid (by rw [HTK.out]; exact hown')
        have N2 := Lib.hid ((((HBr.out.alloc hwr (.cells #[.int .i64 y.1, .int .i64 y.2] 36)).alloc (by rw [World.size_alloc]; omega) (.cells #[.int .i64 y.1, .int .i64 y.2] 36)).drew).grown hgrow chk5 (fun b hb => (HV.out.lt b hb).1))
        clear hown' hgrow chk1 chk2 chk3 chk4 chk5
        go_wp2
        go_roundw
        case rel => exact ⟨k + 1, _, hlt, by go_num, rfl, N1, N2⟩
        case measure => simp [intOf]; omega
      · have hkm : ¬ (k : Int) < (m : Int) := by omega
        have hgx : zs.getD k (0, 0) = (0, 0) := by simp [List.getD, List.getElem?_eq_none (show zs.length ≤ k by rw [HN.out]; omega)]
        have hfz : fitV most (0, 0) = (0, 0) := Prod.ext (fitR_zero _) (fitR_zero _)
        rw [hgx, hfz] at hJX
        have HTK : Hid (encP (L.take (k + 1)) = encP (L.take k) ++ cellsP (0, 0)) := Lib.hid (by rw [List.take_add_one, hJX]; exact encP_snoc _ _)
        have chk1 : (k + 1) * 16 ≤ 140737488355328 := by omega
        have chk2 : k + 1 ≤ maxLen := by unfold maxLen; omega
        have chk3 : ∀ i u, (cellsP (0, 0))[i]? = some u → ((wr.alloc (.cells #[.int .i64 0, .int .i64 0] 36)).alloc (.cells #[.int .i64 0, .int .i64 0] 36)).cell? ((⟨wr.heap.size + 1, 0, none⟩ : Addr).add i) = some u := fun i u hu => World.news_of_block (by rw [← World.size_alloc wr (.cells #[.int .i64 0, .int .i64 0] 36)]; exact heap_lastS (wr.alloc (.cells #[.int .i64 0, .int .i64 0] 36)) _) i u hu
        have chk4 : ∀ u ∈ cellsP (0, 0), u.oneCell' = true := by simp [cellsP, Value.oneCell']
        have chk5 : w.heap.size ≤ ((wr.alloc (.cells #[.int .i64 0, .int .i64 0] 36)).alloc (.cells #[.int .i64 0, .int .i64 0] 36)).heap.size := by show w.heap.size ≤ ((wr.alloc (.cells #[.int .i64 0, .int .i64 0] 36)).alloc (.cells #[.int .i64 0, .int .i64 0] 36)).heap.size; rw [World.size_alloc, World.size_alloc]; omega
        clear hgx hJX hfz
        go_wp2_with (at_builtin; refine wpList_append_own _ rfl _ _ 23 rfl w.heap.size 36 i0 _ 2 16 Tryd.underlying23 hi hy0 hy1 hy2 rfl (by decide) lv k _ rfl (((HV.out.alloc _).alloc _)) ⟨wr.heap.size + 1, 0, none⟩ 1 1 (cellsP (0, 0)) rfl rfl chk3 chk4 chk2 chk1 chk5 ?_)
        intro v' w3 hown' hgrow _
        have N1 : Hid (w3.ownsRow w.heap.size 36 2 v' (k + 1) (encP (L.take (k + 1)))) := Lib.hid (by rw [HTK.out]; exact hown')
        have N2 := Lib.hid ((((HBr.out.alloc hwr (.cells #[.int .i64 0, .int .i64 0] 36)).alloc (by rw [World.size_alloc]; omega) (.cells #[.int .i64 0, .int .i64 0] 36))).grown hgrow chk5 (fun b hb => (HV.out.lt b hb).1))
        clear hown' hgrow chk1 chk2 chk3 chk4 chk5
        go_wp2
        go_roundw
        case rel => exact ⟨k + 1, _, hlt, by go_num, rfl, N1, N2⟩
        case measure => simp [intOf]; omega
    · obtain rfl : k = n := by omega
      have hge2 : ¬ ((k : Int) < (k : Int)) := by omega
      have hto : L.take k = L := List.take_of_length_le (by rw [LL.out]; exact Nat.le_refl _)
      have hv := HV.out
      rw [hto] at hv
      have HV2 := Lib.hid (LPost.of LL.out hv HBr.out)
      clear hv hto HV
      go_wp2
      go_ret
      exact HV2.out
end Go.Proofs.YtcdlmjbjpeokfaaDoor
