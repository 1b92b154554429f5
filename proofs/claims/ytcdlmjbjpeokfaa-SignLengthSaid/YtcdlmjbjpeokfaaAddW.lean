/-
  WALKS: vectors made, scaled, turned; a signer asked.
-/
import Derived.Test.YtcdlmjbjpeokfaaAddP
import Derived.Test.YtcdlmjbjpeokfaaAddL
import Derived.Deep.AppendLies
import Derived.Deep.RegionLaw
namespace Go.Proofs.Ytcdlmjbjpeokfaa
open Go.RowKit ArgK
set_option linter.unusedVariables false

/-- A vector brought within bounds. -/
def fitV (most : Int) (x : Int × Int) : Int × Int := (fitR x.1 most, fitR x.2 most)
def vecL (zs : List (Int × Int)) (n : Nat) (most : Int) : List (Int × Int) := (List.range n).map fun k => fitV most (zs.getD k (0, 0))
theorem vecL_length (zs : List (Int × Int)) (n : Nat) (most : Int) : (vecL zs n most).length = n := by simp [vecL]
theorem vecL_get (zs : List (Int × Int)) (n : Nat) (most : Int) (k : Nat) (hk : k < n) : (vecL zs n most)[k]? = some (fitV most (zs.getD k (0, 0))) := by simp [vecL, hk]
theorem vecL_bound (zs : List (Int × Int)) (n : Nat) (most : Int) (hm : 0 ≤ most) : ∀ x ∈ vecL zs n most, (-most ≤ x.1 ∧ x.1 ≤ most) ∧ (-most ≤ x.2 ∧ x.2 ≤ most) := by
  intro x hx
  unfold vecL at hx
  rw [List.mem_map] at hx
  obtain ⟨k, _, rfl⟩ := hx
  exact ⟨fitR_bound _ _ hm, fitR_bound _ _ hm⟩
set_option maxRecDepth 100000 in
set_option maxHeartbeats 1000000 in
theorem scaled_calls (p : Option Addr) (cap : Nat) (c : Int) (zs : List (Int × Int)) (hzl : zs.length ≤ 1024) (hb : ∀ x ∈ zs, (-4611686018427387904 ≤ c * x.1 ∧ c * x.1 ≤ 4611686018427387904) ∧ (-4611686018427387904 ≤ c * x.2 ∧ c * x.2 ≤ 4611686018427387904)) (w : World) (hz : PL w p zs) :
    Calls Try.prog 21 #[.slice p zs.length cap, .int .i64 c] w (LPost w (mulL c zs)) := by
  obtain ⟨i0, hi, hy0, hy1, hy2⟩ := info_parts partinfo
  have LL := Lib.hid (mulL_length c zs)
  have LG : Hid (∀ (k : Nat) (x : Int × Int), zs[k]? = some x → (mulL c zs)[k]? = some (c * x.1, c * x.2)) := Lib.hid (fun k x hx => by simp [mulL, hx])
  generalize mulL c zs = L at LL LG ⊢
  have HB := Lib.hid hb
  have HZ := Lib.hid hz
  obtain ⟨n, hn⟩ : ∃ n, zs.length = n := ⟨_, rfl⟩
  rw [hn] at hzl LL ⊢
  have HN := Lib.hid hn
  clear hb hz hn
  go_enter Try.func21, Try.ntmps21
  go_wp2
  go_loopw [5, 6] (fun lv i ws => ∃ (k : Nat) (v : Value), k ≤ n ∧ i = .int .i64 k ∧ v = lv ∧ Hid (ws.ownsRow w.heap.size 33 2 lv k (encP (L.take k))) ∧ Hid (Below w.heap.size w ws)) (fun _ i _ => n - (intOf i).toNat)
  case atStart => exact ⟨0, _, Nat.zero_le _, rfl, rfl, Lib.hid (World.ownsRow_nil _ _ _ _), Lib.hid (Below.refl _ _)⟩
  case round =>
    obtain ⟨k, lv, hk, rfl, rfl, HV, HBr⟩ := hrel
    by_cases hlt : k < n
    · have hki : (k : Int) < (n : Int) := by omega
      have hk0 : (0 : Int) ≤ (k : Int) := by omega
      obtain ⟨x, hx⟩ : ∃ x, zs[k]? = some x := ⟨_, List.getElem?_eq_getElem (by rw [HN.out]; exact hlt)⟩
      obtain ⟨hm1, hm2⟩ := HB.out x (List.mem_of_getElem? hx)
      have hJX := LG.out k x hx
      obtain ⟨a, rfl, u0, u1⟩ := (HZ.out.below HBr.out) k x hx
      have w1 : IntKind.i64.wrap (c * x.1) = c * x.1 := by rw [IntKind.wrap_i64]; omega
      have w2 : IntKind.i64.wrap (c * x.2) = c * x.2 := by rw [IntKind.wrap_i64]; omega
      obtain ⟨y, hy⟩ : ∃ y, (c * x.1, c * x.2) = y := ⟨_, rfl⟩
      have hy1' : c * x.1 = y.1 := by rw [← hy]
      have hy2' : c * x.2 = y.2 := by rw [← hy]
      rw [hy] at hJX
      rw [hy1'] at w1
      rw [hy2'] at w2
      have HTK : Hid (encP (L.take (k + 1)) = encP (L.take k) ++ cellsP y) := Lib.hid (by rw [List.take_add_one, hJX]; exact encP_snoc _ _)
      have hwr : w.heap.size ≤ wr.heap.size := HBr.out.size
      have chk1 : (k + 1) * 16 ≤ 140737488355328 := by omega
      have chk2 : k + 1 ≤ maxLen := by unfold maxLen; omega
      have chk3 : ∀ i u, (cellsP y)[i]? = some u → (wr.alloc (.cells #[.int .i64 y.1, .int .i64 y.2] 33)).cell? ((⟨wr.heap.size, 0, none⟩ : Addr).add i) = some u := World.news_of_block (heap_lastS wr _)
      have chk4 : ∀ u ∈ cellsP y, u.oneCell' = true := by simp [cellsP, Value.oneCell']
      have chk5 : w.heap.size ≤ (wr.alloc (.cells #[.int .i64 y.1, .int .i64 y.2] 33)).heap.size := by rw [World.size_alloc]; omega
      clear hm1 hm2 hJX hx hy
      go_wp2_with fail
      go_region_law ((refine step_append_lies _ (by rfl) (.tmp 13) (.tmp 29) 24 (by rfl) w.heap.size 33 i0 _ 2 16 Try.underlying24 hi hy0 hy1 hy2 rfl (by decide) _ k _ (by rfl) (HV.out.alloc _) ⟨wr.heap.size, 0, none⟩ 1 1 (cellsP y) (by rfl) rfl chk3 chk4 (by decide) chk2 chk1 chk5 (wr.heap.size + 1) (by simp) ?_; intro g cap1 w3 hown' hgrow hat hlt1))
      all_goals
        have N1 : Hid (w3.ownsRow w.heap.size 33 2 (.slice (some ⟨g, 0, none⟩) (k + 1) cap1) (k + 1) (encP (L.take (k + 1)))) := Lib.hid (by rw [HTK.out]; exact hown')
        have hb1 : Below w.heap.size w w3 := by
          first
          | exact (HBr.out.alloc hwr _).grown hgrow chk5 (fun b hb => (HV.out.lt b hb).1)
          | exact (HBr.out.alloc hwr _).drew.grown hgrow chk5 (fun b hb => (HV.out.lt b hb).1)
          | exact (HBr.out.alloc hwr _).drew.drew.grown hgrow chk5 (fun b hb => (HV.out.lt b hb).1)
        have N2 := Lib.hid hb1
        clear hown' hgrow hat hlt1 chk1 chk2 chk3 chk4 chk5 hb1
        go_wp2
        go_roundw
        case rel => exact ⟨k + 1, _, hlt, by go_num, rfl, N1, N2⟩
        case measure => simp [intOf]; omega
    · obtain rfl : k = n := by omega
      have hge2 : ¬ ((k : Int) < (k : Int)) := by omega
      have hto : L.take k = L := List.take_of_length_le (by rw [LL.out]; exact Nat.le_refl _)
      have hv := HV.out
      rw [hto] at hv
      have HV2 := Lib.hid (LPost.of LL.out hv HBr.out)
      clear hv hto HV
      go_wp2
      go_ret
      exact HV2.out
set_option maxRecDepth 100000 in
set_option maxHeartbeats 1000000 in
theorem turned_calls (p : Option Addr) (cap : Nat) (zs : List (Int × Int)) (hzl : zs.length ≤ 1024) (hb : ∀ x ∈ zs, (-1073741824 ≤ x.1 ∧ x.1 ≤ 1073741824) ∧ (-1073741824 ≤ x.2 ∧ x.2 ≤ 1073741824)) (w : World) (hz : PL w p zs) :
    Calls Try.prog 22 #[.slice p zs.length cap] w (LPost w (turnL zs)) := by
  obtain ⟨i0, hi, hy0, hy1, hy2⟩ := info_parts partinfo
  have LL := Lib.hid (turnL_length zs)
  have LG : Hid (∀ (k : Nat) (x : Int × Int), zs[k]? = some x → (turnL zs)[k]? = some (-x.2, x.1)) := Lib.hid (fun k x hx => by simp [turnL, hx])
  generalize turnL zs = L at LL LG ⊢
  have HB := Lib.hid hb
  have HZ := Lib.hid hz
  obtain ⟨n, hn⟩ : ∃ n, zs.length = n := ⟨_, rfl⟩
  rw [hn] at hzl LL ⊢
  have HN := Lib.hid hn
  clear hb hz hn
  go_enter Try.func22, Try.ntmps22
  go_wp2
  go_loopw [3, 4] (fun lv i ws => ∃ (k : Nat) (v : Value), k ≤ n ∧ i = .int .i64 k ∧ v = lv ∧ Hid (ws.ownsRow w.heap.size 33 2 lv k (encP (L.take k))) ∧ Hid (Below w.heap.size w ws)) (fun _ i _ => n - (intOf i).toNat)
  case atStart => exact ⟨0, _, Nat.zero_le _, rfl, rfl, Lib.hid (World.ownsRow_nil _ _ _ _), Lib.hid (Below.refl _ _)⟩
  case round =>
    obtain ⟨k, lv, hk, rfl, rfl, HV, HBr⟩ := hrel
    by_cases hlt : k < n
    · have hki : (k : Int) < (n : Int) := by omega
      have hk0 : (0 : Int) ≤ (k : Int) := by omega
      obtain ⟨x, hx⟩ : ∃ x, zs[k]? = some x := ⟨_, List.getElem?_eq_getElem (by rw [HN.out]; exact hlt)⟩
      obtain ⟨hm1, hm2⟩ := HB.out x (List.mem_of_getElem? hx)
      have hJX := LG.out k x hx
      obtain ⟨a, rfl, u0, u1⟩ := (HZ.out.below HBr.out) k x hx
      have w2 : IntKind.i64.wrap (-x.2) = -x.2 := by rw [IntKind.wrap_i64]; omega
      obtain ⟨y, hy⟩ : ∃ y, (-x.2, x.1) = y := ⟨_, rfl⟩
      have hy1' : -x.2 = y.1 := by rw [← hy]
      have hy2' : x.1 = y.2 := by rw [← hy]
      rw [hy] at hJX
      rw [hy1'] at w2
      rw [hy2'] at u0
      have HTK : Hid (encP (L.take (k + 1)) = encP (L.take k) ++ cellsP y) := Lib.hid (by rw [List.take_add_one, hJX]; exact encP_snoc _ _)
      have hwr : w.heap.size ≤ wr.heap.size := HBr.out.size
      have chk1 : (k + 1) * 16 ≤ 140737488355328 := by omega
      have chk2 : k + 1 ≤ maxLen := by unfold maxLen; omega
      have chk3 : ∀ i u, (cellsP y)[i]? = some u → (wr.alloc (.cells #[.int .i64 y.1, .int .i64 y.2] 33)).cell? ((⟨wr.heap.size, 0, none⟩ : Addr).add i) = some u := World.news_of_block (heap_lastS wr _)
      have chk4 : ∀ u ∈ cellsP y, u.oneCell' = true := by simp [cellsP, Value.oneCell']
      have chk5 : w.heap.size ≤ (wr.alloc (.cells #[.int .i64 y.1, .int .i64 y.2] 33)).heap.size := by rw [World.size_alloc]; omega
      clear hm1 hm2 hJX hx hy
      go_wp2_with fail
      go_region_law ((refine step_append_lies _ (by rfl) (.tmp 11) (.tmp 24) 24 (by rfl) w.heap.size 33 i0 _ 2 16 Try.underlying24 hi hy0 hy1 hy2 rfl (by decide) _ k _ (by rfl) (HV.out.alloc _) ⟨wr.heap.size, 0, none⟩ 1 1 (cellsP y) (by rfl) rfl chk3 chk4 (by decide) chk2 chk1 chk5 (wr.heap.size + 1) (by simp) ?_; intro g cap1 w3 hown' hgrow hat hlt1))
      all_goals
        have N1 : Hid (w3.ownsRow w.heap.size 33 2 (.slice (some ⟨g, 0, none⟩) (k + 1) cap1) (k + 1) (encP (L.take (k + 1)))) := Lib.hid (by rw [HTK.out]; exact hown')
        have hb1 : Below w.heap.size w w3 := by
          first
          | exact (HBr.out.alloc hwr _).grown hgrow chk5 (fun b hb => (HV.out.lt b hb).1)
          | exact (HBr.out.alloc hwr _).drew.grown hgrow chk5 (fun b hb => (HV.out.lt b hb).1)
          | exact (HBr.out.alloc hwr _).drew.drew.grown hgrow chk5 (fun b hb => (HV.out.lt b hb).1)
        have N2 := Lib.hid hb1
        clear hown' hgrow hat hlt1 chk1 chk2 chk3 chk4 chk5 hb1
        go_wp2
        go_roundw
        case rel => exact ⟨k + 1, _, hlt, by go_num, rfl, N1, N2⟩
        case measure => simp [intOf]; omega
    · obtain rfl : k = n := by omega
      have hge2 : ¬ ((k : Int) < (k : Int)) := by omega
      have hto : L.take k = L := List.take_of_length_le (by rw [LL.out]; exact Nat.le_refl _)
      have hv := HV.out
      rw [hto] at hv
      have HV2 := Lib.hid (LPost.of LL.out hv HBr.out)
      clear hv hto HV
      go_wp2
      go_ret
      exact HV2.out
end Go.Proofs.Ytcdlmjbjpeokfaa
