/-
  WALKS: parts of the document's Sums.
-/
import Derived.Test.YtcdlmjbjpeokfaaSumsW
namespace Go.Proofs.Ytcdlmjbjpeokfaa
open Go.RowKit Go.Shelf
set_option linter.unusedVariables false

theorem rfits_calls (n : Int) (w : World) : Calls Try.prog 27 #[.int .i64 n] w fun x w' => x = .returned (.bool (fitP n)) ∧ w = w' := by
  unfold fitP
  by_cases h1 : -1048576 ≤ n
  · have d1 : decide (-1048576 ≤ n) = true := by simpa using h1
    rw [d1, Bool.true_and]
    go_enter Try.func27, Try.ntmps27
    go_wp2
    go_ret
    exact ⟨rfl, rfl⟩
  · have d1 : decide (-1048576 ≤ n) = false := by simpa using h1
    rw [d1, Bool.false_and]
    go_enter Try.func27, Try.ntmps27
    go_wp2
    go_ret
    exact ⟨rfl, rfl⟩
theorem results_cellS {fn : Func} {p : Tmp} {ty : TypeId} (h : fn.results = #[.cell p ty]) (tmps : Array Value) (P : Program) (w : World) :
    (results fn tmps).run P w = ((asAddr (tmps.getD p undef)).run P w).andThen fun a w₁ => (loadVar ty a).run P w₁ := by
  simp only [results, h]
  simp [Sem.run_bind, Result.andThen]
set_option maxRecDepth 100000 in
theorem times_calls (x : Int × Int) (u : Int) (hu : 0 ≤ u ∧ u ≤ 3) (h1 : -1048576 ≤ x.1 ∧ x.1 ≤ 1048576) (h2 : -1048576 ≤ x.2 ∧ x.2 ≤ 1048576) (w : World) :
    Calls Try.prog 28 #[.agg #[.int .i64 x.1, .int .i64 x.2], .int .i64 u] w fun e w' => e = .returned (.agg #[.int .i64 (tm x (ui u)).1, .int .i64 (tm x (ui u)).2]) ∧ Below w.heap.size w w' := by
  obtain ⟨a, b⟩ := x
  simp only at h1 h2 ⊢
  have n1 : IntKind.i64.wrap (-a) = -a := by rw [IntKind.wrap_i64]; omega
  have n2 : IntKind.i64.wrap (-b) = -b := by rw [IntKind.wrap_i64]; omega
  have HB := Lib.hid (fun c d => ((Below.refl w.heap.size w).alloc (Nat.le_refl _) (.cells #[.int .i64 a, .int .i64 b] 33)).alloc (by simp) (.cells #[.int .i64 c, .int .i64 d] 33))
  have hc : u = 0 ∨ u = 1 ∨ u = 2 ∨ u = 3 := by omega
  rcases hc with rfl | rfl | rfl | rfl
  · have e : tm (a, b) (ui 0) = (a, b) := by simp [tm, ui]
    rw [e]
    go_enter Try.func28, Try.ntmps28
    go_wp2
    refine bodyPost_ret (v := .agg #[.int .i64 (a, b).1, .int .i64 (a, b).2]) ?_ rfl ⟨rfl, HB.out _ _⟩
    rw [results_cellS rfl]
    go_simp
  · have e : tm (a, b) (ui 1) = (-b, a) := by simp [tm, ui]
    rw [e]
    go_enter Try.func28, Try.ntmps28
    go_wp2
    refine bodyPost_ret (v := .agg #[.int .i64 (-b, a).1, .int .i64 (-b, a).2]) ?_ rfl ⟨rfl, HB.out _ _⟩
    rw [results_cellS rfl]
    go_simp
  · have e : tm (a, b) (ui 2) = (-a, -b) := by simp [tm, ui]
    rw [e]
    go_enter Try.func28, Try.ntmps28
    go_wp2
    refine bodyPost_ret (v := .agg #[.int .i64 (-a, -b).1, .int .i64 (-a, -b).2]) ?_ rfl ⟨rfl, HB.out _ _⟩
    rw [results_cellS rfl]
    go_simp
  · have e : tm (a, b) (ui 3) = (b, -a) := by simp [tm, ui]
    rw [e]
    go_enter Try.func28, Try.ntmps28
    go_wp2
    refine bodyPost_ret (v := .agg #[.int .i64 (b, -a).1, .int .i64 (b, -a).2]) ?_ rfl ⟨rfl, HB.out _ _⟩
    rw [results_cellS rfl]
    go_simp
theorem rsums_dims (Bs : Nat) (wd dm sd : Int) (p : Option Addr) (m cap : Nat) (hne : (m : Int) ≠ dm) (w : World) (hs : Sg w 64 Bs wd dm sd) :
    Calls Try.prog 10 #[.pointer (some ⟨Bs, 0, none⟩), .slice p m cap] w fun e w' => e = .returned (.tuple #[.slice none 0 0, .int .i64 190]) ∧ Below w.heap.size w w' := by
  obtain ⟨s0, s1, s2⟩ := hs.cells
  have hd : ((m : Int) != dm) = true := by rw [bne_iff_ne]; exact hne
  clear hne hs
  go_enter Try.func10, Try.ntmps10
  go_wp2
  go_ret2
  exact ⟨rfl, Below.refl _ _⟩
set_option maxRecDepth 100000 in
set_option maxHeartbeats 1000000 in
theorem rsums_part (Bs : Nat) (wd sd : Int) (p : Option Addr) (cap : Nat) (zs : List (Int × Int)) (hm : zs.length ≤ 1024) (hbad : ∃ (k : Nat) (x : Int × Int), zs[k]? = some x ∧ fitsP x = false) (w : World) (hz : PL w p zs) (hs : Sg w 64 Bs wd zs.length sd) :
    Calls Try.prog 10 #[.pointer (some ⟨Bs, 0, none⟩), .slice p zs.length cap] w fun e w' => e = .returned (.tuple #[.slice none 0 0, .int .i64 191]) ∧ Below w.heap.size w w' := by
  obtain ⟨m, hmm⟩ : ∃ m, zs.length = m := ⟨_, rfl⟩
  rw [hmm] at hm hs ⊢
  obtain ⟨s0, s1, s2⟩ := hs.cells
  have HM := Lib.hid hmm
  have HZ := Lib.hid hz
  have HBAD := Lib.hid hbad
  clear hz hs hmm hbad
  go_enter Try.func10, Try.ntmps10
  go_wp2
  go_loopw [6] (fun i ws => ∃ (k : Nat), k ≤ m ∧ i = .int .i64 k ∧ ws = w ∧ Hid (∀ (q : Nat) (x : Int × Int), q < k → zs[q]? = some x → fitsP x = true)) (fun i _ => m - (intOf i).toNat)
  case atStart => exact ⟨0, Nat.zero_le _, rfl, rfl, Lib.hid (fun q x hq => absurd hq (Nat.not_lt_zero _))⟩
  case round =>
    obtain ⟨k, hk, rfl, rfl, HG⟩ := hrel
    by_cases hlt : k < m
    · have hki : (k : Int) < (m : Int) := by omega
      have hk0 : (0 : Int) ≤ (k : Int) := by omega
      obtain ⟨x, hx⟩ : ∃ x, zs[k]? = some x := ⟨_, List.getElem?_eq_getElem (by rw [HM.out]; exact hlt)⟩
      obtain ⟨a, rfl, u0, u1⟩ := HZ.out k x hx
      have IP1 := Lib.hid (fun W => rfits_calls x.1 W)
      have IP2 := Lib.hid (fun W => rfits_calls x.2 W)
      have HXX := Lib.hid hx
      clear hx
      obtain ⟨b1, hb1⟩ : ∃ b1, fitP x.1 = b1 := ⟨_, rfl⟩
      obtain ⟨b2, hb2⟩ : ∃ b2, fitP x.2 = b2 := ⟨_, rfl⟩
      rw [hb1] at IP1
      rw [hb2] at IP2
      have HB1 := Lib.hid hb1
      have HB2 := Lib.hid hb2
      clear hb1 hb2
      go_wp2_with fail
      refine (IP1.out _).mono ?_
      rintro _ _ ⟨rfl, rfl⟩
      go_wp2_with fail
      refine (IP2.out _).mono ?_
      rintro _ _ ⟨rfl, rfl⟩
      cases b1 with
      | false =>
        go_wp2
        go_ret2
        exact ⟨rfl, Below.refl _ _⟩
      | true =>
        cases b2 with
        | false =>
          go_wp2
          go_ret2
          exact ⟨rfl, Below.refl _ _⟩
        | true =>
          have HG2 : Hid (∀ (q : Nat) (y : Int × Int), q < k + 1 → zs[q]? = some y → fitsP y = true) := Lib.hid (fun q y hq hy => by
            by_cases e : q = k
            · subst e
              rw [HXX.out] at hy
              cases hy
              unfold fitsP
              rw [HB1.out, HB2.out]; rfl
            · exact HG.out q y (by omega) hy)
          go_wp2
          go_roundw
          case rel => exact ⟨k + 1, hlt, by go_num, by trivial, HG2⟩
          case measure => simp [intOf]; omega
    · exfalso
      obtain ⟨q, x, hq, hf⟩ := HBAD.out
      have hql := (List.getElem?_eq_some_iff.1 hq).1
      rw [HM.out] at hql
      have := HG.out q x (by omega) hq
      rw [hf] at this
      cases this
end Go.Proofs.Ytcdlmjbjpeokfaa
