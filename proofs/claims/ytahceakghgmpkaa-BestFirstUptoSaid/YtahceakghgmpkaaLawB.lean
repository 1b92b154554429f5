/-
  WALKS: same, less and fit of the laws.
-/
import Derived.Test.YtahceakghgmpkaaTopC
import Derived.Laws.StructEq
namespace Go.Proofs.Ytahceakghgmpkaa
open Go.RowKit
set_option linter.unusedVariables false

def hbeq (x y : Hv) : Bool := decide (x.d = y.d) && (decide (x.i = y.i) && decide (x.c = y.c))

theorem hbeq_eq (x y : Hv) : hbeq x y = decide (x = y) := by
  cases x; cases y
  unfold hbeq
  rw [Bool.eq_iff_iff]
  simp

theorem eql_hit (x y : Hv) (W : World) : (binOp .eql 34 (.agg #[.int .i64 x.d, .int .i64 x.i, .string x.c]) (.agg #[.int .i64 y.d, .int .i64 y.i, .string y.c])).run Try.prog W = .ok (.bool (decide (x = y))) W := by
  have hFo : Try.prog.underlying 34 = some (.struct (Try.prog.fieldsOf 34)) := by kernel_rfl
  have hSt : Try.prog.stoodInHeld 34 = false := by kernel_rfl
  rw [← hbeq_eq]
  unfold hbeq
  rw [run_eql_struct, run_equalIn_agg W _ _ _ _ hFo hSt]
  simp only [Program.fieldsOf, Try.underlying34]
  by_cases h1 : x.d = y.d
  · by_cases h2 : x.i = y.i
    · by_cases h3 : x.c = y.c
      · simp [Op.eqFields, part, run_equalIn_int, run_equalIn_string, Try.underlying3, Try.underlying9, h1, h2, h3]
      · simp [Op.eqFields, part, run_equalIn_int, run_equalIn_string, Try.underlying3, Try.underlying9, h1, h2, h3]
        exact fun e => h3 (toList_inj e)
    · simp [Op.eqFields, part, run_equalIn_int, run_equalIn_string, Try.underlying3, Try.underlying9, h1, h2]
  · simp [Op.eqFields, part, run_equalIn_int, run_equalIn_string, Try.underlying3, Try.underlying9, h1]

theorem neq_hit (x y : Hv) (W : World) : (binOp .neq 34 (.agg #[.int .i64 x.d, .int .i64 x.i, .string x.c]) (.agg #[.int .i64 y.d, .int .i64 y.i, .string y.c])).run Try.prog W = .ok (.bool (!decide (x = y))) W := by
  have hFo : Try.prog.underlying 34 = some (.struct (Try.prog.fieldsOf 34)) := by kernel_rfl
  have hSt : Try.prog.stoodInHeld 34 = false := by kernel_rfl
  rw [← hbeq_eq]
  unfold hbeq
  rw [run_neq_struct, run_equalIn_agg W _ _ _ _ hFo hSt]
  simp only [Program.fieldsOf, Try.underlying34]
  by_cases h1 : x.d = y.d
  · by_cases h2 : x.i = y.i
    · by_cases h3 : x.c = y.c
      · simp [Op.eqFields, part, run_equalIn_int, run_equalIn_string, Try.underlying3, Try.underlying9, h1, h2, h3]
      · simp [Op.eqFields, part, run_equalIn_int, run_equalIn_string, Try.underlying3, Try.underlying9, h1, h2, h3]
        exact fun e => h3 (toList_inj e)
    · simp [Op.eqFields, part, run_equalIn_int, run_equalIn_string, Try.underlying3, Try.underlying9, h1, h2]
  · simp [Op.eqFields, part, run_equalIn_int, run_equalIn_string, Try.underlying3, Try.underlying9, h1]

theorem HL.gr {w w' : World} {p : Option Addr} {z : List Hv} (h : HL w p z) (hg : Gr w w') : HL w' p z := h.below hg.below

set_option maxRecDepth 100000 in
set_option maxHeartbeats 1000000 in
theorem same_calls (p1 p2 : Option Addr) (c1 c2 : Nat) (z : List Hv) (hzl : z.length ≤ 4611686018427387904) (w : World) (h1 : HL w p1 z) (h2 : HL w p2 z) :
    Calls Try.prog 20 #[.slice p1 z.length c1, .slice p2 z.length c2] w fun x w' => x = .returned (.bool true) ∧ Gr w w' := by
  have hNE : ∀ (x : Hv) W, (binOp .neq 34 (.agg #[.int .i64 x.d, .int .i64 x.i, .string x.c]) (.agg #[.int .i64 x.d, .int .i64 x.i, .string x.c])).run Try.prog W = .ok (.bool false) W := fun x W => by
    have := neq_hit x x W
    simp only [decide_true, Bool.not_true] at this
    exact this
  have hQ1 : Try.prog.eqGuardType Try.prog.depth 34 = false := by kernel_rfl
  obtain ⟨n, hnn⟩ : ∃ n, z.length = n := ⟨_, rfl⟩
  rw [hnn] at hzl ⊢
  have HN := Lib.hid hnn
  have H1 := Lib.hid h1
  have H2 := Lib.hid h2
  clear h1 h2 hnn
  go_enter Try.func20, Try.ntmps20
  go_wp2
  go_loopw [5] (fun i ws => ∃ k : Nat, k ≤ n ∧ i = .int .i64 k ∧ Gr w ws) (fun i _ => n - (intOf i).toNat)
  case atStart => exact ⟨0, Nat.zero_le _, rfl, Gr.refl _⟩
  case round =>
    obtain ⟨k, hk, rfl, HB⟩ := hrel
    by_cases hlt : k < n
    · have hd : decide ((k : Int) < (n : Int)) = true := by simpa using hlt
      obtain ⟨x, hx⟩ : ∃ x, z[k]? = some x := ⟨_, List.getElem?_eq_getElem (by rw [HN.out]; exact hlt)⟩
      obtain ⟨a1, rfl, u0, u1, u2⟩ := (H1.out.gr HB) k x hx
      obtain ⟨a2, rfl, v0, v1, v2⟩ := (H2.out.gr HB) k x hx
      have hx1 := hNE x
      have hki : (k : Int) < (n : Int) := by omega
      have hk0 : (0 : Int) ≤ (k : Int) := by omega
      have hxs : ∀ i : List Hv, i = i := fun _ => rfl
      have hw1 : IntKind.i64.wrap ((k : Int) + 1) = ((k + 1 : Nat) : Int) := by rw [IntKind.wrap_i64]; omega
      clear hNE hx hxs
      go_wp2
      go_quiet (fail)
      have HB2 := HB.drewN nq
      go_wp2
      go_roundw
      case rel => exact ⟨k + 1, by omega, by go_num, HB2⟩
      case measure => simp [intOf]; omega
    · obtain rfl : k = n := by omega
      have hd : decide ((k : Int) < (k : Int)) = false := by simp
      go_wp2
      go_ret
      exact ⟨rfl, HB⟩

set_option maxRecDepth 100000 in
theorem lless_calls (a b : Hv) (w : World) : Calls Try.prog 41 #[a.val, b.val] w fun e w' => e = .returned (.bool (decide (hless a b))) ∧ Gr w w' := by
  have hG : Gr w ((w.alloc (.cells #[.int .i64 a.d, .int .i64 a.i, .string a.c] 34)).alloc (.cells #[.int .i64 b.d, .int .i64 b.i, .string b.c] 34)) := ((Gr.refl w).alloc _).alloc _
  obtain ⟨W, hW, hbl, hx, hy⟩ := box2 w #[.int .i64 a.d, .int .i64 a.i, .string a.c] #[.int .i64 b.d, .int .i64 b.i, .string b.c] 34 34
  have x0 : W.cell? ⟨w.heap.size, 0, none⟩ = some (.int .i64 a.d) := hx 0
  have x1 : W.cell? ⟨w.heap.size, 1, none⟩ = some (.int .i64 a.i) := hx 1
  have x2 : W.cell? ⟨w.heap.size, 2, none⟩ = some (.string a.c) := hx 2
  have y0 : W.cell? ⟨w.heap.size + 1, 0, none⟩ = some (.int .i64 b.d) := hy 0
  have y1 : W.cell? ⟨w.heap.size + 1, 1, none⟩ = some (.int .i64 b.i) := hy 1
  have y2 : W.cell? ⟨w.heap.size + 1, 2, none⟩ = some (.string b.c) := hy 2
  have HW : Hid (((w.alloc (.cells #[.int .i64 a.d, .int .i64 a.i, .string a.c] 34)).alloc (.cells #[.int .i64 b.d, .int .i64 b.i, .string b.c] 34)) = W) := Lib.hid hW
  rw [hW] at hG
  simp only [Hv.val]
  have hs : sless a.c b.c = Op.bytesLess a.c.toList b.c.toList := rfl
  clear hbl hx hy hW
  by_cases h1 : a.d = b.d
  · by_cases h2 : a.i = b.i
    · have e : decide (hless a b) = Op.bytesLess a.c.toList b.c.toList := by
        rw [← hs]; unfold hless; rw [Bool.eq_iff_iff]; simp [h1, h2]
      rw [e]
      have q1 : (a.d != b.d) = false := by simp [h1]
      have q2 : (a.i != b.i) = false := by simp [h2]
      clear h1 h2 e hs
      go_enter Try.func41, Try.ntmps41
      go_upto_region 1 with fail
      rw [HW.out]
      go_wp2
      go_ret
      exact ⟨rfl, hG⟩
    · have e : decide (hless a b) = decide (a.i < b.i) := by
        rw [decide_eq_decide]; unfold hless; simp [h1, h2]
      rw [e]
      have q1 : (a.d != b.d) = false := by simp [h1]
      have q2 : (a.i != b.i) = true := by simp [h2]
      clear h1 h2 e hs
      go_enter Try.func41, Try.ntmps41
      go_upto_region 1 with fail
      rw [HW.out]
      go_wp2
      go_ret
      exact ⟨rfl, hG⟩
  · have e : decide (hless a b) = decide (a.d < b.d) := by
      rw [decide_eq_decide]; unfold hless; simp [h1]
    rw [e]
    have q1 : (a.d != b.d) = true := by simp [h1]
    clear h1 e hs
    go_enter Try.func41, Try.ntmps41
    go_upto_region 1 with fail
    rw [HW.out]
    go_wp2
    go_ret
    exact ⟨rfl, hG⟩

/-- k, or what is left of it. -/
def fitI (k : Int) : Nat := (k.tmod 4097).natAbs

theorem fitI_le (k : Int) : fitI k ≤ 4096 := by
  unfold fitI
  rw [Int.natAbs_tmod]
  have : k.natAbs % 4097 < 4097 := Nat.mod_lt k.natAbs (show 0 < 4097 by decide)
  show k.natAbs % 4097 ≤ 4096
  omega

set_option maxRecDepth 100000 in
theorem fit_calls (k : Int) (w : World) : Calls Try.prog 17 #[.int .i64 k] w fun e w' => e = .returned (.int .i64 (fitI k : Nat)) ∧ w' = w := by
  have hb := fitI_le k
  have hq : ((fitI k : Nat) : Int) = if k.tmod 4097 < 0 then -(k.tmod 4097) else k.tmod 4097 := by unfold fitI; split <;> omega
  obtain ⟨q, hqq⟩ : ∃ q, fitI k = q := ⟨_, rfl⟩
  rw [hqq] at hb hq ⊢
  clear hqq
  obtain ⟨m, hm⟩ : ∃ m, k.tmod 4097 = m := ⟨_, rfl⟩
  rw [hm] at hq
  by_cases hneg : m < 0
  · rw [if_pos hneg] at hq
    have m1 : -4096 ≤ m := by omega
    rw [hq]
    clear hq hb
    go_enter Try.func17, Try.ntmps17
    go_wp2
    go_ret
    exact ⟨rfl, rfl⟩
  · rw [if_neg hneg] at hq
    have m1 : 0 ≤ m := by omega
    have m2 : m ≤ 4096 := by omega
    rw [hq]
    clear hq hb
    go_enter Try.func17, Try.ntmps17
    go_wp2
    go_ret
    exact ⟨rfl, rfl⟩
end Go.Proofs.Ytahceakghgmpkaa
