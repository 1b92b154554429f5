/-
  WALKS: the document's Tell: are the hits of a reply such as go?
-/
import Derived.Test.YtabhjkaheghbhaaTellD
namespace Go.Proofs.Ytabhjkaheghbhaa
open Go.RowKit
set_option linter.unusedVariables false

/-- The refusal of a list. -/
def goesE (z : List Hv) : Int := if 65536 < z.length then 43 else hitsE z z.length 0
theorem goes_hit {z : List Hv} {k : Nat} {x : Hv} (hk : k < z.length) (hx : z[k]? = some x) (h0 : hitsE z k 0 = 0) :
    ((x.d < 0 ∨ x.i < 0) → hitsE z z.length 0 = 13) ∧ (¬ (x.d < 0 ∨ x.i < 0) → 65536 < x.c.size → hitsE z z.length 0 = 36) ∧
    (¬ (x.d < 0 ∨ x.i < 0) → ¬ 65536 < x.c.size → outO z k = true → hitsE z z.length 0 = 50) ∧ (¬ (x.d < 0 ∨ x.i < 0) → ¬ 65536 < x.c.size → outO z k = false → hitsE z (k + 1) 0 = 0) := by
  have hs := hitsE_step z k 0 x hx
  rw [h0] at hs
  obtain ⟨j, hj⟩ : ∃ j, z.length = k + 1 + j := ⟨z.length - (k + 1), by omega⟩
  have stay : ∀ e : Int, e ≠ 0 → hitE (outO z k) x 0 = e → hitsE z z.length 0 = e := fun e he h => by
    rw [hj]
    exact hitsE_stay z (k + 1) e he (by rw [hs, h]) j
  refine ⟨fun h => stay 13 (by decide) ?_, fun h h2 => stay 36 (by decide) ?_, fun h h2 h3 => stay 50 (by decide) ?_, fun h h2 h3 => ?_⟩
  · unfold hitE
    by_cases h1 : x.d < 0
    · have d1 : decide (x.d < 0) = true := by simpa using h1
      rw [d1]
      simp [rf]
    · have d1 : decide (x.d < 0) = false := by simpa using h1
      have d2 : decide (x.i < 0) = true := by simp; omega
      rw [d1, d2]
      simp [rf]
  · have d1 : decide (x.d < 0) = false := by simp; omega
    have d2 : decide (x.i < 0) = false := by simp; omega
    have d3 : decide (65536 < (x.c.size : Int)) = true := by simp; omega
    unfold hitE
    rw [d1, d2, d3]
    simp [rf]
  · have d1 : decide (x.d < 0) = false := by simp; omega
    have d2 : decide (x.i < 0) = false := by simp; omega
    have d3 : decide (65536 < (x.c.size : Int)) = false := by simp; omega
    unfold hitE
    rw [d1, d2, d3, h3]
    simp [rf]
  · have d1 : decide (x.d < 0) = false := by simp; omega
    have d2 : decide (x.i < 0) = false := by simp; omega
    have d3 : decide (65536 < (x.c.size : Int)) = false := by simp; omega
    rw [hs]
    unfold hitE
    rw [d1, d2, d3, h3]
    simp [rf]

set_option maxRecDepth 100000 in
set_option maxHeartbeats 2000000 in
theorem goes_calls (p : Option Addr) (cap : Nat) (z : List Hv) (hzl : z.length ≤ 4611686018427387904) (w : World) (hz : HL w p z) :
    Calls Try.prog 37 #[.slice p z.length cap] w fun x w' => x = .returned (.int .i64 (goesE z)) ∧ Below w.heap.size w w' := by
  unfold goesE
  obtain ⟨n, hnn⟩ : ∃ n, z.length = n := ⟨_, rfl⟩
  have HG := Lib.hid (fun k x hk hx h0 => goes_hit (z := z) (k := k) (x := x) hk hx h0)
  rw [hnn] at hzl HG ⊢
  have HN := Lib.hid hnn
  have HZ := Lib.hid hz
  have WO := Lib.hid (fun (x y : Hv) W => ordered_calls x y W)
  clear hnn hz
  by_cases hb : 65536 < n
  · rw [if_pos hb]
    have hd : decide (65536 < (n : Int)) = true := by simp; omega
    go_enter Try.func37, Try.ntmps37
    go_wp2
    go_ret
    exact ⟨rfl, Below.refl _ _⟩
  · rw [if_neg hb]
    have hd0 : decide (65536 < (n : Int)) = false := by simp; omega
    obtain ⟨E, hE⟩ : ∃ E, hitsE z n 0 = E := ⟨_, rfl⟩
    rw [hE] at HG ⊢
    have HE := Lib.hid hE
    clear hE
    go_enter Try.func37, Try.ntmps37
    go_wp2
    go_loopw [3] (fun i ws => ∃ k : Nat, k ≤ n ∧ i = .int .i64 k ∧ Hid (hitsE z k 0 = 0) ∧ Below w.heap.size w ws) (fun i _ => n - (intOf i).toNat)
    case atStart => exact ⟨0, Nat.zero_le _, rfl, Lib.hid rfl, Below.refl _ _⟩
    case round =>
      obtain ⟨k, hk, rfl, H0, HB⟩ := hrel
      by_cases hlt : k < n
      · have hd : decide ((k : Int) < (n : Int)) = true := by simpa using hlt
        have hdn : decide (k < n) = true := by simpa using hlt
        have hki : (k : Int) < (n : Int) := by omega
        have hk0 : (0 : Int) ≤ (k : Int) := by omega
        obtain ⟨x, hx⟩ : ∃ x, z[k]? = some x := ⟨_, List.getElem?_eq_getElem (by rw [HN.out]; exact hlt)⟩
        obtain ⟨g1, g2, g3, g4⟩ := HG.out k x hlt hx H0.out
        obtain ⟨a, ha, f⟩ := (HZ.out.below HB) k x hx
        subst ha
        have hlx := f.lt
        obtain ⟨u0, u1, u2⟩ := f
        have HX := Lib.hid hx
        clear hx
        by_cases h1 : x.d < 0
        · have d1 : decide (x.d < 0) = true := by simpa using h1
          have hE13 := g1 (.inl h1)
          clear g1 g2 g3 g4 h1
          subst hE13
          go_wp2
          go_ret
          exact ⟨rfl, HB⟩
        have d1 : decide (x.d < 0) = false := by simpa using h1
        by_cases h2 : x.i < 0
        · have d2 : decide (x.i < 0) = true := by simpa using h2
          have hE13 := g1 (.inr h2)
          clear g1 g2 g3 g4 h1 h2
          subst hE13
          go_wp2
          go_ret
          exact ⟨rfl, HB⟩
        have d2 : decide (x.i < 0) = false := by simpa using h2
        have hno : ¬ (x.d < 0 ∨ x.i < 0) := by omega
        by_cases h3 : 65536 < x.c.size
        · have d3 : decide (65536 < (x.c.size : Int)) = true := by simp; omega
          have hE36 := g2 hno h3
          clear g1 g2 g3 g4 h1 h2 h3 hno
          subst hE36
          go_wp2
          go_ret
          exact ⟨rfl, HB⟩
        have d3 : decide (65536 < (x.c.size : Int)) = false := by simp; omega
        have g3' := Lib.hid (g3 hno h3)
        have g4' := Lib.hid (g4 hno h3)
        clear g1 g2 g3 g4 h1 h2 h3 hno
        by_cases hz0 : k = 0
        · have hg : decide (0 < (k : Int)) = false := by simp; omega
          have hgn : decide (0 < k) = false := by simp; omega
          have N0 : Hid (hitsE z (k + 1) 0 = 0) := Lib.hid (g4'.out (by subst hz0; rfl))
          clear hz0
          go_wp2
          go_quiet (fail)
          have HB2 := HB.trans (drewN_below w.heap.size wr nq)
          go_wp2
          go_roundw
          case rel => exact ⟨k + 1, by omega, by go_num, N0, HB2⟩
          case measure => simp [intOf]; omega
        · obtain ⟨d, hdk⟩ : ∃ d, k = d + 1 := ⟨k - 1, by omega⟩
          obtain ⟨y, hy⟩ : ∃ y, z[d]? = some y := ⟨_, List.getElem?_eq_getElem (by rw [HN.out]; omega)⟩
          have HOO : Hid (outO z k = !behB y x) := Lib.hid (by have := HX.out; subst hdk; simp [outO, hy, this])
          obtain ⟨a', ha', f1⟩ := (HZ.out.below HB) d y hy
          cases ha'
          have hly := f1.lt
          have s0 : wr.drew.cell? (a.add (d * 3)) = some (.int .i64 y.d) ∧ wr.drew.cell? ⟨(a.add (d * 3)).block, (a.add (d * 3)).off + 1, none⟩ = some (.int .i64 y.i) ∧ wr.drew.cell? ⟨(a.add (d * 3)).block, (a.add (d * 3)).off + 2, none⟩ = some (.string y.c) ∧ wr.drew.cell? (a.add (k * 3)) = some (.int .i64 x.d) ∧ wr.drew.cell? ⟨(a.add (k * 3)).block, (a.add (k * 3)).off + 1, none⟩ = some (.int .i64 x.i) ∧ wr.drew.cell? ⟨(a.add (k * 3)).block, (a.add (k * 3)).off + 2, none⟩ = some (.string x.c) := ⟨f1.1, f1.2.1, f1.2.2, u0, u1, u2⟩
          have PS := Lib.hid (fun (wg : World) (bg : Below wr.drew.heap.size wr.drew wg) => (⟨(f1.below (w := wr.drew) bg hly).1, (f1.below (w := wr.drew) bg hly).2.1, (f1.below (w := wr.drew) bg hly).2.2, (Three.below (w := wr.drew) (p := a.add (k * 3)) (x := x) ⟨u0, u1, u2⟩ bg hlx).1, (Three.below (w := wr.drew) (p := a.add (k * 3)) (x := x) ⟨u0, u1, u2⟩ bg hlx).2.1, (Three.below (w := wr.drew) (p := a.add (k * 3)) (x := x) ⟨u0, u1, u2⟩ bg hlx).2.2⟩ : wg.cell? (a.add (d * 3)) = some (.int .i64 y.d) ∧ wg.cell? ⟨(a.add (d * 3)).block, (a.add (d * 3)).off + 1, none⟩ = some (.int .i64 y.i) ∧ wg.cell? ⟨(a.add (d * 3)).block, (a.add (d * 3)).off + 2, none⟩ = some (.string y.c) ∧ wg.cell? (a.add (k * 3)) = some (.int .i64 x.d) ∧ wg.cell? ⟨(a.add (k * 3)).block, (a.add (k * 3)).off + 1, none⟩ = some (.int .i64 x.i) ∧ wg.cell? ⟨(a.add (k * 3)).block, (a.add (k * 3)).off + 2, none⟩ = some (.string x.c)))
          have hg : decide (0 < (k : Int)) = true := by simp; omega
          have hgn : decide (0 < k) = true := by simp; omega
          have hkk : (k : Int) - 1 = (d : Int) := by omega
          have hkw : IntKind.i64.wrap ((k : Int) - 1) = (d : Int) := by rw [hkk, IntKind.wrap_i64]; omega
          have hdd : (d : Int) < (n : Int) := by omega
          have hd00 : (0 : Int) ≤ (d : Int) := by omega
          have HKD := Lib.hid hdk
          have g3'' : Hid (behB y x = false → E = 50) := Lib.hid (fun h => g3'.out (by rw [HOO.out, h]; rfl))
          have g4'' : Hid (behB y x = true → hitsE z (k + 1) 0 = 0) := Lib.hid (fun h => g4'.out (by rw [HOO.out, h]; rfl))
          obtain ⟨bb, hbb⟩ : ∃ bb, behB y x = bb := ⟨_, rfl⟩
          have WO2 := Lib.hid (WO.out y x)
          rw [hbb] at g3'' g4'' WO2
          clear f1 hly hlx hy hkk hz0 hdk g3' g4' HOO hbb
          cases bb
          · have hE50 := g3''.out rfl
            subst hE50
            go_wp2
            go_region_held3 (fun W => W.cell? (a.add (d * 3)) = some (.int .i64 y.d) ∧ W.cell? ⟨(a.add (d * 3)).block, (a.add (d * 3)).off + 1, none⟩ = some (.int .i64 y.i) ∧ W.cell? ⟨(a.add (d * 3)).block, (a.add (d * 3)).off + 2, none⟩ = some (.string y.c) ∧ W.cell? (a.add (k * 3)) = some (.int .i64 x.d) ∧ W.cell? ⟨(a.add (k * 3)).block, (a.add (k * 3)).off + 1, none⟩ = some (.int .i64 x.i) ∧ W.cell? ⟨(a.add (k * 3)).block, (a.add (k * 3)).off + 2, none⟩ = some (.string x.c))
              (first | with_reducible exact s0 | with_reducible exact sg | fail)
              (first | (go_at_call 87; refine (WO2.out _).mono ?_; rintro _ wg ⟨rfl, bg⟩; have sg := PS.out wg bg))
            have HB2 := HB.trans ((show Below wr.heap.size wr wg from ⟨bg.os, bg.tape, bg.output, bg.size, bg.block⟩).mono HB.size)
            go_wp2
            go_ret
            exact ⟨rfl, HB2⟩
          · have N0 := Lib.hid (g4''.out rfl)
            go_wp2
            go_region_held3 (fun W => W.cell? (a.add (d * 3)) = some (.int .i64 y.d) ∧ W.cell? ⟨(a.add (d * 3)).block, (a.add (d * 3)).off + 1, none⟩ = some (.int .i64 y.i) ∧ W.cell? ⟨(a.add (d * 3)).block, (a.add (d * 3)).off + 2, none⟩ = some (.string y.c) ∧ W.cell? (a.add (k * 3)) = some (.int .i64 x.d) ∧ W.cell? ⟨(a.add (k * 3)).block, (a.add (k * 3)).off + 1, none⟩ = some (.int .i64 x.i) ∧ W.cell? ⟨(a.add (k * 3)).block, (a.add (k * 3)).off + 2, none⟩ = some (.string x.c))
              (first | with_reducible exact s0 | with_reducible exact sg | fail)
              (first | (go_at_call 87; refine (WO2.out _).mono ?_; rintro _ wg ⟨rfl, bg⟩; have sg := PS.out wg bg))
            have HB2 := HB.trans ((show Below wr.heap.size wr wg from ⟨bg.os, bg.tape, bg.output, bg.size, bg.block⟩).mono HB.size)
            go_wp2
            go_roundw
            case rel => exact ⟨k + 1, by omega, by go_num, N0, HB2⟩
            case measure => simp [intOf]; omega
      · obtain rfl : k = n := by omega
        have hd : decide ((k : Int) < (k : Int)) = false := by simp
        have hE0 : E = 0 := by rw [← HE.out]; exact H0.out
        subst hE0
        go_wp2
        go_ret
        exact ⟨rfl, HB⟩
end Go.Proofs.Ytabhjkaheghbhaa
