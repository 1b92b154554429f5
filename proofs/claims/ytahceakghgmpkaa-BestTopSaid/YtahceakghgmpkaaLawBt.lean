/-
  THE LAW BestTop, walked: as the document's answer. (Printed by lawqgen.py.)
-/
import Derived.Test.YtahceakghgmpkaaQuad
import Derived.Test.YtahceakghgmpkaaNear
import Derived.Deep.RegionHeld3
import Derived.Deep.DeepCutAuto
namespace Go.Proofs.Ytahceakghgmpkaa
open Go.RowKit ArgK
set_option linter.unusedVariables false

/-- The head of the loop. -/
def QRelTop (w : World) (ta tq ub pb m : Nat) (k : Nat) (z : List Hv) (i : Value) (wr : World) : Prop :=
  ∃ a : Nat, a ≤ m + 1 ∧ i = .int .i64 a ∧ Quad 68 77 w ta tq ub pb (k : Int) ((3 : Nat) : Int) ((allH (z.take a)).take k) ((allH (z.take a)).take 3) (allH (z.take a)) (allH (z.take a)) wr

set_option maxRecDepth 100000 in
set_option maxHeartbeats 2000000 in
theorem BestTop_in (a0 : Int) (h0 : 0 ≤ a0) (h1 : a0 ≤ 4096) (p : Option Addr) (cap : Nat) (z : List Hv) (w : World) (hsz : z.length * 32 ≤ 140737488351232) (hHL : HL w p z) (hgood : ∀ x ∈ z, GoodH x) :
    Calls Try.prog 6 #[.int .i64 a0, .slice p z.length cap] w fun e w' => e = .returned (.bool true) ∧ Below w.heap.size w w' := by
  obtain ⟨k, rfl⟩ : ∃ k : Nat, a0 = (k : Int) := ⟨a0.toNat, by omega⟩
  have hk4 : k ≤ 4096 := by omega
  obtain ⟨m, hm⟩ : ∃ m, z.length = m := ⟨_, rfl⟩
  have N1 := Lib.hid (fun W => newTop_ok (k : Int) h0 h1 W)
  have N2 := Lib.hid (fun W => rNewTop_ok (k : Int) h0 h1 W)
  have N3 := Lib.hid (fun W => newTop_ok 3 (by decide) (by decide) W)
  have N4 := Lib.hid (fun W => rNewTop_ok 3 (by decide) (by decide) W)
  rw [hm] at hsz ⊢
  have HM := Lib.hid hm
  have hHid := Lib.hid hHL
  have HGd := Lib.hid hgood
  have hm63 : m ≤ 4398046510976 := by omega
  clear hHL hgood hm
  go_enter Try.func6, Try.ntmps6
  go_wp2_with fail
  refine (N1.out _).mono ?_
  rintro e x1 ⟨ta, F, rfl, hT1, hG1, hF1⟩
  go_wp2_with fail
  refine (N2.out _).mono ?_
  rintro e x2 ⟨ub, H, rfl, hT2, hG2, hF2⟩
  go_wp2_with fail
  refine (N3.out _).mono ?_
  rintro e x3 ⟨tq, G, rfl, hT3, hG3, hF3⟩
  go_wp2_with fail
  refine (N4.out _).mono ?_
  rintro e x4 ⟨pb, I, rfl, hT4, hG4, hF4⟩
  have HQ := Lib.hid (Quad.start hT1 hG1 hF1 hT2 hG2 hF2 hT3 hG3 hF3 hT4 hG4 hF4)
  clear hT1 hG1 hF1 hT2 hG2 hF2 hT3 hG3 hF3 hT4 hG4 hF4 N1 N2 N3 N4
  go_wp2
  go_loopw [13] (fun i ws => QRelTop w ta tq ub pb m k z i ws) (fun i _ => m + 1 - (intOf i).toNat)
  case atStart => exact ⟨0, Nat.zero_le _, rfl, by simpa [allH] using HQ.out⟩
  case round =>
    obtain ⟨a, ha, rfl, hQ⟩ := hrel
    obtain ⟨wo, rfl⟩ : ∃ wo : World, wo = wr := ⟨_, rfl⟩
    have HQo := Lib.hid hQ
    clear hQ HQ
    by_cases hle : a ≤ m
    · have hS1 : (allH (z.take a)).length ≤ a := Nat.le_trans (allH_length _) (List.length_take_le _ _)
      have hT1 : ((allH (z.take a)).take k).length ≤ k := by simp; omega
      have hO1 : ((allH (z.take a)).take 3).length ≤ 3 := by simp; omega
      have hBl := Lib.hid (fun W (hW : Quad 68 77 w ta tq ub pb (k : Int) ((3 : Nat) : Int) ((allH (z.take a)).take k) ((allH (z.take a)).take 3) (allH (z.take a)) (allH (z.take a)) W) => topped_calls ta tq ub pb ((allH (z.take a)).take k) ((allH (z.take a)).take 3) (by omega) (by omega) W
        (fun X hX => by obtain ⟨own, F, G, H, I, h1, h2, h3, h4, _⟩ := hW.below hX; exact top_list h1 (by omega))
        (fun X hX => by obtain ⟨own, F, G, H, I, h1, h2, h3, h4, _⟩ := hW.below hX; exact top_list h2 (by omega))
        (fun X hX => by obtain ⟨own, F, G, H, I, h1, h2, h3, h4, _⟩ := hW.below hX; exact rTop_list h3 hk4 (by omega))
        (fun X hX => by obtain ⟨own, F, G, H, I, h1, h2, h3, h4, _⟩ := hW.below hX; exact rTop_list h4 (by decide) (by omega)))
      have hW1 := Lib.hid (fun W (hW : Quad 68 77 w ta tq ub pb (k : Int) ((3 : Nat) : Int) ((allH (z.take a)).take k) ((allH (z.take a)).take 3) (allH (z.take a)) (allH (z.take a)) W) => (show Calls Try.prog 25 #[.pointer (some ⟨ta, 0, none⟩)] W _ from by obtain ⟨own, F, G, H, I, h1, h2, h3, h4, _⟩ := hW; exact top_worst h1 hk4 hT1))
      have hW2 := Lib.hid (fun W (hW : Quad 68 77 w ta tq ub pb (k : Int) ((3 : Nat) : Int) ((allH (z.take a)).take k) ((allH (z.take a)).take 3) (allH (z.take a)) (allH (z.take a)) W) => (show Calls Try.prog 26 #[.pointer (some ⟨ub, 0, none⟩)] W _ from by obtain ⟨own, F, G, H, I, h1, h2, h3, h4, _⟩ := hW; exact rTop_worst h3 hk4))
      obtain ⟨wv, hwv⟩ : ∃ x, worstV k ((allH (z.take a)).take k) = x := ⟨_, rfl⟩
      obtain ⟨wb, hwb⟩ : ∃ x, worstB k ((allH (z.take a)).take k) = x := ⟨_, rfl⟩
      rw [hwv, hwb] at hW1 hW2
      clear hwv hwb
      have i0 : (0 : Int) ≤ (a : Int) := by omega
      have i1 : (a : Int) ≤ (m : Int) := by omega
      go_wp2_with fail
      refine (hW1.out _ HQo.out).mono ?_
      rintro e y1 ⟨rfl, q1, hq1⟩
      have hb1 : Below wo.heap.size wo y1 := by rw [hq1]; exact ((Gr.refl wo).drewN q1).below
      have HQ1 := Lib.hid (HQo.out.below hb1)
      clear hb1 hq1
      go_wp2_with fail
      refine (hW2.out _ HQ1.out).mono ?_
      rintro e y2 ⟨rfl, q2, hq2⟩
      have hb2 : Below y1.heap.size y1 y2 := by rw [hq2]; exact ((Gr.refl y1).drewN q2).below
      have HQ2 := Lib.hid (HQ1.out.below hb2)
      clear hb2 hq2
      go_wp2_with fail
      refine (hBl.out _ HQ2.out).mono ?_
      rintro e w5 ⟨rfl, hb5⟩
      have HQ5 := Lib.hid (HQ2.out.below hb5)
      clear hb5
      by_cases hlt : a < m
      · have hal : a < z.length := by rw [HM.out]; exact hlt
        obtain ⟨x, hx⟩ : ∃ x, hd z a = x := ⟨_, rfl⟩
        have hzx := hd_get hal
        rw [hx] at hzx
        have hgx : GoodH x := HGd.out _ (List.mem_of_getElem? hzx)
        have HZX := Lib.hid hzx
        have hsn : z.take (a + 1) = z.take a ++ [x] := by rw [List.take_add_one, hzx]; rfl
        obtain ⟨pa, hpa, u0, u1, u2⟩ := (hHid.out.below HQ5.out.bel) a _ hzx
        obtain rfl := hpa
        have hU : Hid (∀ W, Below w.heap.size w W → W.cell? (pa.add (a * 3)) = some (.int .i64 x.d) ∧ W.cell? ⟨(pa.add (a * 3)).block, (pa.add (a * 3)).off + 1, none⟩ = some (.int .i64 x.i) ∧ W.cell? ⟨(pa.add (a * 3)).block, (pa.add (a * 3)).off + 2, none⟩ = some (.string x.c)) := Lib.hid (fun W hW => by
          obtain ⟨pb', hpb, v0, v1, v2⟩ := (hHid.out.below hW) a _ HZX.out
          obtain rfl : pa = pb' := Option.some.inj hpb
          exact ⟨v0, v1, v2⟩)
        have i2 : (a : Int) < (m : Int) := by omega
        have e1 : (insH ((allH (z.take a)).take k) x).take k = (allH (z.take (a + 1))).take k := by rw [hsn]; exact (top_snoc k _ x).symm
        have e2 : (insH ((allH (z.take a)).take 3) x).take 3 = (allH (z.take (a + 1))).take 3 := by rw [hsn]; exact (top_snoc 3 _ x).symm
        have e3 : insH (allH (z.take a)) x = allH (z.take (a + 1)) := by rw [hsn, allH_snoc]
        have hA1 : ∀ W, Quad 68 77 w ta tq ub pb (k : Int) ((3 : Nat) : Int) ((allH (z.take a)).take k) ((allH (z.take a)).take 3) (allH (z.take a)) (allH (z.take a)) W → Calls Try.prog 22 #[.pointer (some ⟨ta, 0, none⟩), .agg #[.int .i64 x.d, .int .i64 x.i, .string x.c]] W fun e w' => e = .returned (.bool (decide (x ∈ (allH (z.take (a + 1))).take k))) ∧ Quad 68 77 w ta tq ub pb (k : Int) ((3 : Nat) : Int) ((allH (z.take (a + 1))).take k) ((allH (z.take a)).take 3) (allH (z.take a)) (allH (z.take a)) w' := fun W hW => by
          have := hW.add1 (fun F hF => top_add hF hk4 hT1 x hgx)
          rw [e1] at this
          exact this
        have hA3 : ∀ W, Quad 68 77 w ta tq ub pb (k : Int) ((3 : Nat) : Int) ((allH (z.take (a + 1))).take k) ((allH (z.take a)).take 3) (allH (z.take a)) (allH (z.take a)) W → Calls Try.prog 28 #[.pointer (some ⟨ub, 0, none⟩), .agg #[.int .i64 x.d, .int .i64 x.i, .string x.c]] W fun e w' => e = .returned (.bool (decide (x ∈ (allH (z.take (a + 1))).take k))) ∧ Quad 68 77 w ta tq ub pb (k : Int) ((3 : Nat) : Int) ((allH (z.take (a + 1))).take k) ((allH (z.take a)).take 3) (allH (z.take (a + 1))) (allH (z.take a)) w' := fun W hW => by
          have := hW.add3 (fun F hF => rTop_add hF hk4 x (by omega))
          rw [e3] at this
          exact this
        have hA2 : ∀ W, Quad 68 77 w ta tq ub pb (k : Int) ((3 : Nat) : Int) ((allH (z.take (a + 1))).take k) ((allH (z.take a)).take 3) (allH (z.take (a + 1))) (allH (z.take a)) W → Calls Try.prog 22 #[.pointer (some ⟨tq, 0, none⟩), .agg #[.int .i64 x.d, .int .i64 x.i, .string x.c]] W fun e w' => e = .returned (.bool (decide (x ∈ (allH (z.take (a + 1))).take 3))) ∧ Quad 68 77 w ta tq ub pb (k : Int) ((3 : Nat) : Int) ((allH (z.take (a + 1))).take k) ((allH (z.take (a + 1))).take 3) (allH (z.take (a + 1))) (allH (z.take a)) w' := fun W hW => by
          have := hW.add2 (fun F hF => top_add (k := 3) hF (by decide) hO1 x hgx)
          rw [e2] at this
          exact this
        have hA4 : ∀ W, Quad 68 77 w ta tq ub pb (k : Int) ((3 : Nat) : Int) ((allH (z.take (a + 1))).take k) ((allH (z.take (a + 1))).take 3) (allH (z.take (a + 1))) (allH (z.take a)) W → Calls Try.prog 28 #[.pointer (some ⟨pb, 0, none⟩), .agg #[.int .i64 x.d, .int .i64 x.i, .string x.c]] W fun e w' => e = .returned (.bool (decide (x ∈ (allH (z.take (a + 1))).take 3))) ∧ Quad 68 77 w ta tq ub pb (k : Int) ((3 : Nat) : Int) ((allH (z.take (a + 1))).take k) ((allH (z.take (a + 1))).take 3) (allH (z.take (a + 1))) (allH (z.take (a + 1))) w' := fun W hW => by
          have := hW.add4 (fun F hF => rTop_add (k := 3) hF (by decide) x (by omega))
          rw [e3] at this
          exact this
        generalize hd1 : decide (x ∈ (allH (z.take (a + 1))).take k) = bb1 at hA1 hA3
        generalize hd2 : decide (x ∈ (allH (z.take (a + 1))).take 3) = bb2 at hA2 hA4
        clear hd1 hd2 e1 e2 e3
        have HA1 := Lib.hid hA1
        have HA2 := Lib.hid hA2
        have HA3 := Lib.hid hA3
        have HA4 := Lib.hid hA4
        clear hA1 hA2 hA3 hA4 hsn hzx hx
        go_upto_region 17 with fail
        go_cut [123] (fun sv wx => sv = .bool false ∧ Quad 68 77 w ta tq ub pb (k : Int) ((3 : Nat) : Int) ((allH (z.take (a + 1))).take k) ((allH (z.take (a + 1))).take 3) (allH (z.take (a + 1))) (allH (z.take (a + 1))) wx)
        case first =>
          have hq0 := HQ5.out.below ((Gr.refl w5).drew).below
          go_region_held3 (fun w' => w'.cell? (pa.add (a * 3)) = some (.int .i64 x.d) ∧ w'.cell? ⟨(pa.add (a * 3)).block, (pa.add (a * 3)).off + 1, none⟩ = some (.int .i64 x.i) ∧ w'.cell? ⟨(pa.add (a * 3)).block, (pa.add (a * 3)).off + 2, none⟩ = some (.string x.c))
            (first | exact hU.out _ hq4.bel | exact hU.out _ hq3.bel | exact hU.out _ hq2.bel | exact hU.out _ hq1.bel | exact hU.out _ hq0.bel)
            (first
              | (go_at_call 28; (with_reducible refine (HA4.out _ hq3).mono ?_); rintro e z4 ⟨rfl, hq4⟩)
              | (go_at_call 22; (with_reducible refine (HA2.out _ hq2).mono ?_); rintro e z3 ⟨rfl, hq3⟩)
              | (go_at_call 28; (with_reducible refine (HA3.out _ hq1).mono ?_); rintro e z2 ⟨rfl, hq2⟩)
              | (go_at_call 22; (with_reducible refine (HA1.out _ hq0).mono ?_); rintro e z1 ⟨rfl, hq1⟩)
              | fail)
          go_wp2_with fail
          go_meet
          exact ⟨by simp, hq4⟩
        case rest =>
          obtain ⟨rfl, hQ6⟩ := hcut
          have HN := Lib.hid (⟨a + 1, by omega, rfl, hQ6⟩ : QRelTop w ta tq ub pb m k z (.int .i64 (a + 1 : Nat)) wc)
          clear hQ6 u0 u1 u2
          go_wp2
          go_roundw
          case rel => first | exact HN.out | ((repeat (with_reducible apply Exists.intro)); exact ⟨HN.out, rfl⟩)
          case measure => simp [intOf]; omega
      · obtain rfl : a = m := by omega
        have i3 : decide ((a : Int) < (a : Int)) = false := by simp
        have i4 : decide (a < a) = false := by simp
        have HN := Lib.hid (fun q => (⟨a + 1, by omega, rfl, by
          have h1 : z.take (a + 1) = z.take a := by rw [List.take_of_length_le (by rw [HM.out]; omega), List.take_of_length_le (by rw [HM.out]; omega)]
          rw [h1]
          exact HQ5.out.below ((Gr.refl w5).drewN q).below⟩ : QRelTop w ta tq ub pb a k z (.int .i64 (a + 1 : Nat)) (w5.drewN q)))
        go_wp2
        go_quiet (fail)
        go_wp2
        go_roundw
        case rel => exact HN.out _
        case measure => simp [intOf]
    · obtain rfl : a = m + 1 := by omega
      have i5 : decide (((m + 1 : Nat) : Int) ≤ (m : Int)) = false := by simp; omega
      have i6 : decide ((m : Int) + 1 ≤ (m : Int)) = false := by simp; omega
      have i7 : ¬ ((m : Int) + 1 ≤ (m : Int)) := by omega
      go_wp2
      go_ret
      exact ⟨rfl, HQo.out.bel⟩

set_option maxRecDepth 100000 in
theorem BestTop_walk (a0 : Int) (w0 : (Lit.int .i64 a0).wf = true) (v : Value) (z : List Hv) (w : World) (h1 : IsSl w 3 32 IsHit [v] z) :
    Calls Try.prog 6 #[.int .i64 a0, v] w fun e w' => e = .returned (.bool true) ∧ Below w.heap.size w w' := by
  obtain ⟨hsz, p, cap, rfl, hHL, hgood⟩ := hits_of_arg h1
  by_cases hk : 0 ≤ a0 ∧ a0 ≤ 4096
  · exact BestTop_in a0 hk.1 hk.2 p cap z w hsz hHL hgood
  · have hbad : a0 < 0 ∨ 4096 < a0 := by omega
    have N1 := Lib.hid (fun W => newTop_bad a0 hbad W)
    have N2 := Lib.hid (fun W => rNewTop_bad a0 hbad W)
    have N3 := Lib.hid (fun W => newTop_ok 3 (by decide) (by decide) W)
    have N4 := Lib.hid (fun W => rNewTop_ok 3 (by decide) (by decide) W)
    clear h1 hHL hgood
    go_enter Try.func6, Try.ntmps6
    go_wp2_with fail
    refine (N1.out _).mono ?_
    rintro e x1 ⟨rfl, rfl⟩
    go_wp2_with fail
    refine (N2.out _).mono ?_
    rintro e x2 ⟨rfl, rfl⟩
    go_wp2_with fail
    refine (N3.out _).mono ?_
    rintro e x3 ⟨tq, G, rfl, hT3, hG3, hF3⟩
    go_wp2_with fail
    refine (N4.out _).mono ?_
    rintro e x4 ⟨pb, I, rfl, hT4, hG4, hF4⟩
    have HB := Lib.hid ((hG3.trans hG4).below)
    clear hT3 hG3 hF3 hT4 hG4 hF4
    go_wp2
    go_ret
    exact ⟨rfl, HB.out⟩
end Go.Proofs.Ytahceakghgmpkaa
