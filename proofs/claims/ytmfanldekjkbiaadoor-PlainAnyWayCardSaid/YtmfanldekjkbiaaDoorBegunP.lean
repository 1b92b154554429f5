/-
  WALKS: begun: what the laws of plain ask first; two lists of hits held against each other.
-/
import Derived.Test.YtmfanldekjkbiaaDoorPlainC
import Derived.Test.YtmfanldekjkbiaaDoorFilled
import Derived.Test.YtmfanldekjkbiaaDoorLawB
namespace Go.Proofs.YtmfanldekjkbiaaDoor
open Go.RowKit
set_option linter.unusedVariables false

set_option maxRecDepth 100000 in
set_option maxHeartbeats 1000000 in
theorem same13_calls (p1 p2 : Option Addr) (c1 c2 : Nat) (z : List Hv) (hzl : z.length ≤ 4611686018427387904) (w : World) (h1 : HL w p1 z) (h2 : HL w p2 z) :
    Calls Tryd.prog 16 #[.slice p1 z.length c1, .slice p2 z.length c2] w fun x w' => x = .returned (.bool true) ∧ Gr w w' := by
  have hNE : ∀ (x : Hv) W, (binOp .neq 36 (.agg #[.int .i64 x.d, .int .i64 x.i, .string x.c]) (.agg #[.int .i64 x.d, .int .i64 x.i, .string x.c])).run Tryd.prog W = .ok (.bool false) W := fun x W => by
    have := neq_hit x x W
    simp only [decide_true, Bool.not_true] at this
    exact this
  have hQ1 : Tryd.prog.eqGuardType Tryd.prog.depth 36 = false := by kernel_rfl
  obtain ⟨n, hnn⟩ : ∃ n, z.length = n := ⟨_, rfl⟩
  rw [hnn] at hzl ⊢
  have HN := Lib.hid hnn
  have H1 := Lib.hid h1
  have H2 := Lib.hid h2
  clear h1 h2 hnn
  go_enter Tryd.func16, Tryd.ntmps16
  go_wp2
  go_loopw [5] (fun i ws => ∃ k : Nat, k ≤ n ∧ i = .int .i64 k ∧ Gr w ws) (fun i _ => n - (intOf i).toNat)
  case atStart => exact ⟨0, Nat.zero_le _, rfl, Gr.refl _⟩
  case round =>
    obtain ⟨k, hk, rfl, HB⟩ := hrel
    by_cases hlt : k < n
    · have hd : decide ((k : Int) < (n : Int)) = true := by simpa using hlt
      obtain ⟨x, hx⟩ : ∃ x, z[k]? = some x := ⟨_, List.getElem?_eq_getElem (by rw [HN.out]; exact hlt)⟩
      obtain ⟨a1, rfl, u0, u1, u2⟩ := (H1.out.gr HB) k x hx
      obtain ⟨a2, rfl, v0, v1, v2⟩ := (H2.out.gr HB) k x hx
      have hx1 := hNE x
      have hki : (k : Int) < (n : Int) := by omega
      have hk0 : (0 : Int) ≤ (k : Int) := by omega
      have hxs : ∀ i : List Hv, i = i := fun _ => rfl
      have hw1 : IntKind.i64.wrap ((k : Int) + 1) = ((k + 1 : Nat) : Int) := by rw [IntKind.wrap_i64]; omega
      clear hNE hx hxs
      go_wp2
      go_quiet (fail)
      have HB2 := HB.drewN nq
      go_wp2
      go_roundw
      case rel => exact ⟨k + 1, by omega, by go_num, HB2⟩
      case measure => simp [intOf]; omega
    · obtain rfl : k = n := by omega
      have hd : decide ((k : Int) < (k : Int)) = false := by simp
      go_wp2
      go_ret
      exact ⟨rfl, HB⟩

def zB : ByteArray := fitB ⟨#[]⟩ 8

def oB : ByteArray := fitB ⟨#[1]⟩ 8

theorem begunL : fillL 8 [] [⟨5, zB⟩, ⟨3, zB⟩, ⟨4, oB⟩] = [⟨5, zB⟩, ⟨3, zB⟩, ⟨4, oB⟩] := by kernel_rfl

theorem begunT : firstT 2 ([⟨5, zB⟩, ⟨3, zB⟩, ⟨4, oB⟩].map (hitOf oB)) = [⟨0, 4, oB⟩, ⟨1, 3, zB⟩] := by kernel_rfl

theorem pl_three (w : World) (x y z : Pv) : PL (w.alloc (.cells #[.int .i64 x.i, .string x.c, .int .i64 y.i, .string y.c, .int .i64 z.i, .string z.c] 49)) (some ⟨w.heap.size, 0, none⟩) [x, y, z] := by
  have hb := World.alloc_heap_new w (.cells #[.int .i64 x.i, .string x.c, .int .i64 y.i, .string y.c, .int .i64 z.i, .string z.c] 49)
  generalize w.alloc (.cells #[.int .i64 x.i, .string x.c, .int .i64 y.i, .string y.c, .int .i64 z.i, .string z.c] 49) = W at hb ⊢
  intro i u hz
  match i, hz with
  | 0, h =>
    simp at h; subst h
    exact ⟨_, rfl, by simp [Addr.add, World.cell?, hb], by simp [Addr.add, World.cell?, hb]⟩
  | 1, h =>
    simp at h; subst h
    exact ⟨_, rfl, by simp [Addr.add, World.cell?, hb], by simp [Addr.add, World.cell?, hb]⟩
  | 2, h =>
    simp at h; subst h
    exact ⟨_, rfl, by simp [Addr.add, World.cell?, hb], by simp [Addr.add, World.cell?, hb]⟩

theorem hl_two13 (w : World) (x y : Hv) : HL (w.alloc (.cells #[.int .i64 x.d, .int .i64 x.i, .string x.c, .int .i64 y.d, .int .i64 y.i, .string y.c] 36)) (some ⟨w.heap.size, 0, none⟩) [x, y] := by
  have hb := World.alloc_heap_new w (.cells #[.int .i64 x.d, .int .i64 x.i, .string x.c, .int .i64 y.d, .int .i64 y.i, .string y.c] 36)
  generalize w.alloc (.cells #[.int .i64 x.d, .int .i64 x.i, .string x.c, .int .i64 y.d, .int .i64 y.i, .string y.c] 36) = W at hb ⊢
  intro i z hz
  match i, hz with
  | 0, h =>
    simp at h; subst h
    exact ⟨_, rfl, by simp [Addr.add, World.cell?, hb], by simp [Addr.add, World.cell?, hb], by simp [Addr.add, World.cell?, hb]⟩
  | 1, h =>
    simp at h; subst h
    exact ⟨_, rfl, by simp [Addr.add, World.cell?, hb], by simp [Addr.add, World.cell?, hb], by simp [Addr.add, World.cell?, hb]⟩

set_option maxRecDepth 100000 in
set_option maxHeartbeats 2000000 in
theorem begun13_calls (w : World) (hT : OnesTab w) : Calls Tryd.prog 7 #[] w fun e w' => e = .returned (.bool true) ∧ Below w.heap.size w w' := by
  have hp64 : widthB ((64 : Nat) : Int) = true := by decide
  have C1 := Lib.hid (fun W => fit13_calls ⟨#[]⟩ (by decide) 64 (by decide) W)
  have C2 := Lib.hid (fun W => fit13_calls ⟨#[1]⟩ (by decide) 64 (by decide) W)
  obtain ⟨zb, hzb⟩ : ∃ zb, zB = zb := ⟨_, rfl⟩
  obtain ⟨ob, hob⟩ : ∃ ob, oB = ob := ⟨_, rfl⟩
  have hzs : zb.size = 8 := by rw [← hzb]; exact fitB_size _ _
  have hos : ob.size = 8 := by rw [← hob]; exact fitB_size _ _
  have e1 : fitB ⟨#[]⟩ (64 / 8) = zb := hzb
  have e2 : fitB ⟨#[1]⟩ (64 / 8) = ob := hob
  rw [e1] at C1
  rw [e2] at C2
  have hBL := begunL
  have hBT := begunT
  rw [hzb, hob] at hBL hBT
  have HBL := Lib.hid hBL
  have HBT := Lib.hid hBT
  have HT := Lib.hid hT
  have hlit : ∀ W : World, (Instr.build 49 #[(0, .int .i64 5), (1, .string zb)]).run Tryd.prog W = .ok (.agg #[.int .i64 5, .string zb]) W := fun W => run_build W _ _ _ (by kernel_rfl)
  have hlit2 : ∀ W : World, (Instr.build 49 #[(0, .int .i64 3), (1, .string zb)]).run Tryd.prog W = .ok (.agg #[.int .i64 3, .string zb]) W := fun W => run_build W _ _ _ (by kernel_rfl)
  have hlit3 : ∀ W : World, (Instr.build 49 #[(0, .int .i64 4), (1, .string ob)]).run Tryd.prog W = .ok (.agg #[.int .i64 4, .string ob]) W := fun W => run_build W _ _ _ (by kernel_rfl)
  have hlit4 : ∀ W : World, (Instr.build 36 #[(0, .int .i64 0), (1, .int .i64 4), (2, .string ob)]).run Tryd.prog W = .ok (.agg #[.int .i64 0, .int .i64 4, .string ob]) W := fun W => run_build W _ _ _ (by kernel_rfl)
  have hlit5 : ∀ W : World, (Instr.build 36 #[(0, .int .i64 1), (1, .int .i64 3), (2, .string zb)]).run Tryd.prog W = .ok (.agg #[.int .i64 1, .int .i64 3, .string zb]) W := fun W => run_build W _ _ _ (by kernel_rfl)
  clear hT e1 e2 hzb hob hBL hBT
  go_enter Tryd.func7, Tryd.ntmps7
  go_wp2_with fail
  refine (C1.out w).mono ?_
  rintro e w1 ⟨rfl, hb1⟩
  have HB1 := Lib.hid hb1
  clear hb1
  go_wp2_with fail
  refine (C2.out w1).mono ?_
  rintro e w2 ⟨rfl, hb2⟩
  have HB2 : Hid (Below w.heap.size w w2) := Lib.hid (HB1.out.trans (hb2.mono HB1.out.size))
  have HP := Lib.hid (pl_three w2 ⟨5, zb⟩ ⟨3, zb⟩ ⟨4, ob⟩)
  have HFl := Lib.hid (filled_calls 64 hp64 (some ⟨w2.heap.size, 0, none⟩) 3 [⟨5, zb⟩, ⟨3, zb⟩, ⟨4, ob⟩] (by simp) (fun x hx => by
    simp at hx
    rcases hx with rfl | rfl | rfl <;> exact ⟨rfl, by simp only; omega⟩) _ HP.out)
  have HB3 : Hid (Below w.heap.size w (w2.alloc (.cells #[.int .i64 5, .string zb, .int .i64 3, .string zb, .int .i64 4, .string ob] 49))) := Lib.hid (HB2.out.alloc HB2.out.size _)
  clear hb2
  rw [show (64 : Nat) / 8 = 8 from rfl, HBL.out] at HFl
  simp only [List.length_cons, List.length_nil] at HFl
  go_wp2_with fail
  refine HFl.out.mono ?_
  rintro e w4 ⟨mb, pb, v, rfl, hM4, hr4, hb4, _, _⟩
  obtain ⟨pv, cv, rfl, _⟩ := own_rd hr4
  have HB4 : Hid (Below w.heap.size w w4) := Lib.hid (HB3.out.trans (hb4.mono HB3.out.size))
  have HK := Lib.hid (topk_ok hM4 (by decide) ob (by rw [hos]) 2 (by decide) (HT.out.of (HB4.out.block _ HT.out.lt)) (by simp))
  rw [HBT.out] at HK
  clear hr4 hb4 hM4
  go_wp2_with fail
  refine HK.out.mono ?_
  rintro e w5 ⟨l, rfl, hr5, hb5⟩
  obtain ⟨pl, cl, rfl, _⟩ := own_rd hr5
  have HB5 : Hid (Below w.heap.size w w5) := Lib.hid (HB4.out.trans (hb5.mono HB4.out.size))
  have HL5 := Lib.hid (HL.of_own hr5)
  have HL6 := Lib.hid (hl_two13 w5 ⟨0, 4, ob⟩ ⟨1, 3, zb⟩)
  have hb6 := (Below.refl w5.heap.size w5).alloc (Nat.le_refl _) (.cells #[.int .i64 0, .int .i64 4, .string ob, .int .i64 1, .int .i64 3, .string zb] 36)
  have HS := Lib.hid (same13_calls pl (some ⟨w5.heap.size, 0, none⟩) cl 2 [⟨0, 4, ob⟩, ⟨1, 3, zb⟩] (by simp) _ (HL5.out.below hb6) HL6.out)
  have HB6 : Hid (Below w.heap.size w (w5.alloc (.cells #[.int .i64 0, .int .i64 4, .string ob, .int .i64 1, .int .i64 3, .string zb] 36))) := Lib.hid (HB5.out.alloc HB5.out.size _)
  clear hr5 hb5 hb6
  simp only [List.length_cons, List.length_nil] at HS
  go_wp2_with fail
  refine HS.out.mono ?_
  rintro e w7 ⟨rfl, hg7⟩
  have HE : Hid (Below w.heap.size w w7) := Lib.hid (HB6.out.trans (hg7.below.mono HB6.out.size))
  clear hg7
  go_wp2
  go_ret
  exact ⟨rfl, HE.out⟩
end Go.Proofs.YtmfanldekjkbiaaDoor
