/-
  THE LAW WireOnly. (Printed by onlygen.py.)
-/
import Derived.Test.YtabhjkaheghbhaaInv2
import Derived.Test.YtabhjkaheghbhaaBegun
namespace Go.Proofs.Ytabhjkaheghbhaa
open Go.RowKit
set_option linter.unusedVariables false

theorem asked_zero (b : ByteArray) (h : (askedR b).2 ≠ 0) : (askedR b).1 = #[.int .i64 0, .int .i64 0, .string ⟨#[]⟩, .int .i64 0, .int .i64 0] := by
  unfold askedR at h ⊢
  cases hh : hd2 b 81 with
  | error e => rfl
  | ok a =>
    rw [hh] at h
    simp only at h ⊢
    rw [if_neg h]
    rfl
theorem bytes_eta (b : ByteArray) : (⟨b.data.toList.toArray⟩ : ByteArray) = b := by cases b; simp
theorem HL.nil (w : World) (p : Option Addr) : HL w p [] := fun i x h => by simp at h
theorem not_both (b : ByteArray) {a1 a2 : Nat} (h1 : hd2 b 81 = .ok a1) (h2 : hd2 b 82 = .ok a2) : False := by
  obtain ⟨_, e1, _⟩ := head_inv h1
  obtain ⟨_, e2, _⟩ := head_inv h2
  rw [e1] at e2
  have := (List.cons.inj e2).1
  revert this
  decide

set_option maxRecDepth 100000 in
set_option maxHeartbeats 1000000 in
theorem only_A (a0 : ByteArray) (s0 : a0.size ≤ 140737488351232) (op id : Int) (c : ByteArray) (k rr : Int) (hA : askedR a0 = (#[.int .i64 op, .int .i64 id, .string c, .int .i64 k, .int .i64 rr], 0)) (hK : askOut op id c k rr = (a0.data.toList, 0)) (hc : c.size ≤ 65536) (hT : pEnd a0 (toldS a0).1 ≠ 0) (w : World) :
    Calls Try.prog 9 #[.string a0] w fun e w' => e = .returned (.bool true) ∧ Below w.heap.size w w' := by
  have hbu1 : ∀ W : World, (Instr.build 24 #[]).run Try.prog W = .ok (.agg #[.int .i64 0, .int .i64 0, .string ⟨#[]⟩, .int .i64 0, .int .i64 0]) W := fun W => run_build W _ _ _ (by kernel_rfl)
  have hbu2 : ∀ W : World, (Instr.build 33 #[]).run Try.prog W = .ok (.agg #[.int .i64 0, .int .i64 0, .string ⟨#[]⟩, .slice none 0 0]) W := fun W => run_build W _ _ _ (by kernel_rfl)
  have hQ1 : Try.prog.eqGuardType Try.prog.depth 24 = false := by kernel_rfl
  have hNQ := fun W => neq_rq 0 0 ⟨#[]⟩ 0 0 0 ⟨#[]⟩ 0 0 false (by decide) W
  have BG := Lib.hid (fun W => begun_calls W)
  have A1 := Lib.hid (fun W => Asked_calls a0 (by omega) W)
  have A2 := Lib.hid (fun W => Told_calls a0 (by omega) W)
  have A3 := Lib.hid (fun (p1 p2 : Option Addr) (c1 c2 : Nat) W h1 h2 => same_calls 0 0 ⟨#[]⟩ p1 p2 c1 c2 [] (by decide) W h1 h2)
  simp only [List.length_nil] at A3
  have A4 := Lib.hid (fun W => Ask_calls op id c k rr (by omega) W)
  rw [hA] at A1
  rw [hK] at A4
  simp only at A4
  rw [bytes_eta] at A4
  generalize pEnd a0 (toldS a0).1 = en at A2 hT
  generalize hdv a0 82 = hv at A2
  generalize (toldS a0).2 = tv at A2
  have HEN := Lib.hid hT
  have hen : (en == 0) = false := by rw [beq_eq_false_iff_ne]; exact hT
  clear hA hK hT
  go_enter Try.func9, Try.ntmps9
  go_wp2_with fail
  refine (BG.out _).mono ?_
  rintro x w1 ⟨rfl, k1⟩
  have HB1 := Lib.hid k1
  clear k1
  go_wp2_with fail
  refine (A1.out _).mono ?_
  rintro x w2 ⟨rfl, k2⟩
  have HB2 := Lib.hid (HB1.out.trans (k2.mono HB1.out.size))
  clear k2 HB1
  go_upto_region 3 with fail
  have HQ3 := Lib.hid (rq_box w2 op id c k rr)
  have HB3 := Lib.hid (HB2.out.alloc HB2.out.size (.cells #[.int .i64 op, .int .i64 id, .string c, .int .i64 k, .int .i64 rr] 24))
  obtain ⟨Q, hQ⟩ : ∃ Q, w2.heap.size = Q := ⟨_, rfl⟩
  generalize w2.alloc (.cells #[.int .i64 op, .int .i64 id, .string c, .int .i64 k, .int .i64 rr] 24) = w3 at HQ3 HB3 ⊢
  rw [hQ] at HQ3 ⊢
  clear hQ HB2
  go_wp2_with fail
  refine (A2.out _).mono ?_
  rintro x w4 ⟨v, op', code', n', t', L', rfl, ho, k4, he⟩
  rw [if_neg HEN.out] at he
  simp only [Prod.mk.injEq] at he
  obtain ⟨rfl, rfl, rfl, rfl, rfl⟩ := he
  have HQ4 := Lib.hid (HQ3.out.of (k4.block _ HQ3.out.lt))
  have HB4 := Lib.hid (HB3.out.trans (k4.mono HB3.out.size))
  clear k4 HQ3 HB3
  obtain ⟨pv, cv, rfl, _⟩ := own_rd ho
  have HO4 := Lib.hid (HL.of_own ho)
  clear ho
  simp only [List.length_nil]
  go_upto_region 4 with fail
  have HP5 := Lib.hid (Rp.new w4 0 0 ⟨#[]⟩ (.slice pv 0 cv))
  have HQ5 := Lib.hid (HQ4.out.alloc (.cells #[.int .i64 0, .int .i64 0, .string ⟨#[]⟩, .slice pv 0 cv] 33))
  have HB5 := Lib.hid (HB4.out.alloc HB4.out.size (.cells #[.int .i64 0, .int .i64 0, .string ⟨#[]⟩, .slice pv 0 cv] 33))
  have HO5 := Lib.hid (HO4.out.below ((Below.refl w4.heap.size w4).alloc (Nat.le_refl _) (.cells #[.int .i64 0, .int .i64 0, .string ⟨#[]⟩, .slice pv 0 cv] 33)))
  obtain ⟨U, hU⟩ : ∃ U, w4.heap.size = U := ⟨_, rfl⟩
  generalize w4.alloc (.cells #[.int .i64 0, .int .i64 0, .string ⟨#[]⟩, .slice pv 0 cv] 33) = w5 at HP5 HQ5 HB5 HO5 ⊢
  rw [hU] at HP5 ⊢
  clear hU HQ4 HB4 HO4
  obtain ⟨q0, q1, q2, q3, q4, _⟩ := HQ5.out.cells
  obtain ⟨p0, p1, p2, p3, pf⟩ := HP5.out.cells
  clear pf
  go_wp2_with fail
  refine (A4.out _).mono ?_
  rintro x w6 ⟨rfl, k6⟩
  have HP6 := Lib.hid (HP5.out.of (k6.block _ HP5.out.lt))
  have HB6 := Lib.hid (HB5.out.trans (k6.mono HB5.out.size))
  clear k6 q0 q1 q2 q3 q4 p0 p1 p2 p3 HP5 HB5 HQ5
  obtain ⟨p0, p1, p2, p3, pf⟩ := HP6.out.cells
  clear pf
  go_wp2_with fail
  refine (A3.out pv none cv 0 _ (HL.nil _ _) (HL.nil _ _)).mono ?_
  rintro x wz ⟨rfl, kz⟩
  have HBz := Lib.hid (HB6.out.trans (kz.mono HB6.out.size))
  clear kz
  go_wp2
  go_ret
  exact ⟨rfl, HBz.out⟩

set_option maxRecDepth 100000 in
set_option maxHeartbeats 1000000 in
theorem only_B (a0 : ByteArray) (s0 : a0.size ≤ 140737488351232) (hA : (askedR a0).2 ≠ 0) (hT : pEnd a0 (toldS a0).1 ≠ 0) (w : World) :
    Calls Try.prog 9 #[.string a0] w fun e w' => e = .returned (.bool true) ∧ Below w.heap.size w w' := by
  have hbu1 : ∀ W : World, (Instr.build 24 #[]).run Try.prog W = .ok (.agg #[.int .i64 0, .int .i64 0, .string ⟨#[]⟩, .int .i64 0, .int .i64 0]) W := fun W => run_build W _ _ _ (by kernel_rfl)
  have hbu2 : ∀ W : World, (Instr.build 33 #[]).run Try.prog W = .ok (.agg #[.int .i64 0, .int .i64 0, .string ⟨#[]⟩, .slice none 0 0]) W := fun W => run_build W _ _ _ (by kernel_rfl)
  have hQ1 : Try.prog.eqGuardType Try.prog.depth 24 = false := by kernel_rfl
  have hNQ := fun W => neq_rq 0 0 ⟨#[]⟩ 0 0 0 ⟨#[]⟩ 0 0 false (by decide) W
  have BG := Lib.hid (fun W => begun_calls W)
  have A1 := Lib.hid (fun W => Asked_calls a0 (by omega) W)
  have A2 := Lib.hid (fun W => Told_calls a0 (by omega) W)
  have A3 := Lib.hid (fun (p1 p2 : Option Addr) (c1 c2 : Nat) W h1 h2 => same_calls 0 0 ⟨#[]⟩ p1 p2 c1 c2 [] (by decide) W h1 h2)
  simp only [List.length_nil] at A3
  rw [show askedR a0 = (#[.int .i64 0, .int .i64 0, .string ⟨#[]⟩, .int .i64 0, .int .i64 0], (askedR a0).2) from Prod.ext (asked_zero a0 hA) rfl] at A1
  simp only at A1
  generalize (askedR a0).2 = e at A1 hA
  have hee : (e == 0) = false := by rw [beq_eq_false_iff_ne]; exact hA
  clear hA
  generalize pEnd a0 (toldS a0).1 = en at A2 hT
  generalize hdv a0 82 = hv at A2
  generalize (toldS a0).2 = tv at A2
  have HEN := Lib.hid hT
  have hen : (en == 0) = false := by rw [beq_eq_false_iff_ne]; exact hT
  clear hT
  go_enter Try.func9, Try.ntmps9
  go_wp2_with fail
  refine (BG.out _).mono ?_
  rintro x w1 ⟨rfl, k1⟩
  have HB1 := Lib.hid k1
  clear k1
  go_wp2_with fail
  refine (A1.out _).mono ?_
  rintro x w2 ⟨rfl, k2⟩
  have HB2 := Lib.hid (HB1.out.trans (k2.mono HB1.out.size))
  clear k2 HB1
  go_upto_region 3 with fail
  have HQ3 := Lib.hid (rq_box w2 0 0 ⟨#[]⟩ 0 0)
  have HB3 := Lib.hid (HB2.out.alloc HB2.out.size (.cells #[.int .i64 0, .int .i64 0, .string ⟨#[]⟩, .int .i64 0, .int .i64 0] 24))
  obtain ⟨Q, hQ⟩ : ∃ Q, w2.heap.size = Q := ⟨_, rfl⟩
  generalize w2.alloc (.cells #[.int .i64 0, .int .i64 0, .string ⟨#[]⟩, .int .i64 0, .int .i64 0] 24) = w3 at HQ3 HB3 ⊢
  rw [hQ] at HQ3 ⊢
  clear hQ HB2
  go_wp2_with fail
  refine (A2.out _).mono ?_
  rintro x w4 ⟨v, op', code', n', t', L', rfl, ho, k4, he⟩
  rw [if_neg HEN.out] at he
  simp only [Prod.mk.injEq] at he
  obtain ⟨rfl, rfl, rfl, rfl, rfl⟩ := he
  have HQ4 := Lib.hid (HQ3.out.of (k4.block _ HQ3.out.lt))
  have HB4 := Lib.hid (HB3.out.trans (k4.mono HB3.out.size))
  clear k4 HQ3 HB3
  obtain ⟨pv, cv, rfl, _⟩ := own_rd ho
  have HO4 := Lib.hid (HL.of_own ho)
  clear ho
  simp only [List.length_nil]
  go_upto_region 4 with fail
  have HP5 := Lib.hid (Rp.new w4 0 0 ⟨#[]⟩ (.slice pv 0 cv))
  have HQ5 := Lib.hid (HQ4.out.alloc (.cells #[.int .i64 0, .int .i64 0, .string ⟨#[]⟩, .slice pv 0 cv] 33))
  have HB5 := Lib.hid (HB4.out.alloc HB4.out.size (.cells #[.int .i64 0, .int .i64 0, .string ⟨#[]⟩, .slice pv 0 cv] 33))
  have HO5 := Lib.hid (HO4.out.below ((Below.refl w4.heap.size w4).alloc (Nat.le_refl _) (.cells #[.int .i64 0, .int .i64 0, .string ⟨#[]⟩, .slice pv 0 cv] 33)))
  obtain ⟨U, hU⟩ : ∃ U, w4.heap.size = U := ⟨_, rfl⟩
  generalize w4.alloc (.cells #[.int .i64 0, .int .i64 0, .string ⟨#[]⟩, .slice pv 0 cv] 33) = w5 at HP5 HQ5 HB5 HO5 ⊢
  rw [hU] at HP5 ⊢
  clear hU HQ4 HB4 HO4
  obtain ⟨q0, q1, q2, q3, q4, _⟩ := HQ5.out.cells
  obtain ⟨p0, p1, p2, p3, pf⟩ := HP5.out.cells
  clear pf
  go_wp2_with fail
  refine (A3.out pv none cv 0 _ (HL.nil _ _) (HL.nil _ _)).mono ?_
  rintro x wz ⟨rfl, kz⟩
  have HBz := Lib.hid (HB5.out.trans (kz.mono HB5.out.size))
  clear kz
  go_wp2
  go_ret
  exact ⟨rfl, HBz.out⟩

set_option maxRecDepth 100000 in
set_option maxHeartbeats 1000000 in
theorem only_C (a0 : ByteArray) (s0 : a0.size ≤ 140737488351232) (hA : (askedR a0).2 ≠ 0) (hT : pEnd a0 (toldS a0).1 = 0) (op code n : Int) (t : ByteArray) (L : List Hv) (hop : hdv a0 82 = op) (hS : (toldS a0).2 = (code, n, t, L)) (hK : tellOut op code n t L = (a0.data.toList, 0)) (hl : t.size + (hitsB L).length ≤ a0.size) (w : World) :
    Calls Try.prog 9 #[.string a0] w fun e w' => e = .returned (.bool true) ∧ Below w.heap.size w w' := by
  have hbu1 : ∀ W : World, (Instr.build 24 #[]).run Try.prog W = .ok (.agg #[.int .i64 0, .int .i64 0, .string ⟨#[]⟩, .int .i64 0, .int .i64 0]) W := fun W => run_build W _ _ _ (by kernel_rfl)
  have hbu2 : ∀ W : World, (Instr.build 33 #[]).run Try.prog W = .ok (.agg #[.int .i64 0, .int .i64 0, .string ⟨#[]⟩, .slice none 0 0]) W := fun W => run_build W _ _ _ (by kernel_rfl)
  have hQ1 : Try.prog.eqGuardType Try.prog.depth 24 = false := by kernel_rfl
  have hNQ := fun W => neq_rq 0 0 ⟨#[]⟩ 0 0 0 ⟨#[]⟩ 0 0 false (by decide) W
  have BG := Lib.hid (fun W => begun_calls W)
  have A1 := Lib.hid (fun W => Asked_calls a0 (by omega) W)
  have A2 := Lib.hid (fun W => Told_calls a0 (by omega) W)
  have A3 := Lib.hid (fun (p1 p2 : Option Addr) (c1 c2 : Nat) W h1 h2 => same_calls 0 0 ⟨#[]⟩ p1 p2 c1 c2 [] (by decide) W h1 h2)
  simp only [List.length_nil] at A3
  rw [show askedR a0 = (#[.int .i64 0, .int .i64 0, .string ⟨#[]⟩, .int .i64 0, .int .i64 0], (askedR a0).2) from Prod.ext (asked_zero a0 hA) rfl] at A1
  simp only at A1
  generalize (askedR a0).2 = e at A1 hA
  have hee : (e == 0) = false := by rw [beq_eq_false_iff_ne]; exact hA
  clear hA
  have A4 := Lib.hid (fun (p : Option Addr) (cap : Nat) W hz => Tell_calls op code n t p cap L W hz (by omega))
  rw [hK] at A4
  simp only at A4
  rw [bytes_eta] at A4
  rw [hT, hop, hS] at A2
  simp only at A2
  clear hT hop hS hK
  go_enter Try.func9, Try.ntmps9
  go_wp2_with fail
  refine (BG.out _).mono ?_
  rintro x w1 ⟨rfl, k1⟩
  have HB1 := Lib.hid k1
  clear k1
  go_wp2_with fail
  refine (A1.out _).mono ?_
  rintro x w2 ⟨rfl, k2⟩
  have HB2 := Lib.hid (HB1.out.trans (k2.mono HB1.out.size))
  clear k2 HB1
  go_upto_region 3 with fail
  have HQ3 := Lib.hid (rq_box w2 0 0 ⟨#[]⟩ 0 0)
  have HB3 := Lib.hid (HB2.out.alloc HB2.out.size (.cells #[.int .i64 0, .int .i64 0, .string ⟨#[]⟩, .int .i64 0, .int .i64 0] 24))
  obtain ⟨Q, hQ⟩ : ∃ Q, w2.heap.size = Q := ⟨_, rfl⟩
  generalize w2.alloc (.cells #[.int .i64 0, .int .i64 0, .string ⟨#[]⟩, .int .i64 0, .int .i64 0] 24) = w3 at HQ3 HB3 ⊢
  rw [hQ] at HQ3 ⊢
  clear hQ HB2
  go_wp2_with fail
  refine (A2.out _).mono ?_
  rintro x w4 ⟨v, op', code', n', t', L', rfl, ho, k4, he⟩
  rw [if_pos rfl] at he
  simp only [Prod.mk.injEq] at he
  obtain ⟨rfl, rfl, rfl, rfl, rfl⟩ := he
  have HQ4 := Lib.hid (HQ3.out.of (k4.block _ HQ3.out.lt))
  have HB4 := Lib.hid (HB3.out.trans (k4.mono HB3.out.size))
  clear k4 HQ3 HB3
  obtain ⟨pv, cv, rfl, _⟩ := own_rd ho
  have HO4 := Lib.hid (HL.of_own ho)
  clear ho
  skip
  go_upto_region 4 with fail
  have HP5 := Lib.hid (Rp.new w4 code' n' t' (.slice pv L'.length cv))
  have HQ5 := Lib.hid (HQ4.out.alloc (.cells #[.int .i64 code', .int .i64 n', .string t', .slice pv L'.length cv] 33))
  have HB5 := Lib.hid (HB4.out.alloc HB4.out.size (.cells #[.int .i64 code', .int .i64 n', .string t', .slice pv L'.length cv] 33))
  have HO5 := Lib.hid (HO4.out.below ((Below.refl w4.heap.size w4).alloc (Nat.le_refl _) (.cells #[.int .i64 code', .int .i64 n', .string t', .slice pv L'.length cv] 33)))
  obtain ⟨U, hU⟩ : ∃ U, w4.heap.size = U := ⟨_, rfl⟩
  generalize w4.alloc (.cells #[.int .i64 code', .int .i64 n', .string t', .slice pv L'.length cv] 33) = w5 at HP5 HQ5 HB5 HO5 ⊢
  rw [hU] at HP5 ⊢
  clear hU HQ4 HB4 HO4
  obtain ⟨q0, q1, q2, q3, q4, _⟩ := HQ5.out.cells
  obtain ⟨p0, p1, p2, p3, pf⟩ := HP5.out.cells
  clear pf
  go_wp2_with fail
  refine (A4.out pv cv _ HO5.out.hr).mono ?_
  rintro x w6 ⟨rfl, k6⟩
  have HB6 := Lib.hid (HB5.out.trans (k6.mono HB5.out.size))
  clear k6
  go_wp2
  go_ret
  exact ⟨rfl, HB6.out⟩

theorem WireOnly_walk (a0 : ByteArray) (s0 : a0.size ≤ 140737488351232) (w : World) :
    Calls Try.prog 9 #[.string a0] w fun e w' => e = .returned (.bool true) ∧ Below w.heap.size w w' := by
  by_cases hT : pEnd a0 (toldS a0).1 = 0
  · obtain ⟨op, code, n, t, L, a2, h1, h2, ⟨h3, h4⟩, h5⟩ := told_inv a0 hT
    have hA : (askedR a0).2 ≠ 0 := fun h => by
      obtain ⟨_, _, _, _, _, a1, _, _, h6⟩ := asked_inv a0 h
      exact not_both a0 h6 h5
    exact only_C a0 s0 hA hT op code n t L h1 h2 h3 h4 w
  · by_cases hA : (askedR a0).2 = 0
    · obtain ⟨op, id, c, k, rr, a1, h1, ⟨h2, h3⟩, h6⟩ := asked_inv a0 hA
      exact only_A a0 s0 op id c k rr (Prod.ext h1 hA) h2 h3 hT w
    · exact only_B a0 s0 hA hT w
end Go.Proofs.Ytabhjkaheghbhaa
