/-
  WALK: begun, what the plain laws ask first.
-/
import Derived.Test.YtabhjkaheghbhaaTold
import Derived.Test.YtabhjkaheghbhaaAskX
import Derived.Test.YtabhjkaheghbhaaSame
namespace Go.Proofs.Ytabhjkaheghbhaa
open Go.RowKit
set_option linter.unusedVariables false

theorem bg_ask : askOut 4 0 ⟨#[97, 98]⟩ 5 0 = ([81, 4, 2, 97, 98, 5], 0) := by kernel_rfl
theorem bg_asked : askedR ⟨#[81, 4, 2, 97, 98, 5]⟩ = (#[.int .i64 4, .int .i64 0, .string ⟨#[97, 98]⟩, .int .i64 5, .int .i64 0], 0) := by kernel_rfl
theorem bg_tell : tellOut 4 0 0 ⟨#[]⟩ [⟨2, 7, ⟨#[120]⟩⟩] = ([82, 4, 0, 1, 2, 7, 1, 120], 0) := by kernel_rfl
theorem bg_told : toldS ⟨#[82, 4, 0, 1, 2, 7, 1, 120]⟩ = (.ok 8, 0, 0, ⟨#[]⟩, [⟨2, 7, ⟨#[120]⟩⟩]) := by kernel_rfl
theorem bg_hd : hdv ⟨#[82, 4, 0, 1, 2, 7, 1, 120]⟩ 82 = 4 := by kernel_rfl
theorem bg_end : pEnd ⟨#[82, 4, 0, 1, 2, 7, 1, 120]⟩ (.ok 8) = 0 := by kernel_rfl
theorem bg_asked2 : askedR ⟨#[82, 4, 0, 1, 2, 7, 1, 120]⟩ = (#[.int .i64 0, .int .i64 0, .string ⟨#[]⟩, .int .i64 0, .int .i64 0], 35) := by kernel_rfl

set_option maxRecDepth 100000 in
set_option maxHeartbeats 2000000 in
theorem begun_calls (w : World) : Calls Try.prog 22 #[] w fun x w' => x = .returned (.bool true) ∧ Below w.heap.size w w' := by
  have hbu1 : ∀ W : World, (Instr.build 24 #[(0, .int .i64 4), (2, .string ⟨#[97, 98]⟩), (3, .int .i64 5)]).run Try.prog W = .ok (.agg #[.int .i64 4, .int .i64 0, .string ⟨#[97, 98]⟩, .int .i64 5, .int .i64 0]) W := fun W => run_build W _ _ _ (by kernel_rfl)
  have hbu2 : ∀ W : World, (Instr.build 35 #[(0, .int .i64 2), (1, .int .i64 7), (2, .string ⟨#[120]⟩)]).run Try.prog W = .ok (.agg #[.int .i64 2, .int .i64 7, .string ⟨#[120]⟩]) W := fun W => run_build W _ _ _ (by kernel_rfl)
  have hbu3 : ∀ (W : World) (p : Option Addr) (n c : Nat), (Instr.build 33 #[(3, .slice p n c)]).run Try.prog W = .ok (.agg #[.int .i64 0, .int .i64 0, .string ⟨#[]⟩, .slice p n c]) W := fun W p n c => run_build W _ _ _ (by kernel_rfl)
  have A1 := Lib.hid (fun W => Ask_calls 4 0 ⟨#[97, 98]⟩ 5 0 (by decide) W)
  have A2 := Lib.hid (fun W => Asked_calls ⟨#[81, 4, 2, 97, 98, 5]⟩ (by decide) W)
  have A3 := Lib.hid (fun (p : Option Addr) (cap : Nat) W hz => Tell_calls 4 0 0 ⟨#[]⟩ p cap [⟨2, 7, ⟨#[120]⟩⟩] W hz (by decide))
  have A4 := Lib.hid (fun W => Told_calls ⟨#[82, 4, 0, 1, 2, 7, 1, 120]⟩ (by decide) W)
  have A5 := Lib.hid (fun W => Asked_calls ⟨#[82, 4, 0, 1, 2, 7, 1, 120]⟩ (by decide) W)
  have A6 := Lib.hid (fun (p1 p2 : Option Addr) (c1 c2 : Nat) W h1 h2 => same_calls 0 0 ⟨#[]⟩ p1 p2 c1 c2 [⟨2, 7, ⟨#[120]⟩⟩] (by decide) W h1 h2)
  rw [bg_ask] at A1
  rw [bg_asked] at A2
  rw [bg_tell] at A3
  rw [bg_told, bg_hd] at A4
  simp only at A4
  rw [bg_end] at A4
  rw [bg_asked2] at A5
  simp only [List.length_cons, List.length_nil] at A3 A6
  have hNQ := fun W => neq_rq 4 0 ⟨#[97, 98]⟩ 5 0 0 ⟨#[97, 98]⟩ 5 0 false (by decide) W
  have hQ1 : Try.prog.eqGuardType Try.prog.depth 24 = false := by kernel_rfl
  go_enter Try.func22, Try.ntmps22
  go_upto_region 2 with fail
  have HQ := Lib.hid (rq_box w 4 0 ⟨#[97, 98]⟩ 5 0)
  have HB := Lib.hid ((Below.refl w.heap.size w).alloc (Nat.le_refl _) (.cells #[.int .i64 4, .int .i64 0, .string ⟨#[97, 98]⟩, .int .i64 5, .int .i64 0] 24))
  generalize w.alloc (.cells #[.int .i64 4, .int .i64 0, .string ⟨#[97, 98]⟩, .int .i64 5, .int .i64 0] 24) = w1 at HQ HB ⊢
  obtain ⟨q0, q1, q2, q3, q4, _⟩ := HQ.out.cells
  go_wp2_with fail
  refine (A1.out _).mono ?_
  rintro x w2 ⟨rfl, k⟩
  have HQ2 := Lib.hid (HQ.out.of (k.block _ HQ.out.lt))
  have HB2 := Lib.hid (HB.out.trans (k.mono (Nat.le_of_lt HQ.out.lt)))
  clear k q0 q1 q2 q3 q4 HQ HB
  go_wp2_with fail
  refine (A2.out _).mono ?_
  rintro x w3 ⟨rfl, k⟩
  have HQ3 := Lib.hid (HQ2.out.of (k.block _ HQ2.out.lt))
  have HB3 := Lib.hid (HB2.out.trans (k.mono (Nat.le_of_lt HQ2.out.lt)))
  clear k HQ2 HB2
  go_upto_region 4 with fail
  have HP4 := Lib.hid (rq_box w3 4 0 ⟨#[97, 98]⟩ 5 0)
  have HQ4 := Lib.hid (HQ3.out.alloc (.cells #[.int .i64 4, .int .i64 0, .string ⟨#[97, 98]⟩, .int .i64 5, .int .i64 0] 24))
  have HB4 := Lib.hid (HB3.out.alloc HB3.out.size (.cells #[.int .i64 4, .int .i64 0, .string ⟨#[97, 98]⟩, .int .i64 5, .int .i64 0] 24))
  obtain ⟨P, hP⟩ : ∃ P, w3.heap.size = P := ⟨_, rfl⟩
  generalize w3.alloc (.cells #[.int .i64 4, .int .i64 0, .string ⟨#[97, 98]⟩, .int .i64 5, .int .i64 0] 24) = w4 at HP4 HQ4 HB4 ⊢
  rw [hP] at HP4 ⊢
  clear hP HQ3 HB3
  go_upto_region 5 with fail
  have HH5 := Lib.hid (three_box w4 ⟨2, 7, ⟨#[120]⟩⟩ 35)
  have HP5 := Lib.hid (HP4.out.alloc (.cells #[.int .i64 2, .int .i64 7, .string ⟨#[120]⟩] 35))
  have HQ5 := Lib.hid (HQ4.out.alloc (.cells #[.int .i64 2, .int .i64 7, .string ⟨#[120]⟩] 35))
  have HB5 := Lib.hid (HB4.out.alloc HB4.out.size (.cells #[.int .i64 2, .int .i64 7, .string ⟨#[120]⟩] 35))
  obtain ⟨H, hH⟩ : ∃ H, w4.heap.size = H := ⟨_, rfl⟩
  simp only at HH5
  have hz5 : (w4.alloc (.cells #[.int .i64 2, .int .i64 7, .string ⟨#[120]⟩] 35)).heap.size = w4.heap.size + 1 := World.size_alloc _ _
  generalize w4.alloc (.cells #[.int .i64 2, .int .i64 7, .string ⟨#[120]⟩] 35) = w5 at HH5 HP5 HQ5 HB5 hz5 ⊢
  rw [hH] at HH5 hz5 ⊢
  clear hH HP4 HQ4 HB4
  have HR6 := Lib.hid (Rp.new w5 0 0 ⟨#[]⟩ (.slice (some ⟨H, 0, none⟩) 1 1))
  have HH6 := Lib.hid (HH5.out.below ((Below.refl w5.heap.size w5).alloc (Nat.le_refl _) (.cells #[.int .i64 0, .int .i64 0, .string ⟨#[]⟩, .slice (some ⟨H, 0, none⟩) 1 1] 33)) HH5.out.lt)
  have HP6 := Lib.hid (HP5.out.alloc (.cells #[.int .i64 0, .int .i64 0, .string ⟨#[]⟩, .slice (some ⟨H, 0, none⟩) 1 1] 33))
  have HQ6 := Lib.hid (HQ5.out.alloc (.cells #[.int .i64 0, .int .i64 0, .string ⟨#[]⟩, .slice (some ⟨H, 0, none⟩) 1 1] 33))
  have HB6 := Lib.hid (HB5.out.alloc HB5.out.size (.cells #[.int .i64 0, .int .i64 0, .string ⟨#[]⟩, .slice (some ⟨H, 0, none⟩) 1 1] 33))
  obtain ⟨R, hR⟩ : ∃ R, H + 1 = R := ⟨_, rfl⟩
  generalize w5.alloc (.cells #[.int .i64 0, .int .i64 0, .string ⟨#[]⟩, .slice (some ⟨H, 0, none⟩) 1 1] 33) = w6 at HR6 HH6 HP6 HQ6 HB6 ⊢
  rw [hz5] at HR6
  rw [hR] at HR6 ⊢
  clear hR hz5 HP5 HQ5 HB5 HH5
  have hlist : ∀ W, Three W ⟨H, 0, none⟩ ⟨2, 7, ⟨#[120]⟩⟩ → HL W (some ⟨H, 0, none⟩) [⟨2, 7, ⟨#[120]⟩⟩] := fun W h i x hx => by
    match i, hx with
    | 0, hx => simp at hx; subst hx; exact ⟨_, rfl, h⟩
  have HLI := Lib.hid hlist
  clear hlist
  obtain ⟨r0, r1, r2, r3, rf⟩ := HR6.out.cells
  clear rf
  go_wp2_with fail
  refine (A3.out (some ⟨H, 0, none⟩) 1 _ (HLI.out _ HH6.out).hr).mono ?_
  rintro x w7 ⟨rfl, k⟩
  have HR7 := Lib.hid (HR6.out.of (k.block _ HR6.out.lt))
  have HH7 := Lib.hid (HH6.out.below k HH6.out.lt)
  have HP7 := Lib.hid (HP6.out.of (k.block _ HP6.out.lt))
  have HQ7 := Lib.hid (HQ6.out.of (k.block _ HQ6.out.lt))
  have HB7 := Lib.hid (HB6.out.trans (k.mono (Nat.le_of_lt HQ6.out.lt)))
  clear k r0 r1 r2 r3 HR6 HH6 HP6 HQ6 HB6
  go_wp2_with fail
  refine (A4.out _).mono ?_
  rintro x w8 ⟨v, op', code', n', t', L', rfl, ho, k, he⟩
  rw [if_pos rfl] at he
  simp only [Prod.mk.injEq] at he
  obtain ⟨rfl, rfl, rfl, rfl, rfl⟩ := he
  have HR8 := Lib.hid (HR7.out.of (k.block _ HR7.out.lt))
  have HH8 := Lib.hid (HH7.out.below k HH7.out.lt)
  have HP8 := Lib.hid (HP7.out.of (k.block _ HP7.out.lt))
  have HQ8 := Lib.hid (HQ7.out.of (k.block _ HQ7.out.lt))
  have HB8 := Lib.hid (HB7.out.trans (k.mono (Nat.le_of_lt HQ7.out.lt)))
  clear k HR7 HH7 HP7 HQ7 HB7
  obtain ⟨pv, cv, rfl, _⟩ := own_rd ho
  have HO8 := Lib.hid (HL.of_own ho)
  clear ho
  simp only [List.length_cons, List.length_nil] at HO8 ⊢
  go_upto_region 7 with fail
  have HU9 := Lib.hid (Rp.new w8 0 0 ⟨#[]⟩ (.slice pv 1 cv))
  have HBx := Lib.hid ((Below.refl w8.heap.size w8).alloc (Nat.le_refl _) (.cells #[.int .i64 0, .int .i64 0, .string ⟨#[]⟩, .slice pv 1 cv] 33))
  have HO9 := Lib.hid (HO8.out.below HBx.out)
  have HH9 := Lib.hid (HH8.out.below HBx.out HH8.out.lt)
  have HR9 := Lib.hid (HR8.out.of (HBx.out.block _ HR8.out.lt))
  have HP9 := Lib.hid (HP8.out.of (HBx.out.block _ HP8.out.lt))
  have HQ9 := Lib.hid (HQ8.out.of (HBx.out.block _ HQ8.out.lt))
  have HB9 := Lib.hid (HB8.out.trans (HBx.out.mono (Nat.le_of_lt HQ8.out.lt)))
  obtain ⟨U, hU⟩ : ∃ U, w8.heap.size = U := ⟨_, rfl⟩
  clear HBx
  generalize w8.alloc (.cells #[.int .i64 0, .int .i64 0, .string ⟨#[]⟩, .slice pv 1 cv] 33) = w9 at HU9 HO9 HH9 HR9 HP9 HQ9 HB9 ⊢
  rw [hU] at HU9 ⊢
  clear hU HR8 HH8 HP8 HQ8 HB8 HO8
  go_wp2_with fail
  refine (A5.out _).mono ?_
  rintro x wa ⟨rfl, k⟩
  have HUa := Lib.hid (HU9.out.of (k.block _ HU9.out.lt))
  have HOa := Lib.hid (HO9.out.below k)
  have HHa := Lib.hid (HH9.out.below k HH9.out.lt)
  have HRa := Lib.hid (HR9.out.of (k.block _ HR9.out.lt))
  have HPa := Lib.hid (HP9.out.of (k.block _ HP9.out.lt))
  have HQa := Lib.hid (HQ9.out.of (k.block _ HQ9.out.lt))
  have HBa := Lib.hid (HB9.out.trans (k.mono (Nat.le_of_lt HQ9.out.lt)))
  clear k HU9 HO9 HH9 HR9 HP9 HQ9 HB9
  go_upto_region 8 with fail
  have HBx := Lib.hid ((Below.refl wa.heap.size wa).alloc (Nat.le_refl _) (.cells #[.int .i64 0, .int .i64 0, .string ⟨#[]⟩, .int .i64 0, .int .i64 0] 24))
  have HUb := Lib.hid (HUa.out.of (HBx.out.block _ HUa.out.lt))
  have HOb := Lib.hid (HOa.out.below HBx.out)
  have HHb := Lib.hid (HHa.out.below HBx.out HHa.out.lt)
  have HRb := Lib.hid (HRa.out.of (HBx.out.block _ HRa.out.lt))
  have HPb := Lib.hid (HPa.out.of (HBx.out.block _ HPa.out.lt))
  have HQb := Lib.hid (HQa.out.of (HBx.out.block _ HQa.out.lt))
  have HBb := Lib.hid (HBa.out.trans (HBx.out.mono (Nat.le_of_lt HQa.out.lt)))
  clear HBx
  generalize hwb : wa.alloc (.cells #[.int .i64 0, .int .i64 0, .string ⟨#[]⟩, .int .i64 0, .int .i64 0] 24) = wb at HUb HOb HHb HRb HPb HQb HBb ⊢
  clear hwb HUa HOa HHa HRa HPa HQa HBa
  obtain ⟨q0, q1, q2, q3, q4, _⟩ := HQb.out.cells
  obtain ⟨p0, p1, p2, p3, p4, _⟩ := HPb.out.cells
  obtain ⟨r0, r1, r2, r3, rf⟩ := HRb.out.cells
  obtain ⟨u0, u1, u2, u3, uf⟩ := HUb.out.cells
  clear rf uf
  go_wp2_with fail
  refine (A6.out pv (some ⟨H, 0, none⟩) cv 1 _ HOb.out (HLI.out _ HHb.out)).mono ?_
  rintro x wc ⟨rfl, k⟩
  have HBc := Lib.hid (HBb.out.trans (k.mono (Nat.le_of_lt HQb.out.lt)))
  clear k
  go_wp2
  go_ret
  exact ⟨rfl, HBc.out⟩
end Go.Proofs.Ytabhjkaheghbhaa
