/-
  WALK: the document's Told. (Printed by rtoldgen.py.)
-/
import Derived.Test.YtabhjkaheghbhaaHitT
import Derived.Test.YtabhjkaheghbhaaTold
namespace Go.Proofs.Ytabhjkaheghbhaa
open Go.RowKit
set_option linter.unusedVariables false

set_option maxRecDepth 100000 in
set_option maxHeartbeats 1000000 in
theorem rtold_code (b : ByteArray) (hb : b.size ≤ 4611686018427387904) (op code : Int) (s1 : St) (hop : hdv b 82 = op) (hp : pNum b 999 13 (hd2 b 82) = (s1, code)) (hc : code ≠ 0) (w : World) :
    Calls Try.prog 17 #[.string b] w fun x w' => TO 35 (pEnd b s1) op code 0 ⟨#[]⟩ [] x w w' := by
  have hbu1 : ∀ W : World, (Instr.build 74 #[(0, .string b)]).run Try.prog W = .ok (.agg #[.string b, .int .i64 0, .int .i64 0]) W := fun W => run_build W _ _ _ (by kernel_rfl)
  have hbu2 : ∀ (W : World) (z : Int), (Instr.build 33 #[(0, .int .i64 z)]).run Try.prog W = .ok (.agg #[.int .i64 z, .int .i64 0, .string ⟨#[]⟩, .slice none 0 0]) W := fun W z => run_build W _ _ _ (by kernel_rfl)
  have hbu3 : ∀ W : World, (Instr.build 33 #[]).run Try.prog W = .ok (.agg #[.int .i64 0, .int .i64 0, .string ⟨#[]⟩, .slice none 0 0]) W := fun W => run_build W _ _ _ (by kernel_rfl)
  have C := Lib.hid (fun r W h => begun_calls 82 r b hb W h)
  have D := Lib.hid (fun r W h => rnumber_calls 999 (by decide) r b hb (hd2 b 82) W h)
  have TL := Lib.hid (fun W => tells_calls op W)
  rw [hop] at C
  rw [hp] at D
  obtain ⟨⟨b1, b2, b3⟩, htl⟩ : ∃ t, tls op = t := ⟨_, rfl⟩
  rw [htl] at TL
  have hce : (code == 0) = false := by rw [beq_eq_false_iff_ne]; exact hc
  clear hc
  generalize hd2 b 82 = s0 at C D hp
  have E := Lib.hid (fun r W h => ended_calls r b hb s1 W h)
  generalize hen : pEnd b s1 = en at E ⊢
  clear hop hp hen htl
  go_enter Try.func17, Try.ntmps17
  go_wp2_with fail
  obtain ⟨W, hW, hz, hRd, hRp, hBl⟩ := prepT w b 74
  rw [hW]
  clear hW
  refine (C.out _ _ hRd).mono ?_
  rintro x w1 ⟨rfl, hs, hg1⟩
  have HS1 := Lib.hid hs
  have HRp1 := Lib.hid (hRp.of (grown_heap hg1 (by omega) (by omega)))
  have HBl1 := Lib.hid (grown_below hBl hg1 (by omega) (fun k h => by cases h; omega))
  have hsz : W.heap.size ≤ w1.heap.size := hg1.size
  clear hs hRp hBl hg1 hRd
  go_wp2_with fail
  refine (D.out _ _ HS1.out).mono ?_
  rintro x w2 ⟨rfl, hs, hg1⟩
  have HS2 := Lib.hid hs
  have HRp2 := Lib.hid (HRp1.out.of (grown_heap hg1 (by omega) (by omega)))
  have HBl2 := Lib.hid (grown_below HBl1.out hg1 (by omega) (fun k h => by cases h; omega))
  have hsz2 : W.heap.size ≤ w2.heap.size := Nat.le_trans hsz hg1.size
  clear hs hg1 HS1 HRp1 HBl1 hsz
  have HQ3 := Lib.hid (Rp.new w2 code 0 ⟨#[]⟩ (.slice none 0 0))
  have HS3 := Lib.hid (HS2.out.alloc (.cells #[.int .i64 code, .int .i64 0, .string ⟨#[]⟩, .slice none 0 0] 33))
  have HRp3 := Lib.hid (HRp2.out.alloc (.cells #[.int .i64 code, .int .i64 0, .string ⟨#[]⟩, .slice none 0 0] 33))
  have HBl3 := Lib.hid (HBl2.out.alloc (by omega) (.cells #[.int .i64 code, .int .i64 0, .string ⟨#[]⟩, .slice none 0 0] 33))
  have hQp : w2.heap.size ≠ w.heap.size := by omega
  have hQr : w2.heap.size ≠ w.heap.size + 1 := by omega
  have hQB : w.heap.size + 1 ≤ w2.heap.size := by omega
  go_upto_region 5 with fail
  obtain ⟨Q, hQ⟩ : ∃ Q, w2.heap.size = Q := ⟨_, rfl⟩
  generalize w2.alloc (.cells #[.int .i64 code, .int .i64 0, .string ⟨#[]⟩, .slice none 0 0] 33) = w3 at HQ3 HS3 HRp3 HBl3 ⊢
  rw [hQ] at HQ3 hQp hQr hQB ⊢
  clear hQ HS2 HRp2 HBl2 hsz2 hz
  go_wp2_with fail
  refine (TL.out _).mono ?_
  rintro x wt ⟨rfl, rfl⟩
  obtain ⟨we, hwe⟩ : ∃ we, wt = we := ⟨_, rfl⟩
  rw [hwe] at HS3 HQ3 HRp3 HBl3 ⊢
  clear hwe
  have HSe := HS3
  have HQe := HQ3
  have HRpe := HRp3
  have HBle := HBl3
  clear HS3 HQ3 HRp3 HBl3
  go_wp2_with fail
  refine (E.out _ _ HSe.out).mono ?_
  rintro x w9 ⟨rfl, hg9⟩
  have HP9 := Lib.hid (HRpe.out.of (grown_heap hg9 HRpe.out.lt (by omega)))
  have HQ9 := Lib.hid (HQe.out.of (grown_heap hg9 HQe.out.lt hQr))
  have HB9 := Lib.hid (grown_below HBle.out hg9 (by have := HRpe.out.lt; omega) (fun k h => by cases h; omega))
  obtain ⟨g0, g1, g2, g3, pf⟩ := HP9.out.cells
  obtain ⟨q0, q1, q2, q3, qf⟩ := HQ9.out.cells
  have f0 := pf 0
  have f1 := pf 1
  have f2 := pf 2
  have f3 := pf 3
  clear pf qf hg9
  by_cases h0 : en = 0
  · subst h0
    go_wp2
    go_region
    have hbl := below_four HB9.out.drew (Nat.le_refl _) (.int .i64 code) (.int .i64 0) (.string ⟨#[]⟩) (.slice none 0 0)
    go_wp2
    refine bodyPost_ret (v := .tuple #[.int .i64 op, .agg #[.int .i64 code, .int .i64 0, .string ⟨#[]⟩, (.slice none 0 0)], .int .i64 0]) ?_ rfl ⟨_, _, _, _, _, [], rfl, own_nil _ _ _, hbl, by rw [if_pos rfl]⟩
    rw [results_tct rfl]
    go_simp
  · have h1 : (en == 0) = false := by rw [beq_eq_false_iff_ne]; exact h0
    have HH0 := Lib.hid h0
    clear h0
    go_wp2
    have hbl := below_four HB9.out (Nat.le_refl _) (.int .i64 0) (.int .i64 0) (.string ⟨#[]⟩) (.slice none 0 0)
    refine bodyPost_ret (v := .tuple #[.int .i64 0, .agg #[.int .i64 0, .int .i64 0, .string ⟨#[]⟩, .slice none 0 0], .int .i64 en]) ?_ rfl ⟨_, _, _, _, _, [], rfl, own_nil _ _ _, hbl, by rw [if_neg HH0.out]⟩
    rw [results_tct rfl]
    go_simp

set_option maxRecDepth 100000 in
set_option maxHeartbeats 1000000 in
theorem rtold_1 (b : ByteArray) (hb : b.size ≤ 4611686018427387904) (op code : Int) (s1 : St) (hop : hdv b 82 = op) (hp : pNum b 999 13 (hd2 b 82) = (s1, code)) (hc : code = 0) (htl : tls op = (false, false, false)) (w : World) :
    Calls Try.prog 17 #[.string b] w fun x w' => TO 35 (pEnd b s1) op 0 0 ⟨#[]⟩ [] x w w' := by
  have hbu1 : ∀ W : World, (Instr.build 74 #[(0, .string b)]).run Try.prog W = .ok (.agg #[.string b, .int .i64 0, .int .i64 0]) W := fun W => run_build W _ _ _ (by kernel_rfl)
  have hbu2 : ∀ (W : World) (z : Int), (Instr.build 33 #[(0, .int .i64 z)]).run Try.prog W = .ok (.agg #[.int .i64 z, .int .i64 0, .string ⟨#[]⟩, .slice none 0 0]) W := fun W z => run_build W _ _ _ (by kernel_rfl)
  have hbu3 : ∀ W : World, (Instr.build 33 #[]).run Try.prog W = .ok (.agg #[.int .i64 0, .int .i64 0, .string ⟨#[]⟩, .slice none 0 0]) W := fun W => run_build W _ _ _ (by kernel_rfl)
  have C := Lib.hid (fun r W h => begun_calls 82 r b hb W h)
  have D := Lib.hid (fun r W h => rnumber_calls 999 (by decide) r b hb (hd2 b 82) W h)
  have TL := Lib.hid (fun W => tells_calls op W)
  rw [hop] at C
  rw [hp] at D
  subst hc
  rw [htl] at TL
  generalize hd2 b 82 = s0 at C D hp
  have E := Lib.hid (fun r W h => ended_calls r b hb s1 W h)
  generalize hen : pEnd b s1 = en at E ⊢
  clear hop hp hen htl
  go_enter Try.func17, Try.ntmps17
  go_wp2_with fail
  obtain ⟨W, hW, hz, hRd, hRp, hBl⟩ := prepT w b 74
  rw [hW]
  clear hW
  refine (C.out _ _ hRd).mono ?_
  rintro x w1 ⟨rfl, hs, hg1⟩
  have HS1 := Lib.hid hs
  have HRp1 := Lib.hid (hRp.of (grown_heap hg1 (by omega) (by omega)))
  have HBl1 := Lib.hid (grown_below hBl hg1 (by omega) (fun k h => by cases h; omega))
  have hsz : W.heap.size ≤ w1.heap.size := hg1.size
  clear hs hRp hBl hg1 hRd
  go_wp2_with fail
  refine (D.out _ _ HS1.out).mono ?_
  rintro x w2 ⟨rfl, hs, hg1⟩
  have HS2 := Lib.hid hs
  have HRp2 := Lib.hid (HRp1.out.of (grown_heap hg1 (by omega) (by omega)))
  have HBl2 := Lib.hid (grown_below HBl1.out hg1 (by omega) (fun k h => by cases h; omega))
  have hsz2 : W.heap.size ≤ w2.heap.size := Nat.le_trans hsz hg1.size
  clear hs hg1 HS1 HRp1 HBl1 hsz
  have HQ3 := Lib.hid (Rp.new w2 0 0 ⟨#[]⟩ (.slice none 0 0))
  have HS3 := Lib.hid (HS2.out.alloc (.cells #[.int .i64 0, .int .i64 0, .string ⟨#[]⟩, .slice none 0 0] 33))
  have HRp3 := Lib.hid (HRp2.out.alloc (.cells #[.int .i64 0, .int .i64 0, .string ⟨#[]⟩, .slice none 0 0] 33))
  have HBl3 := Lib.hid (HBl2.out.alloc (by omega) (.cells #[.int .i64 0, .int .i64 0, .string ⟨#[]⟩, .slice none 0 0] 33))
  have hQp : w2.heap.size ≠ w.heap.size := by omega
  have hQr : w2.heap.size ≠ w.heap.size + 1 := by omega
  have hQB : w.heap.size + 1 ≤ w2.heap.size := by omega
  go_upto_region 5 with fail
  obtain ⟨Q, hQ⟩ : ∃ Q, w2.heap.size = Q := ⟨_, rfl⟩
  generalize w2.alloc (.cells #[.int .i64 0, .int .i64 0, .string ⟨#[]⟩, .slice none 0 0] 33) = w3 at HQ3 HS3 HRp3 HBl3 ⊢
  rw [hQ] at HQ3 hQp hQr hQB ⊢
  clear hQ HS2 HRp2 HBl2 hsz2 hz
  go_wp2_with fail
  refine (TL.out _).mono ?_
  rintro x wt ⟨rfl, rfl⟩
  obtain ⟨we, hwe⟩ : ∃ we, wt = we := ⟨_, rfl⟩
  rw [hwe] at HS3 HQ3 HRp3 HBl3 ⊢
  clear hwe
  have HSe := HS3
  have HQe := HQ3
  have HRpe := HRp3
  have HBle := HBl3
  clear HS3 HQ3 HRp3 HBl3
  go_wp2_with fail
  refine (E.out _ _ HSe.out).mono ?_
  rintro x w9 ⟨rfl, hg9⟩
  have HP9 := Lib.hid (HRpe.out.of (grown_heap hg9 HRpe.out.lt (by omega)))
  have HQ9 := Lib.hid (HQe.out.of (grown_heap hg9 HQe.out.lt hQr))
  have HB9 := Lib.hid (grown_below HBle.out hg9 (by have := HRpe.out.lt; omega) (fun k h => by cases h; omega))
  obtain ⟨g0, g1, g2, g3, pf⟩ := HP9.out.cells
  obtain ⟨q0, q1, q2, q3, qf⟩ := HQ9.out.cells
  have f0 := pf 0
  have f1 := pf 1
  have f2 := pf 2
  have f3 := pf 3
  clear pf qf hg9
  by_cases h0 : en = 0
  · subst h0
    go_wp2
    go_region
    have hbl := below_four HB9.out.drew (Nat.le_refl _) (.int .i64 0) (.int .i64 0) (.string ⟨#[]⟩) (.slice none 0 0)
    go_wp2
    refine bodyPost_ret (v := .tuple #[.int .i64 op, .agg #[.int .i64 0, .int .i64 0, .string ⟨#[]⟩, (.slice none 0 0)], .int .i64 0]) ?_ rfl ⟨_, _, _, _, _, [], rfl, own_nil _ _ _, hbl, by rw [if_pos rfl]⟩
    rw [results_tct rfl]
    go_simp
  · have h1 : (en == 0) = false := by rw [beq_eq_false_iff_ne]; exact h0
    have HH0 := Lib.hid h0
    clear h0
    go_wp2
    have hbl := below_four HB9.out (Nat.le_refl _) (.int .i64 0) (.int .i64 0) (.string ⟨#[]⟩) (.slice none 0 0)
    refine bodyPost_ret (v := .tuple #[.int .i64 0, .agg #[.int .i64 0, .int .i64 0, .string ⟨#[]⟩, .slice none 0 0], .int .i64 en]) ?_ rfl ⟨_, _, _, _, _, [], rfl, own_nil _ _ _, hbl, by rw [if_neg HH0.out]⟩
    rw [results_tct rfl]
    go_simp

set_option maxRecDepth 100000 in
set_option maxHeartbeats 1000000 in
theorem rtold_3 (b : ByteArray) (hb : b.size ≤ 4611686018427387904) (op code : Int) (s1 : St) (hop : hdv b 82 = op) (hp : pNum b 999 13 (hd2 b 82) = (s1, code)) (hc : code = 0) (htl : tls op = (true, false, false)) (w : World) :
    Calls Try.prog 17 #[.string b] w fun x w' => TO 35 (pEnd b (pText b s1).1) op 0 0 (pText b s1).2 [] x w w' := by
  have hbu1 : ∀ W : World, (Instr.build 74 #[(0, .string b)]).run Try.prog W = .ok (.agg #[.string b, .int .i64 0, .int .i64 0]) W := fun W => run_build W _ _ _ (by kernel_rfl)
  have hbu2 : ∀ (W : World) (z : Int), (Instr.build 33 #[(0, .int .i64 z)]).run Try.prog W = .ok (.agg #[.int .i64 z, .int .i64 0, .string ⟨#[]⟩, .slice none 0 0]) W := fun W z => run_build W _ _ _ (by kernel_rfl)
  have hbu3 : ∀ W : World, (Instr.build 33 #[]).run Try.prog W = .ok (.agg #[.int .i64 0, .int .i64 0, .string ⟨#[]⟩, .slice none 0 0]) W := fun W => run_build W _ _ _ (by kernel_rfl)
  have C := Lib.hid (fun r W h => begun_calls 82 r b hb W h)
  have D := Lib.hid (fun r W h => rnumber_calls 999 (by decide) r b hb (hd2 b 82) W h)
  have TL := Lib.hid (fun W => tells_calls op W)
  rw [hop] at C
  rw [hp] at D
  subst hc
  rw [htl] at TL
  generalize hd2 b 82 = s0 at C D hp
  have F := Lib.hid (fun r W h => rtext_calls r b hb s1 W h)
  have E := Lib.hid (fun r W h => ended_calls r b hb (pText b s1).1 W h)
  obtain ⟨s4, x4, h4⟩ : ∃ s4 x4, pText b s1 = (s4, x4) := ⟨_, _, rfl⟩
  rw [h4] at E F ⊢
  simp only at E F ⊢
  clear h4
  generalize hen : pEnd b s4 = en at E ⊢
  clear hop hp hen htl
  go_enter Try.func17, Try.ntmps17
  go_wp2_with fail
  obtain ⟨W, hW, hz, hRd, hRp, hBl⟩ := prepT w b 74
  rw [hW]
  clear hW
  refine (C.out _ _ hRd).mono ?_
  rintro x w1 ⟨rfl, hs, hg1⟩
  have HS1 := Lib.hid hs
  have HRp1 := Lib.hid (hRp.of (grown_heap hg1 (by omega) (by omega)))
  have HBl1 := Lib.hid (grown_below hBl hg1 (by omega) (fun k h => by cases h; omega))
  have hsz : W.heap.size ≤ w1.heap.size := hg1.size
  clear hs hRp hBl hg1 hRd
  go_wp2_with fail
  refine (D.out _ _ HS1.out).mono ?_
  rintro x w2 ⟨rfl, hs, hg1⟩
  have HS2 := Lib.hid hs
  have HRp2 := Lib.hid (HRp1.out.of (grown_heap hg1 (by omega) (by omega)))
  have HBl2 := Lib.hid (grown_below HBl1.out hg1 (by omega) (fun k h => by cases h; omega))
  have hsz2 : W.heap.size ≤ w2.heap.size := Nat.le_trans hsz hg1.size
  clear hs hg1 HS1 HRp1 HBl1 hsz
  have HQ3 := Lib.hid (Rp.new w2 0 0 ⟨#[]⟩ (.slice none 0 0))
  have HS3 := Lib.hid (HS2.out.alloc (.cells #[.int .i64 0, .int .i64 0, .string ⟨#[]⟩, .slice none 0 0] 33))
  have HRp3 := Lib.hid (HRp2.out.alloc (.cells #[.int .i64 0, .int .i64 0, .string ⟨#[]⟩, .slice none 0 0] 33))
  have HBl3 := Lib.hid (HBl2.out.alloc (by omega) (.cells #[.int .i64 0, .int .i64 0, .string ⟨#[]⟩, .slice none 0 0] 33))
  have hQp : w2.heap.size ≠ w.heap.size := by omega
  have hQr : w2.heap.size ≠ w.heap.size + 1 := by omega
  have hQB : w.heap.size + 1 ≤ w2.heap.size := by omega
  go_upto_region 5 with fail
  obtain ⟨Q, hQ⟩ : ∃ Q, w2.heap.size = Q := ⟨_, rfl⟩
  generalize w2.alloc (.cells #[.int .i64 0, .int .i64 0, .string ⟨#[]⟩, .slice none 0 0] 33) = w3 at HQ3 HS3 HRp3 HBl3 ⊢
  rw [hQ] at HQ3 hQp hQr hQB ⊢
  clear hQ HS2 HRp2 HBl2 hsz2 hz
  go_wp2_with fail
  refine (TL.out _).mono ?_
  rintro x wt ⟨rfl, rfl⟩
  go_wp2_with fail
  refine (F.out _ _ HS3.out).mono ?_
  rintro x w5 ⟨rfl, hs, hg5⟩
  have hQ5 := HQ3.out.of (grown_heap hg5 HQ3.out.lt hQr)
  obtain ⟨c0, c1, c2, c3, cf⟩ := hQ5.cells
  have f2 := cf 2
  have HSe := Lib.hid (hs.set hQr 2 (.string x4))
  have HQe := Lib.hid (hQ5.set.2.1 x4)
  have HRpe := Lib.hid ((HRp3.out.of (grown_heap hg5 HRp3.out.lt (by omega))).of (Below.heap_setCell w5 ⟨Q, 2, none⟩ (.string x4) w.heap.size (fun e => hQp e.symm)))
  have HBle := Lib.hid ((grown_below HBl3.out hg5 (by have := HRp3.out.lt; omega) (fun k h => by cases h; omega)).setCell (p := ⟨Q, 2, none⟩) (by show w.heap.size ≤ Q; omega) (.string x4))
  clear cf hs hg5 hQ5 HS3 HQ3 HRp3 HBl3
  go_upto_region 12 with fail
  generalize w5.setCell ⟨Q, 2, none⟩ (.string x4) = we at *
  go_wp2_with fail
  refine (E.out _ _ HSe.out).mono ?_
  rintro x w9 ⟨rfl, hg9⟩
  have HP9 := Lib.hid (HRpe.out.of (grown_heap hg9 HRpe.out.lt (by omega)))
  have HQ9 := Lib.hid (HQe.out.of (grown_heap hg9 HQe.out.lt hQr))
  have HB9 := Lib.hid (grown_below HBle.out hg9 (by have := HRpe.out.lt; omega) (fun k h => by cases h; omega))
  obtain ⟨g0, g1, g2, g3, pf⟩ := HP9.out.cells
  obtain ⟨q0, q1, q2, q3, qf⟩ := HQ9.out.cells
  have f0 := pf 0
  have f1 := pf 1
  have f2 := pf 2
  have f3 := pf 3
  clear pf qf hg9
  by_cases h0 : en = 0
  · subst h0
    go_wp2
    go_region
    have hbl := below_four HB9.out.drew (Nat.le_refl _) (.int .i64 0) (.int .i64 0) (.string x4) (.slice none 0 0)
    go_wp2
    refine bodyPost_ret (v := .tuple #[.int .i64 op, .agg #[.int .i64 0, .int .i64 0, .string x4, (.slice none 0 0)], .int .i64 0]) ?_ rfl ⟨_, _, _, _, _, [], rfl, own_nil _ _ _, hbl, by rw [if_pos rfl]⟩
    rw [results_tct rfl]
    go_simp
  · have h1 : (en == 0) = false := by rw [beq_eq_false_iff_ne]; exact h0
    have HH0 := Lib.hid h0
    clear h0
    go_wp2
    have hbl := below_four HB9.out (Nat.le_refl _) (.int .i64 0) (.int .i64 0) (.string ⟨#[]⟩) (.slice none 0 0)
    refine bodyPost_ret (v := .tuple #[.int .i64 0, .agg #[.int .i64 0, .int .i64 0, .string ⟨#[]⟩, .slice none 0 0], .int .i64 en]) ?_ rfl ⟨_, _, _, _, _, [], rfl, own_nil _ _ _, hbl, by rw [if_neg HH0.out]⟩
    rw [results_tct rfl]
    go_simp

set_option maxRecDepth 100000 in
set_option maxHeartbeats 1000000 in
theorem rtold_6 (b : ByteArray) (hb : b.size ≤ 4611686018427387904) (op code : Int) (s1 : St) (hop : hdv b 82 = op) (hp : pNum b 999 13 (hd2 b 82) = (s1, code)) (hc : code = 0) (htl : tls op = (false, true, false)) (w : World) :
    Calls Try.prog 17 #[.string b] w fun x w' => TO 35 (pEnd b (pNum b 9223372036854775807 13 s1).1) op 0 (pNum b 9223372036854775807 13 s1).2 ⟨#[]⟩ [] x w w' := by
  have hbu1 : ∀ W : World, (Instr.build 74 #[(0, .string b)]).run Try.prog W = .ok (.agg #[.string b, .int .i64 0, .int .i64 0]) W := fun W => run_build W _ _ _ (by kernel_rfl)
  have hbu2 : ∀ (W : World) (z : Int), (Instr.build 33 #[(0, .int .i64 z)]).run Try.prog W = .ok (.agg #[.int .i64 z, .int .i64 0, .string ⟨#[]⟩, .slice none 0 0]) W := fun W z => run_build W _ _ _ (by kernel_rfl)
  have hbu3 : ∀ W : World, (Instr.build 33 #[]).run Try.prog W = .ok (.agg #[.int .i64 0, .int .i64 0, .string ⟨#[]⟩, .slice none 0 0]) W := fun W => run_build W _ _ _ (by kernel_rfl)
  have C := Lib.hid (fun r W h => begun_calls 82 r b hb W h)
  have D := Lib.hid (fun r W h => rnumber_calls 999 (by decide) r b hb (hd2 b 82) W h)
  have TL := Lib.hid (fun W => tells_calls op W)
  rw [hop] at C
  rw [hp] at D
  subst hc
  rw [htl] at TL
  generalize hd2 b 82 = s0 at C D hp
  have F := Lib.hid (fun r W h => rany_calls r b hb s1 W h)
  have E := Lib.hid (fun r W h => ended_calls r b hb (pNum b 9223372036854775807 13 s1).1 W h)
  obtain ⟨s4, x4, h4⟩ : ∃ s4 x4, pNum b 9223372036854775807 13 s1 = (s4, x4) := ⟨_, _, rfl⟩
  rw [h4] at E F ⊢
  simp only at E F ⊢
  clear h4
  generalize hen : pEnd b s4 = en at E ⊢
  clear hop hp hen htl
  go_enter Try.func17, Try.ntmps17
  go_wp2_with fail
  obtain ⟨W, hW, hz, hRd, hRp, hBl⟩ := prepT w b 74
  rw [hW]
  clear hW
  refine (C.out _ _ hRd).mono ?_
  rintro x w1 ⟨rfl, hs, hg1⟩
  have HS1 := Lib.hid hs
  have HRp1 := Lib.hid (hRp.of (grown_heap hg1 (by omega) (by omega)))
  have HBl1 := Lib.hid (grown_below hBl hg1 (by omega) (fun k h => by cases h; omega))
  have hsz : W.heap.size ≤ w1.heap.size := hg1.size
  clear hs hRp hBl hg1 hRd
  go_wp2_with fail
  refine (D.out _ _ HS1.out).mono ?_
  rintro x w2 ⟨rfl, hs, hg1⟩
  have HS2 := Lib.hid hs
  have HRp2 := Lib.hid (HRp1.out.of (grown_heap hg1 (by omega) (by omega)))
  have HBl2 := Lib.hid (grown_below HBl1.out hg1 (by omega) (fun k h => by cases h; omega))
  have hsz2 : W.heap.size ≤ w2.heap.size := Nat.le_trans hsz hg1.size
  clear hs hg1 HS1 HRp1 HBl1 hsz
  have HQ3 := Lib.hid (Rp.new w2 0 0 ⟨#[]⟩ (.slice none 0 0))
  have HS3 := Lib.hid (HS2.out.alloc (.cells #[.int .i64 0, .int .i64 0, .string ⟨#[]⟩, .slice none 0 0] 33))
  have HRp3 := Lib.hid (HRp2.out.alloc (.cells #[.int .i64 0, .int .i64 0, .string ⟨#[]⟩, .slice none 0 0] 33))
  have HBl3 := Lib.hid (HBl2.out.alloc (by omega) (.cells #[.int .i64 0, .int .i64 0, .string ⟨#[]⟩, .slice none 0 0] 33))
  have hQp : w2.heap.size ≠ w.heap.size := by omega
  have hQr : w2.heap.size ≠ w.heap.size + 1 := by omega
  have hQB : w.heap.size + 1 ≤ w2.heap.size := by omega
  go_upto_region 5 with fail
  obtain ⟨Q, hQ⟩ : ∃ Q, w2.heap.size = Q := ⟨_, rfl⟩
  generalize w2.alloc (.cells #[.int .i64 0, .int .i64 0, .string ⟨#[]⟩, .slice none 0 0] 33) = w3 at HQ3 HS3 HRp3 HBl3 ⊢
  rw [hQ] at HQ3 hQp hQr hQB ⊢
  clear hQ HS2 HRp2 HBl2 hsz2 hz
  go_wp2_with fail
  refine (TL.out _).mono ?_
  rintro x wt ⟨rfl, rfl⟩
  go_wp2_with fail
  refine (F.out _ _ HS3.out).mono ?_
  rintro x w5 ⟨rfl, hs, hg5⟩
  have hQ5 := HQ3.out.of (grown_heap hg5 HQ3.out.lt hQr)
  obtain ⟨c0, c1, c2, c3, cf⟩ := hQ5.cells
  have f1 := cf 1
  have HSe := Lib.hid (hs.set hQr 1 (.int .i64 x4))
  have HQe := Lib.hid (hQ5.set.1 x4)
  have HRpe := Lib.hid ((HRp3.out.of (grown_heap hg5 HRp3.out.lt (by omega))).of (Below.heap_setCell w5 ⟨Q, 1, none⟩ (.int .i64 x4) w.heap.size (fun e => hQp e.symm)))
  have HBle := Lib.hid ((grown_below HBl3.out hg5 (by have := HRp3.out.lt; omega) (fun k h => by cases h; omega)).setCell (p := ⟨Q, 1, none⟩) (by show w.heap.size ≤ Q; omega) (.int .i64 x4))
  clear cf hs hg5 hQ5 HS3 HQ3 HRp3 HBl3
  go_upto_region 12 with fail
  generalize w5.setCell ⟨Q, 1, none⟩ (.int .i64 x4) = we at *
  go_wp2_with fail
  refine (E.out _ _ HSe.out).mono ?_
  rintro x w9 ⟨rfl, hg9⟩
  have HP9 := Lib.hid (HRpe.out.of (grown_heap hg9 HRpe.out.lt (by omega)))
  have HQ9 := Lib.hid (HQe.out.of (grown_heap hg9 HQe.out.lt hQr))
  have HB9 := Lib.hid (grown_below HBle.out hg9 (by have := HRpe.out.lt; omega) (fun k h => by cases h; omega))
  obtain ⟨g0, g1, g2, g3, pf⟩ := HP9.out.cells
  obtain ⟨q0, q1, q2, q3, qf⟩ := HQ9.out.cells
  have f0 := pf 0
  have f1 := pf 1
  have f2 := pf 2
  have f3 := pf 3
  clear pf qf hg9
  by_cases h0 : en = 0
  · subst h0
    go_wp2
    go_region
    have hbl := below_four HB9.out.drew (Nat.le_refl _) (.int .i64 0) (.int .i64 x4) (.string ⟨#[]⟩) (.slice none 0 0)
    go_wp2
    refine bodyPost_ret (v := .tuple #[.int .i64 op, .agg #[.int .i64 0, .int .i64 x4, .string ⟨#[]⟩, (.slice none 0 0)], .int .i64 0]) ?_ rfl ⟨_, _, _, _, _, [], rfl, own_nil _ _ _, hbl, by rw [if_pos rfl]⟩
    rw [results_tct rfl]
    go_simp
  · have h1 : (en == 0) = false := by rw [beq_eq_false_iff_ne]; exact h0
    have HH0 := Lib.hid h0
    clear h0
    go_wp2
    have hbl := below_four HB9.out (Nat.le_refl _) (.int .i64 0) (.int .i64 0) (.string ⟨#[]⟩) (.slice none 0 0)
    refine bodyPost_ret (v := .tuple #[.int .i64 0, .agg #[.int .i64 0, .int .i64 0, .string ⟨#[]⟩, .slice none 0 0], .int .i64 en]) ?_ rfl ⟨_, _, _, _, _, [], rfl, own_nil _ _ _, hbl, by rw [if_neg HH0.out]⟩
    rw [results_tct rfl]
    go_simp

set_option maxRecDepth 100000 in
set_option maxHeartbeats 1000000 in
theorem rtold_4 (b : ByteArray) (hb : b.size ≤ 4611686018427387904) (op code : Int) (s1 : St) (hop : hdv b 82 = op) (hp : pNum b 999 13 (hd2 b 82) = (s1, code)) (hc : code = 0) (htl : tls op = (false, false, true)) (w : World) :
    Calls Try.prog 17 #[.string b] w fun x w' => TO 35 (pEnd b (pHits b s1).1) op 0 0 ⟨#[]⟩ (pHits b s1).2 x w w' := by
  have hbu1 : ∀ W : World, (Instr.build 74 #[(0, .string b)]).run Try.prog W = .ok (.agg #[.string b, .int .i64 0, .int .i64 0]) W := fun W => run_build W _ _ _ (by kernel_rfl)
  have hbu2 : ∀ (W : World) (z : Int), (Instr.build 33 #[(0, .int .i64 z)]).run Try.prog W = .ok (.agg #[.int .i64 z, .int .i64 0, .string ⟨#[]⟩, .slice none 0 0]) W := fun W z => run_build W _ _ _ (by kernel_rfl)
  have hbu3 : ∀ W : World, (Instr.build 33 #[]).run Try.prog W = .ok (.agg #[.int .i64 0, .int .i64 0, .string ⟨#[]⟩, .slice none 0 0]) W := fun W => run_build W _ _ _ (by kernel_rfl)
  have C := Lib.hid (fun r W h => begun_calls 82 r b hb W h)
  have D := Lib.hid (fun r W h => rnumber_calls 999 (by decide) r b hb (hd2 b 82) W h)
  have TL := Lib.hid (fun W => tells_calls op W)
  rw [hop] at C
  rw [hp] at D
  subst hc
  rw [htl] at TL
  generalize hd2 b 82 = s0 at C D hp
  have F := Lib.hid (fun r W h => rhits_calls r b hb s1 W h)
  have E := Lib.hid (fun r W h => ended_calls r b hb (pHits b s1).1 W h)
  obtain ⟨s4, x4, h4⟩ : ∃ s4 x4, pHits b s1 = (s4, x4) := ⟨_, _, rfl⟩
  rw [h4] at E F ⊢
  simp only at E F ⊢
  clear h4
  generalize hen : pEnd b s4 = en at E ⊢
  clear hop hp hen htl
  go_enter Try.func17, Try.ntmps17
  go_wp2_with fail
  obtain ⟨W, hW, hz, hRd, hRp, hBl⟩ := prepT w b 74
  rw [hW]
  clear hW
  refine (C.out _ _ hRd).mono ?_
  rintro x w1 ⟨rfl, hs, hg1⟩
  have HS1 := Lib.hid hs
  have HRp1 := Lib.hid (hRp.of (grown_heap hg1 (by omega) (by omega)))
  have HBl1 := Lib.hid (grown_below hBl hg1 (by omega) (fun k h => by cases h; omega))
  have hsz : W.heap.size ≤ w1.heap.size := hg1.size
  clear hs hRp hBl hg1 hRd
  go_wp2_with fail
  refine (D.out _ _ HS1.out).mono ?_
  rintro x w2 ⟨rfl, hs, hg1⟩
  have HS2 := Lib.hid hs
  have HRp2 := Lib.hid (HRp1.out.of (grown_heap hg1 (by omega) (by omega)))
  have HBl2 := Lib.hid (grown_below HBl1.out hg1 (by omega) (fun k h => by cases h; omega))
  have hsz2 : W.heap.size ≤ w2.heap.size := Nat.le_trans hsz hg1.size
  clear hs hg1 HS1 HRp1 HBl1 hsz
  have HQ3 := Lib.hid (Rp.new w2 0 0 ⟨#[]⟩ (.slice none 0 0))
  have HS3 := Lib.hid (HS2.out.alloc (.cells #[.int .i64 0, .int .i64 0, .string ⟨#[]⟩, .slice none 0 0] 33))
  have HRp3 := Lib.hid (HRp2.out.alloc (.cells #[.int .i64 0, .int .i64 0, .string ⟨#[]⟩, .slice none 0 0] 33))
  have HBl3 := Lib.hid (HBl2.out.alloc (by omega) (.cells #[.int .i64 0, .int .i64 0, .string ⟨#[]⟩, .slice none 0 0] 33))
  have hQp : w2.heap.size ≠ w.heap.size := by omega
  have hQr : w2.heap.size ≠ w.heap.size + 1 := by omega
  have hQB : w.heap.size + 1 ≤ w2.heap.size := by omega
  go_upto_region 5 with fail
  obtain ⟨Q, hQ⟩ : ∃ Q, w2.heap.size = Q := ⟨_, rfl⟩
  generalize w2.alloc (.cells #[.int .i64 0, .int .i64 0, .string ⟨#[]⟩, .slice none 0 0] 33) = w3 at HQ3 HS3 HRp3 HBl3 ⊢
  rw [hQ] at HQ3 hQp hQr hQB ⊢
  clear hQ HS2 HRp2 HBl2 hsz2 hz
  go_wp2_with fail
  refine (TL.out _).mono ?_
  rintro x wt ⟨rfl, rfl⟩
  go_wp2_with fail
  refine (F.out _ _ HS3.out).mono ?_
  rintro x w5 ⟨v5, rfl, ho, hs, hg5⟩
  have hvr : v5.ownBlock ≠ some (w.heap.size + 1) := fun e => by have := (ho.lt _ e).1; have := HS3.out.lt; omega
  have hvq : v5.ownBlock ≠ some Q := fun e => by have := (ho.lt _ e).1; have := HQ3.out.lt; omega
  have hvw : v5.ownBlock ≠ some w.heap.size := fun e => by have := (ho.lt _ e).1; have := HRp3.out.lt; omega
  have HO5 := Lib.hid (own_set3 (own_le ho (show w.heap.size ≤ wt.heap.size by have := HRp3.out.lt; omega)) (j := 3) hvq v5)
  have hQ5 := HQ3.out.of (grown_heap hg5 HQ3.out.lt hQr)
  obtain ⟨c0, c1, c2, c3, cf⟩ := hQ5.cells
  have f3 := cf 3
  have HSe := Lib.hid (hs.set hQr 3 v5)
  have HQe := Lib.hid (hQ5.set.2.2 v5)
  have HRpe := Lib.hid ((HRp3.out.of (grown_heap hg5 HRp3.out.lt (by omega))).of (Below.heap_setCell w5 ⟨Q, 3, none⟩ v5 w.heap.size (fun e => hQp e.symm)))
  have HBle := Lib.hid ((grown_below HBl3.out hg5 (by have := HRp3.out.lt; omega) (fun k h => by cases h; omega)).setCell (p := ⟨Q, 3, none⟩) (by show w.heap.size ≤ Q; omega) v5)
  clear cf hs hg5 hQ5 HS3 HQ3 HRp3 HBl3
  obtain ⟨p5, cap5, rfl, _⟩ := own_rd ho
  clear ho
  go_upto_region 12 with fail
  generalize w5.setCell ⟨Q, 3, none⟩ (.slice p5 x4.length cap5) = we at *
  go_wp2_with fail
  refine (E.out _ _ HSe.out).mono ?_
  rintro x w9 ⟨rfl, hg9⟩
  have HP9 := Lib.hid (HRpe.out.of (grown_heap hg9 HRpe.out.lt (by omega)))
  have HQ9 := Lib.hid (HQe.out.of (grown_heap hg9 HQe.out.lt hQr))
  have HB9 := Lib.hid (grown_below HBle.out hg9 (by have := HRpe.out.lt; omega) (fun k h => by cases h; omega))
  have OW := Lib.hid (own_grown HO5.out hg9 (fun g hg e => hvr (by cases e; exact hg)))
  obtain ⟨g0, g1, g2, g3, pf⟩ := HP9.out.cells
  obtain ⟨q0, q1, q2, q3, qf⟩ := HQ9.out.cells
  have f0 := pf 0
  have f1 := pf 1
  have f2 := pf 2
  have f3 := pf 3
  clear pf qf hg9
  by_cases h0 : en = 0
  · subst h0
    go_wp2
    go_region
    have hbl := below_four HB9.out.drew (Nat.le_refl _) (.int .i64 0) (.int .i64 0) (.string ⟨#[]⟩) (.slice p5 x4.length cap5)
    have how := own_four (w := w9.drew) OW.out hvw (.int .i64 0) (.int .i64 0) (.string ⟨#[]⟩) (.slice p5 x4.length cap5)
    go_wp2
    refine bodyPost_ret (v := .tuple #[.int .i64 op, .agg #[.int .i64 0, .int .i64 0, .string ⟨#[]⟩, (.slice p5 x4.length cap5)], .int .i64 0]) ?_ rfl ⟨_, _, _, _, _, _, rfl, how, hbl, by rw [if_pos rfl]⟩
    rw [results_tct rfl]
    go_simp
  · have h1 : (en == 0) = false := by rw [beq_eq_false_iff_ne]; exact h0
    have HH0 := Lib.hid h0
    clear h0
    go_wp2
    have hbl := below_four HB9.out (Nat.le_refl _) (.int .i64 0) (.int .i64 0) (.string ⟨#[]⟩) (.slice none 0 0)
    refine bodyPost_ret (v := .tuple #[.int .i64 0, .agg #[.int .i64 0, .int .i64 0, .string ⟨#[]⟩, .slice none 0 0], .int .i64 en]) ?_ rfl ⟨_, _, _, _, _, [], rfl, own_nil _ _ _, hbl, by rw [if_neg HH0.out]⟩
    rw [results_tct rfl]
    go_simp

end Go.Proofs.Ytabhjkaheghbhaa
