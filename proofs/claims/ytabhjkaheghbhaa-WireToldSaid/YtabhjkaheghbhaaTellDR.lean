/-
  WALK: the document's Tell, in one. (Printed by telldr.py.)
-/
import Derived.Test.YtabhjkaheghbhaaTellDW
namespace Go.Proofs.Ytabhjkaheghbhaa
open Go.RowKit
set_option linter.unusedVariables false

set_option maxRecDepth 100000 in
theorem telld_e1 (op code n : Int) (t : ByteArray) (p : Option Addr) (cap : Nat) (z : List Hv) (e : Int) (hf : fitsE op code n t z.length = e) (he : e ≠ 0) (w : World) (hz : HL w p z) :
    Calls Try.prog 14 #[.int .i64 op, .agg #[.int .i64 code, .int .i64 n, .string t, .slice p z.length cap]] w fun x w' => x = .returned (.tuple #[.string ⟨#[]⟩, .int .i64 e]) ∧ Below w.heap.size w w' := by
  have FI := Lib.hid (fun W => fits_calls op code n t p z.length cap W)
  rw [hf] at FI
  have he1 : (e == 0) = false := by rw [beq_eq_false_iff_ne]; exact he
  clear hf he
  have HZ := Lib.hid hz
  have HB0 := Lib.hid ((Below.refl w.heap.size w).alloc (Nat.le_refl _) (.cells #[.int .i64 code, .int .i64 n, .string t, .slice p z.length cap] 33))
  have HQ0 := Lib.hid (Rp.new w code n t (.slice p z.length cap))
  go_enter Try.func14, Try.ntmps14
  go_upto_region 1 with fail
  generalize w.alloc (.cells #[.int .i64 code, .int .i64 n, .string t, .slice p z.length cap] 33) = w1 at HB0 HQ0 ⊢
  obtain ⟨q0, q1, q2, q3, qf⟩ := HQ0.out.cells
  clear qf
  go_wp2_with fail
  refine (FI.out _).mono ?_
  rintro _ w2 ⟨rfl, k2⟩
  have HQ2 := Lib.hid (HQ0.out.of (k2.block _ HQ0.out.lt))
  have HB2 := Lib.hid (HB0.out.trans (k2.mono HB0.out.size))
  clear k2 q0 q1 q2 q3 HQ0 HB0
  go_wp2
  go_ret2
  exact ⟨rfl, HB2.out⟩
set_option maxRecDepth 100000 in
theorem telld_e2 (op code n : Int) (t : ByteArray) (p : Option Addr) (cap : Nat) (z : List Hv) (hzl : z.length ≤ 4611686018427387904) (hf : fitsE op code n t z.length = 0) (e : Int) (hg : goesE z = e) (he : e ≠ 0) (w : World) (hz : HL w p z) :
    Calls Try.prog 14 #[.int .i64 op, .agg #[.int .i64 code, .int .i64 n, .string t, .slice p z.length cap]] w fun x w' => x = .returned (.tuple #[.string ⟨#[]⟩, .int .i64 e]) ∧ Below w.heap.size w w' := by
  have FI := Lib.hid (fun W => fits_calls op code n t p z.length cap W)
  have GO := Lib.hid (fun W h => goes_calls p cap z hzl W h)
  rw [hf] at FI
  rw [hg] at GO
  have he1 : (e == 0) = false := by rw [beq_eq_false_iff_ne]; exact he
  clear hf hg he
  have HZ := Lib.hid hz
  have HB0 := Lib.hid ((Below.refl w.heap.size w).alloc (Nat.le_refl _) (.cells #[.int .i64 code, .int .i64 n, .string t, .slice p z.length cap] 33))
  have HQ0 := Lib.hid (Rp.new w code n t (.slice p z.length cap))
  go_enter Try.func14, Try.ntmps14
  go_upto_region 1 with fail
  generalize w.alloc (.cells #[.int .i64 code, .int .i64 n, .string t, .slice p z.length cap] 33) = w1 at HB0 HQ0 ⊢
  obtain ⟨q0, q1, q2, q3, qf⟩ := HQ0.out.cells
  clear qf
  go_wp2_with fail
  refine (FI.out _).mono ?_
  rintro _ w2 ⟨rfl, k2⟩
  have HQ2 := Lib.hid (HQ0.out.of (k2.block _ HQ0.out.lt))
  have HB2 := Lib.hid (HB0.out.trans (k2.mono HB0.out.size))
  clear k2 q0 q1 q2 q3 HQ0 HB0
  obtain ⟨q0, q1, q2, q3, qf⟩ := HQ2.out.cells
  clear qf
  go_wp2_with fail
  refine (GO.out _ (HZ.out.below HB2.out)).mono ?_
  rintro _ w3 ⟨rfl, k3⟩
  have HQ3 := Lib.hid (HQ2.out.of (k3.block _ HQ2.out.lt))
  have HB3 := Lib.hid (HB2.out.trans (k3.mono HB2.out.size))
  clear k3 q0 q1 q2 q3 HQ2 HB2
  go_wp2
  go_ret2
  exact ⟨rfl, HB3.out⟩
set_option maxRecDepth 100000 in
set_option maxHeartbeats 1000000 in
theorem telld_code (op code n : Int) (t : ByteArray) (p : Option Addr) (cap : Nat) (z : List Hv) (hop : 1 ≤ op ∧ op ≤ 9) (hzl : z.length ≤ 4611686018427387904) (hf : fitsE op code n t z.length = 0) (hg : goesE z = 0) (hc : code ≠ 0) (w : World) (hz : HL w p z) :
    Calls Try.prog 14 #[.int .i64 op, .agg #[.int .i64 code, .int .i64 n, .string t, .slice p z.length cap]] w fun x w' => x = .returned (.tuple #[.string ⟨([82, UInt8.ofNat op.toNat] ++ vNum code).toArray⟩, .int .i64 0]) ∧ Below w.heap.size w w' := by
  obtain ⟨i0, hi, hz0, hz1, hz2⟩ := info_parts u8info'
  have FI := Lib.hid (fun W => fits_calls op code n t p z.length cap W)
  have GO := Lib.hid (fun W h => goes_calls p cap z hzl W h)
  rw [hf] at FI
  rw [hg] at GO
  have RN := Lib.hid (fun x W => rnum_calls x W)
  have hwo : IntKind.u8.wrap op = op := by rw [IntKind.wrap_u8]; omega
  have HLN := Lib.hid (vNum_len code)
  have hcb : (code == 0) = false := by rw [beq_eq_false_iff_ne]; exact hc
  have hv : (#[.int .u8 82, .int .u8 op] : Array Value).toList = Lib.byteCells [82, UInt8.ofNat op.toNat] := by
    have hto : ((UInt8.ofNat op.toNat).toNat : Int) = op := by rw [u8ofNat_toNat _ (by omega)]; omega
    simp only [Lib.byteCells, List.map_cons, List.map_nil, hto]
    rfl
  have HV := Lib.hid hv
  have TS := Lib.hid (fun (W : World) (v : Value) (l : List UInt8) (h : W.ownsRow w.heap.size 5 1 v l.length (Lib.byteCells l)) => own_toStr (P := Try.prog) 83 9 5 Try.underlying83 Try.underlying5 Try.underlying9 (show W.ownsRow w.heap.size 5 1 v l.length (l.map by8) from h))
  obtain ⟨res, hres⟩ : ∃ res : ByteArray, ⟨([82, UInt8.ofNat op.toNat] ++ vNum code).toArray⟩ = res := ⟨_, rfl⟩
  rw [hres]
  have HRES := Lib.hid hres
  clear hres hv hf hg hc
  have HZ := Lib.hid hz
  have HB0 := Lib.hid ((Below.refl w.heap.size w).alloc (Nat.le_refl _) (.cells #[.int .i64 code, .int .i64 n, .string t, .slice p z.length cap] 33))
  have HQ0 := Lib.hid (Rp.new w code n t (.slice p z.length cap))
  go_enter Try.func14, Try.ntmps14
  go_upto_region 1 with fail
  generalize w.alloc (.cells #[.int .i64 code, .int .i64 n, .string t, .slice p z.length cap] 33) = w1 at HB0 HQ0 ⊢
  obtain ⟨q0, q1, q2, q3, qf⟩ := HQ0.out.cells
  clear qf
  go_wp2_with fail
  refine (FI.out _).mono ?_
  rintro _ w2 ⟨rfl, k2⟩
  have HQ2 := Lib.hid (HQ0.out.of (k2.block _ HQ0.out.lt))
  have HB2 := Lib.hid (HB0.out.trans (k2.mono HB0.out.size))
  clear k2 q0 q1 q2 q3 HQ0 HB0
  obtain ⟨q0, q1, q2, q3, qf⟩ := HQ2.out.cells
  clear qf
  go_wp2_with fail
  refine (GO.out _ (HZ.out.below HB2.out)).mono ?_
  rintro _ w3 ⟨rfl, k3⟩
  have HQ3 := Lib.hid (HQ2.out.of (k3.block _ HQ2.out.lt))
  have HB3 := Lib.hid (HB2.out.trans (k3.mono HB2.out.size))
  clear k3 q0 q1 q2 q3 HQ2 HB2
  go_upto_region 8 with fail
  have G0 : Hid (Bf w (w3.alloc (.cells #[.int .u8 82, .int .u8 op] 5)) w.heap.size w.heap.size (.slice (some ⟨w3.heap.size, 0, none⟩) 2 2) [82, UInt8.ofNat op.toNat] code n t (.slice p z.length cap)) := Lib.hid ⟨by
    rw [← HV.out]
    exact World.ownsRow_lit (base := w.heap.size) (e := 5) (size := 1) w3 #[.int .u8 82, .int .u8 op] 2 HB3.out.size (by decide) rfl, HQ3.out.alloc _, HB3.out.alloc HB3.out.size _, by rw [World.size_alloc]; have := HB3.out.size; omega⟩
  generalize w3.alloc (.cells #[.int .u8 82, .int .u8 op] 5) = w4 at G0 ⊢
  generalize w3.heap.size = gb at G0 ⊢
  clear HQ3 HB3 HV
  obtain ⟨q0, q1, q2, q3, qf⟩ := G0.out.box.cells
  clear qf
  go_wp2_with fail
  refine (RN.out code _).mono ?_
  rintro _ y1 ⟨rfl, k1⟩
  have F1 := Lib.hid (G0.out.below k1)
  clear k1
  go_wp2_with (at_builtin; refine Lib.wpList_append_own_string _ rfl _ _ 83 9 rfl w.heap.size 5 i0 Try.underlying83 Try.underlying9 hi hz0 hz1 hz2 _ _ _ rfl F1.out.own ⟨(vNum code).toArray⟩ rfl ?c3 ?c4 ?c5 ?_)
  case c3 => rw [str_size]; unfold maxLen; have := HLN.out; simp only [List.length_cons, List.length_nil]; omega
  case c4 => rw [str_size]; have := HLN.out; simp only [List.length_cons, List.length_nil]; omega
  case c5 => exact F1.out.big
  intro b1 z1 hown hgrow _
  have G1 := Lib.hid (F1.out.grown (l' := vNum code) hgrow (by first | rfl | (simp only [List.length_cons, List.length_nil]; done)) hown)
  clear hown hgrow F1 q0 q1 q2 q3
  obtain ⟨q0, q1, q2, q3, qf⟩ := G1.out.box.cells
  have hts := TS.out _ _ _ G1.out.own
  rw [HRES.out] at hts
  have HBz := Lib.hid G1.out.bel
  clear qf G1
  go_wp2
  go_ret2
  exact ⟨rfl, HBz.out⟩

theorem rTell_calls (op code n : Int) (t : ByteArray) (p : Option Addr) (cap : Nat) (z : List Hv) (ht : t.size ≤ 140737488351232) (hzl : z.length ≤ 4611686018427387904) (hc : ∀ x ∈ z, x.c.size ≤ 140737488351232) (hlen : t.size + (hitsB z).length + 128 ≤ 140737488355328) (w : World) (hz : HL w p z) :
    Calls Try.prog 14 #[.int .i64 op, .agg #[.int .i64 code, .int .i64 n, .string t, .slice p z.length cap]] w fun x w' => x = .returned (.tuple #[.string ⟨(tellOut op code n t z).1.toArray⟩, .int .i64 (tellOut op code n t z).2]) ∧ Below w.heap.size w w' := by
  rw [← rTell_eq]
  unfold rTellOut
  by_cases hf : fitsE op code n t z.length = 0
  · rw [if_neg (fun h => h hf)]
    by_cases hg : goesE z = 0
    · rw [if_neg (fun h => h hg)]
      have hop : 1 ≤ op ∧ op ≤ 9 := by
        by_cases h : 1 ≤ op ∧ op ≤ 9
        · exact h
        · unfold fitsE at hf; rw [if_pos h] at hf; cases hf
      have hz6 : z.length ≤ 65536 := by
        rcases Nat.lt_or_ge 65536 z.length with h | h
        · unfold goesE at hg; rw [if_pos h] at hg; cases hg
        · exact h
      by_cases hc0 : code = 0
      · subst hc0
        rw [if_pos rfl]
        have hk : tls op = (false, false, false) ∨ tls op = (true, false, false) ∨ tls op = (false, true, false) ∨ tls op = (false, false, true) := by
          have hc9 : op = 1 ∨ op = 2 ∨ op = 3 ∨ op = 4 ∨ op = 5 ∨ op = 6 ∨ op = 7 ∨ op = 8 ∨ op = 9 := by omega
          rcases hc9 with rfl | rfl | rfl | rfl | rfl | rfl | rfl | rfl | rfl <;> decide
        rcases hk with h | h | h | h
        · have K := telld_s op hop h n t ht p cap z hz6 hc hlen hf hg w hz
          rw [h]
          simpa using K
        · have K := telld_t op hop h n t ht p cap z hz6 hc hlen hf hg w hz
          rw [h]
          simpa using K
        · have K := telld_n op hop h n t ht p cap z hz6 hc hlen hf hg w hz
          rw [h]
          simpa using K
        · have K := telld_h op hop h n t ht p cap z hz6 hc hlen hf hg w hz
          rw [h]
          simpa using K
      · rw [if_neg hc0, List.append_nil]
        exact telld_code op code n t p cap z hop hzl hf hg hc0 w hz
    · rw [if_pos hg]
      exact telld_e2 op code n t p cap z hzl hf _ rfl hg w hz
  · rw [if_pos hf]
    exact telld_e1 op code n t p cap z _ rfl hf w hz
end Go.Proofs.Ytabhjkaheghbhaa
