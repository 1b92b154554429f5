/-
  WALKS: the document's Tell, one walk per kind of operation. (Printed by telldgen.py.)
-/
import Derived.Test.YtabhjkaheghbhaaTellEq
namespace Go.Proofs.Ytabhjkaheghbhaa
open Go.RowKit
set_option linter.unusedVariables false

theorem own_neT {w : World} {B : Nat} {v : Value} {m q : Nat} {xs : List Value} {cs : Array Value} {T : TypeId} {fr : Nat × Nat} (h : w.ownsRow B 5 1 v m xs) (hq : w.heap[q]? = some (.cells cs T fr)) (hT : T ≠ 5) : v.ownBlock ≠ some q := by
  rcases h.2 with ⟨rfl, _⟩ | ⟨g, c, cur, rfl, hbg, hg, rest⟩
  · simp [Value.ownBlock]
  · intro e
    simp [Value.ownBlock] at e
    subst e
    rw [hq] at hg
    simp at hg
    exact hT hg.2.1
/-- The bytes that are being made: an own row; the reply's box is as it was. -/
structure Bf (w W : World) (g0 Q : Nat) (v : Value) (l : List UInt8) (code n : Int) (t : ByteArray) (sl : Value) : Prop where
  own : W.ownsRow g0 5 1 v l.length (Lib.byteCells l)
  box : Rp W Q code n t sl
  bel : Below g0 w W
  big : g0 ≤ W.heap.size
theorem Bf.below {w W W' : World} {g0 Q : Nat} {v : Value} {l : List UInt8} {code n : Int} {t : ByteArray} {sl : Value} (h : Bf w W g0 Q v l code n t sl) (k : Below W.heap.size W W') : Bf w W' g0 Q v l code n t sl :=
  ⟨own_belowAll h.own k, h.box.of (k.block _ h.box.lt), h.bel.trans (k.mono h.big), Nat.le_trans h.big k.size⟩
theorem Bf.grown {w W W' : World} {g0 Q : Nat} {v v' : Value} {l l' : List UInt8} {code n : Int} {t : ByteArray} {sl : Value} (h : Bf w W g0 Q v l code n t sl) (hg : W.grownBy W' v.ownBlock) {m : Nat} (hm : m = l.length + l'.length) (ho : W'.ownsRow g0 5 1 v' m (Lib.byteCells l ++ Lib.byteCells l')) : Bf w W' g0 Q v' (l ++ l') code n t sl := by
  refine ⟨?_, h.box.of (hg.block _ h.box.lt (fun e => own_neT h.own h.box (by decide) e.symm)), h.bel.grown hg h.big (fun k hk => (h.own.lt k hk).1), Nat.le_trans h.big hg.size⟩
  subst hm
  rw [List.length_append, Lib.byteCells_append]
  exact ho

set_option maxRecDepth 100000 in
set_option maxHeartbeats 2000000 in
theorem telld_s (op : Int) (hop : 1 ≤ op ∧ op ≤ 9) (hk : tls op = (false, false, false)) (n : Int) (t : ByteArray) (ht : t.size ≤ 140737488351232) (p : Option Addr) (cap : Nat) (z : List Hv) (hzl : z.length ≤ 65536) (hc : ∀ x ∈ z, x.c.size ≤ 140737488351232) (hlen : t.size + (hitsB z).length + 128 ≤ 140737488355328) (hf : fitsE op 0 n t z.length = 0) (hg : goesE z = 0) (w : World) (hz : HL w p z) :
    Calls Try.prog 14 #[.int .i64 op, .agg #[.int .i64 0, .int .i64 n, .string t, .slice p z.length cap]] w fun x w' => x = .returned (.tuple #[.string ⟨(([82, UInt8.ofNat op.toNat] ++ vNum 0) ++ hitsB z).toArray⟩, .int .i64 0]) ∧ Below w.heap.size w w' := by
  obtain ⟨i0, hi, hz0, hz1, hz2⟩ := info_parts u8info'
  have FI := Lib.hid (fun W => fits_calls op 0 n t p z.length cap W)
  have GO := Lib.hid (fun W h => goes_calls p cap z (by omega) W h)
  have TE := Lib.hid (fun W => tells_calls op W)
  rw [hf] at FI
  rw [hg] at GO
  rw [hk] at TE
  have RN := Lib.hid (fun x W => rnum_calls x W)
  have RT := Lib.hid (fun W => rtxt_calls t ht W)
  have RX := Lib.hid (fun (x : Hv) (hx : x.c.size ≤ 140737488351232) W => rtxt_calls x.c hx W)
  have HC := Lib.hid hc
  have HZ := Lib.hid hz
  have HLE := Lib.hid hlen
  have hwo : IntKind.u8.wrap op = op := by rw [IntKind.wrap_u8]; omega
  have hln : ∀ e : Int, (vNum e).length ≤ 10 := vNum_len
  have HLN := Lib.hid hln
  have hv : (#[.int .u8 82, .int .u8 op] : Array Value).toList = Lib.byteCells [82, UInt8.ofNat op.toNat] := by
    have hto : ((UInt8.ofNat op.toNat).toNat : Int) = op := by rw [u8ofNat_toNat _ (by omega)]; omega
    simp only [Lib.byteCells, List.map_cons, List.map_nil, hto]
    rfl
  have HV := Lib.hid hv
  have TS := Lib.hid (fun (W : World) (v : Value) (l : List UInt8) (h : W.ownsRow w.heap.size 5 1 v l.length (Lib.byteCells l)) => own_toStr (P := Try.prog) 83 9 5 Try.underlying83 Try.underlying5 Try.underlying9 (show W.ownsRow w.heap.size 5 1 v l.length (l.map by8) from h))
  obtain ⟨res, hres⟩ : ∃ res : ByteArray, ⟨(([82, UInt8.ofNat op.toNat] ++ vNum 0) ++ hitsB z).toArray⟩ = res := ⟨_, rfl⟩
  rw [hres]
  have HRES := Lib.hid hres
  have HB0 := Lib.hid ((Below.refl w.heap.size w).alloc (Nat.le_refl _) (.cells #[.int .i64 0, .int .i64 n, .string t, .slice p z.length cap] 33))
  have HQ0 := Lib.hid (Rp.new w 0 n t (.slice p z.length cap))
  clear hres hv hk hf hg hc hz hlen hln
  go_enter Try.func14, Try.ntmps14
  go_upto_region 1 with fail
  generalize w.alloc (.cells #[.int .i64 0, .int .i64 n, .string t, .slice p z.length cap] 33) = w1 at HB0 HQ0 ⊢
  obtain ⟨q0, q1, q2, q3, qf⟩ := HQ0.out.cells
  clear qf
  go_wp2_with fail
  refine (FI.out _).mono ?_
  rintro _ w2 ⟨rfl, k2⟩
  have HQ2 := Lib.hid (HQ0.out.of (k2.block _ HQ0.out.lt))
  have HB2 := Lib.hid (HB0.out.trans (k2.mono HB0.out.size))
  clear k2 q0 q1 q2 q3 HQ0 HB0
  obtain ⟨q0, q1, q2, q3, qf⟩ := HQ2.out.cells
  clear qf
  go_wp2_with fail
  refine (GO.out _ (HZ.out.below HB2.out)).mono ?_
  rintro _ w3 ⟨rfl, k3⟩
  have HQ3 := Lib.hid (HQ2.out.of (k3.block _ HQ2.out.lt))
  have HB3 := Lib.hid (HB2.out.trans (k3.mono HB2.out.size))
  clear k3 q0 q1 q2 q3 HQ2 HB2
  go_upto_region 8 with fail
  have G0 : Hid (Bf w (w3.alloc (.cells #[.int .u8 82, .int .u8 op] 5)) w.heap.size w.heap.size (.slice (some ⟨w3.heap.size, 0, none⟩) 2 2) [82, UInt8.ofNat op.toNat] 0 n t (.slice p z.length cap)) := Lib.hid ⟨by
    rw [← HV.out]
    exact World.ownsRow_lit (base := w.heap.size) (e := 5) (size := 1) w3 #[.int .u8 82, .int .u8 op] 2 HB3.out.size (by decide) rfl, HQ3.out.alloc _, HB3.out.alloc HB3.out.size _, by rw [World.size_alloc]; have := HB3.out.size; omega⟩
  generalize w3.alloc (.cells #[.int .u8 82, .int .u8 op] 5) = w4 at G0 ⊢
  generalize w3.heap.size = gb at G0 ⊢
  clear HQ3 HB3 HV
  obtain ⟨q0, q1, q2, q3, qf⟩ := G0.out.box.cells
  clear qf
  go_wp2_with fail
  refine (RN.out 0 _).mono ?_
  rintro _ y1 ⟨rfl, k1⟩
  have F1 := Lib.hid (G0.out.below k1)
  clear k1
  go_wp2_with (at_builtin; refine Lib.wpList_append_own_string _ rfl _ _ 83 9 rfl w.heap.size 5 i0 Try.underlying83 Try.underlying9 hi hz0 hz1 hz2 _ _ _ rfl F1.out.own ⟨(vNum 0).toArray⟩ rfl ?c3 ?c4 ?c5 ?_)
  case c3 => rw [str_size]; unfold maxLen; have := HLE.out; have h10 := HLN.out; have := h10 0; have := h10 n; have := h10 z.length; have := h10 t.size; have e1 : t.data.toList.length = t.data.size := Array.length_toList; have e2 : t.data.size = t.size := rfl; (try simp only [List.length_append]); (try simp only [List.length_cons, List.length_nil]); omega
  case c4 => rw [str_size]; have := HLE.out; have h10 := HLN.out; have := h10 0; have := h10 n; have := h10 z.length; have := h10 t.size; have e1 : t.data.toList.length = t.data.size := Array.length_toList; have e2 : t.data.size = t.size := rfl; (try simp only [List.length_append]); (try simp only [List.length_cons, List.length_nil]); omega
  case c5 => exact F1.out.big
  intro b1 z1 hown hgrow _
  have G1 := Lib.hid (F1.out.grown (l' := vNum 0) hgrow (by first | rfl | (simp only [List.length_append]; done) | (have e1 : t.data.toList.length = t.data.size := Array.length_toList; have e2 : t.data.size = t.size := rfl; (try simp only [List.length_append]); (try simp only [List.length_cons, List.length_nil]); omega)) hown)
  clear hown hgrow F1
  clear q0 q1 q2 q3
  obtain ⟨q0, q1, q2, q3, qf⟩ := G1.out.box.cells
  clear qf
  go_wp2_with fail
  refine (TE.out _).mono ?_
  rintro _ yt ⟨rfl, rfl⟩
  obtain ⟨l0, hl0⟩ : ∃ l0, ([82, UInt8.ofNat op.toNat] ++ vNum 0) = l0 := ⟨_, rfl⟩
  have hl0n : l0.length + (hitsB z).length + 40 ≤ 140737488355328 := by rw [← hl0]; have := HLE.out; have h10 := HLN.out; have := h10 0; have := h10 n; have := h10 z.length; have := h10 t.size; have e1 : t.data.toList.length = t.data.size := Array.length_toList; have e2 : t.data.size = t.size := rfl; (try simp only [List.length_append]); (try simp only [List.length_cons, List.length_nil]); omega
  have HR0 := HRES.out
  rw [hl0] at G1 HR0
  have HRL := Lib.hid HR0
  have HL0 := Lib.hid hl0n
  clear HR0 HRES hl0 hl0n q0 q1 q2 q3
  obtain ⟨N, hN⟩ : ∃ N, z.length = N := ⟨_, rfl⟩
  have HNN := Lib.hid hN
  have hNb : N ≤ 65536 := by rw [← hN]; exact hzl
  rw [hN] at G1
  simp only [hN]
  clear hN
  go_wp2
  go_loopw [7, 11] (fun v i ws => ∃ k : Nat, k ≤ N ∧ i = .int .i64 k ∧ Hid (Bf w ws w.heap.size w.heap.size v (l0 ++ hitsB (z.take k)) 0 n t (.slice p N cap))) (fun _ i _ => N - (intOf i).toNat)
  case atStart => exact ⟨0, Nat.zero_le _, rfl, Lib.hid (by simpa [hitsB] using G1.out)⟩
  case round =>
    obtain ⟨k, hk, rfl, HF⟩ := hrel
    obtain ⟨q0, q1, q2, q3, qf⟩ := HF.out.box.cells
    clear qf
    by_cases hlt : k < N
    · have hd : decide ((k : Int) < (N : Int)) = true := by simpa using hlt
      have hdn : decide (k < N) = true := by simpa using hlt
      have hki : (k : Int) < (N : Int) := by omega
      have hk0 : (0 : Int) ≤ (k : Int) := by omega
      have hkn : Hid (k + 1 ≤ N) := Lib.hid (by omega)
      obtain ⟨x, hx⟩ : ∃ x, z[k]? = some x := ⟨_, List.getElem?_eq_getElem (by rw [HNN.out]; exact hlt)⟩
      have hcx := HC.out x (List.mem_of_getElem? hx)
      obtain ⟨a, ha, f⟩ := (HZ.out.below HF.out.bel) k x hx
      subst ha
      obtain ⟨u0, u1, u2⟩ := f
      have hle := hitsB_le z (k + 1)
      rw [hitsB_step z k x hx] at hle
      unfold hitB at hle
      obtain ⟨lk, hlk⟩ : ∃ lk, l0 ++ hitsB (z.take k) = lk := ⟨_, rfl⟩
      have hlkn : lk.length = l0.length + (hitsB (z.take k)).length := by rw [← hlk, List.length_append]
      have LQ : Hid (lk.length + (vNum x.d).length + (vNum x.i).length + (vNum x.c.size ++ x.c.data.toList).length + 40 ≤ 140737488355328) := Lib.hid (by have := HL0.out; simp only [List.length_append] at hle ⊢; omega)
      have HSTEP : Hid (lk ++ vNum x.d ++ vNum x.i ++ (vNum x.c.size ++ x.c.data.toList) = l0 ++ hitsB (z.take (k + 1))) := Lib.hid (by rw [← hlk, hitsB_step z k x hx]; simp [hitB])
      rw [hlk] at HF
      have E0 := Lib.hid (HF.out.below ((Below.refl wr.heap.size wr).alloc (Nat.le_refl _) (.cells #[.int .i64 x.d, .int .i64 x.i, .string x.c] 35)))
      have KX0 := Lib.hid (heap_alloc_last wr (.cells #[.int .i64 x.d, .int .i64 x.i, .string x.c] 35))
      have RXX := Lib.hid (RX.out x hcx)
      clear hle hx hcx hlk hlkn
      go_upto_region 22 with fail
      generalize wr.alloc (.cells #[.int .i64 x.d, .int .i64 x.i, .string x.c] 35) = wa at E0 KX0 ⊢
      obtain ⟨q, hq⟩ : ∃ q, wr.heap.size = q := ⟨_, rfl⟩
      rw [hq] at KX0 ⊢
      clear hq u0 u1 u2 HF q0 q1 q2 q3
      have x0 : wa.cell? ⟨q, 0, none⟩ = some (.int .i64 x.d) := by unfold World.cell?; rw [KX0.out]; rfl
      have x1 : wa.cell? ⟨q, 1, none⟩ = some (.int .i64 x.i) := by unfold World.cell?; rw [KX0.out]; rfl
      have x2 : wa.cell? ⟨q, 2, none⟩ = some (.string x.c) := by unfold World.cell?; rw [KX0.out]; rfl
      go_wp2_with fail
      refine (RN.out x.d _).mono ?_
      rintro _ y5 ⟨rfl, kk⟩
      have F5 := Lib.hid (E0.out.below kk)
      have KY5 := Lib.hid ((kk.block _ (Array.getElem?_eq_some_iff.1 KX0.out).1).trans KX0.out)
      clear kk
      go_wp2_with (at_builtin; refine Lib.wpList_append_own_string _ rfl _ _ 83 9 rfl w.heap.size 5 i0 Try.underlying83 Try.underlying9 hi hz0 hz1 hz2 _ _ _ rfl F5.out.own ⟨(vNum x.d).toArray⟩ rfl ?c3 ?c4 ?c5 ?_)
      case c3 => rw [str_size]; unfold maxLen; have := LQ.out; omega
      case c4 => rw [str_size]; have := LQ.out; omega
      case c5 => exact F5.out.big
      intro b5 z5 hown hgrow _
      have E5 := Lib.hid (F5.out.grown (l' := vNum x.d) hgrow (by first | rfl | (simp only [List.length_append]; done) | (simp only [List.length_append, str_size]; omega)) hown)
      obtain ⟨l5, hl5⟩ : ∃ l5, lk ++ vNum x.d = l5 := ⟨_, rfl⟩
      have Hl5 := Lib.hid hl5
      have Nl5 : Hid (l5.length = lk.length + (vNum x.d).length) := Lib.hid (by rw [← hl5, List.length_append])
      rw [hl5] at E5
      clear hl5
      have KX5 := Lib.hid ((hgrow.block _ (Array.getElem?_eq_some_iff.1 KY5.out).1 (fun e => own_neT F5.out.own KY5.out (by decide) e.symm)).trans KY5.out)
      clear hown hgrow F5 KY5 E0 KX0
      have x0 : z5.cell? ⟨q, 0, none⟩ = some (.int .i64 x.d) := by unfold World.cell?; rw [KX5.out]; rfl
      have x1 : z5.cell? ⟨q, 1, none⟩ = some (.int .i64 x.i) := by unfold World.cell?; rw [KX5.out]; rfl
      have x2 : z5.cell? ⟨q, 2, none⟩ = some (.string x.c) := by unfold World.cell?; rw [KX5.out]; rfl
      skip
      go_wp2_with fail
      refine (RN.out x.i _).mono ?_
      rintro _ y6 ⟨rfl, kk⟩
      have F6 := Lib.hid (E5.out.below kk)
      have KY6 := Lib.hid ((kk.block _ (Array.getElem?_eq_some_iff.1 KX5.out).1).trans KX5.out)
      clear kk
      go_wp2_with (at_builtin; refine Lib.wpList_append_own_string _ rfl _ _ 83 9 rfl w.heap.size 5 i0 Try.underlying83 Try.underlying9 hi hz0 hz1 hz2 _ _ _ rfl F6.out.own ⟨(vNum x.i).toArray⟩ rfl ?c3 ?c4 ?c5 ?_)
      case c3 => rw [str_size]; unfold maxLen; have := LQ.out; have := Nl5.out; omega
      case c4 => rw [str_size]; have := LQ.out; have := Nl5.out; omega
      case c5 => exact F6.out.big
      intro b6 z6 hown hgrow _
      have E6 := Lib.hid (F6.out.grown (l' := vNum x.i) hgrow (by first | rfl | (simp only [List.length_append]; done) | (simp only [List.length_append, str_size]; omega)) hown)
      obtain ⟨l6, hl6⟩ : ∃ l6, l5 ++ vNum x.i = l6 := ⟨_, rfl⟩
      have Hl6 := Lib.hid hl6
      have Nl6 : Hid (l6.length = l5.length + (vNum x.i).length) := Lib.hid (by rw [← hl6, List.length_append])
      rw [hl6] at E6
      clear hl6
      have KX6 := Lib.hid ((hgrow.block _ (Array.getElem?_eq_some_iff.1 KY6.out).1 (fun e => own_neT F6.out.own KY6.out (by decide) e.symm)).trans KY6.out)
      clear hown hgrow F6 KY6 E5 KX5
      have x0 : z6.cell? ⟨q, 0, none⟩ = some (.int .i64 x.d) := by unfold World.cell?; rw [KX6.out]; rfl
      have x1 : z6.cell? ⟨q, 1, none⟩ = some (.int .i64 x.i) := by unfold World.cell?; rw [KX6.out]; rfl
      have x2 : z6.cell? ⟨q, 2, none⟩ = some (.string x.c) := by unfold World.cell?; rw [KX6.out]; rfl
      go_wp2_with fail
      refine (RXX.out _).mono ?_
      rintro _ y7 ⟨rfl, kk⟩
      have F7 := Lib.hid (E6.out.below kk)
      have KY7 := Lib.hid ((kk.block _ (Array.getElem?_eq_some_iff.1 KX6.out).1).trans KX6.out)
      clear kk
      go_wp2_with (at_builtin; refine Lib.wpList_append_own_string _ rfl _ _ 83 9 rfl w.heap.size 5 i0 Try.underlying83 Try.underlying9 hi hz0 hz1 hz2 _ _ _ rfl F7.out.own ⟨(vNum x.c.size ++ x.c.data.toList).toArray⟩ rfl ?c3 ?c4 ?c5 ?_)
      case c3 => rw [str_size]; unfold maxLen; have := LQ.out; have := Nl5.out; have := Nl6.out; omega
      case c4 => rw [str_size]; have := LQ.out; have := Nl5.out; have := Nl6.out; omega
      case c5 => exact F7.out.big
      intro b7 z7 hown hgrow _
      have E7 := Lib.hid (F7.out.grown (l' := vNum x.c.size ++ x.c.data.toList) hgrow (by first | rfl | (simp only [List.length_append]; done) | (have h1 : x.c.data.toList.length = x.c.data.size := Array.length_toList; have h2 : x.c.data.size = x.c.size := rfl; simp only [List.length_append]; omega)) hown)
      have KX7 := Lib.hid ((hgrow.block _ (Array.getElem?_eq_some_iff.1 KY7.out).1 (fun e => own_neT F7.out.own KY7.out (by decide) e.symm)).trans KY7.out)
      clear hown hgrow F7 KY7 E6 KX6
      have x0 : z7.cell? ⟨q, 0, none⟩ = some (.int .i64 x.d) := by unfold World.cell?; rw [KX7.out]; rfl
      have x1 : z7.cell? ⟨q, 1, none⟩ = some (.int .i64 x.i) := by unfold World.cell?; rw [KX7.out]; rfl
      have x2 : z7.cell? ⟨q, 2, none⟩ = some (.string x.c) := by unfold World.cell?; rw [KX7.out]; rfl
      have EE := E7.out
      rw [← Hl6.out, ← Hl5.out, HSTEP.out] at EE
      have HE := Lib.hid EE
      clear EE E7 KX7 x0 x1 x2 LQ
      go_wp2
      go_roundw
      case rel => exact ⟨k + 1, hkn.out, by go_num, HE⟩
      case measure => have := hkn.out; simp [intOf]; omega
    · obtain rfl : k = N := by omega
      have hd : decide ((k : Int) < (k : Int)) = false := by simp
      have hF := HF.out
      rw [List.take_of_length_le (by rw [HNN.out]; exact Nat.le_refl _)] at hF
      have hts := TS.out _ _ _ hF.own
      rw [HRL.out] at hts
      have HBz := Lib.hid hF.bel
      clear hF HF
      go_wp2
      go_ret2
      exact ⟨rfl, HBz.out⟩

set_option maxRecDepth 100000 in
set_option maxHeartbeats 2000000 in
theorem telld_t (op : Int) (hop : 1 ≤ op ∧ op ≤ 9) (hk : tls op = (true, false, false)) (n : Int) (t : ByteArray) (ht : t.size ≤ 140737488351232) (p : Option Addr) (cap : Nat) (z : List Hv) (hzl : z.length ≤ 65536) (hc : ∀ x ∈ z, x.c.size ≤ 140737488351232) (hlen : t.size + (hitsB z).length + 128 ≤ 140737488355328) (hf : fitsE op 0 n t z.length = 0) (hg : goesE z = 0) (w : World) (hz : HL w p z) :
    Calls Try.prog 14 #[.int .i64 op, .agg #[.int .i64 0, .int .i64 n, .string t, .slice p z.length cap]] w fun x w' => x = .returned (.tuple #[.string ⟨(([82, UInt8.ofNat op.toNat] ++ vNum 0 ++ (vNum t.size ++ t.data.toList)) ++ hitsB z).toArray⟩, .int .i64 0]) ∧ Below w.heap.size w w' := by
  obtain ⟨i0, hi, hz0, hz1, hz2⟩ := info_parts u8info'
  have FI := Lib.hid (fun W => fits_calls op 0 n t p z.length cap W)
  have GO := Lib.hid (fun W h => goes_calls p cap z (by omega) W h)
  have TE := Lib.hid (fun W => tells_calls op W)
  rw [hf] at FI
  rw [hg] at GO
  rw [hk] at TE
  have RN := Lib.hid (fun x W => rnum_calls x W)
  have RT := Lib.hid (fun W => rtxt_calls t ht W)
  have RX := Lib.hid (fun (x : Hv) (hx : x.c.size ≤ 140737488351232) W => rtxt_calls x.c hx W)
  have HC := Lib.hid hc
  have HZ := Lib.hid hz
  have HLE := Lib.hid hlen
  have hwo : IntKind.u8.wrap op = op := by rw [IntKind.wrap_u8]; omega
  have hln : ∀ e : Int, (vNum e).length ≤ 10 := vNum_len
  have HLN := Lib.hid hln
  have hv : (#[.int .u8 82, .int .u8 op] : Array Value).toList = Lib.byteCells [82, UInt8.ofNat op.toNat] := by
    have hto : ((UInt8.ofNat op.toNat).toNat : Int) = op := by rw [u8ofNat_toNat _ (by omega)]; omega
    simp only [Lib.byteCells, List.map_cons, List.map_nil, hto]
    rfl
  have HV := Lib.hid hv
  have TS := Lib.hid (fun (W : World) (v : Value) (l : List UInt8) (h : W.ownsRow w.heap.size 5 1 v l.length (Lib.byteCells l)) => own_toStr (P := Try.prog) 83 9 5 Try.underlying83 Try.underlying5 Try.underlying9 (show W.ownsRow w.heap.size 5 1 v l.length (l.map by8) from h))
  obtain ⟨res, hres⟩ : ∃ res : ByteArray, ⟨(([82, UInt8.ofNat op.toNat] ++ vNum 0 ++ (vNum t.size ++ t.data.toList)) ++ hitsB z).toArray⟩ = res := ⟨_, rfl⟩
  rw [hres]
  have HRES := Lib.hid hres
  have HB0 := Lib.hid ((Below.refl w.heap.size w).alloc (Nat.le_refl _) (.cells #[.int .i64 0, .int .i64 n, .string t, .slice p z.length cap] 33))
  have HQ0 := Lib.hid (Rp.new w 0 n t (.slice p z.length cap))
  clear hres hv hk hf hg hc hz hlen hln
  go_enter Try.func14, Try.ntmps14
  go_upto_region 1 with fail
  generalize w.alloc (.cells #[.int .i64 0, .int .i64 n, .string t, .slice p z.length cap] 33) = w1 at HB0 HQ0 ⊢
  obtain ⟨q0, q1, q2, q3, qf⟩ := HQ0.out.cells
  clear qf
  go_wp2_with fail
  refine (FI.out _).mono ?_
  rintro _ w2 ⟨rfl, k2⟩
  have HQ2 := Lib.hid (HQ0.out.of (k2.block _ HQ0.out.lt))
  have HB2 := Lib.hid (HB0.out.trans (k2.mono HB0.out.size))
  clear k2 q0 q1 q2 q3 HQ0 HB0
  obtain ⟨q0, q1, q2, q3, qf⟩ := HQ2.out.cells
  clear qf
  go_wp2_with fail
  refine (GO.out _ (HZ.out.below HB2.out)).mono ?_
  rintro _ w3 ⟨rfl, k3⟩
  have HQ3 := Lib.hid (HQ2.out.of (k3.block _ HQ2.out.lt))
  have HB3 := Lib.hid (HB2.out.trans (k3.mono HB2.out.size))
  clear k3 q0 q1 q2 q3 HQ2 HB2
  go_upto_region 8 with fail
  have G0 : Hid (Bf w (w3.alloc (.cells #[.int .u8 82, .int .u8 op] 5)) w.heap.size w.heap.size (.slice (some ⟨w3.heap.size, 0, none⟩) 2 2) [82, UInt8.ofNat op.toNat] 0 n t (.slice p z.length cap)) := Lib.hid ⟨by
    rw [← HV.out]
    exact World.ownsRow_lit (base := w.heap.size) (e := 5) (size := 1) w3 #[.int .u8 82, .int .u8 op] 2 HB3.out.size (by decide) rfl, HQ3.out.alloc _, HB3.out.alloc HB3.out.size _, by rw [World.size_alloc]; have := HB3.out.size; omega⟩
  generalize w3.alloc (.cells #[.int .u8 82, .int .u8 op] 5) = w4 at G0 ⊢
  generalize w3.heap.size = gb at G0 ⊢
  clear HQ3 HB3 HV
  obtain ⟨q0, q1, q2, q3, qf⟩ := G0.out.box.cells
  clear qf
  go_wp2_with fail
  refine (RN.out 0 _).mono ?_
  rintro _ y1 ⟨rfl, k1⟩
  have F1 := Lib.hid (G0.out.below k1)
  clear k1
  go_wp2_with (at_builtin; refine Lib.wpList_append_own_string _ rfl _ _ 83 9 rfl w.heap.size 5 i0 Try.underlying83 Try.underlying9 hi hz0 hz1 hz2 _ _ _ rfl F1.out.own ⟨(vNum 0).toArray⟩ rfl ?c3 ?c4 ?c5 ?_)
  case c3 => rw [str_size]; unfold maxLen; have := HLE.out; have h10 := HLN.out; have := h10 0; have := h10 n; have := h10 z.length; have := h10 t.size; have e1 : t.data.toList.length = t.data.size := Array.length_toList; have e2 : t.data.size = t.size := rfl; (try simp only [List.length_append]); (try simp only [List.length_cons, List.length_nil]); omega
  case c4 => rw [str_size]; have := HLE.out; have h10 := HLN.out; have := h10 0; have := h10 n; have := h10 z.length; have := h10 t.size; have e1 : t.data.toList.length = t.data.size := Array.length_toList; have e2 : t.data.size = t.size := rfl; (try simp only [List.length_append]); (try simp only [List.length_cons, List.length_nil]); omega
  case c5 => exact F1.out.big
  intro b1 z1 hown hgrow _
  have G1 := Lib.hid (F1.out.grown (l' := vNum 0) hgrow (by first | rfl | (simp only [List.length_append]; done) | (have e1 : t.data.toList.length = t.data.size := Array.length_toList; have e2 : t.data.size = t.size := rfl; (try simp only [List.length_append]); (try simp only [List.length_cons, List.length_nil]); omega)) hown)
  clear hown hgrow F1
  clear q0 q1 q2 q3
  obtain ⟨q0, q1, q2, q3, qf⟩ := G1.out.box.cells
  clear qf
  go_wp2_with fail
  refine (TE.out _).mono ?_
  rintro _ yt ⟨rfl, rfl⟩
  go_wp2_with fail
  refine (RT.out _).mono ?_
  rintro _ y2 ⟨rfl, k2⟩
  have F2 := Lib.hid (G1.out.below k2)
  clear k2
  go_wp2_with (at_builtin; refine Lib.wpList_append_own_string _ rfl _ _ 83 9 rfl w.heap.size 5 i0 Try.underlying83 Try.underlying9 hi hz0 hz1 hz2 _ _ _ rfl F2.out.own ⟨(vNum t.size ++ t.data.toList).toArray⟩ rfl ?c3 ?c4 ?c5 ?_)
  case c3 => rw [str_size]; unfold maxLen; have := HLE.out; have h10 := HLN.out; have := h10 0; have := h10 n; have := h10 z.length; have := h10 t.size; have e1 : t.data.toList.length = t.data.size := Array.length_toList; have e2 : t.data.size = t.size := rfl; (try simp only [List.length_append]); (try simp only [List.length_cons, List.length_nil]); omega
  case c4 => rw [str_size]; have := HLE.out; have h10 := HLN.out; have := h10 0; have := h10 n; have := h10 z.length; have := h10 t.size; have e1 : t.data.toList.length = t.data.size := Array.length_toList; have e2 : t.data.size = t.size := rfl; (try simp only [List.length_append]); (try simp only [List.length_cons, List.length_nil]); omega
  case c5 => exact F2.out.big
  intro b2 z2 hown hgrow _
  have G2 := Lib.hid (F2.out.grown (l' := vNum t.size ++ t.data.toList) hgrow (by first | rfl | (simp only [List.length_append]; done) | (have e1 : t.data.toList.length = t.data.size := Array.length_toList; have e2 : t.data.size = t.size := rfl; (try simp only [List.length_append]); (try simp only [List.length_cons, List.length_nil]); omega)) hown)
  clear hown hgrow F2
  clear q0 q1 q2 q3
  obtain ⟨q0, q1, q2, q3, qf⟩ := G2.out.box.cells
  clear qf
  obtain ⟨l0, hl0⟩ : ∃ l0, ([82, UInt8.ofNat op.toNat] ++ vNum 0 ++ (vNum t.size ++ t.data.toList)) = l0 := ⟨_, rfl⟩
  have hl0n : l0.length + (hitsB z).length + 40 ≤ 140737488355328 := by rw [← hl0]; have := HLE.out; have h10 := HLN.out; have := h10 0; have := h10 n; have := h10 z.length; have := h10 t.size; have e1 : t.data.toList.length = t.data.size := Array.length_toList; have e2 : t.data.size = t.size := rfl; (try simp only [List.length_append]); (try simp only [List.length_cons, List.length_nil]); omega
  have HR0 := HRES.out
  rw [hl0] at G2 HR0
  have HRL := Lib.hid HR0
  have HL0 := Lib.hid hl0n
  clear HR0 HRES hl0 hl0n q0 q1 q2 q3
  obtain ⟨N, hN⟩ : ∃ N, z.length = N := ⟨_, rfl⟩
  have HNN := Lib.hid hN
  have hNb : N ≤ 65536 := by rw [← hN]; exact hzl
  rw [hN] at G2
  simp only [hN]
  clear hN
  go_wp2
  go_loopw [7, 11] (fun v i ws => ∃ k : Nat, k ≤ N ∧ i = .int .i64 k ∧ Hid (Bf w ws w.heap.size w.heap.size v (l0 ++ hitsB (z.take k)) 0 n t (.slice p N cap))) (fun _ i _ => N - (intOf i).toNat)
  case atStart => exact ⟨0, Nat.zero_le _, rfl, Lib.hid (by simpa [hitsB] using G2.out)⟩
  case round =>
    obtain ⟨k, hk, rfl, HF⟩ := hrel
    obtain ⟨q0, q1, q2, q3, qf⟩ := HF.out.box.cells
    clear qf
    by_cases hlt : k < N
    · have hd : decide ((k : Int) < (N : Int)) = true := by simpa using hlt
      have hdn : decide (k < N) = true := by simpa using hlt
      have hki : (k : Int) < (N : Int) := by omega
      have hk0 : (0 : Int) ≤ (k : Int) := by omega
      have hkn : Hid (k + 1 ≤ N) := Lib.hid (by omega)
      obtain ⟨x, hx⟩ : ∃ x, z[k]? = some x := ⟨_, List.getElem?_eq_getElem (by rw [HNN.out]; exact hlt)⟩
      have hcx := HC.out x (List.mem_of_getElem? hx)
      obtain ⟨a, ha, f⟩ := (HZ.out.below HF.out.bel) k x hx
      subst ha
      obtain ⟨u0, u1, u2⟩ := f
      have hle := hitsB_le z (k + 1)
      rw [hitsB_step z k x hx] at hle
      unfold hitB at hle
      obtain ⟨lk, hlk⟩ : ∃ lk, l0 ++ hitsB (z.take k) = lk := ⟨_, rfl⟩
      have hlkn : lk.length = l0.length + (hitsB (z.take k)).length := by rw [← hlk, List.length_append]
      have LQ : Hid (lk.length + (vNum x.d).length + (vNum x.i).length + (vNum x.c.size ++ x.c.data.toList).length + 40 ≤ 140737488355328) := Lib.hid (by have := HL0.out; simp only [List.length_append] at hle ⊢; omega)
      have HSTEP : Hid (lk ++ vNum x.d ++ vNum x.i ++ (vNum x.c.size ++ x.c.data.toList) = l0 ++ hitsB (z.take (k + 1))) := Lib.hid (by rw [← hlk, hitsB_step z k x hx]; simp [hitB])
      rw [hlk] at HF
      have E0 := Lib.hid (HF.out.below ((Below.refl wr.heap.size wr).alloc (Nat.le_refl _) (.cells #[.int .i64 x.d, .int .i64 x.i, .string x.c] 35)))
      have KX0 := Lib.hid (heap_alloc_last wr (.cells #[.int .i64 x.d, .int .i64 x.i, .string x.c] 35))
      have RXX := Lib.hid (RX.out x hcx)
      clear hle hx hcx hlk hlkn
      go_upto_region 22 with fail
      generalize wr.alloc (.cells #[.int .i64 x.d, .int .i64 x.i, .string x.c] 35) = wa at E0 KX0 ⊢
      obtain ⟨q, hq⟩ : ∃ q, wr.heap.size = q := ⟨_, rfl⟩
      rw [hq] at KX0 ⊢
      clear hq u0 u1 u2 HF q0 q1 q2 q3
      have x0 : wa.cell? ⟨q, 0, none⟩ = some (.int .i64 x.d) := by unfold World.cell?; rw [KX0.out]; rfl
      have x1 : wa.cell? ⟨q, 1, none⟩ = some (.int .i64 x.i) := by unfold World.cell?; rw [KX0.out]; rfl
      have x2 : wa.cell? ⟨q, 2, none⟩ = some (.string x.c) := by unfold World.cell?; rw [KX0.out]; rfl
      go_wp2_with fail
      refine (RN.out x.d _).mono ?_
      rintro _ y5 ⟨rfl, kk⟩
      have F5 := Lib.hid (E0.out.below kk)
      have KY5 := Lib.hid ((kk.block _ (Array.getElem?_eq_some_iff.1 KX0.out).1).trans KX0.out)
      clear kk
      go_wp2_with (at_builtin; refine Lib.wpList_append_own_string _ rfl _ _ 83 9 rfl w.heap.size 5 i0 Try.underlying83 Try.underlying9 hi hz0 hz1 hz2 _ _ _ rfl F5.out.own ⟨(vNum x.d).toArray⟩ rfl ?c3 ?c4 ?c5 ?_)
      case c3 => rw [str_size]; unfold maxLen; have := LQ.out; omega
      case c4 => rw [str_size]; have := LQ.out; omega
      case c5 => exact F5.out.big
      intro b5 z5 hown hgrow _
      have E5 := Lib.hid (F5.out.grown (l' := vNum x.d) hgrow (by first | rfl | (simp only [List.length_append]; done) | (simp only [List.length_append, str_size]; omega)) hown)
      obtain ⟨l5, hl5⟩ : ∃ l5, lk ++ vNum x.d = l5 := ⟨_, rfl⟩
      have Hl5 := Lib.hid hl5
      have Nl5 : Hid (l5.length = lk.length + (vNum x.d).length) := Lib.hid (by rw [← hl5, List.length_append])
      rw [hl5] at E5
      clear hl5
      have KX5 := Lib.hid ((hgrow.block _ (Array.getElem?_eq_some_iff.1 KY5.out).1 (fun e => own_neT F5.out.own KY5.out (by decide) e.symm)).trans KY5.out)
      clear hown hgrow F5 KY5 E0 KX0
      have x0 : z5.cell? ⟨q, 0, none⟩ = some (.int .i64 x.d) := by unfold World.cell?; rw [KX5.out]; rfl
      have x1 : z5.cell? ⟨q, 1, none⟩ = some (.int .i64 x.i) := by unfold World.cell?; rw [KX5.out]; rfl
      have x2 : z5.cell? ⟨q, 2, none⟩ = some (.string x.c) := by unfold World.cell?; rw [KX5.out]; rfl
      skip
      go_wp2_with fail
      refine (RN.out x.i _).mono ?_
      rintro _ y6 ⟨rfl, kk⟩
      have F6 := Lib.hid (E5.out.below kk)
      have KY6 := Lib.hid ((kk.block _ (Array.getElem?_eq_some_iff.1 KX5.out).1).trans KX5.out)
      clear kk
      go_wp2_with (at_builtin; refine Lib.wpList_append_own_string _ rfl _ _ 83 9 rfl w.heap.size 5 i0 Try.underlying83 Try.underlying9 hi hz0 hz1 hz2 _ _ _ rfl F6.out.own ⟨(vNum x.i).toArray⟩ rfl ?c3 ?c4 ?c5 ?_)
      case c3 => rw [str_size]; unfold maxLen; have := LQ.out; have := Nl5.out; omega
      case c4 => rw [str_size]; have := LQ.out; have := Nl5.out; omega
      case c5 => exact F6.out.big
      intro b6 z6 hown hgrow _
      have E6 := Lib.hid (F6.out.grown (l' := vNum x.i) hgrow (by first | rfl | (simp only [List.length_append]; done) | (simp only [List.length_append, str_size]; omega)) hown)
      obtain ⟨l6, hl6⟩ : ∃ l6, l5 ++ vNum x.i = l6 := ⟨_, rfl⟩
      have Hl6 := Lib.hid hl6
      have Nl6 : Hid (l6.length = l5.length + (vNum x.i).length) := Lib.hid (by rw [← hl6, List.length_append])
      rw [hl6] at E6
      clear hl6
      have KX6 := Lib.hid ((hgrow.block _ (Array.getElem?_eq_some_iff.1 KY6.out).1 (fun e => own_neT F6.out.own KY6.out (by decide) e.symm)).trans KY6.out)
      clear hown hgrow F6 KY6 E5 KX5
      have x0 : z6.cell? ⟨q, 0, none⟩ = some (.int .i64 x.d) := by unfold World.cell?; rw [KX6.out]; rfl
      have x1 : z6.cell? ⟨q, 1, none⟩ = some (.int .i64 x.i) := by unfold World.cell?; rw [KX6.out]; rfl
      have x2 : z6.cell? ⟨q, 2, none⟩ = some (.string x.c) := by unfold World.cell?; rw [KX6.out]; rfl
      go_wp2_with fail
      refine (RXX.out _).mono ?_
      rintro _ y7 ⟨rfl, kk⟩
      have F7 := Lib.hid (E6.out.below kk)
      have KY7 := Lib.hid ((kk.block _ (Array.getElem?_eq_some_iff.1 KX6.out).1).trans KX6.out)
      clear kk
      go_wp2_with (at_builtin; refine Lib.wpList_append_own_string _ rfl _ _ 83 9 rfl w.heap.size 5 i0 Try.underlying83 Try.underlying9 hi hz0 hz1 hz2 _ _ _ rfl F7.out.own ⟨(vNum x.c.size ++ x.c.data.toList).toArray⟩ rfl ?c3 ?c4 ?c5 ?_)
      case c3 => rw [str_size]; unfold maxLen; have := LQ.out; have := Nl5.out; have := Nl6.out; omega
      case c4 => rw [str_size]; have := LQ.out; have := Nl5.out; have := Nl6.out; omega
      case c5 => exact F7.out.big
      intro b7 z7 hown hgrow _
      have E7 := Lib.hid (F7.out.grown (l' := vNum x.c.size ++ x.c.data.toList) hgrow (by first | rfl | (simp only [List.length_append]; done) | (have h1 : x.c.data.toList.length = x.c.data.size := Array.length_toList; have h2 : x.c.data.size = x.c.size := rfl; simp only [List.length_append]; omega)) hown)
      have KX7 := Lib.hid ((hgrow.block _ (Array.getElem?_eq_some_iff.1 KY7.out).1 (fun e => own_neT F7.out.own KY7.out (by decide) e.symm)).trans KY7.out)
      clear hown hgrow F7 KY7 E6 KX6
      have x0 : z7.cell? ⟨q, 0, none⟩ = some (.int .i64 x.d) := by unfold World.cell?; rw [KX7.out]; rfl
      have x1 : z7.cell? ⟨q, 1, none⟩ = some (.int .i64 x.i) := by unfold World.cell?; rw [KX7.out]; rfl
      have x2 : z7.cell? ⟨q, 2, none⟩ = some (.string x.c) := by unfold World.cell?; rw [KX7.out]; rfl
      have EE := E7.out
      rw [← Hl6.out, ← Hl5.out, HSTEP.out] at EE
      have HE := Lib.hid EE
      clear EE E7 KX7 x0 x1 x2 LQ
      go_wp2
      go_roundw
      case rel => exact ⟨k + 1, hkn.out, by go_num, HE⟩
      case measure => have := hkn.out; simp [intOf]; omega
    · obtain rfl : k = N := by omega
      have hd : decide ((k : Int) < (k : Int)) = false := by simp
      have hF := HF.out
      rw [List.take_of_length_le (by rw [HNN.out]; exact Nat.le_refl _)] at hF
      have hts := TS.out _ _ _ hF.own
      rw [HRL.out] at hts
      have HBz := Lib.hid hF.bel
      clear hF HF
      go_wp2
      go_ret2
      exact ⟨rfl, HBz.out⟩

set_option maxRecDepth 100000 in
set_option maxHeartbeats 2000000 in
theorem telld_n (op : Int) (hop : 1 ≤ op ∧ op ≤ 9) (hk : tls op = (false, true, false)) (n : Int) (t : ByteArray) (ht : t.size ≤ 140737488351232) (p : Option Addr) (cap : Nat) (z : List Hv) (hzl : z.length ≤ 65536) (hc : ∀ x ∈ z, x.c.size ≤ 140737488351232) (hlen : t.size + (hitsB z).length + 128 ≤ 140737488355328) (hf : fitsE op 0 n t z.length = 0) (hg : goesE z = 0) (w : World) (hz : HL w p z) :
    Calls Try.prog 14 #[.int .i64 op, .agg #[.int .i64 0, .int .i64 n, .string t, .slice p z.length cap]] w fun x w' => x = .returned (.tuple #[.string ⟨(([82, UInt8.ofNat op.toNat] ++ vNum 0 ++ (vNum n)) ++ hitsB z).toArray⟩, .int .i64 0]) ∧ Below w.heap.size w w' := by
  obtain ⟨i0, hi, hz0, hz1, hz2⟩ := info_parts u8info'
  have FI := Lib.hid (fun W => fits_calls op 0 n t p z.length cap W)
  have GO := Lib.hid (fun W h => goes_calls p cap z (by omega) W h)
  have TE := Lib.hid (fun W => tells_calls op W)
  rw [hf] at FI
  rw [hg] at GO
  rw [hk] at TE
  have RN := Lib.hid (fun x W => rnum_calls x W)
  have RT := Lib.hid (fun W => rtxt_calls t ht W)
  have RX := Lib.hid (fun (x : Hv) (hx : x.c.size ≤ 140737488351232) W => rtxt_calls x.c hx W)
  have HC := Lib.hid hc
  have HZ := Lib.hid hz
  have HLE := Lib.hid hlen
  have hwo : IntKind.u8.wrap op = op := by rw [IntKind.wrap_u8]; omega
  have hln : ∀ e : Int, (vNum e).length ≤ 10 := vNum_len
  have HLN := Lib.hid hln
  have hv : (#[.int .u8 82, .int .u8 op] : Array Value).toList = Lib.byteCells [82, UInt8.ofNat op.toNat] := by
    have hto : ((UInt8.ofNat op.toNat).toNat : Int) = op := by rw [u8ofNat_toNat _ (by omega)]; omega
    simp only [Lib.byteCells, List.map_cons, List.map_nil, hto]
    rfl
  have HV := Lib.hid hv
  have TS := Lib.hid (fun (W : World) (v : Value) (l : List UInt8) (h : W.ownsRow w.heap.size 5 1 v l.length (Lib.byteCells l)) => own_toStr (P := Try.prog) 83 9 5 Try.underlying83 Try.underlying5 Try.underlying9 (show W.ownsRow w.heap.size 5 1 v l.length (l.map by8) from h))
  obtain ⟨res, hres⟩ : ∃ res : ByteArray, ⟨(([82, UInt8.ofNat op.toNat] ++ vNum 0 ++ (vNum n)) ++ hitsB z).toArray⟩ = res := ⟨_, rfl⟩
  rw [hres]
  have HRES := Lib.hid hres
  have HB0 := Lib.hid ((Below.refl w.heap.size w).alloc (Nat.le_refl _) (.cells #[.int .i64 0, .int .i64 n, .string t, .slice p z.length cap] 33))
  have HQ0 := Lib.hid (Rp.new w 0 n t (.slice p z.length cap))
  clear hres hv hk hf hg hc hz hlen hln
  go_enter Try.func14, Try.ntmps14
  go_upto_region 1 with fail
  generalize w.alloc (.cells #[.int .i64 0, .int .i64 n, .string t, .slice p z.length cap] 33) = w1 at HB0 HQ0 ⊢
  obtain ⟨q0, q1, q2, q3, qf⟩ := HQ0.out.cells
  clear qf
  go_wp2_with fail
  refine (FI.out _).mono ?_
  rintro _ w2 ⟨rfl, k2⟩
  have HQ2 := Lib.hid (HQ0.out.of (k2.block _ HQ0.out.lt))
  have HB2 := Lib.hid (HB0.out.trans (k2.mono HB0.out.size))
  clear k2 q0 q1 q2 q3 HQ0 HB0
  obtain ⟨q0, q1, q2, q3, qf⟩ := HQ2.out.cells
  clear qf
  go_wp2_with fail
  refine (GO.out _ (HZ.out.below HB2.out)).mono ?_
  rintro _ w3 ⟨rfl, k3⟩
  have HQ3 := Lib.hid (HQ2.out.of (k3.block _ HQ2.out.lt))
  have HB3 := Lib.hid (HB2.out.trans (k3.mono HB2.out.size))
  clear k3 q0 q1 q2 q3 HQ2 HB2
  go_upto_region 8 with fail
  have G0 : Hid (Bf w (w3.alloc (.cells #[.int .u8 82, .int .u8 op] 5)) w.heap.size w.heap.size (.slice (some ⟨w3.heap.size, 0, none⟩) 2 2) [82, UInt8.ofNat op.toNat] 0 n t (.slice p z.length cap)) := Lib.hid ⟨by
    rw [← HV.out]
    exact World.ownsRow_lit (base := w.heap.size) (e := 5) (size := 1) w3 #[.int .u8 82, .int .u8 op] 2 HB3.out.size (by decide) rfl, HQ3.out.alloc _, HB3.out.alloc HB3.out.size _, by rw [World.size_alloc]; have := HB3.out.size; omega⟩
  generalize w3.alloc (.cells #[.int .u8 82, .int .u8 op] 5) = w4 at G0 ⊢
  generalize w3.heap.size = gb at G0 ⊢
  clear HQ3 HB3 HV
  obtain ⟨q0, q1, q2, q3, qf⟩ := G0.out.box.cells
  clear qf
  go_wp2_with fail
  refine (RN.out 0 _).mono ?_
  rintro _ y1 ⟨rfl, k1⟩
  have F1 := Lib.hid (G0.out.below k1)
  clear k1
  go_wp2_with (at_builtin; refine Lib.wpList_append_own_string _ rfl _ _ 83 9 rfl w.heap.size 5 i0 Try.underlying83 Try.underlying9 hi hz0 hz1 hz2 _ _ _ rfl F1.out.own ⟨(vNum 0).toArray⟩ rfl ?c3 ?c4 ?c5 ?_)
  case c3 => rw [str_size]; unfold maxLen; have := HLE.out; have h10 := HLN.out; have := h10 0; have := h10 n; have := h10 z.length; have := h10 t.size; have e1 : t.data.toList.length = t.data.size := Array.length_toList; have e2 : t.data.size = t.size := rfl; (try simp only [List.length_append]); (try simp only [List.length_cons, List.length_nil]); omega
  case c4 => rw [str_size]; have := HLE.out; have h10 := HLN.out; have := h10 0; have := h10 n; have := h10 z.length; have := h10 t.size; have e1 : t.data.toList.length = t.data.size := Array.length_toList; have e2 : t.data.size = t.size := rfl; (try simp only [List.length_append]); (try simp only [List.length_cons, List.length_nil]); omega
  case c5 => exact F1.out.big
  intro b1 z1 hown hgrow _
  have G1 := Lib.hid (F1.out.grown (l' := vNum 0) hgrow (by first | rfl | (simp only [List.length_append]; done) | (have e1 : t.data.toList.length = t.data.size := Array.length_toList; have e2 : t.data.size = t.size := rfl; (try simp only [List.length_append]); (try simp only [List.length_cons, List.length_nil]); omega)) hown)
  clear hown hgrow F1
  clear q0 q1 q2 q3
  obtain ⟨q0, q1, q2, q3, qf⟩ := G1.out.box.cells
  clear qf
  go_wp2_with fail
  refine (TE.out _).mono ?_
  rintro _ yt ⟨rfl, rfl⟩
  go_wp2_with fail
  refine (RN.out n _).mono ?_
  rintro _ y2 ⟨rfl, k2⟩
  have F2 := Lib.hid (G1.out.below k2)
  clear k2
  go_wp2_with (at_builtin; refine Lib.wpList_append_own_string _ rfl _ _ 83 9 rfl w.heap.size 5 i0 Try.underlying83 Try.underlying9 hi hz0 hz1 hz2 _ _ _ rfl F2.out.own ⟨(vNum n).toArray⟩ rfl ?c3 ?c4 ?c5 ?_)
  case c3 => rw [str_size]; unfold maxLen; have := HLE.out; have h10 := HLN.out; have := h10 0; have := h10 n; have := h10 z.length; have := h10 t.size; have e1 : t.data.toList.length = t.data.size := Array.length_toList; have e2 : t.data.size = t.size := rfl; (try simp only [List.length_append]); (try simp only [List.length_cons, List.length_nil]); omega
  case c4 => rw [str_size]; have := HLE.out; have h10 := HLN.out; have := h10 0; have := h10 n; have := h10 z.length; have := h10 t.size; have e1 : t.data.toList.length = t.data.size := Array.length_toList; have e2 : t.data.size = t.size := rfl; (try simp only [List.length_append]); (try simp only [List.length_cons, List.length_nil]); omega
  case c5 => exact F2.out.big
  intro b2 z2 hown hgrow _
  have G2 := Lib.hid (F2.out.grown (l' := vNum n) hgrow (by first | rfl | (simp only [List.length_append]; done) | (have e1 : t.data.toList.length = t.data.size := Array.length_toList; have e2 : t.data.size = t.size := rfl; (try simp only [List.length_append]); (try simp only [List.length_cons, List.length_nil]); omega)) hown)
  clear hown hgrow F2
  clear q0 q1 q2 q3
  obtain ⟨q0, q1, q2, q3, qf⟩ := G2.out.box.cells
  clear qf
  obtain ⟨l0, hl0⟩ : ∃ l0, ([82, UInt8.ofNat op.toNat] ++ vNum 0 ++ (vNum n)) = l0 := ⟨_, rfl⟩
  have hl0n : l0.length + (hitsB z).length + 40 ≤ 140737488355328 := by rw [← hl0]; have := HLE.out; have h10 := HLN.out; have := h10 0; have := h10 n; have := h10 z.length; have := h10 t.size; have e1 : t.data.toList.length = t.data.size := Array.length_toList; have e2 : t.data.size = t.size := rfl; (try simp only [List.length_append]); (try simp only [List.length_cons, List.length_nil]); omega
  have HR0 := HRES.out
  rw [hl0] at G2 HR0
  have HRL := Lib.hid HR0
  have HL0 := Lib.hid hl0n
  clear HR0 HRES hl0 hl0n q0 q1 q2 q3
  obtain ⟨N, hN⟩ : ∃ N, z.length = N := ⟨_, rfl⟩
  have HNN := Lib.hid hN
  have hNb : N ≤ 65536 := by rw [← hN]; exact hzl
  rw [hN] at G2
  simp only [hN]
  clear hN
  go_wp2
  go_loopw [7, 11] (fun v i ws => ∃ k : Nat, k ≤ N ∧ i = .int .i64 k ∧ Hid (Bf w ws w.heap.size w.heap.size v (l0 ++ hitsB (z.take k)) 0 n t (.slice p N cap))) (fun _ i _ => N - (intOf i).toNat)
  case atStart => exact ⟨0, Nat.zero_le _, rfl, Lib.hid (by simpa [hitsB] using G2.out)⟩
  case round =>
    obtain ⟨k, hk, rfl, HF⟩ := hrel
    obtain ⟨q0, q1, q2, q3, qf⟩ := HF.out.box.cells
    clear qf
    by_cases hlt : k < N
    · have hd : decide ((k : Int) < (N : Int)) = true := by simpa using hlt
      have hdn : decide (k < N) = true := by simpa using hlt
      have hki : (k : Int) < (N : Int) := by omega
      have hk0 : (0 : Int) ≤ (k : Int) := by omega
      have hkn : Hid (k + 1 ≤ N) := Lib.hid (by omega)
      obtain ⟨x, hx⟩ : ∃ x, z[k]? = some x := ⟨_, List.getElem?_eq_getElem (by rw [HNN.out]; exact hlt)⟩
      have hcx := HC.out x (List.mem_of_getElem? hx)
      obtain ⟨a, ha, f⟩ := (HZ.out.below HF.out.bel) k x hx
      subst ha
      obtain ⟨u0, u1, u2⟩ := f
      have hle := hitsB_le z (k + 1)
      rw [hitsB_step z k x hx] at hle
      unfold hitB at hle
      obtain ⟨lk, hlk⟩ : ∃ lk, l0 ++ hitsB (z.take k) = lk := ⟨_, rfl⟩
      have hlkn : lk.length = l0.length + (hitsB (z.take k)).length := by rw [← hlk, List.length_append]
      have LQ : Hid (lk.length + (vNum x.d).length + (vNum x.i).length + (vNum x.c.size ++ x.c.data.toList).length + 40 ≤ 140737488355328) := Lib.hid (by have := HL0.out; simp only [List.length_append] at hle ⊢; omega)
      have HSTEP : Hid (lk ++ vNum x.d ++ vNum x.i ++ (vNum x.c.size ++ x.c.data.toList) = l0 ++ hitsB (z.take (k + 1))) := Lib.hid (by rw [← hlk, hitsB_step z k x hx]; simp [hitB])
      rw [hlk] at HF
      have E0 := Lib.hid (HF.out.below ((Below.refl wr.heap.size wr).alloc (Nat.le_refl _) (.cells #[.int .i64 x.d, .int .i64 x.i, .string x.c] 35)))
      have KX0 := Lib.hid (heap_alloc_last wr (.cells #[.int .i64 x.d, .int .i64 x.i, .string x.c] 35))
      have RXX := Lib.hid (RX.out x hcx)
      clear hle hx hcx hlk hlkn
      go_upto_region 22 with fail
      generalize wr.alloc (.cells #[.int .i64 x.d, .int .i64 x.i, .string x.c] 35) = wa at E0 KX0 ⊢
      obtain ⟨q, hq⟩ : ∃ q, wr.heap.size = q := ⟨_, rfl⟩
      rw [hq] at KX0 ⊢
      clear hq u0 u1 u2 HF q0 q1 q2 q3
      have x0 : wa.cell? ⟨q, 0, none⟩ = some (.int .i64 x.d) := by unfold World.cell?; rw [KX0.out]; rfl
      have x1 : wa.cell? ⟨q, 1, none⟩ = some (.int .i64 x.i) := by unfold World.cell?; rw [KX0.out]; rfl
      have x2 : wa.cell? ⟨q, 2, none⟩ = some (.string x.c) := by unfold World.cell?; rw [KX0.out]; rfl
      go_wp2_with fail
      refine (RN.out x.d _).mono ?_
      rintro _ y5 ⟨rfl, kk⟩
      have F5 := Lib.hid (E0.out.below kk)
      have KY5 := Lib.hid ((kk.block _ (Array.getElem?_eq_some_iff.1 KX0.out).1).trans KX0.out)
      clear kk
      go_wp2_with (at_builtin; refine Lib.wpList_append_own_string _ rfl _ _ 83 9 rfl w.heap.size 5 i0 Try.underlying83 Try.underlying9 hi hz0 hz1 hz2 _ _ _ rfl F5.out.own ⟨(vNum x.d).toArray⟩ rfl ?c3 ?c4 ?c5 ?_)
      case c3 => rw [str_size]; unfold maxLen; have := LQ.out; omega
      case c4 => rw [str_size]; have := LQ.out; omega
      case c5 => exact F5.out.big
      intro b5 z5 hown hgrow _
      have E5 := Lib.hid (F5.out.grown (l' := vNum x.d) hgrow (by first | rfl | (simp only [List.length_append]; done) | (simp only [List.length_append, str_size]; omega)) hown)
      obtain ⟨l5, hl5⟩ : ∃ l5, lk ++ vNum x.d = l5 := ⟨_, rfl⟩
      have Hl5 := Lib.hid hl5
      have Nl5 : Hid (l5.length = lk.length + (vNum x.d).length) := Lib.hid (by rw [← hl5, List.length_append])
      rw [hl5] at E5
      clear hl5
      have KX5 := Lib.hid ((hgrow.block _ (Array.getElem?_eq_some_iff.1 KY5.out).1 (fun e => own_neT F5.out.own KY5.out (by decide) e.symm)).trans KY5.out)
      clear hown hgrow F5 KY5 E0 KX0
      have x0 : z5.cell? ⟨q, 0, none⟩ = some (.int .i64 x.d) := by unfold World.cell?; rw [KX5.out]; rfl
      have x1 : z5.cell? ⟨q, 1, none⟩ = some (.int .i64 x.i) := by unfold World.cell?; rw [KX5.out]; rfl
      have x2 : z5.cell? ⟨q, 2, none⟩ = some (.string x.c) := by unfold World.cell?; rw [KX5.out]; rfl
      skip
      go_wp2_with fail
      refine (RN.out x.i _).mono ?_
      rintro _ y6 ⟨rfl, kk⟩
      have F6 := Lib.hid (E5.out.below kk)
      have KY6 := Lib.hid ((kk.block _ (Array.getElem?_eq_some_iff.1 KX5.out).1).trans KX5.out)
      clear kk
      go_wp2_with (at_builtin; refine Lib.wpList_append_own_string _ rfl _ _ 83 9 rfl w.heap.size 5 i0 Try.underlying83 Try.underlying9 hi hz0 hz1 hz2 _ _ _ rfl F6.out.own ⟨(vNum x.i).toArray⟩ rfl ?c3 ?c4 ?c5 ?_)
      case c3 => rw [str_size]; unfold maxLen; have := LQ.out; have := Nl5.out; omega
      case c4 => rw [str_size]; have := LQ.out; have := Nl5.out; omega
      case c5 => exact F6.out.big
      intro b6 z6 hown hgrow _
      have E6 := Lib.hid (F6.out.grown (l' := vNum x.i) hgrow (by first | rfl | (simp only [List.length_append]; done) | (simp only [List.length_append, str_size]; omega)) hown)
      obtain ⟨l6, hl6⟩ : ∃ l6, l5 ++ vNum x.i = l6 := ⟨_, rfl⟩
      have Hl6 := Lib.hid hl6
      have Nl6 : Hid (l6.length = l5.length + (vNum x.i).length) := Lib.hid (by rw [← hl6, List.length_append])
      rw [hl6] at E6
      clear hl6
      have KX6 := Lib.hid ((hgrow.block _ (Array.getElem?_eq_some_iff.1 KY6.out).1 (fun e => own_neT F6.out.own KY6.out (by decide) e.symm)).trans KY6.out)
      clear hown hgrow F6 KY6 E5 KX5
      have x0 : z6.cell? ⟨q, 0, none⟩ = some (.int .i64 x.d) := by unfold World.cell?; rw [KX6.out]; rfl
      have x1 : z6.cell? ⟨q, 1, none⟩ = some (.int .i64 x.i) := by unfold World.cell?; rw [KX6.out]; rfl
      have x2 : z6.cell? ⟨q, 2, none⟩ = some (.string x.c) := by unfold World.cell?; rw [KX6.out]; rfl
      go_wp2_with fail
      refine (RXX.out _).mono ?_
      rintro _ y7 ⟨rfl, kk⟩
      have F7 := Lib.hid (E6.out.below kk)
      have KY7 := Lib.hid ((kk.block _ (Array.getElem?_eq_some_iff.1 KX6.out).1).trans KX6.out)
      clear kk
      go_wp2_with (at_builtin; refine Lib.wpList_append_own_string _ rfl _ _ 83 9 rfl w.heap.size 5 i0 Try.underlying83 Try.underlying9 hi hz0 hz1 hz2 _ _ _ rfl F7.out.own ⟨(vNum x.c.size ++ x.c.data.toList).toArray⟩ rfl ?c3 ?c4 ?c5 ?_)
      case c3 => rw [str_size]; unfold maxLen; have := LQ.out; have := Nl5.out; have := Nl6.out; omega
      case c4 => rw [str_size]; have := LQ.out; have := Nl5.out; have := Nl6.out; omega
      case c5 => exact F7.out.big
      intro b7 z7 hown hgrow _
      have E7 := Lib.hid (F7.out.grown (l' := vNum x.c.size ++ x.c.data.toList) hgrow (by first | rfl | (simp only [List.length_append]; done) | (have h1 : x.c.data.toList.length = x.c.data.size := Array.length_toList; have h2 : x.c.data.size = x.c.size := rfl; simp only [List.length_append]; omega)) hown)
      have KX7 := Lib.hid ((hgrow.block _ (Array.getElem?_eq_some_iff.1 KY7.out).1 (fun e => own_neT F7.out.own KY7.out (by decide) e.symm)).trans KY7.out)
      clear hown hgrow F7 KY7 E6 KX6
      have x0 : z7.cell? ⟨q, 0, none⟩ = some (.int .i64 x.d) := by unfold World.cell?; rw [KX7.out]; rfl
      have x1 : z7.cell? ⟨q, 1, none⟩ = some (.int .i64 x.i) := by unfold World.cell?; rw [KX7.out]; rfl
      have x2 : z7.cell? ⟨q, 2, none⟩ = some (.string x.c) := by unfold World.cell?; rw [KX7.out]; rfl
      have EE := E7.out
      rw [← Hl6.out, ← Hl5.out, HSTEP.out] at EE
      have HE := Lib.hid EE
      clear EE E7 KX7 x0 x1 x2 LQ
      go_wp2
      go_roundw
      case rel => exact ⟨k + 1, hkn.out, by go_num, HE⟩
      case measure => have := hkn.out; simp [intOf]; omega
    · obtain rfl : k = N := by omega
      have hd : decide ((k : Int) < (k : Int)) = false := by simp
      have hF := HF.out
      rw [List.take_of_length_le (by rw [HNN.out]; exact Nat.le_refl _)] at hF
      have hts := TS.out _ _ _ hF.own
      rw [HRL.out] at hts
      have HBz := Lib.hid hF.bel
      clear hF HF
      go_wp2
      go_ret2
      exact ⟨rfl, HBz.out⟩

set_option maxRecDepth 100000 in
set_option maxHeartbeats 2000000 in
theorem telld_h (op : Int) (hop : 1 ≤ op ∧ op ≤ 9) (hk : tls op = (false, false, true)) (n : Int) (t : ByteArray) (ht : t.size ≤ 140737488351232) (p : Option Addr) (cap : Nat) (z : List Hv) (hzl : z.length ≤ 65536) (hc : ∀ x ∈ z, x.c.size ≤ 140737488351232) (hlen : t.size + (hitsB z).length + 128 ≤ 140737488355328) (hf : fitsE op 0 n t z.length = 0) (hg : goesE z = 0) (w : World) (hz : HL w p z) :
    Calls Try.prog 14 #[.int .i64 op, .agg #[.int .i64 0, .int .i64 n, .string t, .slice p z.length cap]] w fun x w' => x = .returned (.tuple #[.string ⟨(([82, UInt8.ofNat op.toNat] ++ vNum 0 ++ (vNum z.length)) ++ hitsB z).toArray⟩, .int .i64 0]) ∧ Below w.heap.size w w' := by
  obtain ⟨i0, hi, hz0, hz1, hz2⟩ := info_parts u8info'
  have FI := Lib.hid (fun W => fits_calls op 0 n t p z.length cap W)
  have GO := Lib.hid (fun W h => goes_calls p cap z (by omega) W h)
  have TE := Lib.hid (fun W => tells_calls op W)
  rw [hf] at FI
  rw [hg] at GO
  rw [hk] at TE
  have RN := Lib.hid (fun x W => rnum_calls x W)
  have RT := Lib.hid (fun W => rtxt_calls t ht W)
  have RX := Lib.hid (fun (x : Hv) (hx : x.c.size ≤ 140737488351232) W => rtxt_calls x.c hx W)
  have HC := Lib.hid hc
  have HZ := Lib.hid hz
  have HLE := Lib.hid hlen
  have hwo : IntKind.u8.wrap op = op := by rw [IntKind.wrap_u8]; omega
  have hln : ∀ e : Int, (vNum e).length ≤ 10 := vNum_len
  have HLN := Lib.hid hln
  have hv : (#[.int .u8 82, .int .u8 op] : Array Value).toList = Lib.byteCells [82, UInt8.ofNat op.toNat] := by
    have hto : ((UInt8.ofNat op.toNat).toNat : Int) = op := by rw [u8ofNat_toNat _ (by omega)]; omega
    simp only [Lib.byteCells, List.map_cons, List.map_nil, hto]
    rfl
  have HV := Lib.hid hv
  have TS := Lib.hid (fun (W : World) (v : Value) (l : List UInt8) (h : W.ownsRow w.heap.size 5 1 v l.length (Lib.byteCells l)) => own_toStr (P := Try.prog) 83 9 5 Try.underlying83 Try.underlying5 Try.underlying9 (show W.ownsRow w.heap.size 5 1 v l.length (l.map by8) from h))
  obtain ⟨res, hres⟩ : ∃ res : ByteArray, ⟨(([82, UInt8.ofNat op.toNat] ++ vNum 0 ++ (vNum z.length)) ++ hitsB z).toArray⟩ = res := ⟨_, rfl⟩
  rw [hres]
  have HRES := Lib.hid hres
  have HB0 := Lib.hid ((Below.refl w.heap.size w).alloc (Nat.le_refl _) (.cells #[.int .i64 0, .int .i64 n, .string t, .slice p z.length cap] 33))
  have HQ0 := Lib.hid (Rp.new w 0 n t (.slice p z.length cap))
  clear hres hv hk hf hg hc hz hlen hln
  go_enter Try.func14, Try.ntmps14
  go_upto_region 1 with fail
  generalize w.alloc (.cells #[.int .i64 0, .int .i64 n, .string t, .slice p z.length cap] 33) = w1 at HB0 HQ0 ⊢
  obtain ⟨q0, q1, q2, q3, qf⟩ := HQ0.out.cells
  clear qf
  go_wp2_with fail
  refine (FI.out _).mono ?_
  rintro _ w2 ⟨rfl, k2⟩
  have HQ2 := Lib.hid (HQ0.out.of (k2.block _ HQ0.out.lt))
  have HB2 := Lib.hid (HB0.out.trans (k2.mono HB0.out.size))
  clear k2 q0 q1 q2 q3 HQ0 HB0
  obtain ⟨q0, q1, q2, q3, qf⟩ := HQ2.out.cells
  clear qf
  go_wp2_with fail
  refine (GO.out _ (HZ.out.below HB2.out)).mono ?_
  rintro _ w3 ⟨rfl, k3⟩
  have HQ3 := Lib.hid (HQ2.out.of (k3.block _ HQ2.out.lt))
  have HB3 := Lib.hid (HB2.out.trans (k3.mono HB2.out.size))
  clear k3 q0 q1 q2 q3 HQ2 HB2
  go_upto_region 8 with fail
  have G0 : Hid (Bf w (w3.alloc (.cells #[.int .u8 82, .int .u8 op] 5)) w.heap.size w.heap.size (.slice (some ⟨w3.heap.size, 0, none⟩) 2 2) [82, UInt8.ofNat op.toNat] 0 n t (.slice p z.length cap)) := Lib.hid ⟨by
    rw [← HV.out]
    exact World.ownsRow_lit (base := w.heap.size) (e := 5) (size := 1) w3 #[.int .u8 82, .int .u8 op] 2 HB3.out.size (by decide) rfl, HQ3.out.alloc _, HB3.out.alloc HB3.out.size _, by rw [World.size_alloc]; have := HB3.out.size; omega⟩
  generalize w3.alloc (.cells #[.int .u8 82, .int .u8 op] 5) = w4 at G0 ⊢
  generalize w3.heap.size = gb at G0 ⊢
  clear HQ3 HB3 HV
  obtain ⟨q0, q1, q2, q3, qf⟩ := G0.out.box.cells
  clear qf
  go_wp2_with fail
  refine (RN.out 0 _).mono ?_
  rintro _ y1 ⟨rfl, k1⟩
  have F1 := Lib.hid (G0.out.below k1)
  clear k1
  go_wp2_with (at_builtin; refine Lib.wpList_append_own_string _ rfl _ _ 83 9 rfl w.heap.size 5 i0 Try.underlying83 Try.underlying9 hi hz0 hz1 hz2 _ _ _ rfl F1.out.own ⟨(vNum 0).toArray⟩ rfl ?c3 ?c4 ?c5 ?_)
  case c3 => rw [str_size]; unfold maxLen; have := HLE.out; have h10 := HLN.out; have := h10 0; have := h10 n; have := h10 z.length; have := h10 t.size; have e1 : t.data.toList.length = t.data.size := Array.length_toList; have e2 : t.data.size = t.size := rfl; (try simp only [List.length_append]); (try simp only [List.length_cons, List.length_nil]); omega
  case c4 => rw [str_size]; have := HLE.out; have h10 := HLN.out; have := h10 0; have := h10 n; have := h10 z.length; have := h10 t.size; have e1 : t.data.toList.length = t.data.size := Array.length_toList; have e2 : t.data.size = t.size := rfl; (try simp only [List.length_append]); (try simp only [List.length_cons, List.length_nil]); omega
  case c5 => exact F1.out.big
  intro b1 z1 hown hgrow _
  have G1 := Lib.hid (F1.out.grown (l' := vNum 0) hgrow (by first | rfl | (simp only [List.length_append]; done) | (have e1 : t.data.toList.length = t.data.size := Array.length_toList; have e2 : t.data.size = t.size := rfl; (try simp only [List.length_append]); (try simp only [List.length_cons, List.length_nil]); omega)) hown)
  clear hown hgrow F1
  clear q0 q1 q2 q3
  obtain ⟨q0, q1, q2, q3, qf⟩ := G1.out.box.cells
  clear qf
  go_wp2_with fail
  refine (TE.out _).mono ?_
  rintro _ yt ⟨rfl, rfl⟩
  go_wp2_with fail
  refine (RN.out z.length _).mono ?_
  rintro _ y2 ⟨rfl, k2⟩
  have F2 := Lib.hid (G1.out.below k2)
  clear k2
  go_wp2_with (at_builtin; refine Lib.wpList_append_own_string _ rfl _ _ 83 9 rfl w.heap.size 5 i0 Try.underlying83 Try.underlying9 hi hz0 hz1 hz2 _ _ _ rfl F2.out.own ⟨(vNum z.length).toArray⟩ rfl ?c3 ?c4 ?c5 ?_)
  case c3 => rw [str_size]; unfold maxLen; have := HLE.out; have h10 := HLN.out; have := h10 0; have := h10 n; have := h10 z.length; have := h10 t.size; have e1 : t.data.toList.length = t.data.size := Array.length_toList; have e2 : t.data.size = t.size := rfl; (try simp only [List.length_append]); (try simp only [List.length_cons, List.length_nil]); omega
  case c4 => rw [str_size]; have := HLE.out; have h10 := HLN.out; have := h10 0; have := h10 n; have := h10 z.length; have := h10 t.size; have e1 : t.data.toList.length = t.data.size := Array.length_toList; have e2 : t.data.size = t.size := rfl; (try simp only [List.length_append]); (try simp only [List.length_cons, List.length_nil]); omega
  case c5 => exact F2.out.big
  intro b2 z2 hown hgrow _
  have G2 := Lib.hid (F2.out.grown (l' := vNum z.length) hgrow (by first | rfl | (simp only [List.length_append]; done) | (have e1 : t.data.toList.length = t.data.size := Array.length_toList; have e2 : t.data.size = t.size := rfl; (try simp only [List.length_append]); (try simp only [List.length_cons, List.length_nil]); omega)) hown)
  clear hown hgrow F2
  clear q0 q1 q2 q3
  obtain ⟨q0, q1, q2, q3, qf⟩ := G2.out.box.cells
  clear qf
  obtain ⟨l0, hl0⟩ : ∃ l0, ([82, UInt8.ofNat op.toNat] ++ vNum 0 ++ (vNum z.length)) = l0 := ⟨_, rfl⟩
  have hl0n : l0.length + (hitsB z).length + 40 ≤ 140737488355328 := by rw [← hl0]; have := HLE.out; have h10 := HLN.out; have := h10 0; have := h10 n; have := h10 z.length; have := h10 t.size; have e1 : t.data.toList.length = t.data.size := Array.length_toList; have e2 : t.data.size = t.size := rfl; (try simp only [List.length_append]); (try simp only [List.length_cons, List.length_nil]); omega
  have HR0 := HRES.out
  rw [hl0] at G2 HR0
  have HRL := Lib.hid HR0
  have HL0 := Lib.hid hl0n
  clear HR0 HRES hl0 hl0n q0 q1 q2 q3
  obtain ⟨N, hN⟩ : ∃ N, z.length = N := ⟨_, rfl⟩
  have HNN := Lib.hid hN
  have hNb : N ≤ 65536 := by rw [← hN]; exact hzl
  rw [hN] at G2
  simp only [hN]
  clear hN
  go_wp2
  go_loopw [7, 11] (fun v i ws => ∃ k : Nat, k ≤ N ∧ i = .int .i64 k ∧ Hid (Bf w ws w.heap.size w.heap.size v (l0 ++ hitsB (z.take k)) 0 n t (.slice p N cap))) (fun _ i _ => N - (intOf i).toNat)
  case atStart => exact ⟨0, Nat.zero_le _, rfl, Lib.hid (by simpa [hitsB] using G2.out)⟩
  case round =>
    obtain ⟨k, hk, rfl, HF⟩ := hrel
    obtain ⟨q0, q1, q2, q3, qf⟩ := HF.out.box.cells
    clear qf
    by_cases hlt : k < N
    · have hd : decide ((k : Int) < (N : Int)) = true := by simpa using hlt
      have hdn : decide (k < N) = true := by simpa using hlt
      have hki : (k : Int) < (N : Int) := by omega
      have hk0 : (0 : Int) ≤ (k : Int) := by omega
      have hkn : Hid (k + 1 ≤ N) := Lib.hid (by omega)
      obtain ⟨x, hx⟩ : ∃ x, z[k]? = some x := ⟨_, List.getElem?_eq_getElem (by rw [HNN.out]; exact hlt)⟩
      have hcx := HC.out x (List.mem_of_getElem? hx)
      obtain ⟨a, ha, f⟩ := (HZ.out.below HF.out.bel) k x hx
      subst ha
      obtain ⟨u0, u1, u2⟩ := f
      have hle := hitsB_le z (k + 1)
      rw [hitsB_step z k x hx] at hle
      unfold hitB at hle
      obtain ⟨lk, hlk⟩ : ∃ lk, l0 ++ hitsB (z.take k) = lk := ⟨_, rfl⟩
      have hlkn : lk.length = l0.length + (hitsB (z.take k)).length := by rw [← hlk, List.length_append]
      have LQ : Hid (lk.length + (vNum x.d).length + (vNum x.i).length + (vNum x.c.size ++ x.c.data.toList).length + 40 ≤ 140737488355328) := Lib.hid (by have := HL0.out; simp only [List.length_append] at hle ⊢; omega)
      have HSTEP : Hid (lk ++ vNum x.d ++ vNum x.i ++ (vNum x.c.size ++ x.c.data.toList) = l0 ++ hitsB (z.take (k + 1))) := Lib.hid (by rw [← hlk, hitsB_step z k x hx]; simp [hitB])
      rw [hlk] at HF
      have E0 := Lib.hid (HF.out.below ((Below.refl wr.heap.size wr).alloc (Nat.le_refl _) (.cells #[.int .i64 x.d, .int .i64 x.i, .string x.c] 35)))
      have KX0 := Lib.hid (heap_alloc_last wr (.cells #[.int .i64 x.d, .int .i64 x.i, .string x.c] 35))
      have RXX := Lib.hid (RX.out x hcx)
      clear hle hx hcx hlk hlkn
      go_upto_region 22 with fail
      generalize wr.alloc (.cells #[.int .i64 x.d, .int .i64 x.i, .string x.c] 35) = wa at E0 KX0 ⊢
      obtain ⟨q, hq⟩ : ∃ q, wr.heap.size = q := ⟨_, rfl⟩
      rw [hq] at KX0 ⊢
      clear hq u0 u1 u2 HF q0 q1 q2 q3
      have x0 : wa.cell? ⟨q, 0, none⟩ = some (.int .i64 x.d) := by unfold World.cell?; rw [KX0.out]; rfl
      have x1 : wa.cell? ⟨q, 1, none⟩ = some (.int .i64 x.i) := by unfold World.cell?; rw [KX0.out]; rfl
      have x2 : wa.cell? ⟨q, 2, none⟩ = some (.string x.c) := by unfold World.cell?; rw [KX0.out]; rfl
      go_wp2_with fail
      refine (RN.out x.d _).mono ?_
      rintro _ y5 ⟨rfl, kk⟩
      have F5 := Lib.hid (E0.out.below kk)
      have KY5 := Lib.hid ((kk.block _ (Array.getElem?_eq_some_iff.1 KX0.out).1).trans KX0.out)
      clear kk
      go_wp2_with (at_builtin; refine Lib.wpList_append_own_string _ rfl _ _ 83 9 rfl w.heap.size 5 i0 Try.underlying83 Try.underlying9 hi hz0 hz1 hz2 _ _ _ rfl F5.out.own ⟨(vNum x.d).toArray⟩ rfl ?c3 ?c4 ?c5 ?_)
      case c3 => rw [str_size]; unfold maxLen; have := LQ.out; omega
      case c4 => rw [str_size]; have := LQ.out; omega
      case c5 => exact F5.out.big
      intro b5 z5 hown hgrow _
      have E5 := Lib.hid (F5.out.grown (l' := vNum x.d) hgrow (by first | rfl | (simp only [List.length_append]; done) | (simp only [List.length_append, str_size]; omega)) hown)
      obtain ⟨l5, hl5⟩ : ∃ l5, lk ++ vNum x.d = l5 := ⟨_, rfl⟩
      have Hl5 := Lib.hid hl5
      have Nl5 : Hid (l5.length = lk.length + (vNum x.d).length) := Lib.hid (by rw [← hl5, List.length_append])
      rw [hl5] at E5
      clear hl5
      have KX5 := Lib.hid ((hgrow.block _ (Array.getElem?_eq_some_iff.1 KY5.out).1 (fun e => own_neT F5.out.own KY5.out (by decide) e.symm)).trans KY5.out)
      clear hown hgrow F5 KY5 E0 KX0
      have x0 : z5.cell? ⟨q, 0, none⟩ = some (.int .i64 x.d) := by unfold World.cell?; rw [KX5.out]; rfl
      have x1 : z5.cell? ⟨q, 1, none⟩ = some (.int .i64 x.i) := by unfold World.cell?; rw [KX5.out]; rfl
      have x2 : z5.cell? ⟨q, 2, none⟩ = some (.string x.c) := by unfold World.cell?; rw [KX5.out]; rfl
      skip
      go_wp2_with fail
      refine (RN.out x.i _).mono ?_
      rintro _ y6 ⟨rfl, kk⟩
      have F6 := Lib.hid (E5.out.below kk)
      have KY6 := Lib.hid ((kk.block _ (Array.getElem?_eq_some_iff.1 KX5.out).1).trans KX5.out)
      clear kk
      go_wp2_with (at_builtin; refine Lib.wpList_append_own_string _ rfl _ _ 83 9 rfl w.heap.size 5 i0 Try.underlying83 Try.underlying9 hi hz0 hz1 hz2 _ _ _ rfl F6.out.own ⟨(vNum x.i).toArray⟩ rfl ?c3 ?c4 ?c5 ?_)
      case c3 => rw [str_size]; unfold maxLen; have := LQ.out; have := Nl5.out; omega
      case c4 => rw [str_size]; have := LQ.out; have := Nl5.out; omega
      case c5 => exact F6.out.big
      intro b6 z6 hown hgrow _
      have E6 := Lib.hid (F6.out.grown (l' := vNum x.i) hgrow (by first | rfl | (simp only [List.length_append]; done) | (simp only [List.length_append, str_size]; omega)) hown)
      obtain ⟨l6, hl6⟩ : ∃ l6, l5 ++ vNum x.i = l6 := ⟨_, rfl⟩
      have Hl6 := Lib.hid hl6
      have Nl6 : Hid (l6.length = l5.length + (vNum x.i).length) := Lib.hid (by rw [← hl6, List.length_append])
      rw [hl6] at E6
      clear hl6
      have KX6 := Lib.hid ((hgrow.block _ (Array.getElem?_eq_some_iff.1 KY6.out).1 (fun e => own_neT F6.out.own KY6.out (by decide) e.symm)).trans KY6.out)
      clear hown hgrow F6 KY6 E5 KX5
      have x0 : z6.cell? ⟨q, 0, none⟩ = some (.int .i64 x.d) := by unfold World.cell?; rw [KX6.out]; rfl
      have x1 : z6.cell? ⟨q, 1, none⟩ = some (.int .i64 x.i) := by unfold World.cell?; rw [KX6.out]; rfl
      have x2 : z6.cell? ⟨q, 2, none⟩ = some (.string x.c) := by unfold World.cell?; rw [KX6.out]; rfl
      go_wp2_with fail
      refine (RXX.out _).mono ?_
      rintro _ y7 ⟨rfl, kk⟩
      have F7 := Lib.hid (E6.out.below kk)
      have KY7 := Lib.hid ((kk.block _ (Array.getElem?_eq_some_iff.1 KX6.out).1).trans KX6.out)
      clear kk
      go_wp2_with (at_builtin; refine Lib.wpList_append_own_string _ rfl _ _ 83 9 rfl w.heap.size 5 i0 Try.underlying83 Try.underlying9 hi hz0 hz1 hz2 _ _ _ rfl F7.out.own ⟨(vNum x.c.size ++ x.c.data.toList).toArray⟩ rfl ?c3 ?c4 ?c5 ?_)
      case c3 => rw [str_size]; unfold maxLen; have := LQ.out; have := Nl5.out; have := Nl6.out; omega
      case c4 => rw [str_size]; have := LQ.out; have := Nl5.out; have := Nl6.out; omega
      case c5 => exact F7.out.big
      intro b7 z7 hown hgrow _
      have E7 := Lib.hid (F7.out.grown (l' := vNum x.c.size ++ x.c.data.toList) hgrow (by first | rfl | (simp only [List.length_append]; done) | (have h1 : x.c.data.toList.length = x.c.data.size := Array.length_toList; have h2 : x.c.data.size = x.c.size := rfl; simp only [List.length_append]; omega)) hown)
      have KX7 := Lib.hid ((hgrow.block _ (Array.getElem?_eq_some_iff.1 KY7.out).1 (fun e => own_neT F7.out.own KY7.out (by decide) e.symm)).trans KY7.out)
      clear hown hgrow F7 KY7 E6 KX6
      have x0 : z7.cell? ⟨q, 0, none⟩ = some (.int .i64 x.d) := by unfold World.cell?; rw [KX7.out]; rfl
      have x1 : z7.cell? ⟨q, 1, none⟩ = some (.int .i64 x.i) := by unfold World.cell?; rw [KX7.out]; rfl
      have x2 : z7.cell? ⟨q, 2, none⟩ = some (.string x.c) := by unfold World.cell?; rw [KX7.out]; rfl
      have EE := E7.out
      rw [← Hl6.out, ← Hl5.out, HSTEP.out] at EE
      have HE := Lib.hid EE
      clear EE E7 KX7 x0 x1 x2 LQ
      go_wp2
      go_roundw
      case rel => exact ⟨k + 1, hkn.out, by go_num, HE⟩
      case measure => have := hkn.out; simp [intOf]; omega
    · obtain rfl : k = N := by omega
      have hd : decide ((k : Int) < (k : Int)) = false := by simp
      have hF := HF.out
      rw [List.take_of_length_le (by rw [HNN.out]; exact Nat.le_refl _)] at hF
      have hts := TS.out _ _ _ hF.own
      rw [HRL.out] at hts
      have HBz := Lib.hid hF.bel
      clear hF HF
      go_wp2
      go_ret2
      exact ⟨rfl, HBz.out⟩

end Go.Proofs.Ytabhjkaheghbhaa
