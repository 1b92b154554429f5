/-
  WALK: the law BitsBack: values of the chunks are a code and back; one too great, or one too few, is refused.
-/
import Derived.Test.YtldcfgifimdmmaaArgs
import Derived.Test.YtldcfgifimdmmaaJoin2
import Derived.Test.YtldcfgifimdmmaaChunks2
import Derived.Outline
import Derived.RegionTactic
import Derived.ChangeAlike
import Derived.BigRegion
namespace Go.Proofs.Ytldcfgifimdmmaa
open Go.RowKit XKit
set_option linter.unusedVariables false

/-- The value of chunk j that the law hands in. -/
def inV (w m : Nat) (zs : List Int) (j : Nat) : Nat := ((if j < zs.length then zs.getD j 0 else (j : Int) * 2654435761) % ((2 ^ cN w m j : Nat) : Int)).toNat
theorem inV_lt (w m : Nat) (zs : List Int) (j : Nat) : inV w m zs j < 2 ^ cN w m j := by
  have hp : (0 : Int) < ((2 ^ cN w m j : Nat) : Int) := by have := Nat.two_pow_pos (cN w m j); omega
  have h1 := Int.emod_lt_of_pos (if j < zs.length then zs.getD j 0 else (j : Int) * 2654435761) hp
  unfold inV
  omega
def inL (w m : Nat) (zs : List Int) (k : Nat) : List Int := (List.range k).map fun j => (inV w m zs j : Int)
theorem inL_length (w m : Nat) (zs : List Int) (k : Nat) : (inL w m zs k).length = k := by simp [inL]
theorem inL_succ (w m : Nat) (zs : List Int) (k : Nat) : inL w m zs (k + 1) = inL w m zs k ++ [(inV w m zs k : Int)] := by simp [inL, List.range_succ]
theorem inL_get (w m : Nat) (zs : List Int) (k j : Nat) (h : j < k) : (inL w m zs k).getD j 0 = (inV w m zs j : Int) := by simp [inL, List.getD, h]
theorem chunkC_get (w m n j : Nat) (h : j < n) : (chunkC w m n)[j * 2 + 1]? = some (.int .i64 (cN w m j : Int)) := by
  induction n with
  | zero => omega
  | succ n ih =>
    have hl : (chunkC w m n).length = 2 * n := by
      clear ih h
      induction n with
      | zero => rfl
      | succ n ih => rw [chunkC_succ, List.length_append, ih]; simp; omega
    rw [chunkC_succ]
    by_cases hj : j < n
    · rw [List.getElem?_append_left (by omega)]; exact ih hj
    · obtain rfl : j = n := by omega
      rw [List.getElem?_append_right (by omega), hl]
      simp [show j * 2 + 1 - 2 * j = 1 by omega]

theorem or_i64 (a b : Nat) (ha : a < 9223372036854775808) (hb : b < 9223372036854775808) : bits .or .i64 (a : Int) (b : Int) = ((a ||| b : Nat) : Int) := by
  have hx : a ||| b < 2 ^ 63 := Nat.or_lt_two_pow (by omega) (by omega)
  have o : ∀ a : Nat, a < 9223372036854775808 → (BitVec.ofInt 64 (a : Int)).toNat = a := fun a ha => by rw [BitVec.ofInt_natCast, BitVec.toNat_ofNat]; exact Nat.mod_eq_of_lt (by omega)
  show IntKind.i64.wrap ((BitVec.ofInt 64 (a : Int) ||| BitVec.ofInt 64 (b : Int)).toNat : Int) = _
  rw [BitVec.toNat_or, o a ha, o b hb, IntKind.wrap_i64]
  omega

theorem pow_cast (c : Nat) : (2 : Int) ^ c = ((2 ^ c : Nat) : Int) := by simp
theorem wrap_pow1 (c : Nat) (h : c ≤ 32) : wrap64 ((2 : Int) ^ c) = (2 : Int) ^ c := by
  have h1 : 2 ^ c ≤ 2 ^ 32 := Nat.pow_le_pow_right (by omega) h
  rw [pow_cast]
  obtain ⟨q, hq⟩ : ∃ q, 2 ^ c = q := ⟨_, rfl⟩
  rw [hq] at h1 ⊢
  exact Go.IntWalk.wrap64_in _ (by omega)
theorem wrap_pow (c : Nat) (h : c ≤ 32) : wrap64 (wrap64 ((2 : Int) ^ c) - 1) = (2 : Int) ^ c - 1 := by
  have h1 : 2 ^ c ≤ 2 ^ 32 := Nat.pow_le_pow_right (by omega) h
  have h2 := Nat.two_pow_pos c
  rw [wrap_pow1 c h, pow_cast]
  obtain ⟨q, hq⟩ : ∃ q, 2 ^ c = q := ⟨_, rfl⟩
  rw [hq] at h1 h2 ⊢
  exact Go.IntWalk.wrap64_in _ (by omega)

attribute [local irreducible] chunkC inL inV
set_option maxRecDepth 100000 in
set_option maxHeartbeats 2000000 in
theorem BitsBack_walk (a0 : Int) (w0 : (Lit.int .i64 a0).wf = true) (a1 : Int) (w1 : (Lit.int .i64 a1).wf = true) (a2 : Value) (z2 : List Int) (w : World) (hR : IsRow w a2 z2) :
    Calls Try.prog 7 #[.int .i64 a0, .int .i64 a1, a2] w fun e w' => e = .returned (.bool true) ∧ Below w.heap.size w w' := by
  obtain ⟨hR1, hR2, hR3⟩ := hR
  obtain ⟨p, cap, rfl, hp⟩ : ∃ (p : Option Addr) (cap : Nat), a2 = .slice p z2.length cap ∧ ∀ i, i < z2.length → ∃ a, p = some a ∧ w.cell? (a.add i) = some (.int .i64 (z2.getD i 0)) := by
    rcases hR3 with ⟨rfl, rfl⟩ | ⟨a, cap, rfl, _, _, hc⟩
    · exact ⟨none, 0, rfl, fun i hi => absurd hi (Nat.not_lt_zero _)⟩
    · exact ⟨some a, cap, rfl, fun i hi => ⟨a, rfl, hc i hi⟩⟩
  obtain ⟨i0, hi, hz0, hz1, hz2⟩ := info_parts intinfo
  obtain ⟨len, hlen⟩ : ∃ len, z2.length = len := ⟨_, rfl⟩
  have HLEN := Lib.hid hlen
  rw [hlen] at hp hR1
  rw [hlen]
  have HP := Lib.hid hp
  have hok := wOf_ok a0 a1
  have hck := wOf_chunked a0 a1
  have CW := widths_calls a0 a1 w
  obtain ⟨W, hW⟩ : ∃ W, wOf a0 = W := ⟨_, rfl⟩
  obtain ⟨M, hM⟩ : ∃ M, mOf a0 a1 = M := ⟨_, rfl⟩
  rw [hW, hM] at hck CW hok
  have HCK := Lib.hid hck
  obtain ⟨g1, g2, g3, g4, g5⟩ := hok
  clear hR3 hR2 hp hlen hW hM hck
  go_enter Try.func7, Try.ntmps7
  go_wp2_with fail
  refine CW.mono ?_
  rintro e x1 ⟨rfl, hb1⟩
  go_wp2_with fail
  refine (Chunks_ok W M HCK.out x1).mono ?_
  rintro e x2 ⟨v, rfl, hrow, hb2⟩
  obtain ⟨gc, capc, rfl, hgc, hgl⟩ := hrow.form (by omega)
  have hrl := hrow.lt _ rfl
  have hbl2 := hb1.trans (hb2.mono hb1.size)
  have hs2 := hbl2.size
  have HROW := Lib.hid hrow
  clear hrow hb1 hb2 CW
  go_wp2
  go_loopw [9, 10] (fun v j wr => ∃ k : Nat, k ≤ M ∧ j = .int .i64 k ∧ wr.ownsRow x2.heap.size 3 1 v k ((inL W M z2 k).map (Value.int .i64)) ∧ Below x2.heap.size x2 wr) (fun _ j _ => M - (intOf j).toNat)
  case atStart => exact ⟨0, Nat.zero_le _, rfl, (show x2.ownsRow _ _ _ _ 0 ((inL W M z2 0).map (Value.int .i64)) by rw [show inL W M z2 0 = [] by unfold inL; rfl]; exact World.ownsRow_nil _ _ _ _), Below.refl _ _⟩
  case round =>
    obtain ⟨k, hk, rfl, hown, hbl⟩ := hrel
    by_cases hlt : k < M
    · have hcc := (hbl.cell (p := ⟨gc, k * 2 + 1, none⟩) hgl).trans ((HROW.out.cellAt (k * 2 + 1) (by omega)).trans (chunkC_get W M M k hlt))
      have hcn := cN_le W M k (by omega) (by omega)
      have HV : Hid (∀ x : Int, (if k < len then z2.getD k 0 else (k : Int) * 2654435761) = x → bits .and .i64 x (wrap64 (wrap64 ((2 : Int) ^ cN W M k) - 1)) = (inV W M z2 k : Int)) := Lib.hid (fun x hx => by
        rw [wrap_pow _ hcn]
        have h1 := Nat.two_pow_pos (cN W M k)
        have h2 := and_mask_i64 x (2 ^ cN W M k - 1) (cN W M k) (by omega) (by omega)
        rw [show ((2 ^ cN W M k - 1 : Nat) : Int) = (2 : Int) ^ cN W M k - 1 by rw [Int.natCast_sub (by omega)]; simp] at h2
        rw [h2]
        unfold inV
        rw [HLEN.out, hx, Int.toNat_of_nonneg (Int.emod_nonneg _ (by omega))])
      have hvl := inV_lt W M z2 k
      have hc32 : 2 ^ cN W M k ≤ 2 ^ 32 := Nat.pow_le_pow_right (by omega) hcn
      obtain ⟨c, hc⟩ : ∃ c, cN W M k = c := ⟨_, rfl⟩
      obtain ⟨x, hx⟩ : ∃ x, inV W M z2 k = x := ⟨_, rfl⟩
      rw [hc] at hcc hcn HV hc32 hvl
      rw [hx] at HV hvl
      have HS : Hid (inL W M z2 (k + 1) = inL W M z2 k ++ [(x : Int)]) := Lib.hid (by rw [inL_succ, hx])
      clear hc hx
      by_cases hl : k < len
      · obtain ⟨a, rfl, hc⟩ := HP.out k hl
        have hc' : wr.cell? (a.add k) = some (.int .i64 (z2.getD k 0)) := ((hbl2.trans (hbl.mono hs2)).cell (p := a.add k) (by
          rcases Nat.lt_or_ge (a.add k).block w.heap.size with h | h
          · exact h
          · simp [World.cell?, Array.getElem?_eq_none h] at hc)).trans hc
        have hv := HV.out (z2.getD k 0) (if_pos hl)
        obtain ⟨y, hy⟩ : ∃ y, z2.getD k 0 = y := ⟨_, rfl⟩
        rw [hy] at hc' hv
        clear hc hy
        go_wp2_with (at_builtin; (refine wpList_append_lies _ rfl _ _ 39 rfl x2.heap.size 3 i0 (.int .i64 0) 1 8 Try.underlying39 hi hz0 hz1 hz2 rfl (by decide) _ k _ rfl (hown.alloc _) ⟨wr.heap.size, 0, none⟩ 1 1 [.int .i64 (x : Int)] rfl rfl (World.news_of_block (heap_alloc_new wr _)) (by simp [Value.oneCell']) (by decide) (by unfold maxLen; omega) (by omega) (by have := hbl.size; simp; omega) _ rfl ?_); intro g capn y1 hown' hgrow hat hlt2)
        have hbn : Below x2.heap.size x2 y1 := (hbl.alloc hbl.size _).grown hgrow (by have := hbl.size; simp; omega) (fun g hg => (hown.lt g hg).1)
        go_roundw
        case rel => exact ⟨k + 1, by omega, by go_num, by rw [HS.out, List.map_append]; exact hown', hbn⟩
        case measure => simp [intOf]; omega
      · have hv := HV.out ((k : Int) * 2654435761) (if_neg hl)
        go_wp2_with (at_builtin; (refine wpList_append_lies _ rfl _ _ 39 rfl x2.heap.size 3 i0 (.int .i64 0) 1 8 Try.underlying39 hi hz0 hz1 hz2 rfl (by decide) _ k _ rfl (hown.alloc _) ⟨wr.heap.size, 0, none⟩ 1 1 [.int .i64 (x : Int)] rfl rfl (World.news_of_block (heap_alloc_new wr _)) (by simp [Value.oneCell']) (by decide) (by unfold maxLen; omega) (by omega) (by have := hbl.size; simp; omega) _ rfl ?_); intro g capn y1 hown' hgrow hat hlt2)
        have hbn : Below x2.heap.size x2 y1 := (hbl.alloc hbl.size _).grown hgrow (by have := hbl.size; simp; omega) (fun g hg => (hown.lt g hg).1)
        go_roundw
        case rel => exact ⟨k + 1, by omega, by go_num, by rw [HS.out, List.map_append]; exact hown', hbn⟩
        case measure => simp [intOf]; omega
    · obtain rfl : k = M := by omega
      obtain ⟨gi, ci, rfl, hgi, hgil⟩ := hown.form (by omega)
      have hgood : ∀ x : Fin k, goodV W k (inL W k z2 k) x := fun x => by
        unfold goodV
        rw [inL_get W k z2 k x.val x.isLt]
        have := inV_lt W k z2 x.val
        exact ⟨by omega, by exact_mod_cast this⟩
      have hq : ∀ i, i < k → ∃ a, some (⟨gi, 0, none⟩ : Addr) = some a ∧ wr.cell? (a.add i) = some (.int .i64 ((inL W k z2 k).getD i 0)) := fun i hi => ⟨_, rfl, by
        rw [add0, hown.cellAt i (by omega), ints_get _ i (by rw [inL_length]; exact hi)]⟩
      have CJ := Join_ok W k (some ⟨gi, 0, none⟩) ci (inL W k z2 k) HCK.out (inL_length _ _ _ _) wr hq
      have HCJ := Lib.hid CJ
      have HG := Lib.hid hgood
      have HOWN := Lib.hid hown
      clear CJ hgood hq hown hlt
      go_wp2_with fail
      refine HCJ.out.mono ?_
      rintro e x3 ⟨hj, _, hb3⟩
      obtain rfl := hj HG.out
      clear hj
      obtain ⟨s, hs, hsl⟩ : ∃ s : ByteArray, (⟨(joinB W k ((inL W k z2 k).map Int.toNat)).toArray⟩ : ByteArray) = s ∧ s.data.toList = joinB W k ((inL W k z2 k).map Int.toNat) := ⟨_, rfl, by simp⟩
      rw [hs]
      have hsz : s.size = W / 8 := by rw [size_data, hsl, joinB_length]
      have hval : splitV s.data.toList W k k = (inL W k z2 k).map (Value.int .i64) := by
        unfold splitV inL
        rw [hsl, List.map_map]
        apply List.ext_getElem
        · simp [fr]
        · intro j h1 h2
          have hj : j < k := by simpa using h2
          have := joinB_value W k ((inL W k z2 k).map Int.toNat) (by omega) (by omega) j hj
          have hv : ((inL W k z2 k).map Int.toNat).getD j 0 = inV W k z2 j := by simp [inL, List.getD, hj]
          rw [hv, Nat.mod_eq_of_lt (inV_lt W k z2 j)] at this
          simp [fr, this]
      have HS := Lib.hid hval
      clear hval hs hsl
      have hxs := hbl.size
      go_wp2_with fail
      refine (Split_ok W k s HCK.out hsz x3).mono ?_
      rintro e x4 ⟨v4, rfl, h4, hb4⟩
      rw [HS.out] at h4
      have hown4 := own_belowAll (own_belowAll HOWN.out hb3) (hb4.mono (Nat.le_refl _))
      have C5 := sameInts_calls (.slice (some ⟨gi, 0, none⟩) k ci) v4 x2.heap.size x3.heap.size 3 3 (inL W k z2 k) (inL W k z2 k) (by rw [inL_length]; omega) x4 (by rw [inL_length]; exact hown4) (by rw [inL_length]; exact h4)
      rw [decide_eq_true rfl] at C5
      have HC5 := Lib.hid C5
      clear C5 h4
      have hbx4 : Below x2.heap.size x2 x4 := (hbl.trans (hb3.mono hxs)).trans (hb4.mono (by have := hb3.size; omega))
      have HO4 := Lib.hid hown4
      clear hb3 hb4 hown4
      go_wp2_with fail
      refine HC5.out.mono ?_
      rintro e x5 ⟨rfl, hb5⟩
      have hown5 := own_belowAll HO4.out hb5
      have hbx5 : Below x2.heap.size x2 x5 := hbx4.trans (hb5.mono hbx4.size)
      have HO5 := Lib.hid hown5
      clear hown5 hb5
      have hkc : k ≤ ci := by
        obtain ⟨_, _, h, hle, _⟩ := own_rd HOWN.out
        cases h
        exact hle
      have hzx := inV_lt W k z2 0
      have hc0n := cN_le W k 0 (by omega) (by omega)
      have hcd := (hbx5.cell (p := ⟨gc, 1, none⟩) hgl).trans ((HROW.out.cellAt 1 (by omega)).trans (chunkC_get W k k 0 (by omega)))
      have hid : x5.cell? ⟨gi, 0, none⟩ = some (.int .i64 (inV W k z2 0 : Int)) := by
        rw [HO5.out.cellAt 0 (by omega), ints_get _ 0 (by rw [inL_length]; omega), inL_get _ _ _ _ _ (by omega)]
      have hif := HO5.out.frozenAt 0
      obtain ⟨c, hc⟩ : ∃ c, cN W k 0 = c := ⟨_, rfl⟩
      obtain ⟨x, hx⟩ : ∃ x, inV W k z2 0 = x := ⟨_, rfl⟩
      rw [hc] at hcd hc0n hzx
      rw [hx] at hid hzx
      have HC := Lib.hid hc
      have hc32 : 2 ^ c ≤ 2 ^ 32 := Nat.pow_le_pow_right (by omega) hc0n
      obtain ⟨y, hy⟩ : ∃ y, x ||| 2 ^ c = y := ⟨_, rfl⟩
      have hyl : 2 ^ c ≤ y := by rw [← hy]; exact Nat.right_le_or
      have hor : bits .or .i64 (x : Int) (wrap64 ((2 : Int) ^ c)) = (y : Int) := by
        rw [wrap_pow1 _ hc0n]
        have := or_i64 x (2 ^ c) (by omega) (by omega)
        rw [show ((2 ^ c : Nat) : Int) = (2 : Int) ^ c by simp] at this
        rw [this, hy]
      have hne1 : gi ≠ gc := by omega
      clear hc hx hy
      go_wp2_with fail
      refine (Join_len W k (some ⟨gi, 0, none⟩) (k - 1) ci HCK.out (by omega) x5).mono ?_
      rintro e x6 ⟨rfl, hb6⟩
      have e1 := (hb6.cell (p := ⟨gc, 1, none⟩) (by have := hbx5.size; show gc < _; omega)).trans hcd
      have e2 := (hb6.cell (p := ⟨gi, 0, none⟩) (HO5.out.lt _ rfl).2).trans hid
      have e3 := (hb6.frozen (p := ⟨gi, 0, none⟩) (HO5.out.lt _ rfl).2).trans hif
      have hbx6 := hbx5.trans (hb6.mono hbx5.size)
      have hown6 := own_belowAll HO5.out hb6
      have HO6 := Lib.hid hown6
      clear hb6 hcd hid hif hown6
      go_wp2
      go_region
      obtain ⟨hown7, hgr7⟩ := HO6.out.stored 0 (.int .i64 (y : Int))
      have hz7 : ((inL W k z2 k).map (Value.int .i64)).set 0 (.int .i64 (y : Int)) = ((inL W k z2 k).set 0 (y : Int)).map (Value.int .i64) := by rw [List.map_set]
      rw [hz7] at hown7
      have hbad : ¬ ∀ x : Fin k, goodV W k ((inL W k z2 k).set 0 (y : Int)) x := fun hall => by
        have h7 : ((inL W k z2 k).set 0 (y : Int)).getD 0 0 < 2 ^ cN W k 0 := (hall ⟨0, by omega⟩).2
        have hl := inL_length W k z2 k
        rw [HC.out, pow_cast] at h7
        have e : ((inL W k z2 k).set 0 (y : Int)).getD 0 0 = (y : Int) := by
          simp only [List.getD, List.getElem?_set, hl]
          rw [if_pos trivial, if_pos (by omega)]
          rfl
        rw [e] at h7
        clear hor
        omega
      have HO7 := Lib.hid hown7
      have HB := Lib.hid hbad
      clear hown7 hz7 hbad
      go_wp2_with fail
      refine (Join_ok W k (some ⟨gi, 0, none⟩) ci ((inL W k z2 k).set 0 (y : Int)) HCK.out (by rw [List.length_set, inL_length]) _ ?_).mono ?_
      · intro i hi
        refine ⟨_, rfl, ?_⟩
        rw [add0]
        exact (HO7.out.cellAt i (by omega)).trans (ints_get _ i (by rw [List.length_set, inL_length]; exact hi))
      rintro e x7 ⟨_, hj, hb7⟩
      obtain rfl := hj HB.out
      clear hj
      go_wp2
      go_ret
      refine ⟨by simp, hbl2.trans ?_⟩
      have hb8 : Below x2.heap.size x2 ((x6.setCell ⟨gi, 0, none⟩ (.int .i64 (y : Int))).drew) := (hbx6.setCell (p := ⟨gi, 0, none⟩) hgi _).drew
      exact (hb8.trans (hb7.mono hb8.size)).mono hs2
end Go.Proofs.Ytldcfgifimdmmaa
