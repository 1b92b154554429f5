/-
  THE LAW MergeNexts, walked.
-/
import Derived.Test.YtahdaccmokjgpaaNxJ
import Derived.Test.YtahdaccmokjgpaaNxL
namespace Go.Proofs.Ytahdaccmokjgpaa
open Go.RowKit ArgK
set_option linter.unusedVariables false

theorem KLs.mono {w : World} {B B' : Nat} {p : Option Addr} {ls : List Kl} (h : KLs w B p ls) (hB : B ≤ B') : KLs w B' p ls := fun i x hx => by
  obtain ⟨a, e, h1, h2, h3⟩ := h i x hx
  exact ⟨a, e, h1, h2.mono hB, h3⟩

theorem rev_get {z : List Kl} {n k : Nat} (hn : z.length = n) (hk : k < n) : z.reverse[k]? = z[n - 1 - k]? := by
  rw [List.getElem?_reverse (by omega), hn]

set_option maxRecDepth 100000 in
set_option maxHeartbeats 8000000 in
theorem MergeNexts_walk (v : Value) (z : List Kl) (bottom : Bool) (steps : Int) (hst : (Lit.int .i64 steps).wf = true) (w : World) (h0 : IsSl w 5 56 (IsKl w) [v] z) :
    Calls Try.prog 5 #[v, .bool bottom, .int .i64 steps] w fun e w' => e = .returned (.bool true) ∧ Below w.heap.size w w' := by
  obtain ⟨p, c, rfl, hpn, hsz, hK, hw⟩ := kls_arg h0
  obtain ⟨n, hn⟩ : ∃ n, z.length = n := ⟨_, rfl⟩
  rw [hn] at hsz hpn ⊢
  obtain ⟨i0, hi0, hz0, hz1, hz2⟩ := info_parts klinfo
  obtain ⟨i1, hi1, hy0, hy1, hy2⟩ := info_parts srcinfo
  have hnn : ∀ W : World, (binOp .neq 39 .nilFunc .nilFunc).run Try.prog W = .ok (.bool false) W := fun W => by kernel_rfl
  have HN := Lib.hid hn
  have HK := Lib.hid hK
  have HW := Lib.hid hw
  clear h0 hK hw hpn hn
  go_enter Try.func5, Try.ntmps5
  go_wp2
  go_loopw [8, 9] (fun rv iv wr => ∃ k : Nat, iv = .int .i64 ((n : Int) - 1 - k) ∧ k ≤ n ∧ Hid (wr.ownsRow w.heap.size 35 5 rv k (encK (z.reverse.take k)) ∧ Below w.heap.size w wr)) (fun _ iv _ => (intOf iv + 1).toNat)
  case atStart => exact ⟨0, by simp, Nat.zero_le _, Lib.hid ⟨own_none, Below.refl _ _⟩⟩
  case round =>
    obtain ⟨rv, rfl⟩ : ∃ rv : Value, rv = u8 := ⟨_, rfl⟩
    obtain ⟨k, rfl, hk, HI⟩ := hrel
    obtain ⟨wo, rfl⟩ : ∃ wo : World, wo = wr := ⟨_, rfl⟩
    obtain ⟨op, oc, rfl, _, _, _⟩ := own_rd HI.out.1
    by_cases hlt : k < n
    · obtain ⟨j, hj⟩ : ∃ j, n - 1 - k = j := ⟨_, rfl⟩
      have hjn : j < n := by omega
      have hji : (n : Int) - 1 - (k : Int) = (j : Int) := by omega
      obtain ⟨x, hx⟩ : ∃ x, z[j]? = some x := ⟨_, List.getElem?_eq_getElem (by rw [HN.out]; exact hjn)⟩
      obtain ⟨a, rfl, h5, hE, hel⟩ := HK.out.below (Nat.le_refl _) (HI.out.2) j x hx
      have HNx : Hid (∀ rv' w2, w2.ownsRow w.heap.size 35 5 rv' (k + 1) (encK (z.reverse.take k) ++ [.slice x.q x.es.length x.c, .int .i64 x.fin, .bool x.mute, .int .i64 x.u3, .bool x.dn]) → Below w.heap.size w w2 → w2.ownsRow w.heap.size 35 5 rv' (k + 1) (encK (z.reverse.take (k + 1))) ∧ Below w.heap.size w w2) := Lib.hid (fun rv' w2 h1 h2 => ⟨by
        rw [List.take_add_one, rev_get HN.out hlt, hj, hx]
        show w2.ownsRow _ _ _ _ _ (encK (z.reverse.take k ++ [x]))
        rw [encK_snoc]
        exact h1, h2⟩)
      obtain ⟨q, xc, es, fin, mute, u3, dn⟩ := x
      obtain ⟨x0, x1, x2, x3, x4⟩ := h5
      obtain ⟨nl, hnl⟩ : ∃ nl, es.length = nl := ⟨_, rfl⟩
      simp only at x0 x1 x2 x3 x4 hel HNx
      simp only [hnl] at x0 hel HNx
      have z0 := cell_lt x0
      have hs := HI.out.2.size
      have hva := HI.out.1.alloc (.cells #[.slice q nl xc, .int .i64 fin, .bool mute, .int .i64 u3, .bool dn] 35)
      have hnews := World.news_of_block (cs := #[.slice q nl xc, .int .i64 fin, .bool mute, .int .i64 u3, .bool dn]) (t := 35) (fr := (0, 0)) (heap_alloc_new wo (.cells #[.slice q nl xc, .int .i64 fin, .bool mute, .int .i64 u3, .bool dn] 35))
      have chk1 : k + 1 ≤ maxLen := by unfold maxLen; omega
      have chk2 : (k + 1) * 56 ≤ 140737488355328 := by omega
      have chk3 : w.heap.size ≤ (wo.alloc (.cells #[.slice q nl xc, .int .i64 fin, .bool mute, .int .i64 u3, .bool dn] 35)).heap.size := by simp; omega
      have HBL := Lib.hid HI.out.2
      have j0 : (0 : Int) ≤ (j : Int) := by omega
      have j1 : (j : Int) < (n : Int) := by omega
      rw [hji]
      have hjw : IntKind.i64.wrap ((j : Int) - 1) = (j : Int) - 1 := by rw [IntKind.wrap_i64]; omega
      clear hx hE hnl hj
      go_wp2_with (at_builtin; refine wpList_append_own _ rfl _ _ 33 rfl w.heap.size 35 i0 _ 5 56 Try.underlying33 hi0 hz0 hz1 hz2 rfl (by decide) (.slice op k oc) k _ rfl hva ⟨wo.heap.size, 0, none⟩ 1 1 [.slice q nl xc, .int .i64 fin, .bool mute, .int .i64 u3, .bool dn] rfl rfl hnews (by simp [Value.oneCell']) chk1 chk2 chk3 ?_)
      intro rv2 w2 hown2 hgrow2 _
      have hb2 : Below w.heap.size w w2 := (HBL.out.alloc HBL.out.size _).trans ((kp_grown hva hgrow2).below chk3)
      have HR := Lib.hid (HNx.out rv2 w2 hown2 hb2)
      clear hown2 hgrow2 hb2 hva hnews chk3 x0 x1 x2 x3 x4
      go_wp2
      go_roundw
      case rel => exact ⟨k + 1, by congr 1; omega, by omega, HR⟩
      case measure => first | (simp [intOf]; done) | (simp [intOf]; omega)
    · obtain rfl : n = k := by omega
      have hneg : (n : Int) - 1 - (n : Int) = -1 := by omega
      rw [hneg]
      have hOwn := HI.out.1
      rw [List.take_of_length_le (Nat.le_of_eq (by rw [List.length_reverse, HN.out]))] at hOwn
      have hlr : z.reverse.length = n := by rw [List.length_reverse, HN.out]
      have hKo := (HK.out.below (Nat.le_refl _) HI.out.2)
      have HU := Lib.hid (untouched_calls (bottom := bottom) (c := c) HN.out hsz (hKo.mono HI.out.2.size))
      have HOwn := Lib.hid hOwn
      have HLR := Lib.hid hlr
      have HBo := Lib.hid HI.out.2
      clear hOwn hlr hKo
      go_wp2_with fail
      refine HU.out.mono ?_
      rintro e w3 ⟨rfl, hb3⟩
      have HB3 := Lib.hid (HBo.out.trans (hb3.mono HBo.out.size))
      have HOwn3 := Lib.hid (own_belowAll HOwn.out hb3)
      have hbase := HB3.out.size
      have b2 : i1.bytes * (n + 64) ≤ 281474976710656 := by rw [hy2]; omega
      have b3 : n + 64 ≤ maxLen := by unfold maxLen; omega
      clear hb3
      go_wp2_with (refine wpList_make_full _ rfl _ _ 37 rfl w.heap.size 41 i1 _ 1 Try.underlying37 hi1 hy0 hy1 .i64 .i64 _ _ (n + 64) rfl rfl (by simp) (by simp) b2 b3 hbase ?_)
      intro w4 hown4 hgrow4
      have hown4 : w4.ownsRow w.heap.size 41 1 (.slice (some ⟨w3.heap.size, 0, none⟩) (n + 64) (n + 64)) (n + 64) (List.replicate (n + 64) .nilFunc) := by
        rw [← toList_madeCells_one]
        exact hown4
      have hb34 : Below w3.heap.size w3 w4 := ⟨hgrow4.os, hgrow4.tape, hgrow4.output, hgrow4.size, fun g hg => hgrow4.block g hg (by simp)⟩
      have HB4 := Lib.hid (HB3.out.trans (hb34.mono hbase))
      have HOwn4 := Lib.hid (own_belowAll HOwn3.out hb34)
      have HGl := Lib.hid (fun g (hg : (Value.slice op n oc).ownBlock = some g) => (HOwn3.out.lt g hg).2)
      have hrep : List.replicate n Value.nilFunc ++ (List.replicate (n + 64) Value.nilFunc).drop n = List.replicate (n + 64) .nilFunc := by
        rw [List.drop_replicate, List.replicate_append_replicate]
        congr 1
        omega
      have HP1 := Lib.hid (played_calls (bottom := bottom) (steps := steps) (c := c) hown4 (show n < n + 64 by omega) hbase HN.out hsz (HK.out.below (Nat.le_refl _) HB4.out) HW.out)
      rw [hrep] at HP1
      have HRep := Lib.hid hrep
      obtain ⟨gF, hgF⟩ : ∃ g, w3.heap.size = g := ⟨_, rfl⟩
      rw [hgF] at HP1 HGl hbase ⊢
      have s0 : (0 : Int) ≤ (n : Int) := by omega
      have s1 : (n : Int) ≤ (n : Int) + 64 := by omega
      have s2 : n ≤ n + 64 := by omega
      clear hown4 hgrow4 hb34 hrep hgF b2 b3
      go_wp2_with fail
      refine HP1.out.mono ?_
      rintro e w5 ⟨rfl, ho5, hf5⟩
      have hOwn5 := hf5.own HOwn4.out (fun g hg hm => by
        have := HGl.out g hg
        simp only [List.mem_singleton, Option.some.injEq] at hm
        omega)
      have hK5 : KLs w5 w.heap.size op z.reverse := kls_ownB hOwn5 HLR.out (fun x hx => by
        obtain ⟨j, hj⟩ := List.getElem?_of_mem (List.mem_reverse.1 hx)
        obtain ⟨_, _, _, q1, q2⟩ := HK.out.below (Nat.le_refl _) HB4.out j x hj
        exact ⟨q1.fr (fun g o hg ho => (hf5.2.2.2.2 g (Array.getElem?_eq_some_iff.1 ho).1 (by simp only [List.mem_singleton, Option.some.injEq]; omega)).trans ho), q2⟩)
      have HP2 := Lib.hid (played_calls (bottom := bottom) (steps := steps) (c := oc) ho5 (show n < n + 64 by omega) hbase HLR.out hsz hK5 (fun x hx => HW.out x (List.mem_reverse.1 hx)))
      rw [HRep.out] at HP2
      have HF5 := Lib.hid hf5
      clear ho5 hf5 hOwn5 hK5
      go_wp2_with fail
      refine HP2.out.mono ?_
      rintro e w6 ⟨rfl, ho6, hf6⟩
      have HO6 := Lib.hid ho6
      have HFIN : Hid (Below w.heap.size w w6) := Lib.hid (by
        have h := (Fr.of_below HB4.out [some gF]).trans (HF5.out.trans hf6)
        exact h.below (Nat.le_refl _) (fun x hx => by
          simp only [List.mem_singleton, Option.some.injEq] at hx
          omega))
      clear ho6 hf6
      go_wp2
      go_loopw [14] (fun iv wr => ∃ i : Nat, iv = .int .i64 i ∧ n ≤ i ∧ i ≤ n + 64 ∧ Hid (w6 = wr)) (fun iv _ => (n + 64) - (intOf iv).toNat)
      case atStart => exact ⟨n, rfl, Nat.le_refl _, by omega, Lib.hid rfl⟩
      case round =>
        obtain ⟨i, rfl, hi1, hi2, HWr⟩ := hrel
        obtain rfl := HWr.out
        by_cases hlt : i < n + 64
        · have hcf : w6.cell? ⟨gF, i, none⟩ = some .nilFunc := by
            rw [HO6.out.cellAt i (by omega), List.getElem?_replicate, if_pos hlt]
          have j0 : (0 : Int) ≤ (i : Int) := by omega
          have j1 : (i : Int) < (n : Int) + 64 := by omega
          go_wp2
          go_roundw
          case rel => exact ⟨i + 1, by go_num, by omega, by omega, by first | exact Lib.hid rfl | exact Lib.hid trivial⟩
          case measure => simp [intOf]; omega
        · obtain rfl : i = n + 64 := by omega
          go_wp2
          go_ret
          exact ⟨rfl, HFIN.out⟩
end Go.Proofs.Ytahdaccmokjgpaa
