/-
  WALK: the hit on top of a pile taken away.
-/
import Derived.Test.YtmfanldekjkbiaaDoorDrop
namespace Go.Proofs.YtmfanldekjkbiaaDoor
open Go.RowKit
set_option linter.unusedVariables false

set_option maxRecDepth 100000 in
set_option maxHeartbeats 4000000 in
theorem drop_calls (pb mb : Nat) (v : Value) (L : List Hv) (hL : 0 < L.length) (hN : L.length ≤ 4398046511104) (hH : HeapH L) (w : World) (hP : PileIs w pb mb v L) :
    Calls Tryd.prog 49 #[.pointer (some ⟨pb, 0, none⟩)] w (DropPost w pb mb v L) := by
  obtain ⟨n, hn⟩ : ∃ n, L.length = n + 1 := ⟨L.length - 1, by omega⟩
  have h0 : hd L 0 ∈ L := by
    have := hd_get (L := L) (j := 0) hL
    exact List.mem_of_getElem? this
  obtain ⟨w1, hr, hHas, hgr⟩ := (hP.has.of (w' := w.drew) rfl).drop (hP.good _ h0) (dropT_perm hL).symm hP.nodup 0
  obtain ⟨g, cap, rfl, x0, x1, x2⟩ := hP.at hL
  obtain ⟨c0, c1, c2, cf⟩ := hP.cells
  obtain ⟨gy, capy, hve, y0, y1, y2⟩ := hP.at (j := n) (by omega)
  obtain ⟨rfl, rfl⟩ : g = gy ∧ cap = capy := by simpa using hve
  have hMid := Lib.hid (drop_mid hP hn hHas hgr)
  have hDn := heapDn_dropT hH
  have hdl : (dropT L).length = n := by rw [dropT_length]; omega
  have hboth := hP.apart
  obtain ⟨a1, a2, a3⟩ := hboth
  have hpg : pb ≠ g := fun e => a2 (by rw [e]; rfl)
  have hgp : g ≠ pb := hpg.symm
  obtain ⟨pc, cpc, hvc, hcl, hcm, _⟩ := own_rd hP.row
  obtain ⟨rfl, rfl⟩ : some ⟨g, 0, none⟩ = pc ∧ cap = cpc := by simpa using hvc
  have q1 : (n : Int) ≤ (cap : Int) := by omega
  have q2 : (0 : Int) ≤ (n : Int) := by omega
  have q3 : n ≤ cap := by omega
  clear hvc
  have hgm : ∀ j, (⟨g, j, none⟩ : Addr).block ≠ mb := fun j e => a3 (by rw [← (show g = mb from e)]; rfl)
  have hgl := cell_ltH x0
  have far : ∀ (a : Addr), a.block < w.heap.size → a.block ≠ mb → w1.cell? a = w.cell? a := fun a h1 h2 => hgr.cell_far a h1 (fun e => h2 (Option.some.inj e))
  have farf : ∀ (a : Addr), a.block < w.heap.size → a.block ≠ mb → w1.frozen? a = w.frozen? a := fun a h1 h2 => hgr.frozen_far a h1 (fun e => h2 (Option.some.inj e))
  have hrw := hP.row
  have u0 := (far ⟨pb, 0, none⟩ hP.lt a1.symm).trans c0
  have uf := (farf ⟨pb, 0, none⟩ hP.lt a1.symm).trans (cf 0)
  have v0 := (far ⟨g, n * 3, none⟩ hgl (hgm _)).trans y0
  have v1 := (far ⟨g, n * 3 + 1, none⟩ hgl (hgm _)).trans y1
  have v2 := (far ⟨g, n * 3 + 2, none⟩ hgl (hgm _)).trans y2
  have t0 := (far ⟨g, 0, none⟩ hgl (hgm _)).trans x0
  have t1 := (far ⟨g, 1, none⟩ hgl (hgm _)).trans x1
  have t2 := (far ⟨g, 2, none⟩ hgl (hgm _)).trans x2
  have f0 := (farf ⟨g, 0, none⟩ hgl (hgm _)).trans (hrw.frozenAt 0)
  have f1 := (farf ⟨g, 1, none⟩ hgl (hgm _)).trans (hrw.frozenAt 1)
  have f2 := (farf ⟨g, 2, none⟩ hgl (hgm _)).trans (hrw.frozenAt 2)
  simp only [hn] at c0 u0 hN
  have z1 : (n : Int) ≤ 4398046511104 := by omega
  have z2 : (n : Int) < (n : Int) + 1 := by omega
  simp only [Hv.val] at hr
  have HN := Lib.hid hn
  have HDL := Lib.hid hdl
  clear hH hHas hgr hve hrw far farf hn hdl hgm
  go_enter Tryd.func49, Tryd.ntmps49
  go_wp2
  go_region
  go_wp2
  clear c0 c1 c2 cf x0 x1 x2 y0 y1 y2
  go_region
  go_wp2
  have hM1 := hMid.out.1
  have hM2 := hMid.out.2
  clear hMid hr uf v0 v1 v2 t0 t1 t2 f0 f1 f2 u0
  go_loopg [3] (n + 2) (fun f si wr => DnRel w pb mb g cap n (dropT L) f si wr)
  case atStart => exact ⟨0, dropT L, rfl, hM1, hDn, HDL.out, by omega, List.Perm.refl _, hM2, by omega⟩
  case round =>
    obtain ⟨k, Lk, rfl, hPk, hDk, hlk, hkn, hpk, hFk, hfk⟩ := hrel
    obtain ⟨wo, rfl⟩ : ∃ wo : World, wo = wr := ⟨_, rfl⟩
    clear hM1 hM2 hDn
    have k0 : (0 : Int) ≤ (k : Int) := by omega
    have k1 : (k : Int) ≤ 4398046511104 := by omega
    have HPk := Lib.hid hPk
    have HDk := Lib.hid hDk
    have HLk := Lib.hid hlk
    clear hPk hDk hlk
    go_wp2
    go_loopg [4, 5] 3 (fun f sx sc wi => InRel wo k n Lk f sx sc wi)
    case atStart => exact ⟨k, 2 * k + 1, rfl, by go_num, by omega, by omega, .inl rfl, fun j j1 j2 => by omega, Gr.refl _, by omega⟩
    case round =>
      obtain ⟨x, c, rfl, rfl, h1, h2, hx, hm, hG, hf⟩ := hrel
      have HM := Lib.hid hm
      clear hm
      have c0 : (0 : Int) ≤ (c : Int) := by omega
      have c1 : (c : Int) ≤ 8796093022220 := by omega
      have x0 : (0 : Int) ≤ (x : Int) := by omega
      by_cases hgo : c ≤ 2 * k + 2 ∧ c < n
      · obtain ⟨hc2, hcn⟩ := hgo
        have hPi := HPk.out.gr hG
        have hxn : x < n := by omega
        have hcl : c < Lk.length := by rw [HLk.out]; exact hcn
        have hxl : x < Lk.length := by rw [HLk.out]; exact hxn
        obtain ⟨ga, capk, hve, a0, a1', a2'⟩ := hPi.at hcl
        obtain ⟨gx, capx, hve2, b0, b1, b2⟩ := hPi.at hxl
        have hge : g = ga ∧ cap = capk := by simp at hve; exact ⟨hve.1, hve.2.2⟩
        have hge2 : g = gx ∧ cap = capx := by simp at hve2; exact ⟨hve2.1, hve2.2.2⟩
        obtain ⟨rfl, rfl⟩ := hge
        obtain ⟨rfl, rfl⟩ := hge2
        obtain ⟨d0, d1, d2, df⟩ := hPi.cells
        have i1 : (c : Int) < (n : Int) := by omega
        have i3 : (x : Int) < (n : Int) := by omega
        have i2 : (c : Int) ≤ 2 * (k : Int) + 2 := by omega
        have hf0 : 0 < gk := by omega
        by_cases hl : hless (hd Lk x) (hd Lk c)
        · have C := less_calls (hd Lk c) (hd Lk x)
          simp only [hl, decide_true, Hv.val] at C
          have HC := Lib.hid C
          have HS := Lib.hid (fun W (hW : Gr wo W) => inRel_next h1 hc2 hcn hx HM.out hl hW hf hf0)
          have HG := Lib.hid hG
          clear C hve hve2 hPi hx HM df hG
          go_wp2
          go_still_tail 18, (by kernel_rfl)
          change wpList _ _ _ _ _ wr.drew
          go_wp2_with fail
          refine (HC.out _).mono ?_
          rintro e w' ⟨rfl, hgr2⟩
          go_wp2
          go_roundg (gk - 1)
          case measure => omega
          case rel => exact HS.out _ (HG.out.trans (((Gr.refl wr).drew).trans hgr2))
        · have C := less_calls (hd Lk c) (hd Lk x)
          simp only [hl, decide_false, Hv.val] at C
          have HC := Lib.hid C
          have HS := Lib.hid (fun W (hW : Gr wo W) => inRel_keep h1 hc2 hcn hx HM.out hl hW hf hf0)
          have HG := Lib.hid hG
          clear C hve hve2 hPi hx HM df hG
          go_wp2
          go_still_tail 18, (by kernel_rfl)
          change wpList _ _ _ _ _ wr.drew
          go_wp2_with fail
          refine (HC.out _).mono ?_
          rintro e w' ⟨rfl, hgr2⟩
          go_wp2
          go_roundg (gk - 1)
          case measure => omega
          case rel => exact HS.out _ (HG.out.trans (((Gr.refl wr).drew).trans hgr2))
      · have hex : 2 * k + 3 ≤ c ∨ n ≤ c := by omega
        have hkm := Lib.hid (in_end hex HM.out)
        by_cases hxk : x = k
        · subst hxk
          have hend := Lib.hid (drop_end (v := .slice (some ⟨g, 0, none⟩) L.length cap) (HPk.out.gr hG) HDk.out HLk.out hkm.out hpk rfl (hFk.trans (Fr.of_gr hG _)) rfl)
          rcases (by omega : 2 * (x : Int) + 2 < c ∨ ((c : Int) ≤ 2 * x + 2 ∧ (n : Int) ≤ c)) with he | ⟨he1, he2⟩
          all_goals
            go_wp2
            go_end0
            exact hend.out
        · have hx3 := hx.resolve_left hxk
          have hxn : x < n := hx3.2.2.1
          have hkn' : k < n := by omega
          have hkx : k < x := by omega
          have hPw := HPk.out.gr hG
          have hFw := hFk.trans (Fr.of_gr hG _)
          have hSw := Lib.hid (dnRel_swap (f := 0) hPw HDk.out HLk.out hkn' hxn (by omega) hx3.2.2.2 hkm.out hpk hFw)
          have hkl : k < Lk.length := by rw [HLk.out]; exact hkn'
          have hxl : x < Lk.length := by rw [HLk.out]; exact hxn
          obtain ⟨gk, capk, hve, a0, a1', a2'⟩ := hPw.at hkl
          obtain ⟨gx, capx, hve2, b0, b1, b2⟩ := hPw.at hxl
          have hge : g = gk ∧ cap = capk := by simp at hve; exact ⟨hve.1, hve.2.2⟩
          have hge2 : g = gx ∧ cap = capx := by simp at hve2; exact ⟨hve2.1, hve2.2.2⟩
          obtain ⟨rfl, rfl⟩ := hge
          obtain ⟨rfl, rfl⟩ := hge2
          obtain ⟨d0, d1, d2, df⟩ := hPw.cells
          have hrw := hPw.row
          rw [HLk.out] at hrw
          have z10 := hrw.frozenAt (k * 3)
          have z11 := hrw.frozenAt (k * 3 + 1)
          have z12 := hrw.frozenAt (k * 3 + 2)
          have z13 := hrw.frozenAt (x * 3)
          have z14 := hrw.frozenAt (x * 3 + 1)
          have z15 := hrw.frozenAt (x * 3 + 2)
          have n00 : ¬ (x * 3 = k * 3) := by omega
          have m00 : ¬ (k * 3 = x * 3) := by omega
          have n01 : ¬ (x * 3 = k * 3 + 1) := by omega
          have m01 : ¬ (k * 3 = x * 3 + 1) := by omega
          have n02 : ¬ (x * 3 = k * 3 + 2) := by omega
          have m02 : ¬ (k * 3 = x * 3 + 2) := by omega
          have n10 : ¬ (x * 3 + 1 = k * 3) := by omega
          have m10 : ¬ (k * 3 + 1 = x * 3) := by omega
          have n11 : ¬ (x * 3 + 1 = k * 3 + 1) := by omega
          have m11 : ¬ (k * 3 + 1 = x * 3 + 1) := by omega
          have n12 : ¬ (x * 3 + 1 = k * 3 + 2) := by omega
          have m12 : ¬ (k * 3 + 1 = x * 3 + 2) := by omega
          have n20 : ¬ (x * 3 + 2 = k * 3) := by omega
          have m20 : ¬ (k * 3 + 2 = x * 3) := by omega
          have n21 : ¬ (x * 3 + 2 = k * 3 + 1) := by omega
          have m21 : ¬ (k * 3 + 2 = x * 3 + 1) := by omega
          have n22 : ¬ (x * 3 + 2 = k * 3 + 2) := by omega
          have m22 : ¬ (k * 3 + 2 = x * 3 + 2) := by omega
          have i1 : (k : Int) < (n : Int) := by omega
          have i3 : (x : Int) < (n : Int) := by omega
          have hne : ((x : Int) == (k : Int)) = false := by simp; omega
          clear hve hve2 hrw hPw hFw hx hx3 HM hkm hG
          rcases (by omega : 2 * (k : Int) + 2 < c ∨ ((c : Int) ≤ 2 * k + 2 ∧ (n : Int) ≤ c)) with he | ⟨he1, he2⟩
          all_goals
            go_wp2
            go_region
            clear a0 a1' a2' b0 b1 b2 z10 z11 z12 z13 z14 z15 n00 n01 n02 n10 n11 n12 n20 n21 n22 m00 m01 m02 m10 m11 m12 m20 m21 m22
            go_wp2
            go_roundg (n - x + 1)
            case measure => omega
            case rel => exact hSw.out
end Go.Proofs.YtmfanldekjkbiaaDoor
