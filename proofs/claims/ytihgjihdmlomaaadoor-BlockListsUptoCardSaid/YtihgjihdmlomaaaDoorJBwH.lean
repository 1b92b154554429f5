/-
  WALK: what the document tells from a place on (its File's From).
-/
import Derived.Test.YtihgjihdmlomaaaDoorJBwG
namespace Go.Proofs.YtihgjihdmlomaaaDoor
open Go.RowKit ArgK
set_option linter.unusedVariables false

def boxE (en : Ent) : Obj := .cells #[.int .i64 en.v, .string en.c, .int .i64 en.i, .int .i64 en.s, .bool en.d] 33 (0, 0)
/-- At the head of each round over the blocks. -/
def FmRel (w : World) (fb : Nat) (en : Ent) (M : Nat) (h : Hd) (lp : Option Addr) (lc : Nat) (q : Option Addr) (c n N : Nat) (A : Nat → Nat) (gs : List (List Ent)) (r0 : Nat) (R : List Ent × Nat) (k : Nat) (ov : Value) (wr : World) : Prop :=
  ∃ acc r, k ≤ N ∧ (if acc.length = M then (acc, r) else fromG en M (gs.drop k) acc r) = R ∧ acc.length ≤ M ∧ acc.length ≤ A k ∧ r ≤ r0 + k ∧ wr.ownsRow (w.heap.size + 1) 33 5 ov acc.length (encE acc) ∧ wr.heap[fb]? = some (rbC h lp n lc q N c (r : Nat)) ∧
    wr.heap[w.heap.size]? = some (boxE en) ∧ w.grownBy wr (some fb)
/-- At the head of each round over a block's entries. -/
def FmiRel (w : World) (fb : Nat) (en : Ent) (M : Nat) (h : Hd) (lp : Option Addr) (lc : Nat) (q : Option Addr) (c n N : Nat) (acc g : List Ent) (r j : Nat) (ov : Value) (wr : World) : Prop :=
  ∃ F, j ≤ g.length ∧ F = (g.take j).foldl (addF en M) acc ∧ F.length ≤ M ∧ wr.ownsRow (w.heap.size + 1) 33 5 ov F.length (encE F) ∧ wr.heap[fb]? = some (rbC h lp n lc q N c (r : Nat)) ∧
    wr.heap[w.heap.size]? = some (boxE en) ∧ w.grownBy wr (some fb)

theorem foldl_snoc {g : List Ent} {j : Nat} {y : Ent} (hy : g[j]? = some y) (f : List Ent → Ent → List Ent) (acc : List Ent) : (g.take (j + 1)).foldl f acc = f ((g.take j).foldl f acc) y := by
  rw [take_snocA hy, List.foldl_append]
  rfl
theorem fold_rest {en : Ent} {M : Nat} {g : List Ent} {j : Nat} {acc F : List Ent} (hF : F = (g.take j).foldl (addF en M) acc) (h : j = g.length ∨ F.length = M) : g.foldl (addF en M) acc = F := by
  rcases h with h | h
  · rw [hF, h, List.take_length]
  · conv => lhs; rw [← List.take_append_drop j g, List.foldl_append, ← hF]
    exact addF_full h _

set_option maxRecDepth 100000 in
set_option maxHeartbeats 8000000 in
theorem RFrom_callsX (base fb : Nat) (h : Hd) (l : List Ent) (r0 : Nat) (en : Ent) (M : Nat) (hM : 0 < M) (hM2 : M ≤ 9223372036854775807) (s : Nat) (w : World) (hF : RFileAt w base fb h l (r0 : Nat)) (hgo : goesR h l = 0) (hr0 : r0 ≤ 4611686018427387904) (hp : Parted (behindI en (linesB h l)) (linesB h l).length s) :
    Calls Tryd.prog 27 #[.pointer (some ⟨fb, 0, none⟩), en.val, .int .i64 (M : Int)] w fun e w' =>
      ∃ v, e = .returned v ∧ w'.ownsRow w.heap.size 33 5 v (fromG en M ((groups l).drop (s - 1)) [] r0).1.length (encE (fromG en M ((groups l).drop (s - 1)) [] r0).1) ∧
        RFileX w w' base fb h l ((fromG en M ((groups l).drop (s - 1)) [] r0).2 : Nat) ∧ w.grownBy w' (some fb) := by
  obtain ⟨i0, hi, hz0, hz1, hz2⟩ := info_parts entinfo6
  obtain ⟨hh, hl, hgd⟩ := goesR_good hgo
  have hlen := linesB_length h l
  have hle := groups_le hgd
  have hG := Lib.hid (fun k hk => grpAt (h := h) hgd en (k := k) hk)
  have hbA : Below w.heap.size w (w.alloc (.cells #[.int .i64 en.v, .string en.c, .int .i64 en.i, .int .i64 en.s, .bool en.d] 33)) := (Below.refl _ w).alloc (Nat.le_refl _) _
  have CB := begin_calls base fb h l r0 en s _ (hF.below hbA) hgo hp
  unfold Ent.val at CB ⊢
  have hsN := hp.1
  rw [hlen] at hsN
  obtain ⟨lp, lc, q, c, hfc, hR⟩ := hF.rows
  have hfb : fb < w.heap.size := hF.lt
  obtain ⟨R, hRv⟩ : ∃ R, fromG en M ((groups l).drop (s - 1)) [] r0 = R := ⟨_, rfl⟩
  obtain ⟨n, hn⟩ : ∃ n, l.length = n := ⟨_, rfl⟩
  obtain ⟨N, hN⟩ : ∃ N, (groups l).length = N := ⟨_, rfl⟩
  obtain ⟨A, hA⟩ : ∃ A : Nat → Nat, aK (groups l) = A := ⟨_, rfl⟩
  have HEnd : Hid (∀ W, W.heap[fb]? = some (rbC h lp n lc q N c (R.2 : Nat)) → w.grownBy W (some fb) → RFileX w W base fb h l (R.2 : Nat)) := Lib.hid (fun W hf hg => hR.fileX hfc hg (by rw [hn, hN]; exact hf))
  have HOwn : Hid (∀ W, w.grownBy W (some fb) → W.ownsRow base 33 5 (.slice lp n lc) n (encE l)) := Lib.hid (fun W hg => by have := (hR.grown hg).own; rw [hn] at this; exact this)
  have HSiz : Hid (∀ W, w.grownBy W (some fb) → W.ownsRow base 3 1 (.slice q N c) N (natV ((groups l).map List.length))) := Lib.hid (fun W hg => by have := (hR.grown hg).siz; rw [hN] at this; exact this)
  rw [hRv]
  rw [hn, hN] at hfc hle
  rw [hN] at hG hsN
  rw [hn] at hG hl
  rw [hA] at hG CB
  have HCB := Lib.hid CB
  have H0 : Hid (∀ W, Below (w.alloc (.cells #[.int .i64 en.v, .string en.c, .int .i64 en.i, .int .i64 en.s, .bool en.d] 33)).heap.size (w.alloc (.cells #[.int .i64 en.v, .string en.c, .int .i64 en.i, .int .i64 en.s, .bool en.d] 33)) W → FmRel w fb en M h lp lc q c n N A (groups l) r0 R (s - 1) (.slice none 0 0) W) := Lib.hid (fun W hW => ⟨[], r0, by omega, by rw [if_neg (by simp; omega)]; exact hRv, Nat.zero_le _, Nat.zero_le _, by omega, World.ownsRow_nil _ _ _ _, ((hW.block _ (by simp; omega)).trans (Below.heap_alloc _ _ _ hfb)).trans hfc, (hW.block _ (by simp)).trans (World.alloc_heap_new _ _), below_grown fb (hbA.trans (hW.mono (by simp)))⟩)
  clear CB hF hR hfc hRv hp hgo hbA
  generalize hgs : groups l = gs at hG H0 HSiz hN
  clear hA
  have hs1 : s - 1 ≤ N := by omega
  go_enter Tryd.func27, Tryd.ntmps27
  go_wp2_with fail
  refine HCB.out.mono ?_
  rintro e w1 ⟨rfl, hb1⟩
  have H1 := Lib.hid (H0.out _ hb1)
  clear hb1 H0
  go_wp2
  go_loopw [7, 9, 10] (fun ov av kv wr => ∃ k : Nat, kv = .int .i64 k ∧ av = .int .i64 (A k : Nat) ∧ FmRel w fb en M h lp lc q c n N A gs r0 R k ov wr) (fun _ _ kv _ => N - (intOf kv).toNat)
  case atStart => exact ⟨s - 1, rfl, rfl, H1.out⟩
  case round =>
    obtain ⟨k, rfl, rfl, acc, r, hk, hfn, haM, hal, hrl, hown, hfr, hbx, hgr⟩ := hrel
    rename World => wo
    have hGW := Lib.hid hgr
    have hFr := Lib.hid hfr
    have hOwn := Lib.hid hown
    have hfbo : fb < wo.heap.size := Nat.lt_of_lt_of_le hfb hgr.size
    have hrw := hfr
    unfold rbC at hrw
    obtain ⟨x7, _⟩ := arr_cell hrw (k := 7) (v := .slice q N c) rfl
    obtain ⟨x8, f8⟩ := arr_cell hrw (k := 8) (v := .int .i64 (r : Nat)) rfl
    obtain ⟨vp, vc, rfl, _⟩ := own_rd hown
    by_cases hgo2 : k < N ∧ acc.length < M
    · obtain ⟨hlt, hlM⟩ := hgo2
      obtain ⟨g, x, hg, hx, hgne, hgp, hA1, hAl, _, hnv, hgi⟩ := hG.out k hlt
      have hdr : gs.drop k = g :: gs.drop (k + 1) := by
        have h2 := (List.getElem?_eq_some_iff.1 hg)
        obtain ⟨h3, h4⟩ := h2
        rw [List.drop_eq_getElem_cons h3, h4]
      rw [if_neg (by omega), hdr, fromG] at hfn
      have HFn := Lib.hid hfn
      have HGi := Lib.hid hgi
      have HNv := Lib.hid hnv
      have hsz := HSiz.out _ hgr
      obtain ⟨g2, rfl, _, hg2⟩ := own_some hsz (by omega)
      have hk1 : (k : Int) < (N : Int) := by omega
      have hkM : (acc.length : Int) < (M : Int) := by omega
      have hwr : IntKind.i64.wrap ((r : Int) + 1) = ((r + 1 : Nat) : Int) := by rw [IntKind.wrap_i64]; omega
      have hfbw : fb ≠ w.heap.size := by omega
      have H2 : Hid (FmiRel w fb en M h lp lc (some ⟨g2, 0, none⟩) c n N acc g (r + 1) 0 (.slice vp acc.length vc) (wo.setCell ⟨fb, 8, none⟩ (.int .i64 ((r + 1 : Nat) : Int)))) := Lib.hid ⟨acc, Nat.zero_le _, by simp, haM, own_setCell hown (p := ⟨fb, 8, none⟩) (own_type_ne hown hrw (by decide)) _, rbC_set hfr, (Below.heap_setCell wo ⟨fb, 8, none⟩ _ _ (fun e => hfbw e.symm)).trans hbx, set_grown hgr _⟩
      have i1' : (k : Int) < (N : Int) := by omega
      have i0' : (0 : Int) ≤ (k : Int) := by omega
      clear hown hfr hgr hrw hsz hfn hgi hnv hg hdr hx hbx
      go_wp2
      go_loopw [7, 11] (fun ov iv wr => ∃ j : Nat, iv = .int .i64 ((A k : Int) + (j : Int)) ∧ FmiRel w fb en M h lp lc (some ⟨g2, 0, none⟩) c n N acc g (r + 1) j ov wr) (fun _ iv _ => A k + g.length - (intOf iv).toNat)
      case atStart => exact ⟨0, by go_num, H2.out⟩
      case round =>
        obtain ⟨j, rfl, F, hj, hFe, hFM, hownF, hfrF, hbxF, hgrF⟩ := hrel
        have hszF := HSiz.out _ hgrF
        have henF := HOwn.out _ hgrF
        have y2 : wr.cell? ⟨g2, k, none⟩ = some (.int .i64 (g.length : Int)) := by rw [hszF.cellAt k (by omega)]; exact HNv.out
        obtain ⟨g1, rfl, _, hg1⟩ := own_some henF (by omega)
        have hrwF := hfrF
        unfold rbC at hrwF
        obtain ⟨z6, _⟩ := arr_cell hrwF (k := 6) (v := .slice (some ⟨g1, 0, none⟩) n lc) rfl
        obtain ⟨z7, _⟩ := arr_cell hrwF (k := 7) (v := .slice (some ⟨g2, 0, none⟩) N c) rfl
        obtain ⟨b0, b1, b2, b3, b4⟩ := cells5 hbxF
        obtain ⟨fp, fc, rfl, _⟩ := own_rd hownF
        have hwA : IntKind.i64.wrap ((A k : Int) + (g.length : Int)) = (A k : Int) + (g.length : Int) := by rw [IntKind.wrap_i64]; omega
        have HOF := Lib.hid hownF
        have HFF := Lib.hid hfrF
        have HBF := Lib.hid hbxF
        have HGF := Lib.hid hgrF
        have hFl : F.length ≤ A k + j := by
          have := foldF_len en M (g.take j) acc
          rw [← hFe, List.length_take, Nat.min_eq_left hj] at this
          omega
        by_cases hjl2 : j < g.length ∧ F.length < M
        · obtain ⟨hjl, hFlM⟩ := hjl2
          obtain ⟨y, hy⟩ : ∃ y, g[j]? = some y := ⟨_, List.getElem?_eq_getElem hjl⟩
          have hly := (HGi.out j hjl).trans hy
          obtain ⟨e0, e1, e2, e3, e4⟩ := own_fiveE henF hly
          have htf := foldl_snoc hy (addF en M) acc
          have hlt2 : (A k : Int) + (j : Int) < (A k : Int) + (g.length : Int) := by omega
          have hltM : (F.length : Int) < (M : Int) := by omega
          have j0 : (0 : Int) ≤ (A k : Int) + (j : Int) := by omega
          have j1 : (A k : Int) + (j : Int) < (n : Int) := by omega
          have hwj : IntKind.i64.wrap ((A k : Int) + (j : Int)) = (A k : Int) + (j : Int) := by rw [IntKind.wrap_i64]; omega
          have hwj1 : IntKind.i64.wrap ((A k : Int) + (j : Int) + 1) = (A k : Int) + (j : Int) + 1 := by rw [IntKind.wrap_i64]; omega
          have htn : ((A k : Int) + (j : Int)).toNat = A k + j := by omega
          have hfbl : fb < wr.heap.size := (Array.getElem?_eq_some_iff.1 hrwF).1
          have hbxl : w.heap.size < wr.heap.size := (Array.getElem?_eq_some_iff.1 hbxF).1
          have HK : Hid (∀ W, Below wr.heap.size wr W → (fun W => W.cell? ⟨fb, 6, none⟩ = some (.slice (some ⟨g1, 0, none⟩) n lc) ∧ W.cell? ⟨w.heap.size, 0, none⟩ = some (.int .i64 en.v) ∧ W.cell? ⟨w.heap.size, 1, none⟩ = some (.string en.c) ∧ W.cell? ⟨w.heap.size, 2, none⟩ = some (.int .i64 en.i) ∧ W.cell? ⟨w.heap.size, 3, none⟩ = some (.int .i64 en.s) ∧ W.cell? ⟨w.heap.size, 4, none⟩ = some (.bool en.d) ∧ W.cell? ⟨g1, (A k + j) * 5, none⟩ = some (.int .i64 y.v) ∧ W.cell? ⟨g1, (A k + j) * 5 + 1, none⟩ = some (.string y.c) ∧ W.cell? ⟨g1, (A k + j) * 5 + 2, none⟩ = some (.int .i64 y.i) ∧ W.cell? ⟨g1, (A k + j) * 5 + 3, none⟩ = some (.int .i64 y.s) ∧ W.cell? ⟨g1, (A k + j) * 5 + 4, none⟩ = some (.bool y.d)) W) := Lib.hid (fun W hW => by
            obtain ⟨e0, e1, e2, e3, e4⟩ := own_fiveE (own_belowAll henF hW) hly
            obtain ⟨b0, b1, b2, b3, b4⟩ := cells5 ((hW.block _ hbxl).trans hbxF)
            obtain ⟨z6, _⟩ := arr_cell ((hW.block _ hfbl).trans hrwF) (k := 6) (v := .slice (some ⟨g1, 0, none⟩) n lc) rfl
            exact ⟨z6, b0, b1, b2, b3, b4, e0, e1, e2, e3, e4⟩)
          have HW3 : Hid (∀ W, Below wr.heap.size wr W → W.ownsRow (w.heap.size + 1) 33 5 (.slice fp F.length fc) F.length (encE F) ∧ W.heap[fb]? = some (rbC h (some ⟨g1, 0, none⟩) n lc (some ⟨g2, 0, none⟩) N c ((r + 1 : Nat) : Int)) ∧ W.heap[w.heap.size]? = some (boxE en) ∧ w.grownBy W (some fb)) := Lib.hid (fun W hW => ⟨own_belowAll hownF hW, (hW.block _ hfbl).trans hfrF, (hW.block _ hbxl).trans hbxF, rgrown_below hgrF hW⟩)
          have CC := fun W => Less_calls y en W
          unfold Ent.val at CC
          cases hle2 : decide (eless y en) with
          | true =>
            rw [hle2] at CC
            have HCC := Lib.hid CC
            have hF2 : F = (g.take (j + 1)).foldl (addF en M) acc := by
              rw [htf, ← hFe]
              have h1 : ¬ (0 ≤ cmpE y en) := by
                have := cmpE_neg.2 (of_decide_eq_true hle2)
                omega
              unfold addF
              rw [if_neg h1]
              split <;> rfl
            have HF2 := Lib.hid hF2
            clear hF2 htf hFe hownF hfrF hgrF hrwF hszF henF hly hy hbxF CC hle2
            go_wp2
            go_region_held3 (fun W => W.cell? ⟨fb, 6, none⟩ = some (.slice (some ⟨g1, 0, none⟩) n lc) ∧ W.cell? ⟨w.heap.size, 0, none⟩ = some (.int .i64 en.v) ∧ W.cell? ⟨w.heap.size, 1, none⟩ = some (.string en.c) ∧ W.cell? ⟨w.heap.size, 2, none⟩ = some (.int .i64 en.i) ∧ W.cell? ⟨w.heap.size, 3, none⟩ = some (.int .i64 en.s) ∧ W.cell? ⟨w.heap.size, 4, none⟩ = some (.bool en.d) ∧ W.cell? ⟨g1, (A k + j) * 5, none⟩ = some (.int .i64 y.v) ∧ W.cell? ⟨g1, (A k + j) * 5 + 1, none⟩ = some (.string y.c) ∧ W.cell? ⟨g1, (A k + j) * 5 + 2, none⟩ = some (.int .i64 y.i) ∧ W.cell? ⟨g1, (A k + j) * 5 + 3, none⟩ = some (.int .i64 y.s) ∧ W.cell? ⟨g1, (A k + j) * 5 + 4, none⟩ = some (.bool y.d)) (first | exact ⟨z6, b0, b1, b2, b3, b4, e0, e1, e2, e3, e4⟩ | exact HK.out _ (below_of hc1)) (first | (go_at_call 54; refine (HCC.out _).mono ?_; rintro e w3 ⟨rfl, hc1⟩))
            obtain ⟨p1, p2, p3, p4⟩ := HW3.out _ (below_of hc1)
            clear hc1
            go_wp2
            go_roundw
            case rel => exact ⟨j + 1, by go_num, F, hjl, HF2.out, hFM, p1, p2, p3, p4⟩
            case measure => simp [intOf]; omega
          | false =>
            rw [hle2] at CC
            have HCC := Lib.hid CC
            have hF2 : F ++ [y] = (g.take (j + 1)).foldl (addF en M) acc := by
              rw [htf, ← hFe]
              have h1 : 0 ≤ cmpE y en := by
                have h2 : ¬ (cmpE y en < 0) := fun h => by
                  have := cmpE_neg.1 h
                  rw [decide_eq_true this] at hle2
                  cases hle2
                omega
              unfold addF
              rw [if_pos hFlM, if_pos h1]
            have HF2 := Lib.hid hF2
            have HE5 : Hid (∀ W, Below wr.heap.size wr W → W.cell? ⟨g1, (A k + j) * 5, none⟩ = some (.int .i64 y.v) ∧ W.cell? ⟨g1, (A k + j) * 5 + 1, none⟩ = some (.string y.c) ∧ W.cell? ⟨g1, (A k + j) * 5 + 2, none⟩ = some (.int .i64 y.i) ∧ W.cell? ⟨g1, (A k + j) * 5 + 3, none⟩ = some (.int .i64 y.s) ∧ W.cell? ⟨g1, (A k + j) * 5 + 4, none⟩ = some (.bool y.d) ∧ W.cell? ⟨fb, 6, none⟩ = some (.slice (some ⟨g1, 0, none⟩) n lc)) := Lib.hid (fun W hW => by
              obtain ⟨z6, b0, b1, b2, b3, b4, e0, e1, e2, e3, e4⟩ := HK.out W hW
              exact ⟨e0, e1, e2, e3, e4, z6⟩)
            clear hF2 htf hFe hownF hfrF hgrF hrwF hszF henF hly hy hbxF CC hle2
            go_wp2
            go_region_held3 (fun W => W.cell? ⟨fb, 6, none⟩ = some (.slice (some ⟨g1, 0, none⟩) n lc) ∧ W.cell? ⟨w.heap.size, 0, none⟩ = some (.int .i64 en.v) ∧ W.cell? ⟨w.heap.size, 1, none⟩ = some (.string en.c) ∧ W.cell? ⟨w.heap.size, 2, none⟩ = some (.int .i64 en.i) ∧ W.cell? ⟨w.heap.size, 3, none⟩ = some (.int .i64 en.s) ∧ W.cell? ⟨w.heap.size, 4, none⟩ = some (.bool en.d) ∧ W.cell? ⟨g1, (A k + j) * 5, none⟩ = some (.int .i64 y.v) ∧ W.cell? ⟨g1, (A k + j) * 5 + 1, none⟩ = some (.string y.c) ∧ W.cell? ⟨g1, (A k + j) * 5 + 2, none⟩ = some (.int .i64 y.i) ∧ W.cell? ⟨g1, (A k + j) * 5 + 3, none⟩ = some (.int .i64 y.s) ∧ W.cell? ⟨g1, (A k + j) * 5 + 4, none⟩ = some (.bool y.d)) (first | exact ⟨z6, b0, b1, b2, b3, b4, e0, e1, e2, e3, e4⟩ | exact HK.out _ (below_of hc1)) (first | (go_at_call 54; refine (HCC.out _).mono ?_; rintro e w3 ⟨rfl, hc1⟩))
            obtain ⟨p1, p2, p3, p4⟩ := HW3.out _ (below_of hc1)
            clear e0 e1 e2 e3 e4 z6 z7 b0 b1 b2 b3 b4
            obtain ⟨e0, e1, e2, e3, e4, z6⟩ := HE5.out _ (below_of hc1)
            have P1 := Lib.hid p1
            have P2 := Lib.hid p2
            have P3 := Lib.hid p3
            have P4 := Lib.hid p4
            have hq := Lib.hid (p1.alloc (.cells #[.int .i64 y.v, .string y.c, .int .i64 y.i, .int .i64 y.s, .bool y.d] 33))
            have hnews := Lib.hid (World.news_of_block (World.alloc_heap_new w3 (.cells #[.int .i64 y.v, .string y.c, .int .i64 y.i, .int .i64 y.s, .bool y.d] 33)))
            have hbl3 : w.heap.size < w3.heap.size := (Array.getElem?_eq_some_iff.1 p3).1
            have hfl3 : fb < w3.heap.size := (Array.getElem?_eq_some_iff.1 p2).1
            clear hc1 p1 p2 p3 p4
            go_wp2_with (at_builtin; refine wpList_append_own _ rfl _ _ 24 rfl (w.heap.size + 1) 33 i0 _ 5 48 Tryd.underlying24 hi hz0 hz1 hz2 rfl (by decide) (.slice fp F.length fc) F.length _ rfl hq.out ⟨w3.heap.size, 0, none⟩ 1 1 [.int .i64 y.v, .string y.c, .int .i64 y.i, .int .i64 y.s, .bool y.d] rfl rfl hnews.out (by simp [Value.oneCell']) (by unfold maxLen; omega) (by omega) (by simp; omega) ?_; intro v6 w6 hown6 hgrow6 _)
            have hne := own_type_ne P1.out (by have := P2.out; unfold rbC at this; exact this) (by decide)
            have hAl2 := rgrown_below P4.out ((Below.refl _ w3).alloc (Nat.le_refl _) (.cells #[.int .i64 y.v, .string y.c, .int .i64 y.i, .int .i64 y.s, .bool y.d] 33))
            refine ⟨⟨j + 1, by go_num, F ++ [y], hjl, HF2.out, by rw [List.length_append]; simp only [List.length_singleton]; omega, ?_, ?_, ?_, grown_then hAl2 hgrow6 (fun b e => .inl (by have := (P1.out.lt b e).1; omega))⟩, by simp [intOf]; omega⟩
            · rw [encE_snoc, List.length_append]
              exact hown6
            · exact ((hgrow6.block fb (by simp; omega) (fun e => hne e.symm)).trans (Below.heap_alloc _ _ _ hfl3)).trans P2.out
            · exact ((hgrow6.block w.heap.size (by simp; omega) (fun e => by have := (P1.out.lt _ e.symm).1; omega)).trans (Below.heap_alloc _ _ _ hbl3)).trans P3.out
        · have hor : j = g.length ∨ F.length = M := by omega
          have hfold := fold_rest hFe hor
          have hfn2 := HFn.out
          rw [hfold] at hfn2
          have HNx : Hid (FmRel w fb en M h (some ⟨g1, 0, none⟩) lc (some ⟨g2, 0, none⟩) c n N A gs r0 R (k + 1) (.slice fp F.length fc) wr) := Lib.hid ⟨F, r + 1, hlt, hfn2, hFM, by omega, by omega, hownF, hfrF, hbxF, hgrF⟩
          by_cases hjl : j < g.length
          · have hFlM : F.length = M := by omega
            have hltM : ¬ ((F.length : Int) < (M : Int)) := by omega
            have hlt2 : (A k : Int) + (j : Int) < (A k : Int) + (g.length : Int) := by omega
            clear hfn2 hfold hFe hownF hfrF hgrF hrwF hszF henF hbxF
            go_wp2
            go_roundw
            case rel => exact ⟨k + 1, by go_num, by rw [hA1, Int.natCast_add], HNx.out⟩
            case measure => simp [intOf]; omega
          · obtain rfl : j = g.length := by omega
            have hnl : ¬ ((A k : Int) + (g.length : Int) < (A k : Int) + (g.length : Int)) := by omega
            clear hfn2 hfold hFe hownF hfrF hgrF hrwF hszF henF hbxF
            go_wp2
            go_roundw
            case rel => exact ⟨k + 1, by go_num, by rw [hA1, Int.natCast_add], HNx.out⟩
            case measure => simp [intOf]; omega
    · have hR : R = (acc, r) := by
        rw [← hfn]
        split
        · rfl
        · have hkN : k = N := by omega
          rw [List.drop_eq_nil_of_le (by rw [hN, hkN]; exact Nat.le_refl _), fromG]
      have HEn := Lib.hid hR
      have HO := Lib.hid (own_le (base' := w.heap.size) hown (by omega))
      by_cases hkN : k < N
      · have hk1 : (k : Int) < (N : Int) := by omega
        have hkM : ¬ ((acc.length : Int) < (M : Int)) := by omega
        clear hown hfr hgr hrw hfn hR hbx
        go_wp2
        go_ret
        rw [HEn.out] at HEnd ⊢
        exact ⟨_, rfl, HO.out, HEnd.out _ hFr.out hGW.out, hGW.out⟩
      · have hk1 : ¬ ((k : Int) < (N : Int)) := by omega
        clear hown hfr hgr hrw hfn hR hbx
        go_wp2
        go_ret
        rw [HEn.out] at HEnd ⊢
        exact ⟨_, rfl, HO.out, HEnd.out _ hFr.out hGW.out, hGW.out⟩

theorem RFrom_calls (base fb : Nat) (h : Hd) (l : List Ent) (r0 : Nat) (en : Ent) (M : Nat) (hM : 0 < M) (hM2 : M ≤ 9223372036854775807) (s : Nat) (w : World) (hF : RFileAt w base fb h l (r0 : Nat)) (hgo : goesR h l = 0) (hr0 : r0 ≤ 4611686018427387904) (hp : Parted (behindI en (linesB h l)) (linesB h l).length s) :
    Calls Tryd.prog 27 #[.pointer (some ⟨fb, 0, none⟩), en.val, .int .i64 (M : Int)] w fun e w' =>
      ∃ v, e = .returned v ∧ w'.ownsRow w.heap.size 33 5 v (fromG en M ((groups l).drop (s - 1)) [] r0).1.length (encE (fromG en M ((groups l).drop (s - 1)) [] r0).1) ∧
        RFileAt w' base fb h l ((fromG en M ((groups l).drop (s - 1)) [] r0).2 : Nat) ∧ w.grownBy w' (some fb) := by
  refine (RFrom_callsX base fb h l r0 en M hM hM2 s w hF hgo hr0 hp).mono ?_
  rintro e w' ⟨v, h1, h2, h3, h4⟩
  exact ⟨v, h1, h2, h3.1, h4⟩
end Go.Proofs.YtihgjihdmlomaaaDoor
