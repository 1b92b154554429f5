/-
  WALK: what the document finds (its File's Find).
-/
import Derived.Test.YtihgjihdmlomaaaDoorJBwF
namespace Go.Proofs.YtihgjihdmlomaaaDoor
open Go.RowKit ArgK
set_option linter.unusedVariables false

/-- At the head of each round over the blocks. -/
def FnRel (w : World) (fb : Nat) (h : Hd) (lp : Option Addr) (lc : Nat) (q : Option Addr) (c n N : Nat) (A : Nat → Nat) (gs : List (List Ent)) (value : Int) (r0 : Nat) (R : List Ent × Nat) (k : Nat) (ov : Value) (wr : World) : Prop :=
  ∃ acc r, k ≤ N ∧ findG value (gs.drop k) acc r = R ∧ acc.length ≤ A k ∧ r ≤ r0 + k ∧ wr.ownsRow w.heap.size 33 5 ov acc.length (encE acc) ∧ wr.heap[fb]? = some (rbC h lp n lc q N c (r : Nat)) ∧ w.grownBy wr (some fb)
/-- At the head of each round over a block's entries. -/
def FiRel (w : World) (fb : Nat) (h : Hd) (lp : Option Addr) (lc : Nat) (q : Option Addr) (c n N : Nat) (value : Int) (acc g : List Ent) (r j : Nat) (ov : Value) (wr : World) : Prop :=
  ∃ F, j ≤ g.length ∧ F = acc ++ (g.take j).filter (fun x => decide (x.v = value)) ∧ wr.ownsRow w.heap.size 33 5 ov F.length (encE F) ∧ wr.heap[fb]? = some (rbC h lp n lc q N c (r : Nat)) ∧ w.grownBy wr (some fb)

theorem set_grown {w W : World} {fb k : Nat} (hg : w.grownBy W (some fb)) (v : Value) : w.grownBy (W.setCell ⟨fb, k, none⟩ v) (some fb) :=
  grown_then hg (row := some fb) ⟨rfl, rfl, rfl, by simp [World.setCell], fun b hb hne => Below.heap_setCell W ⟨fb, k, none⟩ v b (fun e => hne (by rw [e]))⟩ (fun b e => .inr (Option.some.inj e).symm)
theorem take_filter_succ {g : List Ent} {j : Nat} {y : Ent} (hy : g[j]? = some y) (p : Ent → Bool) : (g.take (j + 1)).filter p = (g.take j).filter p ++ (if p y = true then [y] else []) := by
  rw [take_snocA hy, List.filter_append]
  cases hp : p y <;> simp [hp]
theorem filter_le {g : List Ent} {j : Nat} (p : Ent → Bool) : ((g.take j).filter p).length ≤ j := Nat.le_trans (List.length_filter_le _ _) (by rw [List.length_take]; exact Nat.min_le_left _ _)
theorem rbC_set {W : World} {fb : Nat} {h : Hd} {lp : Option Addr} {n lc : Nat} {q : Option Addr} {N c : Nat} {r r' : Int} (hf : W.heap[fb]? = some (rbC h lp n lc q N c r)) : (W.setCell ⟨fb, 8, none⟩ (.int .i64 r')).heap[fb]? = some (rbC h lp n lc q N c r') := by
  unfold rbC at hf ⊢
  rw [arr_set hf]
  rfl

/-- The document's file behind a call, its rows where they were. -/
def RFileX (w w' : World) (base fb : Nat) (h : Hd) (l : List Ent) (r' : Int) : Prop :=
  RFileAt w' base fb h l r' ∧ ∀ lp n lc q N c r, w.heap[fb]? = some (rbC h lp n lc q N c r) → w'.heap[fb]? = some (rbC h lp n lc q N c r')
theorem RRows.fileX {w W : World} {base fb : Nat} {h : Hd} {l : List Ent} {lp : Option Addr} {lc : Nat} {q : Option Addr} {c : Nat} {r r' : Int} (hR : RRows w base fb l lp lc q c) (hw : w.heap[fb]? = some (rbC h lp l.length lc q (groups l).length c r)) (hg : w.grownBy W (some fb)) (hf : W.heap[fb]? = some (rbC h lp l.length lc q (groups l).length c r')) : RFileX w W base fb h l r' := by
  refine ⟨hR.file hg hf, fun lp' n' lc' q' N' c' r0 e => ?_⟩
  rw [hw] at e
  unfold rbC at e
  simp only [Option.some.injEq, Obj.cells.injEq, Array.mk.injEq, List.cons.injEq, Value.slice.injEq] at e
  obtain ⟨⟨_, _, _, _, _, _, ⟨rfl, rfl, rfl⟩, ⟨rfl, rfl, rfl⟩, _⟩, _⟩ := e
  exact hf

set_option maxRecDepth 100000 in
set_option maxHeartbeats 8000000 in
theorem RFind_callsX (base fb : Nat) (h : Hd) (l : List Ent) (r0 : Nat) (value : Int) (s : Nat) (w : World) (hF : RFileAt w base fb h l (r0 : Nat)) (hgo : goesR h l = 0) (hr0 : r0 ≤ 4611686018427387904) (hp : Parted (behindI (plE value) (linesB h l)) (linesB h l).length s) :
    Calls Tryd.prog 26 #[.pointer (some ⟨fb, 0, none⟩), .int .i64 value] w fun e w' =>
      ∃ v, e = .returned v ∧ w'.ownsRow w.heap.size 33 5 v (findG value ((groups l).drop (s - 1)) [] r0).1.length (encE (findG value ((groups l).drop (s - 1)) [] r0).1) ∧
        RFileX w w' base fb h l ((findG value ((groups l).drop (s - 1)) [] r0).2 : Nat) ∧ w.grownBy w' (some fb) := by
  obtain ⟨i0, hi, hz0, hz1, hz2⟩ := info_parts entinfo6
  obtain ⟨hh, hl, hgd⟩ := goesR_good hgo
  have hlen := linesB_length h l
  have hle := groups_le hgd
  have hG := Lib.hid (fun k hk => grpAt (h := h) hgd (plE value) (k := k) hk)
  have CB := begin_calls base fb h l r0 (plE value) s w hF hgo hp
  simp only [plE, Ent.val] at CB
  have hsN := hp.1
  rw [hlen] at hsN
  obtain ⟨lp, lc, q, c, hfc, hR⟩ := hF.rows
  have HRR := Lib.hid hR
  have hfb : fb < w.heap.size := hF.lt
  obtain ⟨R, hRv⟩ : ∃ R, findG value ((groups l).drop (s - 1)) [] r0 = R := ⟨_, rfl⟩
  obtain ⟨n, hn⟩ : ∃ n, l.length = n := ⟨_, rfl⟩
  obtain ⟨N, hN⟩ : ∃ N, (groups l).length = N := ⟨_, rfl⟩
  obtain ⟨A, hA⟩ : ∃ A : Nat → Nat, aK (groups l) = A := ⟨_, rfl⟩
  have HEnd : Hid (∀ W, W.heap[fb]? = some (rbC h lp n lc q N c (R.2 : Nat)) → w.grownBy W (some fb) → RFileX w W base fb h l (R.2 : Nat)) := Lib.hid (fun W hf hg => hR.fileX hfc hg (by rw [hn, hN]; exact hf))
  have HOwn : Hid (∀ W, w.grownBy W (some fb) → W.ownsRow base 33 5 (.slice lp n lc) n (encE l)) := Lib.hid (fun W hg => by have := (hR.grown hg).own; rw [hn] at this; exact this)
  have HSiz : Hid (∀ W, w.grownBy W (some fb) → W.ownsRow base 3 1 (.slice q N c) N (natV ((groups l).map List.length))) := Lib.hid (fun W hg => by have := (hR.grown hg).siz; rw [hN] at this; exact this)
  rw [hRv]
  rw [hn, hN] at hfc hle
  rw [hN] at hG hsN
  rw [hn] at hG hl
  rw [hA] at hG CB
  have HCB := Lib.hid CB
  have H0 : Hid (∀ W, Below w.heap.size w W → FnRel w fb h lp lc q c n N A (groups l) value r0 R (s - 1) (.slice none 0 0) W) := Lib.hid (fun W hW => ⟨[], r0, by omega, hRv, Nat.zero_le _, by omega, World.ownsRow_nil _ _ _ _, (hW.block _ hfb).trans hfc, below_grown fb hW⟩)
  have hbu : ∀ W : World, (Instr.build 33 #[(0, .int .i64 value), (2, .int .i64 (-1))]).run Tryd.prog W = .ok (.agg #[.int .i64 value, .string ⟨#[]⟩, .int .i64 (-1), .int .i64 0, .bool false]) W := fun W => run_build W _ _ _ (by kernel_rfl)
  clear CB hF hR hfc hRv hp hgo HRR
  generalize hgs : groups l = gs at hG H0 HSiz hN
  clear hA
  have hs1 : s - 1 ≤ N := by omega
  go_enter Tryd.func26, Tryd.ntmps26
  go_wp2_with fail
  refine HCB.out.mono ?_
  rintro e w1 ⟨rfl, hb1⟩
  have H1 := Lib.hid (H0.out _ hb1)
  clear hb1 H0
  go_wp2
  go_loopw [5, 7, 8] (fun ov av kv wr => ∃ k : Nat, kv = .int .i64 k ∧ av = .int .i64 (A k : Nat) ∧ FnRel w fb h lp lc q c n N A gs value r0 R k ov wr) (fun _ _ kv _ => N - (intOf kv).toNat)
  case atStart => exact ⟨s - 1, rfl, rfl, H1.out⟩
  case round =>
    obtain ⟨k, rfl, rfl, acc, r, hk, hfn, hal, hrl, hown, hfr, hgr⟩ := hrel
    rename World => wo
    have hGW := Lib.hid hgr
    have hFr := Lib.hid hfr
    have hOwn := Lib.hid hown
    have hfbo : fb < wo.heap.size := Nat.lt_of_lt_of_le hfb hgr.size
    have hrw := hfr
    unfold rbC at hrw
    obtain ⟨x7, _⟩ := arr_cell hrw (k := 7) (v := .slice q N c) rfl
    obtain ⟨x8, f8⟩ := arr_cell hrw (k := 8) (v := .int .i64 (r : Nat)) rfl
    obtain ⟨vp, vc, rfl, _⟩ := own_rd hown
    by_cases hlt : k < N
    · obtain ⟨g, x, hg, hx, hgne, hgp, hA1, hAl, _, hnv, hgi⟩ := hG.out k hlt
      have hdr : gs.drop k = g :: gs.drop (k + 1) := by
        have h2 := (List.getElem?_eq_some_iff.1 hg)
        obtain ⟨h3, h4⟩ := h2
        rw [List.drop_eq_getElem_cons h3, h4]
      rw [hdr, findG] at hfn
      have HFn := Lib.hid hfn
      have HGi := Lib.hid hgi
      have HNv := Lib.hid hnv
      have hsz := HSiz.out _ hgr
      obtain ⟨g2, rfl, _, hg2⟩ := own_some hsz (by omega)
      have hk1 : (k : Int) < (N : Int) := by omega
      have hwr : IntKind.i64.wrap ((r : Int) + 1) = ((r + 1 : Nat) : Int) := by rw [IntKind.wrap_i64]; omega
      have H2 : Hid (FiRel w fb h lp lc (some ⟨g2, 0, none⟩) c n N value acc g (r + 1) 0 (.slice vp acc.length vc) (wo.setCell ⟨fb, 8, none⟩ (.int .i64 ((r + 1 : Nat) : Int)))) := Lib.hid ⟨acc, Nat.zero_le _, by simp, own_setCell hown (p := ⟨fb, 8, none⟩) (own_type_ne hown hrw (by decide)) _, rbC_set hfr, set_grown hgr _⟩
      clear hown hfr hgr hrw hsz hfn hgi hnv hg hdr hx
      have i1' : (k : Int) < (N : Int) := by omega
      have i0' : (0 : Int) ≤ (k : Int) := by omega
      go_wp2
      go_loopw [5, 9] (fun ov iv wr => ∃ j : Nat, iv = .int .i64 ((A k : Int) + (j : Int)) ∧ FiRel w fb h lp lc (some ⟨g2, 0, none⟩) c n N value acc g (r + 1) j ov wr) (fun _ iv _ => A k + g.length - (intOf iv).toNat)
      case atStart => exact ⟨0, by go_num, H2.out⟩
      case round =>
        obtain ⟨j, rfl, F, hj, hFe, hownF, hfrF, hgrF⟩ := hrel
        have hszF := HSiz.out _ hgrF
        have henF := HOwn.out _ hgrF
        have y2 : wr.cell? ⟨g2, k, none⟩ = some (.int .i64 (g.length : Int)) := by rw [hszF.cellAt k (by omega)]; exact HNv.out
        obtain ⟨g1, rfl, _, hg1⟩ := own_some henF (by omega)
        have hrwF := hfrF
        unfold rbC at hrwF
        obtain ⟨z6, _⟩ := arr_cell hrwF (k := 6) (v := .slice (some ⟨g1, 0, none⟩) n lc) rfl
        obtain ⟨z7, _⟩ := arr_cell hrwF (k := 7) (v := .slice (some ⟨g2, 0, none⟩) N c) rfl
        obtain ⟨fp, fc, rfl, _⟩ := own_rd hownF
        have hwA : IntKind.i64.wrap ((A k : Int) + (g.length : Int)) = (A k : Int) + (g.length : Int) := by rw [IntKind.wrap_i64]; omega
        have HOF := Lib.hid hownF
        have HFF := Lib.hid hfrF
        have HGF := Lib.hid hgrF
        have hFl : F.length ≤ A k + j := by
          have := filter_le (g := g) (j := j) (fun x => decide (x.v = value))
          rw [hFe, List.length_append]
          omega
        by_cases hjl : j < g.length
        · obtain ⟨y, hy⟩ : ∃ y, g[j]? = some y := ⟨_, List.getElem?_eq_getElem hjl⟩
          have hly := (HGi.out j hjl).trans hy
          obtain ⟨e0, e1, e2, e3, e4⟩ := own_fiveE henF hly
          have htf := take_filter_succ hy (fun x => decide (x.v = value))
          have hlt2 : (A k : Int) + (j : Int) < (A k : Int) + (g.length : Int) := by omega
          have j0 : (0 : Int) ≤ (A k : Int) + (j : Int) := by omega
          have j1 : (A k : Int) + (j : Int) < (n : Int) := by omega
          have hwj : IntKind.i64.wrap ((A k : Int) + (j : Int)) = (A k : Int) + (j : Int) := by rw [IntKind.wrap_i64]; omega
          have hwj1 : IntKind.i64.wrap ((A k : Int) + (j : Int) + 1) = (A k : Int) + (j : Int) + 1 := by rw [IntKind.wrap_i64]; omega
          have htn : ((A k : Int) + (j : Int)).toNat = A k + j := by omega
          by_cases hyv : y.v = value
          · have heq : (y.v == value) = true := by simpa using hyv
            have hF2 : F ++ [y] = acc ++ (g.take (j + 1)).filter (fun x => decide (x.v = value)) := by
              rw [htf, hFe]
              simp [hyv]
            have HF2 := Lib.hid hF2
            have hq := Lib.hid (hownF.alloc (.cells #[.int .i64 y.v, .string y.c, .int .i64 y.i, .int .i64 y.s, .bool y.d] 33))
            have hnews := Lib.hid (World.news_of_block (World.alloc_heap_new wr (.cells #[.int .i64 y.v, .string y.c, .int .i64 y.i, .int .i64 y.s, .bool y.d] 33)))
            have hws := hgrF.size
            clear hF2 htf hFe hownF hfrF hgrF hrwF hszF henF hly hy hyv
            go_wp2_with (at_builtin; refine wpList_append_own _ rfl _ _ 24 rfl w.heap.size 33 i0 _ 5 48 Tryd.underlying24 hi hz0 hz1 hz2 rfl (by decide) (.slice fp F.length fc) F.length _ rfl hq.out ⟨wr.heap.size, 0, none⟩ 1 1 [.int .i64 y.v, .string y.c, .int .i64 y.i, .int .i64 y.s, .bool y.d] rfl rfl hnews.out (by simp [Value.oneCell']) (by unfold maxLen; omega) (by omega) (by simp; omega) ?_; intro v6 w6 hown6 hgrow6 _)
            have hne := own_type_ne HOF.out (by have := HFF.out; unfold rbC at this; exact this) (by decide)
            have hAl2 := rgrown_below HGF.out ((Below.refl _ wr).alloc (Nat.le_refl _) (.cells #[.int .i64 y.v, .string y.c, .int .i64 y.i, .int .i64 y.s, .bool y.d] 33))
            refine ⟨⟨j + 1, by go_num, F ++ [y], hjl, HF2.out, ?_, ?_, grown_then hAl2 hgrow6 (fun b e => .inl (HOF.out.lt b e).1)⟩, by simp [intOf]; omega⟩
            · rw [encE_snoc, List.length_append]
              exact hown6
            · have hfl : fb < wr.heap.size := (Array.getElem?_eq_some_iff.1 HFF.out).1
              exact ((hgrow6.block fb (by simp; omega) (fun e => hne e.symm)).trans (Below.heap_alloc _ _ _ hfl)).trans HFF.out
          · have heq : (y.v == value) = false := by simpa using hyv
            have hF2 : F = acc ++ (g.take (j + 1)).filter (fun x => decide (x.v = value)) := by
              rw [htf, hFe]
              simp [hyv]
            have HF2 := Lib.hid hF2
            clear hF2 htf hFe hownF hfrF hgrF hrwF hszF henF hly hy hyv
            go_wp2
            go_roundw
            case rel => exact ⟨j + 1, by go_num, F, hjl, HF2.out, HOF.out, HFF.out, HGF.out⟩
            case measure => simp [intOf]; omega
        · obtain rfl : j = g.length := by omega
          rw [List.take_length] at hFe
          obtain ⟨m, hm⟩ : ∃ m, g.length = m + 1 := ⟨g.length - 1, by omega⟩
          obtain ⟨y, hy⟩ : ∃ y, g[m]? = some y := ⟨_, List.getElem?_eq_getElem (by omega)⟩
          have hly := (HGi.out m (by omega)).trans hy
          obtain ⟨e0, e1, e2, e3, e4⟩ := own_fiveE henF hly
          have hla : lastB g value = decide (value < y.v) := by
            unfold lastB
            rw [List.getLast?_eq_getElem?, show g.length - 1 = m by omega, hy]
          have hfn2 := HFn.out
          rw [hla, ← hFe] at hfn2
          have hnl : ¬ ((A k : Int) + (g.length : Int) < (A k : Int) + (g.length : Int)) := by omega
          have hwB : IntKind.i64.wrap ((A k : Int) + (g.length : Int) - 1) = ((A k + m : Nat) : Int) := by rw [IntKind.wrap_i64]; omega
          have j0 : (0 : Int) ≤ ((A k + m : Nat) : Int) := by omega
          have j1 : ((A k + m : Nat) : Int) < (n : Int) := by omega
          by_cases hgt : value < y.v
          · rw [if_pos (by simpa using hgt)] at hfn2
            have HR2 := Lib.hid hfn2
            clear hfn2 hla hFe hownF hfrF hgrF hrwF hszF henF hly hy
            go_wp2
            go_ret
            rw [← HR2.out]
            rw [← HR2.out] at HEnd
            exact ⟨_, rfl, HOF.out, HEnd.out _ HFF.out HGF.out, HGF.out⟩
          · rw [if_neg (by simpa using hgt)] at hfn2
            have HR2 := Lib.hid hfn2
            clear hfn2 hla hFe hownF hfrF hgrF hrwF hszF henF hly hy
            go_wp2
            go_roundw
            case rel => exact ⟨k + 1, by go_num, by rw [hA1, hm, Int.natCast_add, Int.natCast_add]; rfl, F, r + 1, hlt, HR2.out, by omega, by omega, HOF.out, HFF.out, HGF.out⟩
            case measure => simp [intOf]; omega
    · obtain rfl : k = N := by omega
      have hk1 : ¬ ((k : Int) < (k : Int)) := by omega
      have hR : R = (acc, r) := by
        rw [← hfn, List.drop_eq_nil_of_le (by rw [hN]; exact Nat.le_refl _), findG]
      have HEn := Lib.hid hR
      clear hown hfr hgr hrw hfn hR
      go_wp2
      go_ret
      rw [HEn.out] at HEnd ⊢
      exact ⟨_, rfl, hOwn.out, HEnd.out _ hFr.out hGW.out, hGW.out⟩

theorem RFind_calls (base fb : Nat) (h : Hd) (l : List Ent) (r0 : Nat) (value : Int) (s : Nat) (w : World) (hF : RFileAt w base fb h l (r0 : Nat)) (hgo : goesR h l = 0) (hr0 : r0 ≤ 4611686018427387904) (hp : Parted (behindI (plE value) (linesB h l)) (linesB h l).length s) :
    Calls Tryd.prog 26 #[.pointer (some ⟨fb, 0, none⟩), .int .i64 value] w fun e w' =>
      ∃ v, e = .returned v ∧ w'.ownsRow w.heap.size 33 5 v (findG value ((groups l).drop (s - 1)) [] r0).1.length (encE (findG value ((groups l).drop (s - 1)) [] r0).1) ∧
        RFileAt w' base fb h l ((findG value ((groups l).drop (s - 1)) [] r0).2 : Nat) ∧ w.grownBy w' (some fb) := by
  refine (RFind_callsX base fb h l r0 value s w hF hgo hr0 hp).mono ?_
  rintro e w' ⟨v, h1, h2, h3, h4⟩
  exact ⟨v, h1, h2, h3.1, h4⟩
end Go.Proofs.YtihgjihdmlomaaaDoor
