/-
  THE LAW BlockFound.
-/
import Derived.Test.YtihgjihdmlomaaaDoorJBuB
namespace Go.Proofs.YtihgjihdmlomaaaDoor
open Go.RowKit ArgK
set_option linter.unusedVariables false

theorem ent_arg {sa : Array Value} {z : Ent} (h : IsEnt sa.toList z) : sa = #[.int .i64 z.v, .string z.c, .int .i64 z.i, .int .i64 z.s, .bool z.d] := by
  rw [← Array.toList_inj, h.1]
  rfl
theorem int_arg {w : World} {v : Value} {z : List Int} (h : XKit.IsRow w v z) : ∃ (p : Option Addr) (c : Nat), v = .slice p z.length c ∧ 8 * z.length ≤ 140737488351232 ∧ (∀ i y, z[i]? = some y → ∃ a, p = some a ∧ a.block < w.heap.size ∧ w.cell? (a.add i) = some (.int .i64 y)) ∧ ∀ x ∈ z, (Lit.int .i64 x).wf = true := by
  obtain ⟨h1, h2, h3⟩ := h
  rcases h3 with ⟨rfl, rfl⟩ | ⟨a, cap, rfl, _, _, hc⟩
  · exact ⟨none, 0, rfl, by simp, fun i y hy => by simp at hy, h2⟩
  · refine ⟨some a, cap, rfl, by omega, fun i y hy => ?_, h2⟩
    obtain ⟨hi, e⟩ := List.getElem?_eq_some_iff.1 hy
    have hcell := hc i hi
    have hg : z.getD i 0 = y := by rw [List.getD_eq_getElem?_getD, hy]; rfl
    rw [hg] at hcell
    exact ⟨a, rfl, by have := cell_lt hcell; rw [add_blockE] at this; exact this, hcell⟩

theorem cmp_ge {y en : Ent} : 0 ≤ cmpE y en ↔ ¬ eless y en := by
  rw [← cmpE_neg]
  omega
/-- What From tells of a list one entry longer. -/
theorem fromL_snoc {en : Ent} {most : Int} {l : List Ent} {y : Ent} (h : ((fromL en most l).length : Int) < most) : fromL en most (l ++ [y]) = if eless y en then fromL en most l else fromL en most l ++ [y] := by
  have hm : ¬ most < 1 := by omega
  unfold fromL at h ⊢
  rw [if_neg hm] at h ⊢
  rw [if_neg hm, List.foldl_append]
  show addF en most.toNat (l.foldl (addF en most.toNat) []) y = _
  obtain ⟨F, hF⟩ : ∃ F, l.foldl (addF en most.toNat) [] = F := ⟨_, rfl⟩
  rw [hF] at h ⊢
  unfold addF
  rw [if_pos (by omega)]
  by_cases he : eless y en
  · rw [if_neg (fun k => cmp_ge.1 k he), if_pos he]
  · rw [if_pos (cmp_ge.2 he), if_neg he]
theorem fromL_full {en : Ent} {most : Int} {l l' : List Ent} (h : ¬ ((fromL en most l).length : Int) < most) : fromL en most (l ++ l') = fromL en most l := by
  unfold fromL at h ⊢
  by_cases hm : most < 1
  · rw [if_pos hm, if_pos hm]
  · rw [if_neg hm] at h ⊢
    rw [if_neg hm, List.foldl_append]
    have := foldF_leM en most.toNat l [] (Nat.zero_le _)
    exact addF_full (by omega) l'
theorem fromL_nil (en : Ent) (most : Int) : fromL en most [] = [] := by
  unfold fromL
  split <;> rfl
theorem fromL_len (en : Ent) (most : Int) (l : List Ent) : (fromL en most l).length ≤ l.length := by
  unfold fromL
  split
  · simp
  · have := foldF_len en most.toNat l []
    simpa using this

set_option maxRecDepth 100000 in
set_option maxHeartbeats 8000000 in
theorem BlockFound_walk (sa0 : Array Value) (h : Hd) (v1 : Value) (z : List Ent) (v2 : Value) (z2 : List Int) (sa3 : Array Value) (en : Ent) (most : Int) (w4 : (Lit.int .i64 most).wf = true) (w : World) (h0 : IsHd sa0.toList h) (h1 : IsSl w 5 48 IsEnt [v1] z) (h2 : XKit.IsRow w v2 z2) (h3 : IsEnt sa3.toList en) (hL : TabLaid w) :
    Calls Tryd.prog 5 #[.agg sa0, v1, v2, .agg sa3, .int .i64 most] w fun e w' => e = .returned (.bool true) ∧ Below w.heap.size w w' := by
  obtain rfl := hd_arg h0
  obtain rfl := ent_arg h3
  obtain ⟨p, c, rfl, hp, hnc, hm, hE, hcs⟩ := el_arg h1
  obtain ⟨p2, c2, rfl, hm2, hV, _⟩ := int_arg h2
  have hT := tab_of_laid hL
  have hmost : most ≤ 9223372036854775807 := by
    have := w4
    simp [Lit.wf] at this
    omega
  obtain ⟨i0, hi, hz0, hz1, hz2⟩ := info_parts entinfo6
  obtain ⟨n, hn⟩ : ∃ n, z.length = n := ⟨_, rfl⟩
  obtain ⟨m, hmm⟩ : ∃ m, z2.length = m := ⟨_, rfl⟩
  rw [hn] at hp hnc hm ⊢
  rw [hmm] at hm2 ⊢
  obtain ⟨W0, hW0⟩ : ∃ W0, (w.alloc (.cells #[.int .i64 h.w, .int .i64 h.t, .int .i64 h.b, .int .i64 h.lo, .int .i64 h.hi, .int .i64 h.n] 23)).alloc (.cells #[.int .i64 en.v, .string en.c, .int .i64 en.i, .int .i64 en.s, .bool en.d] 33) = W0 := ⟨_, rfl⟩
  have hb0 : Below w.heap.size w W0 := by rw [← hW0]; exact ((Below.refl _ w).alloc (Nat.le_refl _) _).alloc (by simp) _
  have hsz0 : W0.heap.size = w.heap.size + 1 + 1 := by rw [← hW0]; simp
  have hx0 : W0.heap[w.heap.size]? = some (.cells #[.int .i64 h.w, .int .i64 h.t, .int .i64 h.b, .int .i64 h.lo, .int .i64 h.hi, .int .i64 h.n] 23 (0, 0)) := by
    rw [← hW0]
    exact (Below.heap_alloc _ _ _ (by simp)).trans (World.alloc_heap_new w _)
  have hx1 : W0.heap[w.heap.size + 1]? = some (.cells #[.int .i64 en.v, .string en.c, .int .i64 en.i, .int .i64 en.s, .bool en.d] 33 (0, 0)) := by
    rw [← hW0]
    have := World.alloc_heap_new (w.alloc (.cells #[.int .i64 h.w, .int .i64 h.t, .int .i64 h.b, .int .i64 h.lo, .int .i64 h.hi, .int .i64 h.n] 23)) (.cells #[.int .i64 en.v, .string en.c, .int .i64 en.i, .int .i64 en.s, .bool en.d] 33)
    rwa [World.size_alloc] at this
  have CBg := begun6_calls W0 (hT.below hb0)
  have HCBg := Lib.hid CBg
  have HN := Lib.hid hn
  have HM := Lib.hid hmm
  have HE := Lib.hid hE
  have HV := Lib.hid hV
  have HCS := Lib.hid hcs
  have HT := Lib.hid hT
  have HB0 := Lib.hid hb0
  have HX0 := Lib.hid hx0
  have HX1 := Lib.hid hx1
  have HSZ := Lib.hid hsz0
  have HW0 := Lib.hid hW0
  clear h0 h1 h2 h3 w4 hL hn hmm hp hE hV hcs hT CBg hb0 hx0 hx1 hsz0
  go_enter Tryd.func5, Tryd.ntmps5
  go_wp2_with fail
  clear hW0
  refine HCBg.out.mono ?_
  rintro e w1 ⟨rfl, hb1⟩
  have hx01 := (hb1.block w.heap.size (by rw [HSZ.out]; omega)).trans HX0.out
  have HBw1 : Hid (Below w.heap.size w w1) := Lib.hid (HB0.out.trans (hb1.mono (by rw [HSZ.out]; omega)))
  have HB1 := Lib.hid hb1
  obtain ⟨d0, d1, d2, d3, d4, d5⟩ := cells6 hx01
  have CB := Build_calls h p n c z HN.out (by omega) hnc HCS.out w1 (HT.out.below HBw1.out) ((HE.out.below HBw1.out (Nat.le_refl _)).mono HBw1.out.size)
  unfold Hd.val BuildPost at CB
  clear hb1 hx01
  by_cases hgo : goesR h z = 0
  · have hbt : builtR h z = (fileB h z, 0) := by unfold builtR; rw [if_pos hgo]
    rw [hbt] at CB
    have CO := fun W hW => Open_built (h := h) (l := z) hgo W hW
    have hgn : goesR ⟨h.w, h.t, h.b, h.lo, h.hi, (n : Nat)⟩ z = 0 := by rw [goesR_n]; exact hgo
    have hnl : n ≤ 2097152 := by rw [← HN.out]; exact (goesR_good hgo).2.1
    obtain ⟨S, hS⟩ : ∃ S, (⟨(fileB h z).toArray⟩ : ByteArray) = S := ⟨_, rfl⟩
    simp only [hS] at CB CO
    have HCB := Lib.hid CB
    have HCO := Lib.hid CO
    have HGn := Lib.hid hgn
    clear CB CO hS hgn hbt hgo
    go_wp2_with fail
    refine HCB.out.mono ?_
    rintro e w2 ⟨rfl, hb2⟩
    have HB2 : Hid (Below W0.heap.size W0 w2) := Lib.hid (HB1.out.trans (hb2.mono HB1.out.size))
    have HBw2 : Hid (Below w.heap.size w w2) := Lib.hid (HBw1.out.trans (hb2.mono HBw1.out.size))
    clear hb2 d0 d1 d2 d3 d4 d5
    go_wp2_with fail
    refine (HCO.out w2 (HT.out.below HBw2.out)).mono ?_
    rintro e w3 ⟨fb, rfl, hF3, hfb3, hb3⟩
    rw [HN.out] at hF3
    have hsw2 := HB2.out.size
    have HB3 : Hid (Below W0.heap.size W0 w3) := Lib.hid (HB2.out.trans (hb3.mono HB2.out.size))
    have HF3 := Lib.hid hF3
    obtain ⟨bs, hbs⟩ : ∃ bs, w2.heap.size = bs := ⟨_, rfl⟩
    rw [hbs] at HF3 hfb3 hsw2
    have HFb : Hid (W0.heap.size ≤ fb) := Lib.hid (by omega)
    clear hb3 hF3 hbs hsw2 hfb3 HCO HCB HBw2
    go_wp2_with fail
    have HR0 : Hid (∃ r : Nat, r ≤ 0 * 131072 ∧ FileAt w3 bs fb ⟨h.w, h.t, h.b, h.lo, h.hi, (n : Nat)⟩ z (r : Nat) ∧ Below W0.heap.size W0 w3) := Lib.hid ⟨0, Nat.zero_le _, HF3.out, HB3.out⟩
    clear HF3 HB3 HB2 HB1 HBw1
    go_loopw [16] (fun iv wr => ∃ i : Nat, iv = .int .i64 i ∧ i ≤ m ∧ ∃ r : Nat, r ≤ i * 131072 ∧ FileAt wr bs fb ⟨h.w, h.t, h.b, h.lo, h.hi, (n : Nat)⟩ z (r : Nat) ∧ Below W0.heap.size W0 wr) (fun iv _ => m - (intOf iv).toNat)
    case atStart => exact ⟨0, rfl, Nat.zero_le _, HR0.out⟩
    case round =>
      rename World => wo
      obtain ⟨i, rfl, him, r, hr, hF, hB⟩ := hrel
      have HF := Lib.hid hF
      have HB := Lib.hid hB
      have HBw := Lib.hid (HB0.out.trans (hB.mono HB0.out.size))
      clear hF hB
      by_cases hlt : i < m
      · obtain ⟨y, hy⟩ : ∃ y, z2[i]? = some y := ⟨_, List.getElem?_eq_getElem (by rw [HM.out]; exact hlt)⟩
        obtain ⟨a2, rfl, ha2, hc2⟩ := HV.out i y hy
        have hi0 : (0 : Int) ≤ (i : Int) := by omega
        have hi1 : (i : Int) < (m : Int) := by omega
        have H0 : Hid (wo.ownsRow wo.heap.size 33 5 (.slice none 0 0) ((z.take 0).filter (fun x => decide (x.v = y))).length (encE ((z.take 0).filter (fun x => decide (x.v = y)))) ∧ Below wo.heap.size wo wo) := Lib.hid ⟨World.ownsRow_nil _ _ _ _, Below.refl _ _⟩
        clear hy
        go_wp2
        go_loopw [17, 18] (fun vv kv wr => ∃ k : Nat, kv = .int .i64 k ∧ k ≤ n ∧ wr.ownsRow wo.heap.size 33 5 vv ((z.take k).filter (fun x => decide (x.v = y))).length (encE ((z.take k).filter (fun x => decide (x.v = y)))) ∧ Below wo.heap.size wo wr) (fun _ kv _ => n - (intOf kv).toNat)
        case atStart => exact ⟨0, rfl, Nat.zero_le _, H0.out⟩
        case round =>
          obtain ⟨k, rfl, hkn, ho, hB⟩ := hrel
          by_cases hk : k < n
          · obtain ⟨x, hx⟩ : ∃ x, z[k]? = some x := ⟨_, List.getElem?_eq_getElem (by rw [HN.out]; exact hk)⟩
            obtain ⟨a, rfl, ha, hfive⟩ := HE.out k x hx
            obtain ⟨y0, y1, y2, y3, y4⟩ := (hfive.below HBw.out (by rw [add_blockE]; exact ha)).belowAll hB
            have c2' := (hB.cell (p := a2.add i) (by rw [add_blockE]; have := HBw.out.size; omega)).trans ((HBw.out.cell (p := a2.add i) (by rw [add_blockE]; exact ha2)).trans hc2)
            have htk : z.take (k + 1) = z.take k ++ [x] := by rw [List.take_add_one, hx]; rfl
            have hk0 : (0 : Int) ≤ (k : Int) := by omega
            have hk1 : (k : Int) < (n : Int) := by omega
            obtain ⟨F, hF⟩ : ∃ F, (z.take k).filter (fun x => decide (x.v = y)) = F := ⟨_, rfl⟩
            have hFl : F.length ≤ k := by
              rw [← hF]
              refine Nat.le_trans (List.length_filter_le _ _) ?_
              rw [List.length_take]
              omega
            rw [hF] at ho
            obtain ⟨vp, vc, rfl, _⟩ := own_rd ho
            have hws := hB.size
            by_cases hxy : x.v = y
            · have hF2 : (z.take (k + 1)).filter (fun x => decide (x.v = y)) = F ++ [x] := by
                rw [htk, List.filter_append, hF]
                simp [hxy]
              have heq : (x.v == y) = true := by simpa using hxy
              have HO := Lib.hid ho
              have HF2 := Lib.hid hF2
              have HBi := Lib.hid hB
              clear hF2 hxy htk hF ho hx hfive hB
              go_wp2
              go_quiet (fail)
              have hq1 := Lib.hid (((show (wr.drewN nq).ownsRow wo.heap.size 33 5 (.slice vp F.length vc) F.length (encE F) from HO.out)).alloc (.cells #[.int .i64 x.v, .string x.c, .int .i64 x.i, .int .i64 x.s, .bool x.d] 33))
              have hnews := Lib.hid (World.news_of_block (World.alloc_heap_new (wr.drewN nq) (.cells #[.int .i64 x.v, .string x.c, .int .i64 x.i, .int .i64 x.s, .bool x.d] 33)))
              go_wp2_with (at_builtin; refine wpList_append_own _ rfl _ _ 24 rfl wo.heap.size 33 i0 _ 5 48 Tryd.underlying24 hi hz0 hz1 hz2 rfl (by decide) (.slice vp F.length vc) F.length _ rfl hq1.out ⟨wr.heap.size, 0, none⟩ 1 1 [.int .i64 x.v, .string x.c, .int .i64 x.i, .int .i64 x.s, .bool x.d] rfl rfl hnews.out (by simp [Value.oneCell']) (by unfold maxLen; omega) (by omega) (by simp; omega) ?_; intro v5 w5 hown5 hgrow5 _)
              refine ⟨⟨k + 1, by go_num, hk, ?_, ?_⟩, by simp [intOf]; omega⟩
              · rw [HF2.out, encE_snoc, List.length_append]
                exact hown5
              · have h1 : Below wo.heap.size wo ((wr.drewN nq).alloc (.cells #[.int .i64 x.v, .string x.c, .int .i64 x.i, .int .i64 x.s, .bool x.d] 33)) := (below_drewN HBi.out nq).alloc HBi.out.size _
                exact h1.grown hgrow5 h1.size (fun j e => (HO.out.lt j e).1)
            · have hF2 : (z.take (k + 1)).filter (fun x => decide (x.v = y)) = F := by
                rw [htk, List.filter_append, hF]
                simp [hxy]
              have heq : (x.v == y) = false := by simpa using hxy
              have HO := Lib.hid ho
              have HF2 := Lib.hid hF2
              have HBi := Lib.hid hB
              clear hF2 hxy htk hF ho hx hfive hB
              go_wp2
              go_quiet (fail)
              go_wp2
              go_roundw
              case rel => exact ⟨k + 1, by go_num, hk, by rw [HF2.out]; exact HO.out, below_drewN HBi.out nq⟩
              case measure => simp [intOf]; omega
          · obtain rfl : k = n := by omega
            obtain ⟨F, hF⟩ : ∃ F, z.filter (fun x => decide (x.v = y)) = F := ⟨_, rfl⟩
            rw [List.take_of_length_le (by rw [HN.out]; exact Nat.le_refl _), hF] at ho
            obtain ⟨vp, vc, rfl, _⟩ := own_rd ho
            have c2' := (hB.cell (p := a2.add i) (by rw [add_blockE]; have := HBw.out.size; omega)).trans ((HBw.out.cell (p := a2.add i) (by rw [add_blockE]; exact ha2)).trans hc2)
            have hF5 := HF.out.below hB
            have CF := Find_law bs fb _ z r y wr hF5 HGn.out (by omega)
            rw [hF] at CF
            have hFl : F.length ≤ k := by
              rw [← hF, ← HN.out]
              exact List.length_filter_le _ _
            have hkk : ¬ ((k : Int) < (k : Int)) := by omega
            have HCF := Lib.hid CF
            have HO := Lib.hid ho
            have HBi := Lib.hid hB
            have HFw : Hid (fb < wo.heap.size) := Lib.hid (by
              obtain ⟨_, _, _, _, h1, _⟩ := HF.out
              exact (Array.getElem?_eq_some_iff.1 h1).1)
            clear CF ho hB hF5 hF
            go_wp2_with fail
            refine HCF.out.mono ?_
            rintro e w6 ⟨v6, r6, rfl, ho6, hF6, hg6, hr6, _, hr7, _⟩
            have hoW := own_grown HO.out hg6 (fun j hj e => by have := (HO.out.lt j hj).1; have := HFw.out; have := Option.some.inj e; omega)
            have CS := sameE_true v6 (.slice vp F.length vc) F (by omega) w6 (ESl.of_own ho6) (ESl.of_own hoW)
            have hB6 : Below W0.heap.size W0 w6 := below_file (HB.out.trans (HBi.out.mono HB.out.size)) hg6 HFb.out
            have HCS := Lib.hid CS
            have HF6 := Lib.hid hF6
            have HB6 := Lib.hid hB6
            clear CS ho6 hF6 hg6 hoW hB6
            go_wp2_with fail
            refine HCS.out.mono ?_
            rintro e w7 ⟨rfl, hb7⟩
            have HF7 := Lib.hid (HF6.out.below hb7)
            have HB7 := Lib.hid (HB6.out.trans (hb7.mono HB6.out.size))
            clear hb7
            go_wp2
            go_roundw
            case rel => exact ⟨i + 1, by go_num, hlt, r6, by omega, HF7.out, HB7.out⟩
            case measure => simp [intOf]; omega
      · obtain rfl : i = m := by omega
        have hii : ¬ ((i : Int) < (i : Int)) := by omega
        have H0 : Hid (wo.ownsRow wo.heap.size 33 5 (.slice none 0 0) (fromL en most (z.take 0)).length (encE (fromL en most (z.take 0))) ∧ Below wo.heap.size wo wo) := Lib.hid (by
          rw [List.take_zero, fromL_nil]
          exact ⟨World.ownsRow_nil _ _ _ _, Below.refl _ _⟩)
        go_wp2
        go_loopw [19, 20] (fun vv kv ws => ∃ k : Nat, kv = .int .i64 k ∧ k ≤ n ∧ ws.ownsRow wo.heap.size 33 5 vv (fromL en most (z.take k)).length (encE (fromL en most (z.take k))) ∧ Below wo.heap.size wo ws) (fun _ kv _ => n - (intOf kv).toNat)
        case atStart => exact ⟨0, rfl, Nat.zero_le _, H0.out⟩
        case round =>
          obtain ⟨k, rfl, hkn, ho, hB⟩ := hrel
          obtain ⟨F, hF⟩ : ∃ F, fromL en most (z.take k) = F := ⟨_, rfl⟩
          rw [hF] at ho
          obtain ⟨vp, vc, rfl, _⟩ := own_rd ho
          have hws := hB.size
          have hBx : Below W0.heap.size W0 wr := HB.out.trans (hB.mono HB.out.size)
          obtain ⟨e0, e1, e2, e3, e4⟩ := cells5 ((hBx.block (w.heap.size + 1) (by rw [HSZ.out]; omega)).trans HX1.out)
          have HBx := Lib.hid hBx
          clear hBx
          by_cases hk : k < n
          · have hk0 : (0 : Int) ≤ (k : Int) := by omega
            have hk1 : (k : Int) < (n : Int) := by omega
            by_cases hful : (F.length : Int) < most
            · obtain ⟨x, hx⟩ : ∃ x, z[k]? = some x := ⟨_, List.getElem?_eq_getElem (by rw [HN.out]; exact hk)⟩
              obtain ⟨a, rfl, ha, hfive⟩ := HE.out k x hx
              have hfv := (hfive.below HBw.out (by rw [add_blockE]; exact ha)).belowAll hB
              have htk : z.take (k + 1) = z.take k ++ [x] := by rw [List.take_add_one, hx]; rfl
              have hsn := fromL_snoc (y := x) (by rw [hF]; exact hful)
              rw [← htk, hF] at hsn
              have hFl : F.length ≤ k := by
                rw [← hF]
                refine Nat.le_trans (fromL_len en most _) ?_
                rw [List.length_take]
                omega
              have CL := fun W => less_calls x en W
              unfold Ent.val at CL
              have HK : Hid (∀ W, Below wr.heap.size wr W → (fun W => W.cell? (a.add (k * 5)) = some (.int .i64 x.v) ∧ W.cell? ⟨(a.add (k * 5)).block, (a.add (k * 5)).off + 1, none⟩ = some (.string x.c) ∧ W.cell? ⟨(a.add (k * 5)).block, (a.add (k * 5)).off + 2, none⟩ = some (.int .i64 x.i) ∧ W.cell? ⟨(a.add (k * 5)).block, (a.add (k * 5)).off + 3, none⟩ = some (.int .i64 x.s) ∧ W.cell? ⟨(a.add (k * 5)).block, (a.add (k * 5)).off + 4, none⟩ = some (.bool x.d) ∧ W.cell? ⟨w.heap.size + 1, 0, none⟩ = some (.int .i64 en.v) ∧ W.cell? ⟨w.heap.size + 1, 1, none⟩ = some (.string en.c) ∧ W.cell? ⟨w.heap.size + 1, 2, none⟩ = some (.int .i64 en.i) ∧ W.cell? ⟨w.heap.size + 1, 3, none⟩ = some (.int .i64 en.s) ∧ W.cell? ⟨w.heap.size + 1, 4, none⟩ = some (.bool en.d)) W) := Lib.hid (fun W hW => by
                obtain ⟨q0, q1, q2, q3, q4⟩ := hfv.belowAll hW
                obtain ⟨r0, r1, r2, r3, r4⟩ := cells5 ((hW.block (w.heap.size + 1) (by have := HBx.out.size; have := HSZ.out; omega)).trans ((HBx.out.block (w.heap.size + 1) (by rw [HSZ.out]; omega)).trans HX1.out))
                exact ⟨q0, q1, q2, q3, q4, r0, r1, r2, r3, r4⟩)
              obtain ⟨y0, y1, y2, y3, y4⟩ := hfv
              have HO := Lib.hid ho
              have HSn := Lib.hid hsn
              have HBi := Lib.hid hB
              have HFv := Lib.hid (fun W hW => (HK.out W hW))
              by_cases hle : eless x en
              · have hd : decide (eless x en) = true := by simpa using hle
                have hF2 : fromL en most (z.take (k + 1)) = F := by rw [hsn, if_pos hle]
                have HF2 := Lib.hid hF2
                simp only [hd] at CL
                have HCL := Lib.hid CL
                clear hF2 hle hd CL hsn htk hF ho hx hfive hB HFv
                go_wp2
                go_region_held3 (fun W => W.cell? (a.add (k * 5)) = some (.int .i64 x.v) ∧ W.cell? ⟨(a.add (k * 5)).block, (a.add (k * 5)).off + 1, none⟩ = some (.string x.c) ∧ W.cell? ⟨(a.add (k * 5)).block, (a.add (k * 5)).off + 2, none⟩ = some (.int .i64 x.i) ∧ W.cell? ⟨(a.add (k * 5)).block, (a.add (k * 5)).off + 3, none⟩ = some (.int .i64 x.s) ∧ W.cell? ⟨(a.add (k * 5)).block, (a.add (k * 5)).off + 4, none⟩ = some (.bool x.d) ∧ W.cell? ⟨w.heap.size + 1, 0, none⟩ = some (.int .i64 en.v) ∧ W.cell? ⟨w.heap.size + 1, 1, none⟩ = some (.string en.c) ∧ W.cell? ⟨w.heap.size + 1, 2, none⟩ = some (.int .i64 en.i) ∧ W.cell? ⟨w.heap.size + 1, 3, none⟩ = some (.int .i64 en.s) ∧ W.cell? ⟨w.heap.size + 1, 4, none⟩ = some (.bool en.d)) (first | exact HK.out _ (Below.refl _ _) | exact HK.out wr.drew (Below.refl _ wr).drew | exact HK.out _ (below_of hb5)) (first | (go_at_call 22; refine (HCL.out _).mono ?_; rintro e w5 ⟨rfl, hb5⟩))
                have HB5 := Lib.hid (below_of hb5)
                clear hb5
                go_wp2
                go_roundw
                case rel => exact ⟨k + 1, by go_num, hk, by rw [HF2.out]; exact own_belowAll HO.out HB5.out, HBi.out.trans (HB5.out.mono HBi.out.size)⟩
                case measure => simp [intOf]; omega
              · have hd : decide (eless x en) = false := by simpa using hle
                have hF2 : fromL en most (z.take (k + 1)) = F ++ [x] := by rw [hsn, if_neg hle]
                have HF2 := Lib.hid hF2
                simp only [hd] at CL
                have HCL := Lib.hid CL
                clear hF2 hle hd CL hsn htk hF ho hx hfive hB HFv
                go_wp2
                go_region_held3 (fun W => W.cell? (a.add (k * 5)) = some (.int .i64 x.v) ∧ W.cell? ⟨(a.add (k * 5)).block, (a.add (k * 5)).off + 1, none⟩ = some (.string x.c) ∧ W.cell? ⟨(a.add (k * 5)).block, (a.add (k * 5)).off + 2, none⟩ = some (.int .i64 x.i) ∧ W.cell? ⟨(a.add (k * 5)).block, (a.add (k * 5)).off + 3, none⟩ = some (.int .i64 x.s) ∧ W.cell? ⟨(a.add (k * 5)).block, (a.add (k * 5)).off + 4, none⟩ = some (.bool x.d) ∧ W.cell? ⟨w.heap.size + 1, 0, none⟩ = some (.int .i64 en.v) ∧ W.cell? ⟨w.heap.size + 1, 1, none⟩ = some (.string en.c) ∧ W.cell? ⟨w.heap.size + 1, 2, none⟩ = some (.int .i64 en.i) ∧ W.cell? ⟨w.heap.size + 1, 3, none⟩ = some (.int .i64 en.s) ∧ W.cell? ⟨w.heap.size + 1, 4, none⟩ = some (.bool en.d)) (first | exact HK.out _ (Below.refl _ _) | exact HK.out wr.drew (Below.refl _ wr).drew | exact HK.out _ (below_of hb5)) (first | (go_at_call 22; refine (HCL.out _).mono ?_; rintro e w5 ⟨rfl, hb5⟩))
                have HB5 := Lib.hid (below_of hb5)
                clear hb5
                obtain ⟨s0, s1, s2, s3, s4, _⟩ := HK.out _ HB5.out
                have hq1 := Lib.hid ((own_belowAll HO.out HB5.out).alloc (.cells #[.int .i64 x.v, .string x.c, .int .i64 x.i, .int .i64 x.s, .bool x.d] 33))
                have hnews := Lib.hid (World.news_of_block (World.alloc_heap_new w5 (.cells #[.int .i64 x.v, .string x.c, .int .i64 x.i, .int .i64 x.s, .bool x.d] 33)))
                have hs5 := HB5.out.size
                clear y0 y1 y2 y3 y4 e0 e1 e2 e3 e4
                go_wp2_with (at_builtin; refine wpList_append_own _ rfl _ _ 24 rfl wo.heap.size 33 i0 _ 5 48 Tryd.underlying24 hi hz0 hz1 hz2 rfl (by decide) (.slice vp F.length vc) F.length _ rfl hq1.out ⟨w5.heap.size, 0, none⟩ 1 1 [.int .i64 x.v, .string x.c, .int .i64 x.i, .int .i64 x.s, .bool x.d] rfl rfl hnews.out (by simp [Value.oneCell']) (by unfold maxLen; omega) (by omega) (by simp; omega) ?_; intro v6 w6 hown6 hgrow6 _)
                refine ⟨⟨k + 1, by go_num, hk, ?_, ?_⟩, by simp [intOf]; omega⟩
                · rw [HF2.out, encE_snoc, List.length_append]
                  exact hown6
                · have h1 : Below wo.heap.size wo (w5.alloc (.cells #[.int .i64 x.v, .string x.c, .int .i64 x.i, .int .i64 x.s, .bool x.d] 33)) := (HBi.out.trans (HB5.out.mono HBi.out.size)).alloc (by omega) _
                  exact h1.grown hgrow6 h1.size (fun j e => (HO.out.lt j e).1)
            · have hFz : fromL en most z = F := by
                have h1 := fromL_full (l' := z.drop k) (by rw [hF]; exact hful)
                rw [List.take_append_drop, hF] at h1
                exact h1
              have HFz := Lib.hid hFz
              have HO := Lib.hid ho
              have hF5 := HF.out.below hB
              have CF := From_law bs fb _ z r en most hmost wr hF5 HGn.out (by omega)
              rw [HFz.out] at CF
              unfold Ent.val at CF
              have hFl : F.length ≤ n := by
                rw [← HFz.out, ← HN.out]
                exact fromL_len en most z
              have HCF := Lib.hid CF
              have HBi := Lib.hid hB
              have HFw : Hid (fb < wo.heap.size) := Lib.hid (by
                obtain ⟨_, _, _, _, h1, _⟩ := HF.out
                exact (Array.getElem?_eq_some_iff.1 h1).1)
              clear CF ho hB hF5 hF hFz
              go_wp2_with fail
              refine HCF.out.mono ?_
              rintro e w6 ⟨v6, r6, rfl, ho6, hF6, hg6, _⟩
              have hoW := own_grown HO.out hg6 (fun j hj e => by have := (HO.out.lt j hj).1; have := HFw.out; have := Option.some.inj e; omega)
              have CS := sameE_true v6 (.slice vp F.length vc) F (by omega) w6 (ESl.of_own ho6) (ESl.of_own hoW)
              have hB6 : Below w.heap.size w w6 := below_file (HBw.out.trans (HBi.out.mono HBw.out.size)) hg6 (by have := HB0.out.size; have := HFb.out; omega)
              have HCS := Lib.hid CS
              have HB6 := Lib.hid hB6
              clear CS ho6 hF6 hg6 hoW hB6
              go_wp2_with fail
              refine HCS.out.mono ?_
              rintro e w7 ⟨rfl, hb7⟩
              have HB7 := Lib.hid (HB6.out.trans (hb7.mono HB6.out.size))
              clear hb7
              go_wp2
              go_ret
              exact ⟨rfl, HB7.out⟩
          · obtain rfl : k = n := by omega
            have hkk : ¬ ((k : Int) < (k : Int)) := by omega
            have hFz : fromL en most z = F := by
              rw [← hF, List.take_of_length_le (by rw [HN.out]; exact Nat.le_refl _)]
            have HFz := Lib.hid hFz
            have HO := Lib.hid ho
            have hF5 := HF.out.below hB
            have CF := From_law bs fb _ z r en most hmost wr hF5 HGn.out (by omega)
            rw [HFz.out] at CF
            unfold Ent.val at CF
            have hFl : F.length ≤ k := by
              rw [← HFz.out, ← HN.out]
              exact fromL_len en most z
            have HCF := Lib.hid CF
            have HBi := Lib.hid hB
            have HFw : Hid (fb < wo.heap.size) := Lib.hid (by
              obtain ⟨_, _, _, _, h1, _⟩ := HF.out
              exact (Array.getElem?_eq_some_iff.1 h1).1)
            clear CF ho hB hF5 hF hFz
            go_wp2_with fail
            refine HCF.out.mono ?_
            rintro e w6 ⟨v6, r6, rfl, ho6, hF6, hg6, _⟩
            have hoW := own_grown HO.out hg6 (fun j hj e => by have := (HO.out.lt j hj).1; have := HFw.out; have := Option.some.inj e; omega)
            have CS := sameE_true v6 (.slice vp F.length vc) F (by omega) w6 (ESl.of_own ho6) (ESl.of_own hoW)
            have hB6 : Below w.heap.size w w6 := below_file (HBw.out.trans (HBi.out.mono HBw.out.size)) hg6 (by have := HB0.out.size; have := HFb.out; omega)
            have HCS := Lib.hid CS
            have HB6 := Lib.hid hB6
            clear CS ho6 hF6 hg6 hoW hB6
            go_wp2_with fail
            refine HCS.out.mono ?_
            rintro e w7 ⟨rfl, hb7⟩
            have HB7 := Lib.hid (HB6.out.trans (hb7.mono HB6.out.size))
            clear hb7
            go_wp2
            go_ret
            exact ⟨rfl, HB7.out⟩
  · obtain ⟨g, hg⟩ : ∃ g, goesR h z = g := ⟨_, rfl⟩
    have hbt : builtR h z = ([], g) := by unfold builtR; rw [if_neg hgo, hg]
    rw [hbt] at CB
    have CB2 : Calls Tryd.prog 12 #[.agg #[.int .i64 h.w, .int .i64 h.t, .int .i64 h.b, .int .i64 h.lo, .int .i64 h.hi, .int .i64 h.n], .slice p n c] w1 fun e w' => e = .returned (.tuple #[.string ⟨#[]⟩, .int .i64 g]) ∧ Below w1.heap.size w1 w' := CB
    rw [hg] at hgo
    have hg0 : (g == 0) = false := by simpa using hgo
    have HCB := Lib.hid CB2
    clear CB CB2 hbt hg
    go_wp2_with fail
    refine HCB.out.mono ?_
    rintro e w2 ⟨rfl, hb2⟩
    have HB2 := Lib.hid (HBw1.out.trans (hb2.mono HBw1.out.size))
    clear hb2 d0 d1 d2 d3 d4 d5
    go_wp2
    go_ret
    exact ⟨rfl, HB2.out⟩
end Go.Proofs.YtihgjihdmlomaaaDoor
