/-
  WALK: the law SignSums. Printed by ssgen.py.
-/
import Derived.Test.YtcdlmjbjpeokfaaSsP
import Derived.Outline
import Derived.RegionTactic
import Derived.ChangeAlike
import Derived.BigRegion
namespace Go.Proofs.Ytcdlmjbjpeokfaa
open Go.RowKit ArgK
set_option linter.unusedVariables false
theorem sgR_len (dm sd : Int) (h : Nat) (zs : List (Int × Int)) : (sgR dm sd h zs).length ≤ h := by
  unfold sgR
  split
  · rw [sgL_length]; exact Nat.le_refl _
  · simp
set_option maxRecDepth 100000 in
set_option maxHeartbeats 4000000 in
theorem lawSs_ok (h : Nat) (dm sd : Int) (hE : newE ((2 * h : Nat) : Int) dm = 0) (hh : h ≤ 512) (hh1 : 1 ≤ h) (hh4 : h % 4 = 0) (p : Option Addr) (n cap : Nat) (zs : List (Int × Int)) (hz : zs.length = n) (hn : n * 16 ≤ 140737488351232) (w : World) (hp : PL w p zs) :
    Calls Try.prog 4 #[.int .i64 ((2 * h : Nat) : Int), .int .i64 dm, .int .u64 sd, .slice p n cap] w fun e w' => e = .returned (.bool true) ∧ Below w.heap.size w w' := by
  obtain ⟨i0, hi, hz0, hz1, hz2⟩ := info_parts partinfo
  obtain ⟨i1, hj, hy0, hy1, hy2⟩ := info_parts partsinfo
  have hmk := fun W : World => run_make (P := Try.prog) W 24 33 i0 _ Try.underlying24 hi hz0 .i64 .i64 (n + 64) (n + 64) (by omega) (by omega) (by rw [hz2]; omega) (by omega)
  have hd := (newE_ok hE).2
  obtain ⟨X, hX⟩ : ∃ X : Nat → List (Int × Int), X = fun k => sgR dm sd h (turnS zs k) := ⟨_, rfl⟩
  have HX := Lib.hid hX
  have HZ := Lib.hid hz
  have HP := Lib.hid hp
  have HD := Lib.hid hd
  have hw64 : IntKind.i64.wrap ((n : Int) + 64) = ((n + 64 : Nat) : Int) := by rw [IntKind.wrap_i64]; omega
  have N1 := Lib.hid (New_ok _ dm sd hE w)
  have N2 := Lib.hid (fun W => rNew_ok _ dm sd hE W)
  obtain ⟨WD, hWD⟩ : ∃ WD : Int, ((2 * h : Nat) : Int) = WD := ⟨_, rfl⟩
  rw [hWD] at N1 N2
  have HWD := Lib.hid hWD
  rw [hWD]
  clear hX hz hp hE hd hWD
  go_enter Try.func4, Try.ntmps4
  go_wp2_with fail
  refine N1.out.mono ?_
  rintro _ x1 ⟨rfl, hx1⟩
  have s1 : x1.heap.size = w.heap.size + 1 := by rw [hx1]; simp
  have HX1 := Lib.hid hx1
  clear hx1 N1
  go_wp2_with fail
  refine (N2.out x1).mono ?_
  rintro _ x2 ⟨rfl, hx2⟩
  have s2 : x2.heap.size = w.heap.size + 2 := by rw [hx2]; simp [s1]
  have HX2 := Lib.hid hx2
  clear hx2 N2
  go_wp2
  have HT : Hid (SgS ((x2.alloc (.cells #[.int .i64 (-77), .int .i64 77] 33)).alloc (.cells (madeCells #[.int .i64 0, .int .i64 0] ((n + 64) * 2)) 33)) w.heap.size WD dm sd 0 0 (.slice none 0 0) (.slice none 0 0) (fun _ => undef) (fun _ => undef) X) := Lib.hid (by
    have e1 : Sg x1 61 w.heap.size WD dm sd := by rw [HX1.out]; exact heap_lastS w _
    have e2 : Sg x2 64 (w.heap.size + 1) WD dm sd := by have := heap_lastS x1 (.cells #[.int .i64 WD, .int .i64 dm, .int .u64 sd] 64); rw [s1] at this; rw [HX2.out]; exact this
    have e3 : Sg x2 61 w.heap.size WD dm sd := by rw [HX2.out]; exact e1.of (Below.heap_alloc _ _ _ (by omega))
    have e4 : Pb (x2.alloc (.cells #[.int .i64 (-77), .int .i64 77] 33)) (w.heap.size + 2) (-77, 77) := by have := Pb.new x2 (-77, 77); rw [s2] at this; exact this
    refine ⟨(e3.of (Below.heap_alloc _ _ _ (by omega))).of (Below.heap_alloc _ _ _ (by simp; omega)), (e2.of (Below.heap_alloc _ _ _ (by omega))).of (Below.heap_alloc _ _ _ (by simp; omega)), e4.alloc _, Lists.none_ _ _ _ _ _ _ _ _, Lists.none_ _ _ _ _ _ _ _ _, fun b hb => by cases hb⟩)
  have HF : Hid (∃ xs, ((x2.alloc (.cells #[.int .i64 (-77), .int .i64 77] 33)).alloc (.cells (madeCells #[.int .i64 0, .int .i64 0] ((n + 64) * 2)) 33)).ownsRow w.heap.size 33 2 (.slice (some ⟨w.heap.size + 3, 0, none⟩) (n + 64) (n + 64)) (n + 64) xs) := Lib.hid ⟨(madeCells #[.int .i64 0, .int .i64 0] ((n + 64) * 2)).toList, by
    have hs : (x2.alloc (.cells #[.int .i64 (-77), .int .i64 77] 33)).heap.size = w.heap.size + 3 := by simp [s2]
    have := World.ownsRow_lit (size := 2) (base := w.heap.size) (e := 33) (x2.alloc (.cells #[.int .i64 (-77), .int .i64 77] 33)) (madeCells #[.int .i64 0, .int .i64 0] ((n + 64) * 2)) (n + 64) (by omega) (by unfold maxLen; omega) (by simp [madeCells])
    rw [hs] at this
    exact this⟩
  have HB : Hid (Below w.heap.size w ((x2.alloc (.cells #[.int .i64 (-77), .int .i64 77] 33)).alloc (.cells (madeCells #[.int .i64 0, .int .i64 0] ((n + 64) * 2)) 33))) := Lib.hid (by
    have b1 : Below w.heap.size w x1 := by rw [HX1.out]; exact (Below.refl _ _).alloc (Nat.le_refl _) _
    have b2 : Below w.heap.size w x2 := by rw [HX2.out]; exact b1.alloc (by omega) _
    exact (b2.alloc (by omega) _).alloc (by simp; omega) _)
  have hsz : w.heap.size + 4 ≤ ((x2.alloc (.cells #[.int .i64 (-77), .int .i64 77] 33)).alloc (.cells (madeCells #[.int .i64 0, .int .i64 0] ((n + 64) * 2)) 33)).heap.size := by simp [s2]
  generalize (x2.alloc (.cells #[.int .i64 (-77), .int .i64 77] 33)).alloc (.cells (madeCells #[.int .i64 0, .int .i64 0] ((n + 64) * 2)) 33) = w1 at HT HF HB hsz ⊢
  clear HX1 HX2 s1 s2 hmk
  go_loopw [16, 17, 18] (fun l v i ws => ∃ (k : Nat) (L M : Nat → Value) (lv wv : Value), k ≤ 5 ∧ i = .int .i64 k ∧ lv = l ∧ wv = v ∧ w.heap.size + 4 ≤ ws.heap.size ∧ Hid (SgS ws w.heap.size WD dm sd k k l v L M X) ∧ Hid (∃ xs, ws.ownsRow w.heap.size 33 2 (.slice (some ⟨w.heap.size + 3, 0, none⟩) (n + 64) (n + 64)) (n + 64) xs) ∧ Hid (Below w.heap.size w ws)) (fun _ _ i _ => 5 - (intOf i).toNat)
  case atStart => exact ⟨0, _, _, _, _, Nat.zero_le _, rfl, rfl, rfl, hsz, HT, HF, HB⟩
  case round =>
    clear HT HF HB hsz
    obtain ⟨k, L, M, lv, wv, hk, rfl, rfl, rfl, hsz, HT, HF, HB⟩ := hrel
    obtain ⟨wo, rfl⟩ : ∃ wo : World, wo = wr := ⟨_, rfl⟩
    by_cases hlt : k < 5
    · have hd5 : (k : Int) < 5 := by omega
      obtain ⟨Z, hZ⟩ : ∃ Z, turnS zs k = Z := ⟨_, rfl⟩
      have HTL : Hid (Z.length = n) := Lib.hid (by rw [← hZ, turnS_length, HZ.out])
      have HZK := Lib.hid hZ
      clear hZ
      go_wp2
      go_loopw [19, 20] (fun v j ws => ∃ (t : Nat) (nv : Value), t ≤ n ∧ j = .int .i64 t ∧ nv = v ∧ Hid (wo.grownBy ws (some (w.heap.size + 3))) ∧ Hid (∃ xs, ws.ownsRow w.heap.size 33 2 (.slice (some ⟨w.heap.size + 3, 0, none⟩) (n + 64) (n + 64)) (n + 64) (encP (Z.take t) ++ xs)) ∧ Hid (ws.ownsRow wo.heap.size 33 2 v t (encP (Z.take t)))) (fun _ j _ => n - (intOf j).toNat)
      case atStart => exact ⟨0, _, Nat.zero_le _, rfl, rfl, Lib.hid (grown_refl _ _), Lib.hid (by obtain ⟨xs, hx⟩ := HF.out; exact ⟨xs, hx⟩), Lib.hid (World.ownsRow_nil _ _ _ _)⟩
      case round =>
        obtain ⟨t, nv, ht, rfl, rfl, HG, HFr, HN⟩ := hrel
        by_cases hlt2 : t < n
        · obtain ⟨xs, hfull⟩ := HFr.out
          have hnow := HN.out
          have hbr : Below w.heap.size w wr := grown_below HB.out HG.out (by omega) (fun b e => by cases e; omega)
          have hos := HG.out.size
          obtain ⟨x, hx⟩ : ∃ x, Z[t]? = some x := ⟨_, List.getElem?_eq_getElem (by rw [HTL.out]; exact hlt2)⟩
          obtain ⟨y, hy⟩ : ∃ y, zs[t]? = some y := ⟨_, List.getElem?_eq_getElem (by rw [HZ.out]; exact hlt2)⟩
          have HS : Hid (Z.take (t + 1) = Z.take t ++ [x]) := Lib.hid (by rw [List.take_add_one]; simp [hx])
          have HML : Hid ((encP (Z.take t)).length = t * 2) := Lib.hid (by rw [encP_length, List.length_take, HTL.out]; omega)
          obtain ⟨a1, rfl, u0, u1⟩ := (HP.out.below hbr) t y hy
          have hki : (t : Int) < (n : Int) := by omega
          have hk0 : (0 : Int) ≤ (t : Int) := by omega
          by_cases hq : k = 2 ∨ k = 3
          · rcases hq with hq | hq
            · have e2 : ((k : Int) == 2) = true := by rw [beq_iff_eq]; omega
              have hxx : zs[n - 1 - t]? = some x := by
                have h0 := HZK.out
                unfold turnS at h0
                rw [if_pos (.inl hq)] at h0
                rw [← h0, List.getElem?_reverse (by rw [HZ.out]; exact hlt2), HZ.out] at hx
                exact hx
              obtain ⟨a2, he, v0, v1⟩ := (HP.out.below hbr) (n - 1 - t) x hxx
              cases he
              obtain ⟨d, hd⟩ : ∃ d, n - 1 - t = d := ⟨_, rfl⟩
              rw [hd] at v0 v1
              have hdi : (n : Int) - 1 - (t : Int) = (d : Int) := by omega
              have hdn : d < n := by omega
              have hdj : (d : Int) < (n : Int) := by omega
              have hw1 : IntKind.i64.wrap ((n : Int) - 1) = (n : Int) - 1 := by rw [IntKind.wrap_i64]; omega
              have hw2 : IntKind.i64.wrap ((n : Int) - 1 - (t : Int)) = (d : Int) := by rw [IntKind.wrap_i64]; omega
              have v0 := (World.cell?_alloc_lt wr (.cells #[.int .i64 y.1, .int .i64 y.2] 33) _ (cell_ltS v0)).trans v0
              have v1 := (World.cell?_alloc_lt wr (.cells #[.int .i64 y.1, .int .i64 y.2] 33) _ (cell_ltS v1)).trans v1
              have HPb : Hid (Pb (wr.alloc (.cells #[.int .i64 x.1, .int .i64 x.2] 33)) wr.heap.size x) := Lib.hid (Pb.new wr x)
              have hys : (wr.alloc (.cells #[.int .i64 x.1, .int .i64 x.2] 33)).heap.size = wr.heap.size + 1 := by simp
              have HGy : Hid (wo.grownBy (wr.alloc (.cells #[.int .i64 x.1, .int .i64 x.2] 33)) (some (w.heap.size + 3))) := Lib.hid (grown_allocS HG.out _)
              have hfull := hfull.alloc (.cells #[.int .i64 x.1, .int .i64 x.2] 33)
              have hnow := hnow.alloc (.cells #[.int .i64 x.1, .int .i64 x.2] 33)
              have HQ := Lib.hid hq
              clear hx hy hxx hd hq
              have HAS := Lib.hid hys
              clear hys
              go_upto_region 22 with fail
              have hys := HAS.out
              clear v0 v1 hdi hdn hdj hw1 hw2 HAS
              generalize wr.alloc (.cells #[.int .i64 x.1, .int .i64 x.2] 33) = y0 at HPb hys HGy hfull hnow ⊢
              obtain ⟨m0, m1, _, _⟩ := HPb.out.cells
              have hxl := hfull.1
              rw [List.length_append, HML.out] at hxl
              obtain ⟨e0, he0⟩ : ∃ u, xs[0]? = some u := ⟨_, List.getElem?_eq_getElem (by omega)⟩
              obtain ⟨e1, he1⟩ : ∃ u, xs[1]? = some u := ⟨_, List.getElem?_eq_getElem (by omega)⟩
              have hx0 : (encP (Z.take t) ++ xs)[t * 2]? = some e0 := by rw [List.getElem?_append_right (by rw [HML.out]; omega), HML.out, Nat.sub_self, he0]
              have hx1 : (encP (Z.take t) ++ xs)[t * 2 + 1]? = some e1 := by rw [List.getElem?_append_right (by rw [HML.out]; omega), HML.out, Nat.add_sub_cancel_left, he1]
              have hnf : ∀ b, nv.ownBlock = some b → (Value.slice (some (⟨w.heap.size + 3, 0, none⟩ : Addr)) (n + 64) (n + 64)).ownBlock ≠ some b := fun b hb e => by
                have := (hnow.lt b hb).1
                have : w.heap.size + 3 = b := Option.some.inj e
                omega
              have hnp : nv.ownBlock ≠ some wr.heap.size := fun e => by have := (HN.out.lt _ e).2; omega
              clear he0 he1 u0 u1 hbr hxl
              go_wp2_with (at_builtin; refine wpList_append_two _ rfl _ _ 24 rfl wo.heap.size 33 i0 (.agg #[.int .i64 0, .int .i64 0]) 2 16 Try.underlying24 hi hz0 hz1 hz2 rfl (by decide) nv t _ rfl (hnow.alloc _) ⟨wr.heap.size + 1, 0, none⟩ 1 1 (cellsP x) rfl rfl (World.news_of_block (by have := heap_alloc_new y0 (.cells (cellsP x).toArray 33); rw [hys] at this; exact this)) (oneCellsP x) (by decide) (by unfold maxLen; omega) (by omega) (by simp; omega) ?_; intro g capn y1 hown' hold hlies hlg; have hfn := hlies.own (hfull.alloc _) (fun b hb e => hnf b e hb); have hf0 := (hfn.cellAt (t * 2) (by omega)).trans hx0; have hf1 := (hfn.cellAt (t * 2 + 1) (by omega)).trans hx1; have hz0' := hfn.frozenAt (t * 2); have hz1' := hfn.frozenAt (t * 2 + 1); have hpb := HPb.out.of ((hlies.block (k := wr.heap.size) (by simp; omega) hnp).trans (Below.heap_alloc y0 _ _ (by omega))); have p0 := hpb.cells.1; have p1 := hpb.cells.2.1; clear hpb)
              have hst1 := (hfn.stored (t * 2) (.int .i64 x.1)).1
              have hst2 := (hst1.stored (t * 2 + 1) (.int .i64 x.2)).1
              have hss : (((encP (Z.take t) ++ xs).set (t * 2) (.int .i64 x.1)).set (t * 2 + 1) (.int .i64 x.2)) = encP (Z.take (t + 1)) ++ xs.drop 2 := by
                have := setsAt_app (cellsP x) (encP (Z.take t)) xs (by have := hfn.1; rw [List.length_append, HML.out] at this; show 2 ≤ _; omega)
                rw [HML.out] at this
                rw [HS.out, encP_snoc]
                exact this
              rw [hss] at hst2
              have hgb : g ≠ w.heap.size + 3 := fun e => by have := (hown'.lt g rfl).1; omega
              have hns := own_setCell (p := ⟨w.heap.size + 3, t * 2 + 1, none⟩) (own_setCell (p := ⟨w.heap.size + 3, t * 2, none⟩) hown' (fun e => hgb (Option.some.inj e)) (.int .i64 x.1)) (fun e => hgb (Option.some.inj e)) (.int .i64 x.2)
              rw [← encP_snoc, ← HS.out] at hns
              have hgg := grown_set (grown_set (grown_liesS (grown_allocS HGy.out _) hlies (fun b hb => (hnow.lt b hb).1)) (t * 2) (.int .i64 x.1)) (t * 2 + 1) (.int .i64 x.2)
              have HQ := Lib.hid (And.intro hgg (And.intro hst2 hns))
              go_roundw
              case rel => exact ⟨t + 1, _, by omega, by go_num, rfl, Lib.hid HQ.out.1, Lib.hid ⟨_, HQ.out.2.1⟩, Lib.hid HQ.out.2.2⟩
              case measure => simp [intOf]; omega
            · have e2 : ((k : Int) == 2) = false := by rw [beq_eq_false_iff_ne]; omega
              have e3 : ((k : Int) == 3) = true := by rw [beq_iff_eq]; omega
              have hxx : zs[n - 1 - t]? = some x := by
                have h0 := HZK.out
                unfold turnS at h0
                rw [if_pos (.inr hq)] at h0
                rw [← h0, List.getElem?_reverse (by rw [HZ.out]; exact hlt2), HZ.out] at hx
                exact hx
              obtain ⟨a2, he, v0, v1⟩ := (HP.out.below hbr) (n - 1 - t) x hxx
              cases he
              obtain ⟨d, hd⟩ : ∃ d, n - 1 - t = d := ⟨_, rfl⟩
              rw [hd] at v0 v1
              have hdi : (n : Int) - 1 - (t : Int) = (d : Int) := by omega
              have hdn : d < n := by omega
              have hdj : (d : Int) < (n : Int) := by omega
              have hw1 : IntKind.i64.wrap ((n : Int) - 1) = (n : Int) - 1 := by rw [IntKind.wrap_i64]; omega
              have hw2 : IntKind.i64.wrap ((n : Int) - 1 - (t : Int)) = (d : Int) := by rw [IntKind.wrap_i64]; omega
              have v0 := (World.cell?_alloc_lt wr (.cells #[.int .i64 y.1, .int .i64 y.2] 33) _ (cell_ltS v0)).trans v0
              have v1 := (World.cell?_alloc_lt wr (.cells #[.int .i64 y.1, .int .i64 y.2] 33) _ (cell_ltS v1)).trans v1
              have HPb : Hid (Pb (wr.alloc (.cells #[.int .i64 x.1, .int .i64 x.2] 33)) wr.heap.size x) := Lib.hid (Pb.new wr x)
              have hys : (wr.alloc (.cells #[.int .i64 x.1, .int .i64 x.2] 33)).heap.size = wr.heap.size + 1 := by simp
              have HGy : Hid (wo.grownBy (wr.alloc (.cells #[.int .i64 x.1, .int .i64 x.2] 33)) (some (w.heap.size + 3))) := Lib.hid (grown_allocS HG.out _)
              have hfull := hfull.alloc (.cells #[.int .i64 x.1, .int .i64 x.2] 33)
              have hnow := hnow.alloc (.cells #[.int .i64 x.1, .int .i64 x.2] 33)
              have HQ := Lib.hid hq
              clear hx hy hxx hd hq
              have HAS := Lib.hid hys
              clear hys
              go_upto_region 22 with fail
              have hys := HAS.out
              clear v0 v1 hdi hdn hdj hw1 hw2 HAS
              generalize wr.alloc (.cells #[.int .i64 x.1, .int .i64 x.2] 33) = y0 at HPb hys HGy hfull hnow ⊢
              obtain ⟨m0, m1, _, _⟩ := HPb.out.cells
              have hxl := hfull.1
              rw [List.length_append, HML.out] at hxl
              obtain ⟨e0, he0⟩ : ∃ u, xs[0]? = some u := ⟨_, List.getElem?_eq_getElem (by omega)⟩
              obtain ⟨e1, he1⟩ : ∃ u, xs[1]? = some u := ⟨_, List.getElem?_eq_getElem (by omega)⟩
              have hx0 : (encP (Z.take t) ++ xs)[t * 2]? = some e0 := by rw [List.getElem?_append_right (by rw [HML.out]; omega), HML.out, Nat.sub_self, he0]
              have hx1 : (encP (Z.take t) ++ xs)[t * 2 + 1]? = some e1 := by rw [List.getElem?_append_right (by rw [HML.out]; omega), HML.out, Nat.add_sub_cancel_left, he1]
              have hnf : ∀ b, nv.ownBlock = some b → (Value.slice (some (⟨w.heap.size + 3, 0, none⟩ : Addr)) (n + 64) (n + 64)).ownBlock ≠ some b := fun b hb e => by
                have := (hnow.lt b hb).1
                have : w.heap.size + 3 = b := Option.some.inj e
                omega
              have hnp : nv.ownBlock ≠ some wr.heap.size := fun e => by have := (HN.out.lt _ e).2; omega
              clear he0 he1 u0 u1 hbr hxl
              go_wp2_with (at_builtin; refine wpList_append_two _ rfl _ _ 24 rfl wo.heap.size 33 i0 (.agg #[.int .i64 0, .int .i64 0]) 2 16 Try.underlying24 hi hz0 hz1 hz2 rfl (by decide) nv t _ rfl (hnow.alloc _) ⟨wr.heap.size + 1, 0, none⟩ 1 1 (cellsP x) rfl rfl (World.news_of_block (by have := heap_alloc_new y0 (.cells (cellsP x).toArray 33); rw [hys] at this; exact this)) (oneCellsP x) (by decide) (by unfold maxLen; omega) (by omega) (by simp; omega) ?_; intro g capn y1 hown' hold hlies hlg; have hfn := hlies.own (hfull.alloc _) (fun b hb e => hnf b e hb); have hf0 := (hfn.cellAt (t * 2) (by omega)).trans hx0; have hf1 := (hfn.cellAt (t * 2 + 1) (by omega)).trans hx1; have hz0' := hfn.frozenAt (t * 2); have hz1' := hfn.frozenAt (t * 2 + 1); have hpb := HPb.out.of ((hlies.block (k := wr.heap.size) (by simp; omega) hnp).trans (Below.heap_alloc y0 _ _ (by omega))); have p0 := hpb.cells.1; have p1 := hpb.cells.2.1; clear hpb)
              have hst1 := (hfn.stored (t * 2) (.int .i64 x.1)).1
              have hst2 := (hst1.stored (t * 2 + 1) (.int .i64 x.2)).1
              have hss : (((encP (Z.take t) ++ xs).set (t * 2) (.int .i64 x.1)).set (t * 2 + 1) (.int .i64 x.2)) = encP (Z.take (t + 1)) ++ xs.drop 2 := by
                have := setsAt_app (cellsP x) (encP (Z.take t)) xs (by have := hfn.1; rw [List.length_append, HML.out] at this; show 2 ≤ _; omega)
                rw [HML.out] at this
                rw [HS.out, encP_snoc]
                exact this
              rw [hss] at hst2
              have hgb : g ≠ w.heap.size + 3 := fun e => by have := (hown'.lt g rfl).1; omega
              have hns := own_setCell (p := ⟨w.heap.size + 3, t * 2 + 1, none⟩) (own_setCell (p := ⟨w.heap.size + 3, t * 2, none⟩) hown' (fun e => hgb (Option.some.inj e)) (.int .i64 x.1)) (fun e => hgb (Option.some.inj e)) (.int .i64 x.2)
              rw [← encP_snoc, ← HS.out] at hns
              have hgg := grown_set (grown_set (grown_liesS (grown_allocS HGy.out _) hlies (fun b hb => (hnow.lt b hb).1)) (t * 2) (.int .i64 x.1)) (t * 2 + 1) (.int .i64 x.2)
              have HQ := Lib.hid (And.intro hgg (And.intro hst2 hns))
              go_roundw
              case rel => exact ⟨t + 1, _, by omega, by go_num, rfl, Lib.hid HQ.out.1, Lib.hid ⟨_, HQ.out.2.1⟩, Lib.hid HQ.out.2.2⟩
              case measure => simp [intOf]; omega
          · have e2 : ((k : Int) == 2) = false := by rw [beq_eq_false_iff_ne]; omega
            have e3 : ((k : Int) == 3) = false := by rw [beq_eq_false_iff_ne]; omega
            have hxy : y = x := by
              have h0 := HZK.out
              unfold turnS at h0
              rw [if_neg hq] at h0
              rw [← h0, hy] at hx
              exact Option.some.inj hx
            subst hxy
            have HPb : Hid (Pb (wr.alloc (.cells #[.int .i64 y.1, .int .i64 y.2] 33)) wr.heap.size y) := Lib.hid (Pb.new wr y)
            have hys : (wr.alloc (.cells #[.int .i64 y.1, .int .i64 y.2] 33)).heap.size = wr.heap.size + 1 := by simp
            have HGy : Hid (wo.grownBy (wr.alloc (.cells #[.int .i64 y.1, .int .i64 y.2] 33)) (some (w.heap.size + 3))) := Lib.hid (grown_allocS HG.out _)
            have hfull := hfull.alloc (.cells #[.int .i64 y.1, .int .i64 y.2] 33)
            have hnow := hnow.alloc (.cells #[.int .i64 y.1, .int .i64 y.2] 33)
            have HAS := Lib.hid hys
            have HQ := Lib.hid hq
            clear hx hy hq hys
            go_upto_region 22 with fail
            have hys := HAS.out
            clear HAS
            generalize wr.alloc (.cells #[.int .i64 y.1, .int .i64 y.2] 33) = y0 at HPb hys HGy hfull hnow ⊢
            clear e2 e3 HQ
            obtain ⟨x, rfl⟩ : ∃ x, x = y := ⟨_, rfl⟩
            obtain ⟨m0, m1, _, _⟩ := HPb.out.cells
            have hxl := hfull.1
            rw [List.length_append, HML.out] at hxl
            obtain ⟨e0, he0⟩ : ∃ u, xs[0]? = some u := ⟨_, List.getElem?_eq_getElem (by omega)⟩
            obtain ⟨e1, he1⟩ : ∃ u, xs[1]? = some u := ⟨_, List.getElem?_eq_getElem (by omega)⟩
            have hx0 : (encP (Z.take t) ++ xs)[t * 2]? = some e0 := by rw [List.getElem?_append_right (by rw [HML.out]; omega), HML.out, Nat.sub_self, he0]
            have hx1 : (encP (Z.take t) ++ xs)[t * 2 + 1]? = some e1 := by rw [List.getElem?_append_right (by rw [HML.out]; omega), HML.out, Nat.add_sub_cancel_left, he1]
            have hnf : ∀ b, nv.ownBlock = some b → (Value.slice (some (⟨w.heap.size + 3, 0, none⟩ : Addr)) (n + 64) (n + 64)).ownBlock ≠ some b := fun b hb e => by
              have := (hnow.lt b hb).1
              have : w.heap.size + 3 = b := Option.some.inj e
              omega
            have hnp : nv.ownBlock ≠ some wr.heap.size := fun e => by have := (HN.out.lt _ e).2; omega
            clear he0 he1 u0 u1 hbr hxl
            go_wp2_with (at_builtin; refine wpList_append_two _ rfl _ _ 24 rfl wo.heap.size 33 i0 (.agg #[.int .i64 0, .int .i64 0]) 2 16 Try.underlying24 hi hz0 hz1 hz2 rfl (by decide) nv t _ rfl (hnow.alloc _) ⟨wr.heap.size + 1, 0, none⟩ 1 1 (cellsP x) rfl rfl (World.news_of_block (by have := heap_alloc_new y0 (.cells (cellsP x).toArray 33); rw [hys] at this; exact this)) (oneCellsP x) (by decide) (by unfold maxLen; omega) (by omega) (by simp; omega) ?_; intro g capn y1 hown' hold hlies hlg; have hfn := hlies.own (hfull.alloc _) (fun b hb e => hnf b e hb); have hf0 := (hfn.cellAt (t * 2) (by omega)).trans hx0; have hf1 := (hfn.cellAt (t * 2 + 1) (by omega)).trans hx1; have hz0' := hfn.frozenAt (t * 2); have hz1' := hfn.frozenAt (t * 2 + 1); have hpb := HPb.out.of ((hlies.block (k := wr.heap.size) (by simp; omega) hnp).trans (Below.heap_alloc y0 _ _ (by omega))); have p0 := hpb.cells.1; have p1 := hpb.cells.2.1; clear hpb)
            have hst1 := (hfn.stored (t * 2) (.int .i64 x.1)).1
            have hst2 := (hst1.stored (t * 2 + 1) (.int .i64 x.2)).1
            have hss : (((encP (Z.take t) ++ xs).set (t * 2) (.int .i64 x.1)).set (t * 2 + 1) (.int .i64 x.2)) = encP (Z.take (t + 1)) ++ xs.drop 2 := by
              have := setsAt_app (cellsP x) (encP (Z.take t)) xs (by have := hfn.1; rw [List.length_append, HML.out] at this; show 2 ≤ _; omega)
              rw [HML.out] at this
              rw [HS.out, encP_snoc]
              exact this
            rw [hss] at hst2
            have hgb : g ≠ w.heap.size + 3 := fun e => by have := (hown'.lt g rfl).1; omega
            have hns := own_setCell (p := ⟨w.heap.size + 3, t * 2 + 1, none⟩) (own_setCell (p := ⟨w.heap.size + 3, t * 2, none⟩) hown' (fun e => hgb (Option.some.inj e)) (.int .i64 x.1)) (fun e => hgb (Option.some.inj e)) (.int .i64 x.2)
            rw [← encP_snoc, ← HS.out] at hns
            have hgg := grown_set (grown_set (grown_liesS (grown_allocS HGy.out _) hlies (fun b hb => (hnow.lt b hb).1)) (t * 2) (.int .i64 x.1)) (t * 2 + 1) (.int .i64 x.2)
            have HQ := Lib.hid (And.intro hgg (And.intro hst2 hns))
            go_roundw
            case rel => exact ⟨t + 1, _, by omega, by go_num, rfl, Lib.hid HQ.out.1, Lib.hid ⟨_, HQ.out.2.1⟩, Lib.hid HQ.out.2.2⟩
            case measure => simp [intOf]; omega
        · obtain rfl : n = t := by omega
          have hto : Z.take n = Z := List.take_of_length_le (by rw [HTL.out]; exact Nat.le_refl _)
          have HF2 : Hid (∃ xs, wr.ownsRow w.heap.size 33 2 (.slice (some ⟨w.heap.size + 3, 0, none⟩) (n + 64) (n + 64)) (n + 64) (encP Z ++ (marks [.int .i64 (-77), .int .i64 77] 0 ++ xs))) := Lib.hid (by
            obtain ⟨xs, h1⟩ := HFr.out
            rw [hto] at h1
            exact ⟨xs, by rw [marks_zero, List.nil_append]; exact h1⟩)
          have HN2 : Hid (wr.ownsRow wo.heap.size 33 2 nv n (encP Z)) := Lib.hid (by have := HN.out; rw [hto] at this; exact this)
          have hml : (encP Z).length = n * 2 := by rw [encP_length, HTL.out]
          have HML := Lib.hid hml
          clear hto HFr HN hml hlt2 ht
          obtain ⟨wp, rfl⟩ : ∃ wp : World, wp = wr := ⟨_, rfl⟩
          go_wp2
          go_loopw [22] (fun j ws => ∃ (s : Nat), s ≤ 64 ∧ j = .int .i64 ((n + s : Nat) : Int) ∧ Hid (wo.grownBy ws (some (w.heap.size + 3))) ∧ Hid (∃ xs, ws.ownsRow w.heap.size 33 2 (.slice (some ⟨w.heap.size + 3, 0, none⟩) (n + 64) (n + 64)) (n + 64) (encP Z ++ (marks [.int .i64 (-77), .int .i64 77] s ++ xs))) ∧ Hid (ws.ownsRow wo.heap.size 33 2 nv n (encP Z))) (fun j _ => n + 64 - (intOf j).toNat)
          case atStart => exact ⟨0, by omega, rfl, HG, HF2, HN2⟩
          case round =>
            clear HG HF2 HN2
            obtain ⟨s, hs, rfl, HG, HF2, HN2⟩ := hrel
            by_cases hls : s < 64
            · obtain ⟨xs, hfull⟩ := HF2.out
              have hmm : (marks [.int .i64 (-77), .int .i64 77] s).length = s * 2 := by rw [marks_length]; rfl
              have hxl := hfull.1
              rw [List.length_append, List.length_append, HML.out, hmm] at hxl
              have hll : (encP Z ++ (marks [.int .i64 (-77), .int .i64 77] s ++ xs)).length = (n + 64) * 2 := hfull.1
              obtain ⟨q0, hq0⟩ : ∃ u, wr.cell? ⟨w.heap.size + 3, (n + s) * 2, none⟩ = some u := ⟨_, (hfull.cellAt ((n + s) * 2) (by omega)).trans (List.getElem?_eq_getElem (by omega))⟩
              obtain ⟨q1, hq1⟩ : ∃ u, wr.cell? ⟨w.heap.size + 3, (n + s) * 2 + 1, none⟩ = some u := ⟨_, (hfull.cellAt ((n + s) * 2 + 1) (by omega)).trans (List.getElem?_eq_getElem (by omega))⟩
              have hf0 := hfull.frozenAt ((n + s) * 2)
              have hf1 := hfull.frozenAt ((n + s) * 2 + 1)
              obtain ⟨m0, m1, _, _⟩ := (HT.out.grown HG.out).2.2.1.cells
              have hst2 := ((hfull.stored ((n + s) * 2) (.int .i64 (-77))).1.stored ((n + s) * 2 + 1) (.int .i64 77)).1
              have hss : ((encP Z ++ (marks [.int .i64 (-77), .int .i64 77] s ++ xs)).set ((n + s) * 2) (.int .i64 (-77))).set ((n + s) * 2 + 1) (.int .i64 77) = encP Z ++ (marks [.int .i64 (-77), .int .i64 77] (s + 1) ++ xs.drop 2) := by
                have := setsAt_app [.int .i64 (-77), .int .i64 77] (encP Z ++ marks [.int .i64 (-77), .int .i64 77] s) xs (by show 2 ≤ _; omega)
                rw [List.length_append, HML.out, hmm, show n * 2 + s * 2 = (n + s) * 2 by omega] at this
                rw [marks_succ]
                simpa [setsAt] using this
              rw [hss] at hst2
              have hnb : nv.ownBlock ≠ some (w.heap.size + 3) := fun e => by have := (HN2.out.lt _ e).1; omega
              have hns := own_setCell (p := ⟨w.heap.size + 3, (n + s) * 2 + 1, none⟩) (own_setCell (p := ⟨w.heap.size + 3, (n + s) * 2, none⟩) HN2.out hnb (.int .i64 (-77))) hnb (.int .i64 77)
              have hgg := grown_set (grown_set HG.out ((n + s) * 2) (.int .i64 (-77))) ((n + s) * 2 + 1) (.int .i64 77)
              have HQ := Lib.hid (And.intro hgg (And.intro hst2 hns))
              have hii : ((n + s : Nat) : Int) < (n : Int) + 64 := by omega
              have hii2 : ((n + s : Nat) : Int) < ((n + 64 : Nat) : Int) := by omega
              have hd6 : decide (((n + s : Nat) : Int) < (n : Int) + 64) = true := by simp; omega
              clear hfull hmm hxl hll hst2 hss hns hgg
              go_wp2
              go_roundw
              case rel => exact ⟨s + 1, by omega, by go_num, Lib.hid HQ.out.1, Lib.hid ⟨_, HQ.out.2.1⟩, Lib.hid HQ.out.2.2⟩
              case measure => simp [intOf]; omega
            · obtain rfl : s = 64 := by omega
              obtain ⟨xs, hfull⟩ := HF2.out
              have hview := own_take hfull (k := n) (by omega)
              rw [show n * 2 = (encP Z).length from HML.out.symm, List.take_left] at hview
              have hsg := HT.out.grown HG.out
              have hll : (encP Z ++ (marks [.int .i64 (-77), .int .i64 77] 64 ++ xs)).length = (n + 64) * 2 := hfull.1
              have htail : ∀ j, j < 64 → wr.cell? ⟨w.heap.size + 3, (n + j) * 2, none⟩ = some (.int .i64 (-77)) ∧ wr.cell? ⟨w.heap.size + 3, (n + j) * 2 + 1, none⟩ = some (.int .i64 77) := fun j hj => by
                have hmm : (marks [.int .i64 (-77), .int .i64 77] 64).length = 128 := by rw [marks_length]; rfl
                constructor
                · rw [hfull.cellAt ((n + j) * 2) (by omega), List.getElem?_append_right (by rw [HML.out]; omega), HML.out, List.getElem?_append_left (by rw [hmm]; omega), show (n + j) * 2 - n * 2 = j * 2 + 0 by omega]
                  exact marks_get [.int .i64 (-77), .int .i64 77] 64 j 0 hj (by decide)
                · rw [hfull.cellAt ((n + j) * 2 + 1) (by omega), List.getElem?_append_right (by rw [HML.out]; omega), HML.out, List.getElem?_append_left (by rw [hmm]; omega), show (n + j) * 2 + 1 - n * 2 = j * 2 + 1 by omega]
                  exact marks_get [.int .i64 (-77), .int .i64 77] 64 j 1 hj (by decide)
              obtain ⟨pl, cl, rfl, _, _, _⟩ := own_rd HN2.out
              have pv := PL.of_own hview
              have pn := PL.of_own HN2.out
              have hbv : Below w.heap.size w wr := grown_below HB.out HG.out (by omega) (fun b e => by cases e; omega)
              have hszv : w.heap.size + 4 ≤ wr.heap.size := by have := HG.out.size; omega
              obtain ⟨R, hR⟩ : ∃ R, sgR dm sd h Z = R := ⟨_, rfl⟩
              obtain ⟨e0, he0⟩ : ∃ e, sgE dm Z = e := ⟨_, rfl⟩
              obtain ⟨c0, hc0⟩ : ∃ c, sgC dm sd h Z = c := ⟨_, rfl⟩
              have C1 := Sums_calls w.heap.size h dm sd (some ⟨w.heap.size + 3, 0, none⟩) (n + 64) Z hh hh1 HD.out wr pv (by rw [HWD.out]; exact hsg.1)
              have C2 := fun W (hb : Below wr.heap.size wr W) => rSums_calls (w.heap.size + 1) h dm sd pl cl Z hh hh1 HD.out W (pn.below hb) (by rw [HWD.out]; exact (hsg.below hb).2.1)
              have C3 := fun W (hb : Below wr.heap.size wr W) => Code_calls w.heap.size h dm sd (some ⟨w.heap.size + 3, 0, none⟩) (n + 64) Z hh hh1 hh4 HD.out W (pv.below hb) (by rw [HWD.out]; exact (hsg.below hb).1)
              have C4 := fun W (hb : Below wr.heap.size wr W) => rCode_calls (w.heap.size + 1) h dm sd pl cl Z hh hh1 hh4 HD.out W (pn.below hb) (by rw [HWD.out]; exact (hsg.below hb).2.1)
              have C5 := fun W (hb : Below wr.heap.size wr W) => samePL_calls (some ⟨w.heap.size + 3, 0, none⟩) pl (n + 64) cl Z (by rw [HTL.out]; omega) W (pv.below hb) (pn.below hb)
              simp only [HTL.out, hR, he0, hc0] at C1 C2 C3 C4 C5
              have HXK : Hid (X k = R) := Lib.hid (by rw [HX.out]; show sgR dm sd h (turnS zs k) = R; rw [HZK.out, hR])
              have hRl : R.length ≤ 512 := by rw [← hR]; exact Nat.le_trans (sgR_len _ _ _ _) hh
              have HC1 := Lib.hid C1
              have HC2 := Lib.hid C2
              have HC3 := Lib.hid C3
              have HC4 := Lib.hid C4
              have HC5 := Lib.hid C5
              have HTA := Lib.hid htail
              have HSG := Lib.hid hsg
              have HBV := Lib.hid hbv
              have HFX : Hid (∃ xs, wr.ownsRow w.heap.size 33 2 (.slice (some ⟨w.heap.size + 3, 0, none⟩) (n + 64) (n + 64)) (n + 64) xs) := Lib.hid ⟨_, hfull⟩
              have hjj : (c0.toList == c0.toList) = true := by simp
              have hje : (e0 == e0) = true := by simp
              clear C1 C2 C3 C4 C5 htail hsg hbv hfull hview hll pv pn hR he0 hc0 HF2 HN2 HG
              go_wp2_with fail
              refine HC1.out.mono ?_
              rintro _ y1 ⟨vx, rfl, hox, hb1⟩
              obtain ⟨px, cx, rfl, _, _, _⟩ := own_rd hox
              have HOX := Lib.hid hox
              have HA := Lib.hid hb1
              clear hox hb1 HC1
              go_wp2_with fail
              refine (HC2.out y1 HA.out).mono ?_
              rintro _ y2 ⟨vy, rfl, hoy, hb2⟩
              obtain ⟨py, cy, rfl, _, _, _⟩ := own_rd hoy
              have HOY := Lib.hid hoy
              have HB1 := Lib.hid hb2
              have HA2 := Lib.hid (HA.out.trans (hb2.mono HA.out.size))
              clear hoy hb2 HC2
              go_wp2_with fail
              refine (HC3.out y2 HA2.out).mono ?_
              rintro _ y3 ⟨rfl, hb3⟩
              have HCc := Lib.hid hb3
              have HA3 := Lib.hid (HA2.out.trans (hb3.mono HA2.out.size))
              clear hb3 HC3
              go_wp2_with fail
              refine (HC4.out y3 HA3.out).mono ?_
              rintro _ y4 ⟨rfl, hb4⟩
              have HCd := Lib.hid (HCc.out.trans (hb4.mono HCc.out.size))
              have HA4 := Lib.hid (HA3.out.trans (hb4.mono HA3.out.size))
              clear hb4 HC4 HCc HA3
              have HPX : Hid (PL y4 px R) := Lib.hid ((PL.of_own HOX.out).below (HB1.out.trans (HCd.out.mono HB1.out.size)))
              have HPY : Hid (PL y4 py R) := Lib.hid ((PL.of_own HOY.out).below HCd.out)
              go_wp2_with fail
              refine (samePL_calls px py cx cy R (by omega) y4 HPX.out HPY.out).mono ?_
              rintro _ y5 ⟨rfl, r5, hr5⟩
              have HCe : Hid (Below y2.heap.size y2 y5) := Lib.hid (by rw [hr5]; exact below_drewN HCd.out _)
              have HA5 : Hid (Below wr.heap.size wr y5) := Lib.hid (by rw [hr5]; exact below_drewN HA4.out _)
              clear hr5 HPX HPY HCd HA4
              go_wp2_with fail
              refine (HC5.out y5 HA5.out).mono ?_
              rintro _ y6 ⟨rfl, r6, hr6⟩
              have HCf : Hid (Below y2.heap.size y2 y6) := Lib.hid (by rw [hr6]; exact below_drewN HCe.out _)
              have HA6 : Hid (Below wr.heap.size wr y6) := Lib.hid (by rw [hr6]; exact below_drewN HA5.out _)
              clear hr6 HCe HA5 HC5
              obtain ⟨wv0, rfl⟩ : ∃ wv0 : World, wv0 = wr := ⟨_, rfl⟩
              have hx1 : ∀ W, (binOp .neq 33 (.agg #[.int .i64 (-77), .int .i64 77]) (.agg #[.int .i64 (-77), .int .i64 77])).run Try.prog W = .ok (.bool false) W := fun W => neq_part (-77, 77) W
              have hQ1 : Try.prog.eqGuardType Try.prog.depth 33 = false := by kernel_rfl
              go_wp2
              go_loopw [33] (fun j ws => ∃ (s : Nat), s ≤ 64 ∧ j = .int .i64 ((n + s : Nat) : Int) ∧ Hid (Below wv0.heap.size wv0 ws) ∧ Hid (Below y2.heap.size y2 ws)) (fun j _ => n + 64 - (intOf j).toNat)
              case atStart => exact ⟨0, by omega, rfl, HA6, HCf⟩
              case round =>
                clear HA6 HCf
                obtain ⟨s, hs, rfl, HA6, HCf⟩ := hrel
                by_cases hls : s < 64
                · have c0 := (HA6.out.cell (p := ⟨w.heap.size + 3, (n + s) * 2, none⟩) (show w.heap.size + 3 < wv0.heap.size by omega)).trans (HTA.out s hls).1
                  have c1 := (HA6.out.cell (p := ⟨w.heap.size + 3, (n + s) * 2 + 1, none⟩) (show w.heap.size + 3 < wv0.heap.size by omega)).trans (HTA.out s hls).2
                  obtain ⟨m0, m1, _, _⟩ := (HSG.out.below HA6.out).2.2.1.cells
                  have hii : ((n + s : Nat) : Int) < (n : Int) + 64 := by omega
                  have hii2 : ((n + s : Nat) : Int) < ((n + 64 : Nat) : Int) := by omega
                  have hd6 : decide (((n + s : Nat) : Int) < (n : Int) + 64) = true := by simp; omega
                  go_wp2
                  go_quiet (fail)
                  have HD1 : Hid (Below wv0.heap.size wv0 (wr.drewN nq)) := Lib.hid (below_drewN HA6.out _)
                  have HD2 : Hid (Below y2.heap.size y2 (wr.drewN nq)) := Lib.hid (below_drewN HCf.out _)
                  go_wp2
                  go_roundw
                  case rel => exact ⟨s + 1, by omega, by go_num, HD1, HD2⟩
                  case measure => simp [intOf]; omega
                · obtain rfl : s = 64 := by omega
                  have HS := Lib.hid (HSG.out.below HA6.out)
                  have hsz6 : w.heap.size + 4 ≤ wr.heap.size := Nat.le_trans hszv HA6.out.size
                  have HYo : Hid (wr.ownsRow y1.heap.size 33 2 (.slice py R.length cy) R.length (encP R)) := Lib.hid (own_below HOY.out HCf.out (fun g hg => (HOY.out.lt g hg).2))
                  have HXo : Hid (wr.ownsRow wv0.heap.size 33 2 (.slice px R.length cx) R.length (encP R)) := Lib.hid (own_below (own_belowAll HOX.out HB1.out) HCf.out (fun g hg => ((own_belowAll HOX.out HB1.out).lt g hg).2))
                  have HF3 : Hid (∃ xs, wr.ownsRow w.heap.size 33 2 (.slice (some ⟨w.heap.size + 3, 0, none⟩) (n + 64) (n + 64)) (n + 64) xs) := Lib.hid (by obtain ⟨xs, hx⟩ := HFX.out; exact ⟨xs, own_belowAll hx HA6.out⟩)
                  have HB3 : Hid (Below w.heap.size w wr) := Lib.hid (HBV.out.trans (HA6.out.mono (by omega)))
                  have hfx := HSG.out.2.2.2.1.fresh (va := .slice px R.length cx) (H := wv0.heap.size) (Nat.le_refl _) (fun b hb => (HOX.out.lt b hb).1)
                  have hfy := HSG.out.2.2.2.2.1.fresh (va := .slice py R.length cy) (H := wv0.heap.size) (Nat.le_refl _) (fun b hb => Nat.le_trans HA.out.size (HOY.out.lt b hb).1)
                  have HFX2 := Lib.hid hfx
                  have HFY2 := Lib.hid hfy
                  have hlr := HS.out.2.2.2.1.1
                  have hfb : ∀ (v : Value) {base : Nat} {e : TypeId} {m : Nat} {ys : List Value}, wr.ownsRow (w.heap.size + 4) e 1 v m ys → ∀ b, (Value.slice (some (⟨w.heap.size + 3, 0, none⟩ : Addr)) (n + 64) (n + 64)).ownBlock = some b → v.ownBlock ≠ some b := fun v _ _ _ _ ho b hb e => by
                    have := (ho.lt b e).1
                    have : w.heap.size + 3 = b := Option.some.inj hb
                    omega
                  have hyz := HA.out.size
                  clear hfx hfy HOX HOY HB1 HCf HA6 HTA HFX HBV hfb hx1 hQ1
                  go_upto_region 42 with (at_builtin; refine wpList_append_two _ rfl _ _ 34 rfl (w.heap.size + 4) 24 i1 (.slice none 0 0) 1 24 Try.underlying34 hj hy0 hy1 hy2 rfl (by decide) lv k _ rfl (hlr.alloc _) ⟨wr.heap.size, 0, none⟩ 1 1 [.slice px R.length cx] rfl rfl (World.news_of_block (heap_alloc_new wr _)) (by simp [Value.oneCell']) (by decide) (by unfold maxLen; omega) (by omega) (by simp; omega) ?_; intro g1 capn y7 hown1 hold1 hlies1 hlg1)
                  have hlr := HS.out.2.2.2.1.1
                  have HS7 := Lib.hid (HS.out.step1 (va := .slice px R.length cx) (by rw [HXK.out]; exact own_le HXo.out hszv) HFX2.out _ hown1 hlies1)
                  have HYo7 := Lib.hid (hlies1.own (HYo.out.alloc _) (fun b hb e => own_ne hlr HYo.out (by decide) b e hb))
                  have HF7 : Hid (∃ xs, y7.ownsRow w.heap.size 33 2 (.slice (some ⟨w.heap.size + 3, 0, none⟩) (n + 64) (n + 64)) (n + 64) xs) := Lib.hid (by
                    obtain ⟨xs, hx⟩ := HF3.out
                    exact ⟨xs, hlies1.own (hx.alloc _) (fun b hb e => by have := (hlr.lt b e).1; have : w.heap.size + 3 = b := Option.some.inj hb; omega)⟩)
                  have HB7 := Lib.hid (hlies1.below (HB3.out.alloc (by omega) _) (by simp; omega) (fun b hb => by have := (hlr.lt b hb).1; omega))
                  have hz7 : w.heap.size + 4 ≤ y7.heap.size := Nat.le_trans (by simp; omega) hlies1.row.size
                  have hlr2 := HS7.out.2.2.2.2.1.1
                  clear hlr hown1 hold1 hlies1 hlg1 HS HXo HYo HF3 HB3 HFX2 hsz6
                  go_wp2_with (at_builtin; refine wpList_append_two _ rfl _ _ 34 rfl (w.heap.size + 4) 24 i1 (.slice none 0 0) 1 24 Try.underlying34 hj hy0 hy1 hy2 rfl (by decide) wv k _ rfl (hlr2.alloc _) ⟨y7.heap.size, 0, none⟩ 1 1 [.slice py R.length cy] rfl rfl (World.news_of_block (heap_alloc_new y7 _)) (by simp [Value.oneCell']) (by decide) (by unfold maxLen; omega) (by omega) (by simp; omega) ?_; intro g2 capm y8 hown2 hold2 hlies2 hlg2)
                  have hlr3 := HS7.out.2.2.2.2.1.1
                  have HS8 := Lib.hid (HS7.out.step2 (va := .slice py R.length cy) (by rw [HXK.out]; exact own_le HYo7.out (by omega)) HFY2.out _ hown2 hlies2)
                  have HF8 : Hid (∃ xs, y8.ownsRow w.heap.size 33 2 (.slice (some ⟨w.heap.size + 3, 0, none⟩) (n + 64) (n + 64)) (n + 64) xs) := Lib.hid (by
                    obtain ⟨xs, hx⟩ := HF7.out
                    exact ⟨xs, hlies2.own (hx.alloc _) (fun b hb e => by have := (hlr3.lt b e).1; have : w.heap.size + 3 = b := Option.some.inj hb; omega)⟩)
                  have HB8 := Lib.hid (hlies2.below (HB7.out.alloc (by omega) _) (by simp; omega) (fun b hb => by have := (hlr3.lt b hb).1; omega))
                  have hz8 : w.heap.size + 4 ≤ y8.heap.size := Nat.le_trans (by simp; omega) hlies2.row.size
                  clear hlr2 hlr3 hown2 hold2 hlies2 hlg2 HS7 HF7 HB7
                  go_roundw
                  case rel => exact ⟨k + 1, _, _, _, _, by omega, by go_num, rfl, rfl, hz8, HS8, HF8, HB8⟩
                  case measure => simp [intOf]; omega
    · obtain rfl : k = 5 := by omega
      obtain ⟨gl, cl, rfl, hgl1, hgl2⟩ := HT.out.2.2.2.1.1.form (by decide)
      obtain ⟨gw, cw, rfl, hgw1, hgw2⟩ := HT.out.2.2.2.2.1.1.form (by decide)
      have HL1 := Lib.hid HT.out.2.2.2.1
      have HL2 := Lib.hid HT.out.2.2.2.2.1
      have HXL : Hid (∀ j, (X j).length ≤ 512) := Lib.hid (fun j => by rw [HX.out]; exact Nat.le_trans (sgR_len _ _ _ _) hh)
      have HC5 : Hid (∀ W n', W = wo.drewN n' → ∀ j, j < 5 → ∀ p1 c1 p2 c2, L j = .slice p1 (X j).length c1 → M j = .slice p2 (X j).length c2 → Calls Try.prog 13 #[.slice p1 (X j).length c1, .slice p2 (X j).length c2] W fun x w' => x = .returned (.bool true) ∧ ∃ m, w' = W.drewN m) := Lib.hid (fun W n' hW j hj p1 c1 p2 c2 e1 e2 => by
        have hb : Below wo.heap.size wo W := by rw [hW]; exact below_drewN (Below.refl _ _) _
        have h1 := HL1.out.2.1 j hj
        have h2 := HL2.out.2.1 j hj
        rw [e1] at h1
        rw [e2] at h2
        exact samePL_calls p1 p2 c1 c2 (X j) (by have := HXL.out j; omega) W ((PL.of_own h1).below hb) ((PL.of_own h2).below hb))
      clear HT HF
      go_wp2
      go_loopw [34] (fun j ws => ∃ (s : Nat), s ≤ 5 ∧ j = .int .i64 (s : Int) ∧ Hid (∃ m, ws = wo.drewN m)) (fun j _ => 5 - (intOf j).toNat)
      case atStart => exact ⟨0, by omega, rfl, Lib.hid ⟨0, rfl⟩⟩
      case round =>
        obtain ⟨s, hs, rfl, HD0⟩ := hrel
        by_cases hls : s < 5
        · obtain ⟨p1, c1, e1, _, _, _⟩ := own_rd (HL1.out.2.1 s hls)
          obtain ⟨p2, c2, e2, _, _, _⟩ := own_rd (HL2.out.2.1 s hls)
          have hbw : Below wo.heap.size wo wr := by obtain ⟨m, hm⟩ := HD0.out; rw [hm]; exact below_drewN (Below.refl _ _) _
          have k1 : wr.cell? ⟨gl, s, none⟩ = some (.slice p1 (X s).length c1) := by
            rw [hbw.cell (p := ⟨gl, s, none⟩) hgl2, HL1.out.1.cellAt s (by omega)]
            simp [hls, e1]
          have k2 : wr.cell? ⟨gw, s, none⟩ = some (.slice p2 (X s).length c2) := by
            rw [hbw.cell (p := ⟨gw, s, none⟩) hgw2, HL2.out.1.cellAt s (by omega)]
            simp [hls, e2]
          have hd5 : (s : Int) < 5 := by omega
          have CS : Hid (∀ n', Calls Try.prog 13 #[.slice p1 (X s).length c1, .slice p2 (X s).length c2] (wr.drewN n') fun x w' => x = .returned (.bool true) ∧ ∃ m, w' = (wr.drewN n').drewN m) := Lib.hid (fun n' => by
            obtain ⟨m, hm⟩ := HD0.out
            exact HC5.out _ (m + n') (by rw [hm, World.drewN_drewN]) s hls p1 c1 p2 c2 e1 e2)
          clear hbw e1 e2
          go_wp2_with fail
          go_quiet ((go_at_call 13; exact quiet_some (CS.out _)))
          have HD1 : Hid (∃ m, wr.drewN nq = wo.drewN m) := Lib.hid (by obtain ⟨m, hm⟩ := HD0.out; exact ⟨m + nq, by rw [hm, World.drewN_drewN]⟩)
          go_wp2
          go_roundw
          case rel => ((repeat apply Exists.intro); exact ⟨⟨s + 1, by omega, by go_num, HD1⟩, rfl⟩)
          case measure => simp [intOf]; omega
        · obtain rfl : s = 5 := by omega
          have hbw : Below wo.heap.size wo wr := by obtain ⟨m, hm⟩ := HD0.out; rw [hm]; exact below_drewN (Below.refl _ _) _
          have hly := HL1.out.below hbw
          have HAP := Lib.hid (apartS_calls (.slice (some ⟨gl, 0, none⟩) 5 cl) 5 L (fun j => (X j).length) (w.heap.size + 4) (by decide) (fun i _ => by have := HXL.out i; omega) wr (by have := hbw.size; omega) hly.1 (fun i hi => ⟨_, hly.2.1 i hi⟩) hly.2.2)
          have HBW := Lib.hid (HB.out.trans (hbw.mono (by omega)))
          clear hly hbw
          go_wp2_with fail
          refine HAP.out.mono ?_
          rintro e z5 ⟨rfl, hz5⟩
          have hb5 := HBW.out.trans (hz5.mono (by omega))
          go_wp2
          go_ret
          exact ⟨rfl, hb5⟩
set_option maxRecDepth 100000 in
theorem SignSums_walk (a0 : Int) (w0 : (Lit.int .i64 a0).wf = true) (a1 : Int) (w1 : (Lit.int .i64 a1).wf = true) (a2 : Int) (w2 : (Lit.int .u64 a2).wf = true) (v : Value) (z : List (Int × Int)) (w : World) (hR : IsSl w 2 16 IsPt [v] z) :
    Calls Try.prog 4 #[.int .i64 a0, .int .i64 a1, .int .u64 a2, v] w fun e w' => e = .returned (.bool true) ∧ Below w.heap.size w w' := by
  obtain ⟨hn, ⟨p, cap, rfl, hp⟩, _⟩ := parts_of_arg hR
  by_cases hE : newE a0 a1 = 0
  · obtain ⟨m, rfl, h1, h2, h3⟩ := widthB_true (newE_ok hE).1
    obtain ⟨h, rfl⟩ : ∃ h, m = 2 * h := ⟨m / 2, by omega⟩
    exact lawSs_ok h a1 a2 hE (by omega) (by omega) (by omega) p z.length cap z rfl hn w hp
  · have N1 := Lib.hid (New_no a0 a1 a2 hE w)
    have N2 := Lib.hid (rNew_no a0 a1 a2 hE w)
    obtain ⟨e0, he0⟩ : ∃ e, newE a0 a1 = e := ⟨_, rfl⟩
    rw [he0] at N1 N2
    have hee : (e0 == e0) = true := by simp
    clear hE he0 hR hp
    go_enter Try.func4, Try.ntmps4
    go_wp2_with fail
    refine N1.out.mono ?_
    rintro _ _ ⟨rfl, rfl⟩
    go_wp2_with fail
    refine N2.out.mono ?_
    rintro _ _ ⟨rfl, rfl⟩
    go_wp2
    go_ret
    exact ⟨rfl, Below.refl _ _⟩
end Go.Proofs.Ytcdlmjbjpeokfaa
