/-
  WALK: a file built or refused, by the document.
-/
import Derived.Test.YtihgjihdmlomaaaDoorJG
namespace Go.Proofs.YtihgjihdmlomaaaDoor
open Go.RowKit ArgK
set_option linter.unusedVariables false

/-- At the head of each round over the blocks. -/
def B2Rel (w w5 : World) (g0 : Nat) (h : Hd) (list : List Ent) (K k : Nat) (bv lv sv av : Value) (wr : World) : Prop :=
  k ≤ K ∧ ∃ gb cb, sv = .int .u32 ((stK h list k).sum : Nat) ∧ av = .int .i64 ((aK (groups list) k : Nat) : Int) ∧ Rb wr bv (stK h list k).l gb cb ∧ (gb = g0 ∨ w5.heap.size ≤ gb) ∧ wr.ownsRow w5.heap.size 9 1 lv k (strV ((stK h list k).lines.map lnTxt)) ∧ (∀ b, lv.ownBlock = some b → b ≠ gb) ∧ w5.grownBy wr (some g0) ∧ Below w.heap.size w wr

/-- At the head of each round over the index's rows. -/
def B3Rel (w w6 : World) (gq : Nat) (st : BSt) (M k : Nat) (bv av : Value) (wr : World) : Prop :=
  k ≤ M ∧ ∃ gb cb, av = .int .i64 ((aK (grp szL st.lines) k : Nat) : Int) ∧ Rb wr bv (st.l ++ rwK st.lines k) gb cb ∧ (gb = gq ∨ w6.heap.size ≤ gb) ∧ w6.grownBy wr (some gq) ∧ Below w.heap.size w wr

theorem rwK_le (lines : List Ln) (t : Nat) : (rwK lines t).length ≤ (rowsB lines).length := by
  have e : rowsB lines = rwK lines t ++ ((grp szL lines).drop t).flatMap (fun r => frameB 6 (r.flatMap lineB)) := by
    unfold rowsB rwK
    rw [← List.flatMap_append, List.take_append_drop]
  rw [e, List.length_append]
  omega

theorem grown_then_below {w w' w'' : World} {row : Option Nat} (h : w.grownBy w' row) (hb : Below w.heap.size w' w'') : w.grownBy w'' row :=
  ⟨hb.os.trans h.os, hb.tape.trans h.tape, hb.output.trans h.output, Nat.le_trans h.size hb.size, fun k hk hne => (hb.block k hk).trans (h.block k hk hne)⟩

theorem aK_take {α : Type} {gs : List (List α)} {l : List α} (hf : gs.flatten = l) (k : Nat) : l.take (aK gs k) = (gs.take k).flatten := by
  have e : l = (gs.take k).flatten ++ (gs.drop k).flatten := by rw [← List.flatten_append, List.take_append_drop, hf]
  unfold aK
  conv => lhs; rw [e]
  exact List.take_left

theorem stK_len {h : Hd} {list : List Ent} (hg : ∀ e ∈ list, Good e) (k : Nat) : (stK h list k).l.length ≤ 74 + list.length * 167 := by
  have h1 : (stK h list k).l.length ≤ (headSt h list).l.length + list.length * 167 := (grow_len (st := headSt h list) (cur := []) hg (by rw [List.append_nil]; exact aK_take (grp_flat szE list) k) (fun g hgm => (group_good hg (List.mem_of_mem_take hgm)).1)).1
  have h2 : (headSt h list).l.length ≤ 74 := by
    have := headTB_len h list.length
    simp only [headSt, frameB_length]
    omega
  omega

theorem stK_ok {h : Hd} {list : List Ent} (hg : ∀ e ∈ list, Good e) (k : Nat) : StOk (stK h list k) :=
  (foldl_ok _ _ (headSt_ok h list) (fun g hgm => by
    have := group_good hg (List.mem_of_mem_take hgm)
    exact ⟨this.1, this.2.2⟩)).1

theorem Rb.toStr {w : World} {v : Value} {l : List UInt8} {g cap : Nat} (src dst e : TypeId) (hs : Tryd.prog.underlying src = some (.slice e)) (he : Tryd.prog.underlying e = some (.int .u8)) (hd : Tryd.prog.underlying dst = some .string) (h : Rb w v l g cap) : (convert src dst v).run Tryd.prog w = .ok (.string ⟨l.toArray⟩) w := by
  rw [h.val]
  refine run_toString w src dst e hs he hd _ l _ cap rfl fun j hj => ?_
  have e2 : (⟨g, 0, none⟩ : Addr).add j = ⟨g, j, none⟩ := by simp [Addr.add, eq_comm]
  rw [e2, h.holds j hj]
  simp [by8, List.getD, hj]

set_option maxRecDepth 100000 in
set_option maxHeartbeats 4000000 in
theorem RefBuild_calls (h : Hd) (p : Option Addr) (n c : Nat) (list : List Ent) (hn : list.length = n) (hm : n ≤ 4398046511104) (hcs : ∀ e ∈ list, e.c.size ≤ 140737488351232) (w : World) (hE : EL w w.heap.size p list) :
    Calls Tryd.prog 13 #[h.val, .slice p n c] w (BuildPost w (builtR h list)) := by
  have CG := fun W hW => goes_calls h p n c list hn hm hcs W hW
  have hE1 : EL (w.alloc (.cells #[.int .i64 h.w, .int .i64 h.t, .int .i64 h.b, .int .i64 h.lo, .int .i64 h.hi, .int .i64 h.n] 23)) (w.alloc (.cells #[.int .i64 h.w, .int .i64 h.t, .int .i64 h.b, .int .i64 h.lo, .int .i64 h.hi, .int .i64 h.n] 23)).heap.size p list := (hE.below ((Below.refl _ w).alloc (Nat.le_refl _) _) (Nat.le_refl _)).mono (by simp)
  have CG1 := CG _ hE1
  have hz0 := World.alloc_heap_new w (.cells #[.int .i64 h.w, .int .i64 h.t, .int .i64 h.b, .int .i64 h.lo, .int .i64 h.hi, .int .i64 h.n] 23)
  obtain ⟨R, hR⟩ : ∃ R, goesR h list = R := ⟨_, rfl⟩
  rw [hR] at CG1
  unfold Hd.val at CG1 ⊢
  have HC := Lib.hid CG1
  by_cases h0 : R = 0
  · subst h0
    obtain ⟨hh, hlen, hgood⟩ := goesR_good hR
    have hb : builtR h list = (fileB h list, 0) := by unfold builtR; rw [if_pos hR]
    rw [hb]
    rw [hn] at hlen
    obtain ⟨i0, hi, hz1, hz2, hz3⟩ := info_parts strinfoM
    obtain ⟨j0, hj, hy1, hy2, hy3⟩ := info_parts u8infoM
    have HN := Lib.hid hn
    have HE := Lib.hid hE
    have HG := Lib.hid hgood
    have HZ := Lib.hid hz0
    clear CG CG1 hE1 hR hb hn hE hgood hz0 hcs
    go_enter Tryd.func13, Tryd.ntmps13
    go_wp2_with fail
    refine HC.out.mono ?_
    rintro e w1 ⟨rfl, hb1⟩
    have hb01 : Below w.heap.size w w1 := ((Below.refl _ w).alloc (Nat.le_refl _) _).trans (hb1.mono (by simp))
    have hbox : w1.heap[w.heap.size]? = some (.cells #[.int .i64 h.w, .int .i64 h.t, .int .i64 h.b, .int .i64 h.lo, .int .i64 h.hi, .int .i64 h.n] 23 (0, 0)) := (hb1.block _ (by simp)).trans HZ.out
    have hsz1 : w.heap.size < w1.heap.size := (Array.getElem?_eq_some_iff.1 hbox).1
    have H0 : Hid (TxRel w1 w1.heap.size list n 0 (.slice none 0 0) w1) := Lib.hid ⟨Nat.zero_le _, World.ownsRow_nil _ _ _ _, Below.refl _ _⟩
    have HB1 := Lib.hid hb01
    have HBox := Lib.hid hbox
    have HE1 := Lib.hid (HE.out.below hb01 (Nat.le_refl _))
    clear hb1 hb01 hbox
    go_wp2
    go_loopw [7, 8] (fun tv i wr => ∃ k : Nat, i = .int .i64 k ∧ TxRel w1 w1.heap.size list n k tv wr) (fun _ i _ => n - (intOf i).toNat)
    case atStart => exact ⟨0, rfl, H0.out⟩
    case round =>
      obtain ⟨k, rfl, hk, hown, hbl⟩ := hrel
      have hbs := hbl.size
      by_cases hlt : k < n
      · obtain ⟨x, hx⟩ : ∃ x, list[k]? = some x := ⟨_, List.getElem?_eq_getElem (by rw [HN.out]; exact hlt)⟩
        have hgx := HG.out x (List.mem_of_getElem? hx)
        obtain ⟨a, rfl, haB, h5⟩ := HE1.out k x hx
        have h5o := h5.below hbl (by rw [add_blockE]; omega)
        have CW := bytes_calls x hgx.1 hgx.2.1 (by have := hgx.2.2; omega)
        have hst := strV_snoc (txt_get hx)
        obtain ⟨S, hS⟩ : ∃ S, (⟨(writtenB x).toArray⟩ : ByteArray) = S := ⟨_, rfl⟩
        rw [hS] at hst
        simp only [hS] at CW
        have HCW := Lib.hid CW
        unfold Ent.val at HCW
        have HSt := Lib.hid hst
        obtain ⟨x0, x1, x2, x3, x4⟩ := h5o
        have i0' : (0 : Int) ≤ (k : Int) := by omega
        have i1' : (k : Int) < (n : Int) := by omega
        clear CW hS hst h5 hx
        go_wp2_with fail
        refine (HCW.out _).mono ?_
        rintro e w2 ⟨rfl, hb2⟩
        have hown1 := own_belowAll hown hb2
        have hbl1 : Below w1.heap.size w1 w2 := hbl.trans (hb2.mono hbs)
        have hbs1 := hbl1.size
        obtain ⟨pp, cp, rfl, hcp1, hcp2, hpp⟩ := own_rd hown1
        clear hown hbl hb2 hpp x0 x1 x2 x3 x4
        go_wp2_with (at_builtin; refine wpList_append_lies _ rfl _ _ 70 rfl w1.heap.size 9 i0 (.string ⟨#[]⟩) 1 16 Tryd.underlying70 hi hz1 hz2 hz3 rfl (by decide) _ k _ rfl (World.ownsRow.alloc (h := hown1) _) ⟨w2.heap.size, 0, none⟩ 1 1 [.string S] rfl rfl (World.news_of_block (heap_alloc_new w2 _)) (by simp [Value.oneCell']) (by decide) (by unfold maxLen <;> omega) (by omega) (by have := hbl1.size; simp <;> omega) _ rfl ?_; intro g capn y1 hown' hgrow hat hlt2)
        have hbn : Below w1.heap.size w1 y1 := (Below.alloc hbl1 hbl1.size _).grown hgrow (by have := hbl1.size; simp <;> omega) (fun g hg => (hown1.lt g hg).1)
        have HRl : Hid (TxRel w1 w1.heap.size list n (k + 1) (.slice (some ⟨g, 0, none⟩) (k + 1) capn) y1) := Lib.hid ⟨hlt, by rw [HSt.out]; exact hown', hbn⟩
        clear hown' hgrow hbn hown1 hbl1
        go_wp2
        go_roundw
        case rel => exact ⟨k + 1, by go_num, HRl.out⟩
        case measure => simp [intOf]; omega
      · obtain rfl : k = n := by omega
        rw [List.take_of_length_le (by rw [txt_length, HN.out]; exact Nat.le_refl _)] at hown
        obtain ⟨pp, cp, rfl, hcp1, hcp2, hpp⟩ := own_rd hown
        have hbx := (hbl.block w.heap.size hsz1).trans HBox.out
        obtain ⟨d0, d1, d2, d3, d4, d5⟩ := cells6 hbx
        have HOwn := Lib.hid hown
        have HBl := Lib.hid hbl
        have CH := fun W => headText_calls h (k : Int) W
        have hhl := headTB_len h (k : Int)
        obtain ⟨HT, hHT, hHT2, hHT3⟩ := name_s (headTB h (k : Int))
        simp only [hHT] at CH
        have CF := fun W => framed_calls 4 (by decide) (by decide) HT (by omega) W
        rw [hHT2] at CF
        obtain ⟨F, hF, hF2, hF3⟩ := name_s (frameB 4 (headTB h (k : Int)))
        simp only [hF] at CF
        unfold Hd.val at CH
        have HCH := Lib.hid CH
        have HCF := Lib.hid CF
        have HF2 := Lib.hid hF2
        have HFs : Hid (F.size ≤ 80) := Lib.hid (by rw [hF3, frameB_length]; omega)
        clear CH CF hF hF2 hF3 hHT hHT2 hHT3 hhl hown hbl hbx hpp
        go_wp2_with fail
        refine (HCH.out _).mono ?_
        rintro e w2 ⟨rfl, hb2⟩
        have HB2 := Lib.hid hb2
        clear hb2
        go_wp2_with fail
        refine (HCF.out _).mono ?_
        rintro e w3 ⟨rfl, hb3⟩
        have HB3 := Lib.hid (HB2.out.trans (hb3.mono HB2.out.size))
        clear hb3 d0 d1 d2 d3 d4 d5
        have hcv := run_bytes_of_string (P := Tryd.prog) w3 9 53 5 F Tryd.underlying9 Tryd.underlying53 Tryd.underlying5
        obtain ⟨fc, hfc⟩ : ∃ fc, grownCap w3 F.size 0 5 = fc := ⟨_, rfl⟩
        have hfc1 : F.size ≤ fc := by rw [← hfc]; exact grownCap_ge _ _ _ _
        have hfc2 : fc ≤ maxLen := by rw [← hfc]; exact grownCap_le_maxLen _ _ _ _ (by have := HFs.out; unfold maxLen; omega)
        rw [hfc] at hcv
        have hrb := Rb.of_string w3 5 F (by have := HFs.out; unfold maxLen; omega) fc hfc1 hfc2
        have hb4 : Below w3.heap.size w3 (w3.drew.alloc (.cells (bytesRow F fc) 5 ((bytesRow F fc).size, (bytesRow F fc).size + 1))) := ((Below.refl _ w3).drew).alloc (by simp) _
        generalize w3.drew.alloc (.cells (bytesRow F fc) 5 ((bytesRow F fc).size, (bytesRow F fc).size + 1)) = w4 at hcv hrb hb4
        rw [HF2.out] at hrb
        have HRb := Lib.hid hrb
        have HB4 := Lib.hid (HB3.out.trans (hb4.mono HB3.out.size))
        clear hrb hb4 hfc
        have hown4 := own_belowAll HOwn.out HB4.out
        have CFi := Filled_calls pp k cp (txt list) (by rw [txt_length, HN.out]) (by omega) (txt_ok HG.out) w4 (sl_own hown4 (by rw [txt_length, HN.out]))
        have HCFi := Lib.hid CFi
        clear CFi
        go_wp2_with fail
        refine HCFi.out.mono ?_
        rintro e w5 ⟨sv, K, rfl, s1, s2, s3, s4⟩
        rw [txt_grp] at s1 s3
        rw [List.length_map] at s1
        have hb45 := s4
        obtain ⟨g0, hg0⟩ : ∃ g0, w3.heap.size = g0 := ⟨_, rfl⟩
        have hg0w : w.heap.size ≤ g0 := by
          have h1 := HB3.out.size
          omega
        rw [hg0] at HRb ⊢
        have HTx := Lib.hid (own_belowAll hown4 s4)
        have htg : ∀ b, (Value.slice pp k cp).ownBlock = some b → b ≠ g0 := fun b hb => by
          have h1 := (HOwn.out.lt b hb).2
          have h2 := HB3.out.size
          omega
        have hsg : ∀ b, sv.ownBlock = some b → b ≠ g0 := fun b hb => by
          have h1 := (s3.lt b hb).1
          have h2 := HRb.out.lt
          omega
        obtain ⟨sp, sc, rfl, hsc1, hsc2, hspp⟩ := own_rd s3
        have HSz := Lib.hid s3
        have HTg := Lib.hid htg
        have HSg := Lib.hid hsg
        have HK := Lib.hid s1
        have HB5 : Hid (Below w.heap.size w w5) := Lib.hid (HB1.out.trans ((HBl.out.trans ((HB4.out.trans (s4.mono HB4.out.size)).mono hbs)).mono (Nat.le_of_lt hsz1)))
        have HR0 : Hid (B2Rel w w5 g0 h list K 0 (.slice (some ⟨g0, 0, none⟩) F.size fc) (.slice none 0 0) (.int .u32 0) (.int .i64 0) w5) := Lib.hid (by
          refine ⟨Nat.zero_le _, g0, fc, rfl, rfl, ?_, .inl rfl, World.ownsRow_nil _ _ _ _, fun b hb => by simp [Value.ownBlock] at hb, grown_refl _ _, HB5.out⟩
          have e : (stK h list 0).l = frameB 4 (headTB h (k : Int)) := by rw [stK_zero]; unfold headSt; rw [HN.out]
          rw [e]
          exact HRb.out.below s4)
        clear s1 s3 s4 hb45 htg hsg hspp hcv
        go_wp2
        go_loopw [9, 11, 12, 13, 14] (fun bv lv sv av i wr => ∃ q : Nat, i = .int .i64 q ∧ B2Rel w w5 g0 h list K q bv lv sv av wr) (fun _ _ _ _ i _ => K - (intOf i).toNat)
        case atStart => exact ⟨0, rfl, HR0.out⟩
        case round =>
          obtain ⟨q, rfl, hq, gb, cb, rfl, rfl, hrb, hgb, hln, hlg, hfr, hbl2⟩ := hrel
          by_cases hqk : q < K
          · obtain ⟨g, hg⟩ : ∃ g, (groups list)[q]? = some g := ⟨_, List.getElem?_eq_getElem (by rw [HK.out]; exact hqk)⟩
            obtain ⟨hgn, hgp, hgg⟩ := group_good HG.out (List.mem_of_getElem? hg)
            have hgl := aK_le (grp_flat szE list) hg
            have hfi := first_at zE (grp_flat szE list) hg hgn
            have hfg := headD_good hgn hgg
            obtain ⟨A, hA⟩ : ∃ A, aK (groups list) q = A := ⟨_, rfl⟩
            obtain ⟨x, hx⟩ : ∃ x, g.headD zE = x := ⟨_, rfl⟩
            have hA' : aK (grp szE list) q = A := hA
            rw [hA', hx] at hfi
            rw [hA', HN.out] at hgl
            rw [hx] at hfg
            rw [hA]
            have hgpos : 0 < g.length := List.length_pos_iff.2 hgn
            obtain ⟨a, rfl, haB, h5⟩ := HE.out A x hfi
            have h5o := h5.below hbl2 (by rw [add_blockE]; exact haB)
            obtain ⟨x0, x1, x2, x3, x4⟩ := h5o
            have i0' : (0 : Int) ≤ (A : Int) := by omega
            have i1' : (A : Int) < (k : Int) := by omega
            have HFr := Lib.hid hfr
            have HBl2 := Lib.hid hbl2
            have HRb2 := Lib.hid hrb
            have HLn := Lib.hid hln
            have HLg := Lib.hid hlg
            have HGb := Lib.hid hgb
            have HGq := Lib.hid hg
            have HA := Lib.hid hA
            have HX := Lib.hid hx
            have HFG := Lib.hid hfg
            have HGP := Lib.hid hgp
            have hbv := hrb.val
            subst hbv
            obtain ⟨lp, lc, rfl, hlc1, hlc2, hlpp⟩ := own_rd hln
            obtain ⟨bl, hbl3⟩ : ∃ bl, (stK h list q).l.length = bl := ⟨_, rfl⟩
            rw [hbl3]
            have hsz3 := own_grown HSz.out hfr (fun b hb e => HSg.out b hb (Option.some.inj e).symm)
            obtain ⟨sp2, sc2, e2, _, _, hs2⟩ := own_rd hsz3
            cases e2
            obtain ⟨gs, rfl, hgs1, hgs2, hgs3, _⟩ := hs2 (by omega)
            have cs := hgs3 q (by omega)
            rw [natV_get (by rw [List.getElem?_map, hg]; rfl)] at cs
            obtain ⟨gn, hgn2⟩ : ∃ gn, g.length = gn := ⟨_, rfl⟩
            rw [hgn2] at cs
            have HGn := Lib.hid hgn2
            have HBl3 := Lib.hid hbl3
            have HSz3 := Lib.hid hsz3
            have CFo := fun W => four_calls x.v hfg.1 hfg.2.1 W
            have CNi := fun W => num6_calls x.i W
            have CNg := fun W => num6_calls (gn : Int) W
            have CNb := fun W => num6_calls (bl : Int) W
            have l1 := fourB_len x.v
            have l2 := vNum_len x.i
            have l3 := vNum_len (gn : Int)
            have l4 := vNum_len (bl : Int)
            have l5 := hfg.2.2
            have HCat : Hid (∀ (a b d e : ByteArray), a = ⟨(fourB x.v).toArray⟩ → b = ⟨(vNum x.i).toArray⟩ → d = ⟨(vNum (gn : Int)).toArray⟩ → e = ⟨(vNum (bl : Int)).toArray⟩ → ((((a ++ x.c) ++ b) ++ d) ++ e) = lnTxt ⟨x, gn, bl⟩) := Lib.hid (fun a b d e ha hb hd he => by
              subst ha hb hd he
              have hc : x.c = ⟨x.c.data.toList.toArray⟩ := rfl
              unfold lnTxt lineB placedB
              rw [hc]
              simp only [str_app])
            obtain ⟨S1, e1, f1, g1⟩ := name_s (fourB x.v)
            obtain ⟨S2, e2, f2, g2⟩ := name_s (vNum x.i)
            obtain ⟨S3, e3, f3, g3⟩ := name_s (vNum (gn : Int))
            obtain ⟨S4, e4, f4, g4⟩ := name_s (vNum (bl : Int))
            have HCt := Lib.hid (HCat.out S1 S2 S3 S4 e1.symm e2.symm e3.symm e4.symm)
            simp only [e1] at CFo
            simp only [e2] at CNi
            simp only [e3] at CNg
            simp only [e4] at CNb
            have q1 := add_run (a := S1) (b := x.c) (by omega)
            have q2 := add_run (a := S1 ++ x.c) (b := S2) (by simp only [ByteArray.size_append]; omega)
            have q3 := add_run (a := (S1 ++ x.c) ++ S2) (b := S3) (by simp only [ByteArray.size_append]; omega)
            have q4 := add_run (a := ((S1 ++ x.c) ++ S2) ++ S3) (b := S4) (by simp only [ByteArray.size_append]; omega)
            have j0' : (0 : Int) ≤ (q : Int) := by omega
            have j1' : (q : Int) < (K : Int) := by omega
            clear e1 e2 e3 e4 f1 f2 f3 f4 g1 g2 g3 g4 l1 l2 l3 l4 l5 HCat hsz3 hs2 hgs3 hgn2 hbl3 hlpp
            clear hfr hbl2 hrb hln hlg hgb hg hA hA' hx hfg h5 hfi hgp hgg hgn
            go_upto_region 18 with fail
            obtain ⟨qx, hqx⟩ : ∃ qx, wr.heap.size = qx := ⟨_, rfl⟩
            have hzx : (wr.alloc (.cells #[.int .i64 x.v, .string x.c, .int .i64 x.i, .int .i64 x.s, .bool x.d] 33)).heap[wr.heap.size]? = _ := World.alloc_heap_new wr (.cells #[.int .i64 x.v, .string x.c, .int .i64 x.i, .int .i64 x.s, .bool x.d] 33)
            have hba : Below wr.heap.size wr (wr.alloc (.cells #[.int .i64 x.v, .string x.c, .int .i64 x.i, .int .i64 x.s, .bool x.d] 33)) := (Below.refl _ wr).alloc (Nat.le_refl _) _
            have csa := (hba.cell (p := ⟨gs, q, none⟩) hgs2).trans cs
            have hgsa := Nat.lt_of_lt_of_le hgs2 hba.size
            rw [hqx] at hzx
            generalize wr.alloc (.cells #[.int .i64 x.v, .string x.c, .int .i64 x.i, .int .i64 x.s, .bool x.d] 33) = wa at hzx hba csa hgsa ⊢
            rw [hqx]
            have hqa : qx < wa.heap.size := (Array.getElem?_eq_some_iff.1 hzx).1
            obtain ⟨c0, c1, c2, c3, c4⟩ := cells5 hzx
            have HK2 : Hid (∀ W, Below wa.heap.size wa W → W.cell? ⟨qx, 0, none⟩ = some (.int .i64 x.v) ∧ W.cell? ⟨qx, 1, none⟩ = some (.string x.c) ∧ W.cell? ⟨qx, 2, none⟩ = some (.int .i64 x.i) ∧ W.cell? ⟨gs, q, none⟩ = some (.int .i64 (gn : Int))) := Lib.hid (fun W hW => ⟨(hW.cell (p := ⟨qx, 0, none⟩) hqa).trans c0, (hW.cell (p := ⟨qx, 1, none⟩) hqa).trans c1, (hW.cell (p := ⟨qx, 2, none⟩) hqa).trans c2, (hW.cell (p := ⟨gs, q, none⟩) hgsa).trans csa⟩)
            have HnF : Hid (∀ W, Below wa.heap.size wa W → Calls Tryd.prog 40 #[.int .i64 x.v] W (fun e w' => e = .returned (.string S1) ∧ Below wa.heap.size wa w')) := Lib.hid (fun W hW => (CFo W).mono (fun e w' ⟨h1, h2⟩ => ⟨h1, hW.trans (h2.mono hW.size)⟩))
            have HnI : Hid (∀ W, Below wa.heap.size wa W → Calls Tryd.prog 41 #[.int .i64 x.i] W (fun e w' => e = .returned (.string S2) ∧ Below wa.heap.size wa w')) := Lib.hid (fun W hW => (CNi W).mono (fun e w' ⟨h1, h2⟩ => ⟨h1, hW.trans (h2.mono hW.size)⟩))
            have HnG : Hid (∀ W, Below wa.heap.size wa W → Calls Tryd.prog 41 #[.int .i64 (gn : Int)] W (fun e w' => e = .returned (.string S3) ∧ Below wa.heap.size wa w')) := Lib.hid (fun W hW => (CNg W).mono (fun e w' ⟨h1, h2⟩ => ⟨h1, hW.trans (h2.mono hW.size)⟩))
            have HnB : Hid (∀ W, Below wa.heap.size wa W → Calls Tryd.prog 41 #[.int .i64 (bl : Int)] W (fun e w' => e = .returned (.string S4) ∧ Below wa.heap.size wa w')) := Lib.hid (fun W hW => (CNb W).mono (fun e w' ⟨h1, h2⟩ => ⟨h1, hW.trans (h2.mono hW.size)⟩))
            have hb0 : Below wa.heap.size wa wa.drew := (Below.refl _ wa).drew
            have hlq : ∀ b, (Value.slice lp q lc).ownBlock = some b → b ≠ qx ∧ b ≠ gs := fun b hb => by
              have h1 := HLn.out.lt b hb
              have h5 := (HSz.out.lt gs rfl).2
              exact ⟨by omega, by omega⟩
            have HPk : Hid (∀ (W W6 : World) (o : Obj), Below wa.heap.size wa W → (W.alloc o).grownBy W6 (Value.slice lp q lc).ownBlock → W6.cell? ⟨qx, 0, none⟩ = some (.int .i64 x.v) ∧ W6.cell? ⟨qx, 1, none⟩ = some (.string x.c) ∧ W6.cell? ⟨qx, 2, none⟩ = some (.int .i64 x.i) ∧ W6.cell? ⟨gs, q, none⟩ = some (.int .i64 (gn : Int))) := Lib.hid (fun W W6 o hW hg => by
              obtain ⟨a1, a2, a3, a4⟩ := HK2.out W hW
              have hs := hW.size
              have bx : W6.heap[qx]? = W.heap[qx]? := (hg.block qx (by simp; omega) (fun e => (hlq qx e.symm).1 rfl)).trans (Below.heap_alloc W o qx (by omega))
              have bg : W6.heap[gs]? = W.heap[gs]? := (hg.block gs (by simp; omega) (fun e => (hlq gs e.symm).2 rfl)).trans (Below.heap_alloc W o gs (by omega))
              exact ⟨(World.cell?_of_block (a := ⟨qx, 0, none⟩) bx).trans a1, (World.cell?_of_block (a := ⟨qx, 1, none⟩) bx).trans a2, (World.cell?_of_block (a := ⟨qx, 2, none⟩) bx).trans a3, (World.cell?_of_block (a := ⟨gs, q, none⟩) bg).trans a4⟩)
            have HVa : Hid (∀ W, Below wa.heap.size wa W → W.ownsRow w5.heap.size 9 1 (.slice lp q lc) q (strV ((stK h list q).lines.map lnTxt))) := Lib.hid (fun W hW => own_belowAll (own_belowAll HLn.out hba) hW)
            have hw5a : w5.heap.size ≤ wa.heap.size := Nat.le_trans HFr.out.size hba.size
            clear CFo CNi CNg CNb hzx cs csa c3 c4 hlq
            go_region_held3 (fun W => W.cell? ⟨qx, 0, none⟩ = some (.int .i64 x.v) ∧ W.cell? ⟨qx, 1, none⟩ = some (.string x.c) ∧ W.cell? ⟨qx, 2, none⟩ = some (.int .i64 x.i) ∧ W.cell? ⟨gs, q, none⟩ = some (.int .i64 (gn : Int))) (first | exact hP6 | exact HK2.out _ (by assumption) | exact HK2.out _ (Below.alloc hcq hcq.size _)) (first | (refine step_append_lies _ (by rfl) _ _ _ (by rfl) w5.heap.size 9 i0 (.string ⟨#[]⟩) 1 16 Tryd.underlying70 hi hz1 hz2 hz3 rfl (by omega) (.slice lp q lc) q _ (by rfl) (World.ownsRow.alloc (h := HVa.out _ (by assumption)) _) ⟨wq.heap.size, 0, none⟩ 1 1 [.string ((((S1 ++ x.c) ++ S2) ++ S3) ++ S4)] (by rfl) (by rfl) (World.news_of_block (heap_alloc_new wq _)) (by simp [Value.oneCell']) (by omega) (by unfold maxLen <;> omega) (by omega) (by (have := hcq.size); simp <;> omega) _ rfl ?_; intro gg cap6 w6 hown6 hgrow6 hat6 hlt6; have hP6 := HPk.out _ _ _ hcq hgrow6) | (go_at_call 40; (with_reducible refine (HnF.out _ (by assumption)).mono ?_); rintro e wq ⟨rfl, hcq⟩) | (go_at_call 41; (with_reducible refine (HnI.out _ (by assumption)).mono ?_); rintro e wq ⟨rfl, hcq⟩) | (go_at_call 41; (with_reducible refine (HnG.out _ (by assumption)).mono ?_); rintro e wq ⟨rfl, hcq⟩) | (go_at_call 41; (with_reducible refine (HnB.out _ (by assumption)).mono ?_); rintro e wq ⟨rfl, hcq⟩))
            have hbq : Below wr.heap.size wr wq := hba.trans (hcq.mono hba.size)
            have hb16 : Below w5.heap.size wr w6 := (Below.alloc (hbq.mono HFr.out.size) (Nat.le_trans HFr.out.size hbq.size) _).grown hgrow6 (by have h1 := HFr.out.size; have h2 := hbq.size; simp; omega) (fun b hb => (HLn.out.lt b hb).1)
            have hfr6 := grown_then_below HFr.out hb16
            have hbl6 : Below w.heap.size w w6 := HBl2.out.trans (hb16.mono HB5.out.size)
            have hrb6 := ((HRb2.out.below hbq).below (Below.alloc (Below.refl _ wq) (Nat.le_refl _) (.cells #[.string (S1 ++ x.c ++ S2 ++ S3 ++ S4)] 9))).keep (hgrow6.block gb (by have h1 := HRb2.out.lt; have h2 := hbq.size; simp; omega) (fun e => HLg.out gb e.symm rfl)) hgrow6.size
            have hgg : gg ≠ gb := by
              rcases hat6 with h1 | h1
              · exact HLg.out gg h1
              · have h2 := HRb2.out.lt
                have h3 := hbq.size
                rw [h1]
                simp
                omega
            have hty6 := own_grown HTx.out hfr6 (fun b hb e => HTg.out b hb (Option.some.inj e).symm)
            have hsl6 := sl_own hty6 (by rw [txt_length, HN.out])
            have CJ := joined_calls pp k cp A gn (txt list) (by rw [txt_length, HN.out]) (by omega) (by rw [← HGn.out]; exact hgl) (fun s hs => (txt_ok HG.out s hs).2) w6 hsl6
            have hjn : jn (txt list) A gn = payB g := by
              rw [← HA.out, ← HGn.out]
              exact jn_at writtenB (grp_flat szE list) HGq.out
            rw [hjn] at CJ
            obtain ⟨PB, hPB, hPB2, hPB3⟩ := name_s (payB g)
            rw [hPB] at CJ
            have hPBs : PB.size ≤ 4096 := by rw [hPB3]; exact HGP.out
            have hP := hP6.2.2.2
            have HCJ := Lib.hid CJ
            have HP2 := Lib.hid hPB2
            have HHB := Lib.hid hbl6
            have HFr6 := Lib.hid hfr6
            have HRb6 := Lib.hid hrb6
            have HOw6 := Lib.hid hown6
            have HPP := Lib.hid hP
            clear CJ hjn hPB hPB2 hPB3 hty6 hsl6 hb16 hbq hfr6 hbl6 hrb6 hown6 hgrow6 hat6 hcq
            go_wp2_with fail
            refine HCJ.out.mono ?_
            rintro e w7 ⟨rfl, hb7⟩
            have HB7 := Lib.hid hb7
            have hso := (stK_ok (h := h) HG.out q).sum
            have CO := fun W => RefOn_calls (stK h list q).sum hso PB (by omega) W
            rw [HP2.out] at CO
            have HCO := Lib.hid CO
            clear hb7 CO hso
            go_wp2_with fail
            refine (HCO.out _).mono ?_
            rintro e w7' ⟨rfl, rfl⟩
            have CFr := fun W => framed_calls 5 (by decide) (by decide) PB (by omega) W
            rw [HP2.out] at CFr
            obtain ⟨FB, hFB, hFB2, hFB3⟩ := name_s (frameB 5 (payB g))
            simp only [hFB] at CFr
            have HCFr := Lib.hid CFr
            have HFB2 := Lib.hid hFB2
            have hFBs : FB.size ≤ 4200 := by
              rw [hFB3, frameB_length]
              have := HGP.out
              omega
            clear CFr hFB hFB2 hFB3
            go_wp2_with fail
            refine (HCFr.out _).mono ?_
            rintro e w8 ⟨rfl, hb8⟩
            have hrb8 := (HRb6.out.below HB7.out).below hb8
            rw [HBl3.out] at hrb8
            have hblb : bl ≤ 74 + list.length * 167 := by rw [← HBl3.out]; exact stK_len HG.out q
            rw [HN.out] at hblb
            have hbl68 : Below w6.heap.size w6 w8 := HB7.out.trans (hb8.mono HB7.out.size)
            have hgl2 : A + gn ≤ k := by rw [← HGn.out]; exact hgl
            have hAg : IntKind.i64.wrap ((A : Int) + (gn : Int)) = ((A + gn : Nat) : Int) := by rw [IntKind.wrap_i64]; omega
            have hgs6 : gs < w6.heap.size := by
              have h1 := (HSz.out.lt gs rfl).2
              have h2 := HFr6.out.size
              omega
            have hgsb : gs ≠ gb := by
              rcases HGb.out with h1 | h1
              · rw [h1]
                exact HSg.out gs rfl
              · have := (HSz.out.lt gs rfl).2
                omega
            have hgb6 := HRb6.out.lt
            have HB68 := Lib.hid hbl68
            clear hb8 hbl68
            go_wp2_with (at_builtin; refine wpList_append_rb _ rfl _ _ 53 9 rfl 5 j0 Tryd.underlying53 Tryd.underlying9 hj hy1 hy2 hy3 rfl hrb8 FB rfl (by rw [HBl3.out]; omega) ?_; intro v9 w9 gb9 cb9 hrb9 hgrow9 hat9; have c9 : w9.cell? ⟨gs, q, none⟩ = some (.int .i64 (gn : Int)) := (World.cell?_of_block (a := ⟨gs, q, none⟩) ((hgrow9.block gs (Nat.lt_of_lt_of_le hgs6 HB68.out.size) (fun e => hgsb (Option.some.inj e))).trans (HB68.out.block gs hgs6))).trans HPP.out)
            have hs8 := HB68.out.size
            have hs5 := HFr6.out.size
            have hst : stK h list (q + 1) = putBlock (stK h list q) g := stK_succ HGq.out
            have hgbw : w.heap.size ≤ gb := by
              rcases HGb.out with h1 | h1
              · omega
              · have := HB5.out.size
                omega
            have HRl : Hid (B2Rel w w5 g0 h list K (q + 1) v9 (.slice (some ⟨gg, 0, none⟩) (q + 1) cap6) (.int .u32 (Crc.on (stK h list q).sum (payB g) : Nat)) (.int .i64 ((A : Int) + (gn : Int))) w9) := Lib.hid (by
              refine ⟨hqk, gb9, cb9, ?_, ?_, ?_, ?_, ?_, fun b hb => ?_, ?_, ?_⟩
              · rw [hst]
                rfl
              · have e : aK (groups list) (q + 1) = A + gn := by rw [aK_succ HGq.out, HA.out, HGn.out]
                rw [e, Int.natCast_add]
              · rw [HFB2.out] at hrb9
                rw [hst]
                exact hrb9
              · rcases hat9 with h1 | h1
                · rw [h1]
                  exact HGb.out
                · exact .inr (by omega)
              · have e : strV ((stK h list (q + 1)).lines.map lnTxt) = strV ((stK h list q).lines.map lnTxt) ++ [.string (S1 ++ x.c ++ S2 ++ S3 ++ S4)] := by
                  rw [hst, HCt.out, ← HX.out, ← HGn.out, ← HBl3.out]
                  simp [putBlock, strV]
                rw [e]
                exact own_grown (own_belowAll HOw6.out HB68.out) hgrow9 (fun b hb e => by
                  cases hb
                  exact hgg (Option.some.inj e).symm)
              · have hb2 : gg = b := Option.some.inj hb
                have hlt9 : gg < w6.heap.size := (HOw6.out.lt gg rfl).2
                rw [← hb2]
                rcases hat9 with h1 | h1
                · rw [h1]
                  exact hgg
                · rw [h1]
                  exact Nat.ne_of_lt (Nat.lt_of_lt_of_le hlt9 hs8)
              · have h8 := grown_then_below HFr6.out (HB68.out.mono hs5)
                refine ⟨hgrow9.os.trans h8.os, hgrow9.tape.trans h8.tape, hgrow9.output.trans h8.output, Nat.le_trans h8.size hgrow9.size, fun b hb hne => (hgrow9.block b (Nat.lt_of_lt_of_le hb h8.size) (fun e => ?_)).trans (h8.block b hb hne)⟩
                have e2 := Option.some.inj e
                rcases HGb.out with h1 | h1
                · exact hne (by rw [e2, h1])
                · omega
              · exact (HHB.out.trans (HB68.out.mono HHB.out.size)).grown hgrow9 (Nat.le_trans HHB.out.size hs8) (fun b hb => by
                  cases hb
                  exact hgbw))
            clear hrb9 hgrow9 hat9 hst
            go_roundw
            case rel => exact ⟨q + 1, by go_num, HRl.out⟩
            case measure => simp [intOf]; omega
          · have hqK : q = K := by omega
            subst hqK
            have hst := stK_all (h := h) (list := list) (k := q) HK.out.symm
            obtain ⟨hok, hll, hbyt⟩ := blocksSt_ok h HG.out
            have hgl := groups_le HG.out
            rw [hst] at hrb hln ⊢
            rw [HK.out] at hll hgl
            rw [HN.out] at hgl hbyt
            obtain ⟨st, hs⟩ : ∃ st, blocksSt h list = st := ⟨_, rfl⟩
            rw [hs] at hrb hln hok hll hbyt ⊢
            have hbv := hrb.val
            subst hbv
            obtain ⟨lp, lc, rfl, hlc1, hlc2, hlpp⟩ := own_rd hln
            have hLl : (st.lines.map lnTxt).length = q := by rw [List.length_map, hll]
            have hLs : ∀ s ∈ st.lines.map lnTxt, 0 < s.size ∧ s.size ≤ 4096 := fun s hs => by
              obtain ⟨y, hy, rfl⟩ := List.mem_map.1 hs
              have := lineB_len (hok.good y hy)
              exact ⟨this.1, Nat.le_trans this.2 (by decide)⟩
            have CF2 := Filled_calls lp q lc (st.lines.map lnTxt) hLl (by omega) hLs wr (sl_own hln hLl)
            rw [ln_grp] at CF2
            have HCF2 := Lib.hid CF2
            have HFr := Lib.hid hfr
            have HBl2 := Lib.hid hbl2
            have HRb2 := Lib.hid hrb
            have HLn := Lib.hid hln
            have HLg := Lib.hid hlg
            have HLl := Lib.hid hLl
            have HLs := Lib.hid hLs
            have HOk := Lib.hid hok
            have HSt := Lib.hid hs
            clear hfr hbl2 hrb hln hlg hLl hLs CF2 hok hst hs hlpp
            go_wp2_with fail
            refine HCF2.out.mono ?_
            rintro e w6 ⟨rv, M, rfl, r1, r2, r3, r4⟩
            rw [List.length_map] at r1
            obtain ⟨rp, rc, rfl, hrc1, hrc2, hrpp⟩ := own_rd r3
            have HR3 := Lib.hid r3
            have HR4 := Lib.hid r4
            have HM := Lib.hid r1
            clear r1 r3 r4 hrpp
            go_wp2
            have HLn6 := Lib.hid (own_belowAll HLn.out HR4.out)
            have hrg : ∀ b, (Value.slice rp M rc).ownBlock = some b → b ≠ gb := fun b hb => by
              have h1 := (HR3.out.lt b hb).1
              have h2 := HRb2.out.lt
              omega
            have HRg := Lib.hid hrg
            have H30 : Hid (B3Rel w w6 gb st M 0 (.slice (some ⟨gb, 0, none⟩) st.l.length cb) (.int .i64 0) w6) := Lib.hid (by
              refine ⟨Nat.zero_le _, gb, cb, rfl, ?_, .inl rfl, grown_refl _ _, HBl2.out.trans (HR4.out.mono HBl2.out.size)⟩
              have e : st.l ++ rwK st.lines 0 = st.l := List.append_nil _
              rw [e]
              exact HRb2.out.below HR4.out)
            clear hrg
            go_loopw [9, 13, 19] (fun bv av i wr => ∃ t : Nat, i = .int .i64 t ∧ B3Rel w w6 gb st M t bv av wr) (fun _ _ i _ => M - (intOf i).toNat)
            case atStart => exact ⟨0, rfl, H30.out⟩
            case round =>
              obtain ⟨t, rfl, ht, gc, cc, rfl, hrb3, hgc, hfr3, hbl3⟩ := hrel
              by_cases htM : t < M
              · obtain ⟨g, hg⟩ : ∃ g, (grp szL st.lines)[t]? = some g := ⟨_, List.getElem?_eq_getElem (by rw [HM.out]; exact htM)⟩
                obtain ⟨hgn, hgs4⟩ := grp_ok (sz := szL) (l := st.lines) (fun y hy => by have := lineB_len (HOk.out.good y hy); exact ⟨this.1, Nat.le_trans this.2 (by decide)⟩) g (List.mem_of_getElem? hg)
                have hgle := aK_le (grp_flat szL st.lines) hg
                obtain ⟨A, hA⟩ : ∃ A, aK (grp szL st.lines) t = A := ⟨_, rfl⟩
                obtain ⟨gn, hgn2⟩ : ∃ gn, g.length = gn := ⟨_, rfl⟩
                have hjn : jn (st.lines.map lnTxt) A gn = g.flatMap lineB := by
                  rw [← hA, ← hgn2]
                  exact jn_at lineB (grp_flat szL st.lines) hg
                have hrw := rwK_succ hg
                have hasucc := aK_succ hg
                rw [hA, hgn2] at hasucc
                rw [hA, hgn2, hll] at hgle
                rw [hA]
                have hgpos : 0 < g.length := List.length_pos_iff.2 hgn
                have hrr := own_grown HR3.out hfr3 (fun b hb e => HRg.out b hb (Option.some.inj e).symm)
                obtain ⟨rp2, rc2, e2, _, _, hr2⟩ := own_rd hrr
                cases e2
                obtain ⟨gs, rfl, hgs1, hgs2, hgs3, _⟩ := hr2 (by omega)
                have cs := hgs3 t (by omega)
                rw [natV_get (by rw [List.getElem?_map, hg]; rfl), hgn2] at cs
                have hpl : (g.flatMap lineB).length ≤ 4096 := by
                  have e : (g.flatMap lineB).length = sumSz szL g := by
                    unfold sumSz szL
                    simp [List.length_flatMap]
                  omega
                have hln7 := own_grown HLn6.out hfr3 (fun b hb e => HLg.out b hb (Option.some.inj e).symm)
                have CJ := joined_calls lp q lc A gn (st.lines.map lnTxt) HLl.out (by omega) (by omega) (fun s hs => (HLs.out s hs).2) wr (sl_own hln7 HLl.out)
                rw [hjn] at CJ
                obtain ⟨PB, hPB, hPB2, hPB3⟩ := name_s (g.flatMap lineB)
                rw [hPB] at CJ
                have hPBs : PB.size ≤ 4096 := by omega
                have CFr := fun W => framed_calls 6 (by decide) (by decide) PB (by omega) W
                rw [hPB2] at CFr
                obtain ⟨FB, hFB, hFB2, hFB3⟩ := name_s (frameB 6 (g.flatMap lineB))
                simp only [hFB] at CFr
                have hFBs : FB.size ≤ 4200 := by
                  rw [hFB3, frameB_length]
                  omega
                have HCJ := Lib.hid CJ
                have HCFr := Lib.hid CFr
                have i0' : (0 : Int) ≤ (t : Int) := by omega
                have i1' : (t : Int) < (M : Int) := by omega
                have HFr7 := Lib.hid hfr3
                have HBl7 := Lib.hid hbl3
                have HRb7 := Lib.hid hrb3
                have HGc := Lib.hid hgc
                clear CJ CFr hln7 hjn hPB hPB2 hPB3 hFB hFB3 hrr hr2 hgs3 hpl
                go_wp2_with fail
                refine HCJ.out.mono ?_
                rintro e w7 ⟨rfl, hb7⟩
                have HB7 := Lib.hid hb7
                clear hb7
                go_wp2_with fail
                refine (HCFr.out _).mono ?_
                rintro e w8 ⟨rfl, hb8⟩
                have HB8 := Lib.hid (HB7.out.trans (hb8.mono HB7.out.size))
                have hrb8 := (HRb7.out.below HB7.out).below hb8
                clear hb8
                have hlb : (st.l ++ rwK st.lines t).length ≤ 1000000000 := by
                  have h1 := rwK_le st.lines t
                  have h2 := rowsB_len HOk.out.good
                  rw [hll] at h2
                  rw [List.length_append]
                  omega
                have hAg : IntKind.i64.wrap ((A : Int) + (gn : Int)) = ((A + gn : Nat) : Int) := by rw [IntKind.wrap_i64]; omega
                have hgsc : gs ≠ gc := by
                  have h1 := HRg.out gs rfl
                  rcases HGc.out with h2 | h2
                  · rw [h2]
                    exact h1
                  · have := (HR3.out.lt gs rfl).2
                    omega
                have hcr := HRb7.out.lt
                go_wp2_with (at_builtin; refine wpList_append_rb _ rfl _ _ 53 9 rfl 5 j0 Tryd.underlying53 Tryd.underlying9 hj hy1 hy2 hy3 rfl hrb8 FB rfl (by omega) ?_; intro v9 w9 gb9 cb9 hrb9 hgrow9 hat9; have c9 : w9.cell? ⟨gs, t, none⟩ = some (.int .i64 (gn : Int)) := (World.cell?_of_block (a := ⟨gs, t, none⟩) ((hgrow9.block gs (Nat.lt_of_lt_of_le hgs2 HB8.out.size) (fun e => hgsc (Option.some.inj e))).trans (HB8.out.block gs hgs2))).trans cs)
                have hs8 := HB8.out.size
                have hs6 := HFr7.out.size
                have HRl : Hid (B3Rel w w6 gb st M (t + 1) v9 (.int .i64 ((A : Int) + (gn : Int))) w9) := Lib.hid (by
                  refine ⟨htM, gb9, cb9, ?_, ?_, ?_, ?_, ?_⟩
                  · rw [hasucc, Int.natCast_add]
                  · rw [hFB2, List.append_assoc, ← hrw] at hrb9
                    exact hrb9
                  · rcases hat9 with h1 | h1
                    · rw [h1]
                      exact HGc.out
                    · exact .inr (by omega)
                  · have h8 := grown_then_below HFr7.out (HB8.out.mono hs6)
                    refine ⟨hgrow9.os.trans h8.os, hgrow9.tape.trans h8.tape, hgrow9.output.trans h8.output, Nat.le_trans h8.size hgrow9.size, fun b hb hne => (hgrow9.block b (Nat.lt_of_lt_of_le hb h8.size) (fun e => ?_)).trans (h8.block b hb hne)⟩
                    have e2 := Option.some.inj e
                    rcases HGc.out with h1 | h1
                    · exact hne (by rw [e2, h1])
                    · omega
                  · refine (HBl7.out.trans (HB8.out.mono HBl7.out.size)).grown hgrow9 (Nat.le_trans HBl7.out.size hs8) (fun b hb => ?_)
                    cases hb
                    have h5 := HB5.out.size
                    have h6 := HBl2.out.size
                    have h7 := HR4.out.size
                    rcases HGc.out with h1 | h1
                    · rw [h1]
                      rcases hgb with h2 | h2
                      · omega
                      · omega
                    · omega)
                clear hrb9 hgrow9 hat9
                go_roundw
                case rel => exact ⟨t + 1, by go_num, HRl.out⟩
                case measure => simp [intOf]; omega
              · have htM2 : t = M := by omega
                subst htM2
                have hra := rwK_all (lines := st.lines) (k := t) HM.out.symm
                rw [hra] at hrb3
                have hsum := HOk.out.sum
                have CN1 := fun W => num6_calls (q : Int) W
                have CN2 := fun W => num6_calls ((st.l.length : Nat) : Int) W
                have CN3 := fun W => four_calls ((st.sum : Nat) : Int) (by omega) (by omega) W
                obtain ⟨S1, e1, f1, g1⟩ := name_s (vNum (q : Int))
                obtain ⟨S2, e2, f2, g2⟩ := name_s (vNum ((st.l.length : Nat) : Int))
                obtain ⟨S3, e3, f3, g3⟩ := name_s (fourB ((st.sum : Nat) : Int))
                simp only [e1] at CN1
                simp only [e2] at CN2
                simp only [e3] at CN3
                have l1 := vNum_len (q : Int)
                have l2 := vNum_len ((st.l.length : Nat) : Int)
                have l3 := fourB_len ((st.sum : Nat) : Int)
                have q1 := add_run (a := S1) (b := S2) (by omega)
                have q2 := add_run (a := S1 ++ S2) (b := S3) (by simp only [ByteArray.size_append]; omega)
                have hw3 : IntKind.i64.wrap ((st.sum : Nat) : Int) = ((st.sum : Nat) : Int) := by rw [IntKind.wrap_i64]; omega
                have HN1 := Lib.hid CN1
                have HN2 := Lib.hid CN2
                have HN3 := Lib.hid CN3
                have HBl7 := Lib.hid hbl3
                have HRb7 := Lib.hid hrb3
                clear CN1 CN2 CN3 hra
                go_wp2_with fail
                refine (HN1.out _).mono ?_
                rintro e w7 ⟨rfl, hb7⟩
                go_wp2_with fail
                refine (HN2.out _).mono ?_
                rintro e w8 ⟨rfl, hb8⟩
                go_wp2_with fail
                refine (HN3.out _).mono ?_
                rintro e w9 ⟨rfl, hb9⟩
                obtain ⟨P7, hP7⟩ : ∃ P, S1 ++ S2 ++ S3 = P := ⟨_, rfl⟩
                have hP7b : P7.data.toList = footB st := by
                  rw [← hP7, ← e1, ← e2, ← e3, str_app, str_app]
                  unfold footB
                  rw [hll]
                have hP7s : P7.size ≤ 24 := by
                  have h1 : P7.size = P7.data.toList.length := rfl
                  rw [h1, hP7b]
                  exact footB_len
                have CF7 := fun W => framed_calls 7 (by decide) (by decide) P7 (by omega) W
                rw [hP7b] at CF7
                obtain ⟨FB, e4, f4, g4⟩ := name_s (frameB 7 (footB st))
                simp only [e4] at CF7
                have HN4 := Lib.hid CF7
                rw [hP7] at q2
                have hFB : FB.size ≤ 4200 := by
                  have := footB_len (st := st)
                  rw [g4, frameB_length]
                  omega
                have hlb : (st.l ++ rowsB st.lines).length ≤ 1000000000 := by
                  have h2 := rowsB_len HOk.out.good
                  have h3 := stK_len (h := h) HG.out q
                  rw [stK_all HK.out.symm, HSt.out, HN.out] at h3
                  rw [hll] at h2
                  rw [List.length_append]
                  omega
                obtain ⟨LS, hLS, _, _⟩ := name_s (st.l ++ rowsB st.lines ++ FB.data.toList)
                have HFile : Hid ((⟨(fileB h list).toArray⟩ : ByteArray) = LS) := Lib.hid (by
                  rw [← hLS, f4]
                  unfold fileB
                  rw [HSt.out])
                have HGc := Lib.hid hgc
                have hbl9 : Below w.heap.size w w9 := (HBl7.out.trans (hb7.mono HBl7.out.size)).trans ((hb8.trans (hb9.mono hb8.size)).mono (Nat.le_trans HBl7.out.size hb7.size))
                have HBl9 := Lib.hid hbl9
                have hrb9 := ((HRb7.out.below hb7).below hb8).below hb9
                clear CF7 hP7 hP7b e1 e2 e3 e4 f1 f2 f3 f4 g1 g2 g3 g4 hb7 hb8 hb9 hbl9 hrb3 hbl3
                go_wp2_with fail
                refine (HN4.out _).mono ?_
                rintro e w10 ⟨rfl, hb10⟩
                have hrb10 := hrb9.below hb10
                have HBl10 := Lib.hid (HBl9.out.trans (hb10.mono HBl9.out.size))
                clear hb10 hrb9
                go_wp2_with (at_builtin; refine wpList_append_rb _ rfl _ _ 53 9 rfl 5 j0 Tryd.underlying53 Tryd.underlying9 hj hy1 hy2 hy3 rfl hrb10 FB rfl (by omega) ?_; intro v11 w11 gb11 cb11 hrb11 hgrow11 hat11; have hs11 := hrb11.toStr 53 9 5 Tryd.underlying53 Tryd.underlying5 Tryd.underlying9; rw [hLS] at hs11)
                go_ret2
                refine ⟨by rw [← HFile.out]; rfl, HBl10.out.grown hgrow11 HBl10.out.size (fun b hb => ?_)⟩
                cases hb
                have h5 := HB5.out.size
                have h6 := HBl2.out.size
                have h7 := HR4.out.size
                rcases HGc.out with h1 | h1
                · rcases hgb with h2 | h2
                  · omega
                  · omega
                · omega
  · have HEnd : Hid (∀ w', Below w.heap.size w w' → BuildPost w (builtR h list) (.returned (.tuple #[.string ⟨#[]⟩, .int .i64 R])) w') := Lib.hid (fun w' hb => ⟨by unfold builtR; rw [hR, if_neg h0], hb⟩)
    have hne : (R != 0) = true := by rw [bne_iff_ne]; exact h0
    clear CG CG1 hE1 hR hn hE hz0 hcs h0
    go_enter Tryd.func13, Tryd.ntmps13
    go_wp2_with fail
    refine HC.out.mono ?_
    rintro e w1 ⟨rfl, hb1⟩
    have HB := Lib.hid (((Below.refl _ w).alloc (Nat.le_refl _) (.cells #[.int .i64 h.w, .int .i64 h.t, .int .i64 h.b, .int .i64 h.lo, .int .i64 h.hi, .int .i64 h.n] 23)).trans (hb1.mono (by simp)))
    clear hb1
    go_wp2
    go_ret2
    exact HEnd.out _ HB.out
end Go.Proofs.YtihgjihdmlomaaaDoor
