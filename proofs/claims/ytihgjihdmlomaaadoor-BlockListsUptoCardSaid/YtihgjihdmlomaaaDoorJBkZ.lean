/-
  WALK: the index and the foot, by the program.
-/
import Derived.Test.YtihgjihdmlomaaaDoorJBkY
namespace Go.Proofs.YtihgjihdmlomaaaDoor
open Go.RowKit ArgK
set_option linter.unusedVariables false

theorem cells7 {W : World} {b : Nat} {v0 v1 v2 v3 v4 v5 v6 : Value} {t : TypeId} {fr : Nat × Nat} (h : W.heap[b]? = some (.cells #[v0, v1, v2, v3, v4, v5, v6] t fr)) : W.cell? ⟨b, 0, none⟩ = some v0 ∧ W.cell? ⟨b, 1, none⟩ = some v1 ∧ W.cell? ⟨b, 2, none⟩ = some v2 ∧ W.cell? ⟨b, 3, none⟩ = some v3 ∧ W.cell? ⟨b, 4, none⟩ = some v4 ∧ W.cell? ⟨b, 5, none⟩ = some v5 ∧ W.cell? ⟨b, 6, none⟩ = some v6 :=
  ⟨by rw [cell_of_row _ _ 0 _ _ _ h]; rfl, by rw [cell_of_row _ _ 1 _ _ _ h]; rfl, by rw [cell_of_row _ _ 2 _ _ _ h]; rfl, by rw [cell_of_row _ _ 3 _ _ _ h]; rfl, by rw [cell_of_row _ _ 4 _ _ _ h]; rfl, by rw [cell_of_row _ _ 5 _ _ _ h]; rfl, by rw [cell_of_row _ _ 6 _ _ _ h]; rfl⟩

theorem drop_consL {L : List Ln} {k : Nat} {x : Ln} (h : L[k]? = some x) : L.drop k = x :: L.drop (k + 1) := by
  obtain ⟨hk, e⟩ := List.getElem?_eq_some_iff.1 h
  rw [List.drop_eq_getElem_cons hk, e]

theorem take_snocL {L : List Ln} {k : Nat} {x : Ln} (h : L[k]? = some x) : L.take (k + 1) = L.take k ++ [x] := by
  rw [List.take_add_one, h]
  rfl

def rowsOf (rs : List (List Ln)) : List UInt8 := rs.flatMap (fun q => frameB 6 (q.flatMap lineB))

/-- At the head of each round over the lines. -/
def IxRel (w : World) (B r m : Nat) (st : BSt) (lv : Value) (k : Nat) (pv : Value) (wr : World) : Prop :=
  k ≤ m ∧ ∃ (rs : List (List Ln)) (cur : List Ln) (P : ByteArray), pv = .string P ∧ P.data.toList = cur.flatMap lineB ∧ P.size ≤ 4096 ∧ grp szL st.lines = rs ++ grpGo szL (st.lines.drop k) cur P.size ∧ (cur = [] → k = 0) ∧ st.lines.take k = rs.flatten ++ cur ∧ Bd wr B r ⟨st.l ++ rowsOf rs, st.lines, st.sum⟩ ∧ wr.ownsRow B 134 7 lv m (encL st.lines) ∧ Below B w wr

theorem emp_app (S : ByteArray) : (⟨#[]⟩ : ByteArray) ++ S = S := by
  rw [ByteArray.ext_iff]
  simp

theorem rows_bd {lines cur : List Ln} {rs gs : List (List Ln)} {k : Nat} (hs : ∀ x ∈ lines, 0 < szL x ∧ szL x ≤ 162) (h : lines.take k = rs.flatten ++ cur) (hg : grp szL lines = rs ++ gs) : (rowsOf rs).length ≤ lines.length * 176 := by
  have hne : ∀ q ∈ rs, q ≠ [] := fun q hq => (grp_ok (sz := szL) (l := lines) (fun x hx => by have := hs x hx; omega) q (by rw [hg]; exact List.mem_append_left _ hq)).1
  have key : ∀ gs : List (List Ln), (rowsOf gs).length = gs.length * 14 + sumSz szL gs.flatten := by
    intro gs
    induction gs with
    | nil => rfl
    | cons g gs ih =>
      have hp : (g.flatMap lineB).length = sumSz szL g := by
        unfold sumSz szL
        induction g with
        | nil => rfl
        | cons x g ih => simp [ih]
      unfold rowsOf at *
      simp only [List.flatMap_cons, List.length_append, frameB_length, ih, hp, List.flatten_cons, sumSz_append, List.length_cons]
      omega
  have h1 := flat_count rs hne
  have h2 : sumSz szL rs.flatten ≤ rs.flatten.length * 162 := sumSz_le _ (fun x hx => (hs x (List.mem_of_mem_take (h ▸ List.mem_append_left _ hx : x ∈ lines.take k))).2)
  have hl := congrArg List.length h
  rw [List.length_take, List.length_append] at hl
  have h3 : rs.flatten.length ≤ lines.length := by omega
  rw [key]
  have : rs.flatten.length * 162 ≤ lines.length * 162 := Nat.mul_le_mul_right _ h3
  omega

theorem own_neR {w : World} {B r m : Nat} {st : BSt} {lv : Value} (h : Bd w B r st) (hr : w.ownsRow B 134 7 lv m (encL st.lines)) : lv.ownBlock ≠ some r := by
  obtain ⟨p, _, v, lv', hb, _⟩ := h.ex
  exact own_neB hr hb (by decide)

set_option maxRecDepth 100000 in
set_option maxHeartbeats 4000000 in
theorem index_calls (B r : Nat) (st : BSt) (w : World) (hT : Tab w) (hTB : 1 < B) (h : Bd w B r st) (hs : StOk st) (hl : st.l.length ≤ 400000000) (hm : st.lines.length ≤ 2097152) :
    Calls Tryd.prog 60 #[.pointer (some ⟨r, 0, none⟩)] w fun e w' => e = .returned (.tuple #[]) ∧ Bd w' B r ⟨st.l ++ rowsB st.lines ++ frameB 7 (footB st), st.lines, st.sum⟩ ∧ Below B w w' := by
  have hBw : B ≤ w.heap.size := Nat.le_trans h.le (Nat.le_of_lt h.lt)
  have CL := Len_calls B r st w h
  obtain ⟨p0, hB, v, lv, hbk, hown, hlin⟩ := h.ex
  obtain ⟨lp, lc, rfl, hlc, _⟩ := own_rd hlin
  obtain ⟨m, hmm⟩ : ∃ m, st.lines.length = m := ⟨_, rfl⟩
  rw [hmm] at hbk hlin hm hlc
  have c2 : w.cell? ⟨r, 2, none⟩ = some (.slice lp m lc) := by
    unfold bdB at hbk
    simp [World.cell?, hbk]
  obtain ⟨bl, hbl⟩ : ∃ bl, st.l.length = bl := ⟨_, rfl⟩
  rw [hbl] at CL hl
  have HBL := Lib.hid hbl
  have HM := Lib.hid hmm
  have HS := Lib.hid hs
  have hSz : ∀ x ∈ st.lines, 0 < szL x ∧ szL x ≤ 162 := fun x hx => lineB_len (hs.good x hx)
  have HSz := Lib.hid hSz
  have HC := Lib.hid CL
  have H0 : Hid (IxRel w B r m st (.slice lp m lc) 0 (.string ⟨#[]⟩) w) := Lib.hid ⟨Nat.zero_le _, [], [], ⟨#[]⟩, rfl, rfl, Nat.zero_le _, rfl, fun _ => rfl, rfl, by simpa [rowsOf] using h, hlin, Below.refl _ _⟩
  clear hbk hown hlin h CL hmm hbl hs hSz
  go_enter Tryd.func60, Tryd.ntmps60
  go_wp2_with fail
  refine HC.out.mono ?_
  rintro e w0 ⟨rfl, rfl⟩
  go_wp2
  go_loopw [3, 18] (fun pv i wr => ∃ k : Nat, i = .int .i64 k ∧ IxRel w0 B r m st (.slice lp m lc) k pv wr) (fun _ i _ => m - (intOf i).toNat)
  case atStart => exact ⟨0, rfl, H0.out⟩
  case round =>
    obtain ⟨k, rfl, hk, rs, cur, P, rfl, hP, hP4, hgr, hc0, htk, hBd, hlin, hbl⟩ := hrel
    have hrb : (rowsOf rs).length ≤ m * 176 := by
      have := rows_bd HSz.out htk hgr
      rw [HM.out] at this
      exact this
    have HTk := Lib.hid htk
    obtain ⟨wo, rfl⟩ : ∃ wo : World, wo = wr := ⟨_, rfl⟩
    have hbs := hbl.size
    by_cases hlt : k < m
    · obtain ⟨x, hx⟩ : ∃ x, st.lines[k]? = some x := ⟨_, List.getElem?_eq_getElem (by rw [HM.out]; exact hlt)⟩
      have hxm := List.mem_of_getElem? hx
      have hgx := HS.out.good x hxm
      obtain ⟨S, hS1, hS2, hS3⟩ := name_s (lineB x)
      have hS4 := HSz.out x hxm
      obtain ⟨g, rfl, hgc⟩ : ∃ g, lp = some ⟨g, 0, none⟩ ∧ (∀ j, j < m * 7 → wo.cell? ⟨g, j, none⟩ = (encL st.lines)[j]?) := by
        obtain ⟨q, d, e, _, _, hr⟩ := own_rd hlin
        simp only [Value.slice.injEq] at e
        obtain ⟨g, e2, _, _, h3, _⟩ := hr (by omega)
        exact ⟨g, e.1.trans e2, h3⟩
      have hcell : ∀ t, t < 7 → wo.cell? ⟨g, k * 7 + t, none⟩ = x.cells[t]? := fun t ht => by rw [hgc (k * 7 + t) (by omega), encL_get st.lines k x hx t ht]
      have hnr := own_neR hBd hlin
      have HP1 := Lib.hid hP
      have HGr := Lib.hid hgr
      have HX := Lib.hid hx
      have HBd := Lib.hid hBd
      have HLin := Lib.hid hlin
      have HBl := Lib.hid hbl
      have HNR := Lib.hid hnr
      have HLB : Hid ((lineB x).length = S.size) := Lib.hid hS3.symm
      have HS2 := Lib.hid hS2
      have hSs : S.size ≤ 162 := by rw [hS3]; exact hS4.2
      have hgv := hgx.1
      have hgv2 := hgx.2.1
      have hgc2 := hgx.2.2
      -- the parts of the line
      have CP := fun W => placed_calls x.first hgx.1 hgx.2.1 (by have := hgx.2.2; omega) W
      obtain ⟨F, hF1, hF2, hF3⟩ := name_s (placedB x.first)
      obtain ⟨I, hI1, hI2, hI3⟩ := name_s (vNum x.count)
      obtain ⟨A, hA1, hA2, hA3⟩ := name_s (vNum x.pos)
      have hFI : (F ++ I) ++ A = S := by
        rw [← hS1]
        unfold lineB
        rw [← str_app, ← str_app, hF1, hI1, hA1]
      have hFl : F.size ≤ 300 := by
        rw [hF3]
        have h4 := vNum_len x.first.i
        have h5 := fourB_len x.first.v
        have h6 : x.first.c.data.toList.length = x.first.c.size := rfl
        simp only [placedB, List.length_append]
        omega
      have hIl : I.size ≤ 10 := by rw [hI3]; exact vNum_len _
      have hAl : A.size ≤ 10 := by rw [hA3]; exact vNum_len _
      have HFI := Lib.hid hFI
      have c0 := hcell 0 (by decide)
      have c1 := hcell 1 (by decide)
      have c2' := hcell 2 (by decide)
      have c3 := hcell 3 (by decide)
      have c4 := hcell 4 (by decide)
      have c5 := hcell 5 (by decide)
      have c6 := hcell 6 (by decide)
      obtain ⟨⟨xv, xc, xi, xs, xd⟩, cnt, ps⟩ := x
      simp only [Ln.cells, Ent.cells, List.cons_append, List.nil_append, List.getElem?_cons_zero, List.getElem?_cons_succ, Nat.add_zero] at c0 c1 c2' c3 c4 c5 c6
      simp only [Ent.val, hF1] at CP
      obtain ⟨w1, hw1⟩ : ∃ w1, wo.alloc (.cells #[.int .i64 xv, .string xc, .int .i64 xi, .int .i64 xs, .bool xd, .int .i64 cnt, .int .i64 ps] 134) = w1 := ⟨_, rfl⟩
      have hz : w1.heap[wo.heap.size]? = some (.cells #[.int .i64 xv, .string xc, .int .i64 xi, .int .i64 xs, .bool xd, .int .i64 cnt, .int .i64 ps] 134 (0, 0)) := by rw [← hw1]; exact World.alloc_heap_new wo _
      have hb1 : Below wo.heap.size wo w1 := by rw [← hw1]; exact (Below.refl _ wo).alloc (Nat.le_refl _) _
      have HW1 := Lib.hid hw1
      have HB1 := Lib.hid hb1
      have HF : Hid (∀ W, Below w1.heap.size w1 W → Calls Tryd.prog 86 #[.agg #[.int .i64 xv, .string xc, .int .i64 xi, .int .i64 xs, .bool xd]] W (fun e W' => e = .returned (.string F) ∧ Below w1.heap.size w1 W')) := Lib.hid (fun W hW => (CP W).mono (fun e W' ⟨k1, k2⟩ => ⟨k1, hW.trans (k2.mono hW.size)⟩))
      have HI : Hid (∀ W, Below w1.heap.size w1 W → Calls Tryd.prog 58 #[.int .i64 (cnt : Nat)] W (fun e W' => e = .returned (.string I) ∧ Below w1.heap.size w1 W')) := Lib.hid (fun W hW => by rw [← hI1]; exact (number_calls cnt W).mono (fun e W' ⟨k1, k2⟩ => ⟨k1, hW.trans (k2.mono hW.size)⟩))
      have HA : Hid (∀ W, Below w1.heap.size w1 W → Calls Tryd.prog 58 #[.int .i64 (ps : Nat)] W (fun e W' => e = .returned (.string A) ∧ Below w1.heap.size w1 W')) := Lib.hid (fun W hW => by rw [← hA1]; exact (number_calls ps W).mono (fun e W' ⟨k1, k2⟩ => ⟨k1, hW.trans (k2.mono hW.size)⟩))
      have HK : Hid (∀ W, Below w1.heap.size w1 W → W.cell? ⟨wo.heap.size, 0, none⟩ = some (.int .i64 xv) ∧ W.cell? ⟨wo.heap.size, 1, none⟩ = some (.string xc) ∧ W.cell? ⟨wo.heap.size, 2, none⟩ = some (.int .i64 xi) ∧ W.cell? ⟨wo.heap.size, 3, none⟩ = some (.int .i64 xs) ∧ W.cell? ⟨wo.heap.size, 4, none⟩ = some (.bool xd) ∧ W.cell? ⟨wo.heap.size, 5, none⟩ = some (.int .i64 cnt) ∧ W.cell? ⟨wo.heap.size, 6, none⟩ = some (.int .i64 ps)) := Lib.hid (fun W hW => cells7 ((hW.block wo.heap.size (Array.getElem?_eq_some_iff.1 hz).1).trans hz))
      obtain ⟨z0, z1, z2, z3, z4, z5, z6⟩ := cells7 hz
      have hb0 : Below w1.heap.size w1 w1.drew := (Below.refl _ w1).drew
      have q1 := add_run (a := F) (b := I) (by omega)
      have q2 := add_run (a := F ++ I) (b := A) (by simp only [ByteArray.size_append]; omega)
      have i0' : (0 : Int) ≤ (k : Int) := by omega
      have i1' : (k : Int) < (m : Int) := by omega
      clear hP hgr htk hx hxm hgx hS1 hS2 hS3 hS4 hgc hcell hBd hlin hbl hnr CP hF1 hF2 hF3 hI1 hI2 hI3 hA1 hA2 hA3 hFI hz hb1 hw1 hgv hgv2 hgc2 c2
      go_wp2
      rw [HW1.out]
      go_region_held3 (fun W => W.cell? ⟨wo.heap.size, 0, none⟩ = some (.int .i64 xv) ∧ W.cell? ⟨wo.heap.size, 1, none⟩ = some (.string xc) ∧ W.cell? ⟨wo.heap.size, 2, none⟩ = some (.int .i64 xi) ∧ W.cell? ⟨wo.heap.size, 3, none⟩ = some (.int .i64 xs) ∧ W.cell? ⟨wo.heap.size, 4, none⟩ = some (.bool xd) ∧ W.cell? ⟨wo.heap.size, 5, none⟩ = some (.int .i64 cnt) ∧ W.cell? ⟨wo.heap.size, 6, none⟩ = some (.int .i64 ps)) (first | exact ⟨z0, z1, z2, z3, z4, z5, z6⟩ | exact HK.out _ (by assumption)) (first | (go_at_call 86; (with_reducible refine (HF.out _ (by assumption)).mono ?_); rintro e wq ⟨rfl, hcq⟩) | (go_at_call 58; (with_reducible refine (HI.out _ (by assumption)).mono ?_); rintro e wq ⟨rfl, hcq⟩) | (go_at_call 58; (with_reducible refine (HA.out _ (by assumption)).mono ?_); rintro e wq ⟨rfl, hcq⟩))
      rw [HFI.out]
      have HBW := Lib.hid (HB1.out.trans (hcq.mono HB1.out.size))
      have HBQ := Lib.hid (HBl.out.trans (HBW.out.mono (Nat.le_trans hBw hbs)))
      clear hcq q1 q2 z0 z1 z2 z3 z4 z5 z6 c0 c1 c2' c3 c4 c5 c6 hb0 hFl hIl hAl
      by_cases hfl : 4096 < P.size + S.size
      · have hcn : cur ≠ [] := fun e => by
          subst e
          have h0 : P.size = 0 := by rw [size_data, HP1.out]; rfl
          omega
        have CF := frame_calls B r ⟨st.l ++ rowsOf rs, st.lines, st.sum⟩ 6 (by decide) (by decide) P (by omega) wq (hT.belowB hTB HBQ.out) (HBd.out.below HBW.out) (by simp only [List.length_append]; rw [HBL.out]; omega)
        have HNx : Hid (∀ w2, Bd w2 B r ⟨(st.l ++ rowsOf rs) ++ frameB 6 P.data.toList, st.lines, st.sum⟩ → Below B wq w2 → Oth wq w2 r → IxRel w0 B r m st (.slice (some ⟨g, 0, none⟩) m lc) (k + 1) (.string (⟨#[]⟩ ++ S)) w2) := Lib.hid (fun w2 hd hb ho => by
          refine ⟨by omega, rs ++ [cur], [⟨⟨xv, xc, xi, xs, xd⟩, cnt, ps⟩], _, rfl, ?_, ?_, ?_, fun e => by simp at e, ?_, ?_, ho.own (own_belowAll HLin.out HBW.out) (by decide) HNR.out, HBQ.out.trans hb⟩
          · rw [emp_app]; simp [HS2.out]
          · rw [emp_app]; omega
          · rw [HGr.out, drop_consL HX.out, grpGo, if_pos (by unfold szL; rw [HLB.out]; omega)]
            rw [emp_app, ← HLB.out]
            simp [szL]
          · rw [take_snocL HX.out, HTk.out]; simp
          · have h1 : rowsOf (rs ++ [cur]) = rowsOf rs ++ frameB 6 (cur.flatMap lineB) := by simp [rowsOf]
            rw [h1, ← HP1.out, ← List.append_assoc]
            exact hd)
        have HCF := Lib.hid CF
        have hd : decide ((4096 : Int) < (P.size : Int) + (S.size : Int)) = true := by simp; omega
        clear CF hcn
        go_wp2_with fail
        refine HCF.out.mono ?_
        rintro e w2 ⟨rfl, hd2, hb2, ho2⟩
        have HR := Lib.hid (HNx.out w2 hd2 hb2 ho2)
        clear hd2 hb2 ho2
        go_wp2
        go_roundw
        case rel => exact ⟨k + 1, by go_num, HR.out⟩
        case measure => simp [intOf]; omega
      · have hd : decide ((4096 : Int) < (P.size : Int) + (S.size : Int)) = false := by simp; omega
        have HNx : Hid (IxRel w0 B r m st (.slice (some ⟨g, 0, none⟩) m lc) (k + 1) (.string (P ++ S)) wq) := Lib.hid (by
          refine ⟨by omega, rs, cur ++ [⟨⟨xv, xc, xi, xs, xd⟩, cnt, ps⟩], _, rfl, ?_, ?_, ?_, fun e => by simp at e, by rw [take_snocL HX.out, HTk.out]; simp, HBd.out.below HBW.out, own_belowAll HLin.out HBW.out, HBQ.out⟩
          · rw [cat_data, HP1.out, HS2.out]; simp
          · rw [ByteArray.size_append]; omega
          · rw [HGr.out, drop_consL HX.out, grpGo, if_neg (by unfold szL; rw [HLB.out]; omega), ByteArray.size_append, ← HLB.out]
            rfl)
        go_wp2
        go_roundw
        case rel => exact ⟨k + 1, by go_num, HNx.out⟩
        case measure => simp [intOf]; omega
    · obtain rfl : k = m := by omega
      rw [List.drop_eq_nil_of_le (by rw [HM.out]; exact Nat.le_refl _)] at hgr
      have hmid : ∀ w2 : World, Bd w2 B r ⟨st.l ++ rowsB st.lines, st.lines, st.sum⟩ → Below B w0 w2 → Tab w2 := fun w2 _ hb => hT.belowB hTB hb
      obtain ⟨F, hF1, hF2, hF3⟩ := name_s (fourB st.sum)
      obtain ⟨I, hI1, hI2, hI3⟩ := name_s (vNum k)
      obtain ⟨A, hA1, hA2, hA3⟩ := name_s (vNum bl)
      have hFI : ((I ++ A) ++ F).data.toList = footB st := by
        rw [cat_data, cat_data, hI2, hA2, hF2]
        unfold footB
        rw [HM.out, HBL.out]
      have hFl : F.size ≤ 4 := by rw [hF3, fourB_len]; exact Nat.le_refl _
      have hIl : I.size ≤ 10 := by rw [hI3]; exact vNum_len _
      have hAl : A.size ≤ 10 := by rw [hA3]; exact vNum_len _
      have HFI := Lib.hid hFI
      have hss := HS.out.sum
      have hrbA : (rowsB st.lines).length ≤ k * 176 := by
        have := rowsB_len HS.out.good
        rw [HM.out] at this
        exact this
      have HPF : Hid (∀ W, Calls Tryd.prog 87 #[.int .u64 (st.sum : Nat), .int .i64 4] W (fun e w' => e = .returned (.tuple #[.string F, .int .i64 0]) ∧ Below W.heap.size W w')) := Lib.hid (fun W => by
        have := PutFix_calls st.sum (by omega) 4 W
        rw [putFix_four hss] at this
        have hF : fixedB st.sum 4 = fourB st.sum := rfl
        rw [hF, hF1] at this
        exact this)
      have HNI : Hid (∀ W, Calls Tryd.prog 58 #[.int .i64 (k : Nat)] W (fun e w' => e = .returned (.string I) ∧ Below W.heap.size W w')) := Lib.hid (fun W => by rw [← hI1]; exact number_calls k W)
      have HNA : Hid (∀ W, Calls Tryd.prog 58 #[.int .i64 (bl : Nat)] W (fun e w' => e = .returned (.string A) ∧ Below W.heap.size W w')) := Lib.hid (fun W => by rw [← hA1]; exact number_calls bl W)
      clear hF1 hF2 hF3 hI1 hI2 hI3 hA1 hA2 hA3 hFI hmid
      -- the rows, whole
      have hlb : ∀ c : List Ln, (∀ x ∈ c, 0 < (lineB x).length) → (c.flatMap lineB).length = 0 → c = [] := fun c hc h0 => by
        cases c with
        | nil => rfl
        | cons y c =>
          have := hc y (by simp)
          simp at h0
          rw [h0.1] at this
          simp at this
      have hcz : P.size = 0 → cur = [] := fun e => by
        rw [size_data, hP] at e
        refine hlb cur (fun x hx => ?_) e
        have hxm : x ∈ st.lines := List.mem_of_mem_take (i := k) (by rw [htk]; exact List.mem_append_right _ hx)
        exact (HSz.out x hxm).1
      obtain ⟨ne, hne⟩ : ∃ b, (!P.toList.isEmpty) = b := ⟨_, rfl⟩
      have hNE : Hid ((ne = false → cur = []) ∧ (ne = true → cur ≠ [])) := Lib.hid (by
        rw [← hne, ByteArray.toList_eq]
        refine ⟨fun h => hcz ?_, fun h e => ?_⟩
        · simp at h
          rw [size_data, h]
          rfl
        · subst e
          rw [hP] at h
          simp at h)
      have HE0 : Hid (cur = [] → Bd wo B r ⟨st.l ++ rowsB st.lines, st.lines, st.sum⟩ ∧ Below B w0 wo) := Lib.hid (fun e => by
        subst e
        refine ⟨?_, hbl⟩
        have : rowsB st.lines = rowsOf rs := by
          unfold rowsB rowsOf
          rw [hgr]
          simp [grpGo]
        rw [this]
        exact hBd)
      have HCF := Lib.hid (frame_calls B r ⟨st.l ++ rowsOf rs, st.lines, st.sum⟩ 6 (by decide) (by decide) P (by omega) wo (hT.belowB hTB hbl) hBd (by simp only [List.length_append]; rw [HBL.out]; omega))
      have HE1 : Hid (cur ≠ [] → ∀ w2, Bd w2 B r ⟨(st.l ++ rowsOf rs) ++ frameB 6 P.data.toList, st.lines, st.sum⟩ → Below B wo w2 → Bd w2 B r ⟨st.l ++ rowsB st.lines, st.lines, st.sum⟩ ∧ Below B w0 w2) := Lib.hid (fun hcn w2 hd hb => by
        refine ⟨?_, hbl.trans hb⟩
        have : rowsB st.lines = rowsOf rs ++ frameB 6 P.data.toList := by
          unfold rowsB rowsOf
          rw [hgr, hP]
          simp [grpGo, hcn]
        rw [this, ← List.append_assoc]
        exact hd)
      clear hBd hlin hbl hgr htk hP hlb hcz hc0 hrb
      go_upto_if 47 with fail
      clear hne
      go_cut [] from 47 to 50 (fun wx => Bd wx B r ⟨st.l ++ rowsB st.lines, st.lines, st.sum⟩ ∧ Below B w0 wx)
      case first =>
        cases ne with
        | false =>
          go_wp2
          go_meet
          exact HE0.out (hNE.out.1 (by trivial))
        | true =>
          go_wp2_with fail
          refine HCF.out.mono ?_
          rintro e w2 ⟨rfl, hd2, hb2, _⟩
          have HR := Lib.hid (HE1.out (hNE.out.2 (by trivial)) w2 hd2 hb2)
          clear hd2 hb2
          go_wp2
          go_meet
          exact HR.out
      case rest =>
        obtain ⟨hd, hb⟩ := hcut
        obtain ⟨p1, _, v', lv', hbk', hown', hlin'⟩ := hd.ex
        obtain ⟨lp', lc', rfl, _⟩ := own_rd hlin'
        have hlt' := hd.lt
        have HLt := Lib.hid hlt'
        have HD := Lib.hid hd
        have HB0 := Lib.hid hb
        have HBK := Lib.hid hbk'
        have d3 : wc.cell? ⟨r, 3, none⟩ = some (.int .u32 st.sum) := by
          unfold bdB at hbk'
          simp [World.cell?, hbk']
        have HMm := HM.out
        clear hd hb hbk' hown' hlin' hlt'
        go_wp2_with fail
        refine (HPF.out _).mono ?_
        rintro e w1 ⟨rfl, hb1⟩
        have HB1 := Lib.hid hb1
        have d2 : w1.cell? ⟨r, 2, none⟩ = some (.slice lp' k lc') := by
          have h := (hb1.block r HLt.out).trans HBK.out
          unfold bdB at h
          simp [World.cell?, h, HMm]
        clear hb1 d3
        go_wp2_with fail
        refine (HNI.out _).mono ?_
        rintro e w2 ⟨rfl, hb2⟩
        have HB2 := Lib.hid (HB1.out.trans (hb2.mono HB1.out.size))
        clear hb2
        go_wp2_with fail
        refine (HNA.out _).mono ?_
        rintro e w3 ⟨rfl, hb3⟩
        have HB3 := Lib.hid (HB2.out.trans (hb3.mono HB2.out.size))
        have q1 := add_run (a := I) (b := A) (by omega)
        have q2 := add_run (a := I ++ A) (b := F) (by simp only [ByteArray.size_append]; omega)
        have hsz : ((I ++ A) ++ F).size ≤ 24 := by simp only [ByteArray.size_append]; omega
        have CF := frame_calls B r ⟨st.l ++ rowsB st.lines, st.lines, st.sum⟩ 7 (by decide) (by decide) ((I ++ A) ++ F) (by omega) w3 (hT.belowB hTB (HB0.out.trans (HB3.out.mono (Nat.le_trans HD.out.le (Nat.le_of_lt HD.out.lt))))) (HD.out.below HB3.out) (by simp only [List.length_append]; rw [HBL.out]; omega)
        rw [HFI.out] at CF
        have HCF := Lib.hid CF
        have HBE := Lib.hid (HB0.out.trans (HB3.out.mono (Nat.le_trans HD.out.le (Nat.le_of_lt HD.out.lt))))
        clear hb3 CF d2
        go_wp2_with fail
        refine HCF.out.mono ?_
        rintro e w4 ⟨rfl, hd4, hb4, _⟩
        have HD4 := Lib.hid hd4
        have HB4 := Lib.hid (HBE.out.trans hb4)
        clear hd4 hb4
        go_wp2
        go_end0
        exact ⟨rfl, HD4.out, HB4.out⟩
end Go.Proofs.YtihgjihdmlomaaaDoor
