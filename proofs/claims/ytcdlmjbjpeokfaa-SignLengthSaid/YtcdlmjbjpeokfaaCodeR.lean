/-
  WALK: Code of a vector, for every vector; the document's Code. Printed by coder.py.
-/
import Derived.Test.YtcdlmjbjpeokfaaCodeW
namespace Go.Proofs.Ytcdlmjbjpeokfaa
open Go.RowKit Go.Shelf
set_option linter.unusedVariables false
theorem Code_calls (Bs h : Nat) (dm sd : Int) (p : Option Addr) (cap : Nat) (zs : List (Int × Int)) (hh : h ≤ 512) (hh1 : 1 ≤ h) (hh4 : h % 4 = 0) (hd : 1 ≤ dm ∧ dm ≤ 1024) (w : World) (hz : PL w p zs) (hs : Sg w 61 Bs ((2 * h : Nat) : Int) dm sd) :
    Calls Try.prog 11 #[.pointer (some ⟨Bs, 0, none⟩), .slice p zs.length cap] w fun e w' => e = .returned (.tuple #[.string (sgC dm sd h zs), .int .i64 (sgE dm zs)]) ∧ Below w.heap.size w w' := by
  unfold sgC
  rcases sgE_cases dm zs with ⟨h1, h2⟩ | ⟨h1, h2, h3⟩ | ⟨h1, h2, h3⟩
  · rw [h2, if_neg (by decide)]
    exact Code_no Bs 190 (by decide) _ w (fun W hW => by subst hW; exact sums_dims Bs _ dm sd p zs.length cap h1 W hs)
  · rw [h3, if_pos rfl]
    subst h1
    exact Code_ok Bs h sd p cap zs hh hh1 hh4 (by omega) (by omega) h2 w hz hs
  · rw [h3, if_neg (by decide)]
    subst h1
    exact Code_no Bs 191 (by decide) _ w (fun W hW => by subst hW; exact sums_part Bs _ sd p cap zs (by omega) h2 W hz hs)
set_option maxRecDepth 100000 in
theorem rCode_no (Bs : Nat) (e : Int) (he : e ≠ 0) (v : Value) (w : World) (hS : ∀ W, W = w → Calls Try.prog 10 #[.pointer (some ⟨Bs, 0, none⟩), v] W fun e' w' => ∃ v', e' = .returned (.tuple #[v', .int .i64 e]) ∧ Below W.heap.size W w') :
    Calls Try.prog 12 #[.pointer (some ⟨Bs, 0, none⟩), v] w fun e' w' => e' = .returned (.tuple #[.string ⟨#[]⟩, .int .i64 e]) ∧ Below w.heap.size w w' := by
  have H := Lib.hid hS
  have hd : (e != 0) = true := by rw [bne_iff_ne]; exact he
  clear he hS
  go_enter Try.func12, Try.ntmps12
  go_wp2_with fail
  refine (H.out w rfl).mono ?_
  rintro _ w1 ⟨v', rfl, hb⟩
  go_wp2
  go_ret2
  exact ⟨rfl, hb⟩
set_option maxRecDepth 100000 in
set_option maxHeartbeats 2000000 in
theorem rCode_ok (Bs h : Nat) (dm sd : Int) (v : Value) (L : List (Int × Int)) (hL : L.length = h) (hh : h ≤ 512) (hh1 : 1 ≤ h) (hh4 : h % 4 = 0) (w : World) (hs : Sg w 64 Bs ((2 * h : Nat) : Int) dm sd)
    (hS : ∀ W, W = w → Calls Try.prog 10 #[.pointer (some ⟨Bs, 0, none⟩), v] W fun e' w' => ∃ v', e' = .returned (.tuple #[v', .int .i64 0]) ∧ w'.ownsRow W.heap.size 33 2 v' L.length (encP L) ∧ Below W.heap.size W w') :
    Calls Try.prog 12 #[.pointer (some ⟨Bs, 0, none⟩), v] w fun e w' => e = .returned (.tuple #[.string ⟨(codeC (h / 4) L h).toArray⟩, .int .i64 0]) ∧ Below w.heap.size w w' := by
  obtain ⟨i0, hi, hy0, hy1, hy2⟩ := info_parts u8infoS
  obtain ⟨nb, hnb⟩ : ∃ nb, h / 4 = nb := ⟨_, rfl⟩
  have hnb4 : h = 4 * nb := by omega
  have hmk := fun W : World => run_make (P := Try.prog) W 72 5 i0 _ Try.underlying72 hi hy0 .i64 .i64 nb nb (by omega) (by omega) (by rw [hy2]; omega) (by omega)
  have S := Lib.hid hS
  obtain ⟨s0, s1, s2⟩ := hs.cells
  have hbs := hs.lt
  have hq1 : ((2 * h : Nat) : Int) / 8 = (nb : Int) := by omega
  have hwh : wrap64 (nb : Int) = (nb : Int) := by unfold wrap64; omega
  have hwh2 : IntKind.i64.wrap (nb : Int) = (nb : Int) := by rw [IntKind.wrap_i64]; omega
  have hq2 : ((2 * h : Nat) : Int).tdiv 8 = (nb : Int) := tdiv8 h nb hnb4
  obtain ⟨WD, hWD⟩ : ∃ WD : Int, ((2 * h : Nat) : Int) = WD := ⟨_, rfl⟩
  rw [hWD] at s0 hq1 hq2
  rw [hnb]
  have HNB := Lib.hid hnb4
  clear hs hWD hnb hnb4 hS
  go_enter Try.func12, Try.ntmps12
  go_wp2_with fail
  refine (S.out w rfl).mono ?_
  rintro _ w1 ⟨v', rfl, ho, hb⟩
  obtain ⟨q, cl, rfl, _, _, hr⟩ := own_rd ho
  obtain ⟨gl, rfl, hg0, hg1, hgc, _⟩ := hr (by omega)
  rw [hL] at hgc
  have HB := Lib.hid hb
  have HC := Lib.hid hgc
  have c0 := (hb.cell (p := ⟨Bs, 0, none⟩) hbs).trans s0
  clear hb ho hr hgc S s0 s1 s2
  rw [hL]
  have HLL := Lib.hid hL
  clear hL
  go_wp2
  have HY1 := Lib.hid (Bys.made w1 5 nb)
  have HB2 := Lib.hid (HB.out.alloc HB.out.size (.cells (madeCells #[.int .u8 0] nb) 5))
  have hs1 := HB.out.size
  have HBa := Lib.hid ((Below.refl w1.heap.size w1).alloc (Nat.le_refl _) (.cells (madeCells #[.int .u8 0] nb) 5))
  obtain ⟨G, hG⟩ : ∃ G, w1.heap.size = G := ⟨_, rfl⟩
  generalize w1.alloc (.cells (madeCells #[.int .u8 0] nb) 5) = w2 at HY1 HB2 HBa ⊢
  rw [hG] at HY1 hs1 hg1 HBa ⊢
  clear hG hmk HB c0
  go_loopw [9] (fun i ws => ∃ (k : Nat), k ≤ h ∧ i = .int .i64 k ∧ Hid (Bys ws G 5 (codeC nb L k)) ∧ Hid (Below w.heap.size w ws) ∧ Hid (Below G w1 ws)) (fun i _ => h - (intOf i).toNat)
  case atStart => exact ⟨0, Nat.zero_le _, rfl, HY1, HB2, HBa⟩
  case round =>
    obtain ⟨k, hk, rfl, HY, HBr, HBg⟩ := hrel
    clear HY1 HB2 HBa
    by_cases hlt : k < h
    · have hki : (k : Int) < (h : Int) := by omega
      have hk0 : (0 : Int) ≤ (k : Int) := by omega
      obtain ⟨x, hx⟩ : ∃ x, L[k]? = some x := ⟨_, List.getElem?_eq_getElem (by rw [HLL.out]; exact hlt)⟩
      have e1 := encP_get L k x hx 0 (by omega)
      have e2 := encP_get L k x hx 1 (by omega)
      have c1 : wr.cell? ⟨gl, k * 2, none⟩ = some (.int .i64 x.1) := (HBg.out.cell (p := ⟨gl, k * 2, none⟩) hg1).trans ((HC.out (k * 2) (by omega)).trans (by simpa [cellsP] using e1))
      have c2 : wr.cell? ⟨gl, k * 2 + 1, none⟩ = some (.int .i64 x.2) := (HBg.out.cell (p := ⟨gl, k * 2 + 1, none⟩) hg1).trans ((HC.out (k * 2 + 1) (by omega)).trans (by simpa [cellsP] using e2))
      obtain ⟨p1, hp1⟩ : ∃ p1, decide (0 < x.1) = p1 := ⟨_, rfl⟩
      obtain ⟨p2, hp2⟩ : ∃ p2, decide (0 < x.2) = p2 := ⟨_, rfl⟩
      obtain ⟨l0, hl0⟩ : ∃ l0, codeC nb L k = l0 := ⟨_, rfl⟩
      have hlen : l0.length = nb := by rw [← hl0]; exact codeC_length _ _ _
      obtain ⟨at_, hat⟩ : ∃ at_, 2 * k = at_ := ⟨_, rfl⟩
      obtain ⟨at2, hat2⟩ : ∃ at2, at_ + 1 = at2 := ⟨_, rfl⟩
      have HCN : Hid (codeC nb L (k + 1) = stepC (stepC l0 at_ p1) at2 p2) := Lib.hid (by
        rw [← hl0, ← hp1, ← hp2, ← hat2, ← hat]
        have : L.getD k (0, 0) = x := by simp [List.getD, hx]
        show stepC (stepC (codeC nb L k) (2 * k) (decide (0 < (L.getD k (0, 0)).1))) (2 * k + 1) (decide (0 < (L.getD k (0, 0)).2)) = _
        rw [this])
      rw [hl0] at HY
      have hkn : k < 4 * nb := by have := HNB.out; omega
      have hat8 : at_ / 8 < nb := by omega
      have hau8 : at2 / 8 < nb := by omega
      have hm1 : IntKind.i64.wrap (2 * (k : Int)) = (at_ : Int) := by rw [IntKind.wrap_i64]; omega
      have hm2 : IntKind.i64.wrap ((at_ : Int) + 1) = (at2 : Int) := by rw [IntKind.wrap_i64]; omega
      have ha1 : 2 * (k : Int) = (at_ : Int) := by omega
      have ha3 : (at_ : Int) + 1 = (at2 : Int) := by omega
      have ha2 : IntKind.i64.wrap (at_ : Int) = (at_ : Int) := by rw [IntKind.wrap_i64]; omega
      have ha4 : IntKind.i64.wrap (at2 : Int) = (at2 : Int) := by rw [IntKind.wrap_i64]; omega
      have HG1 : Hid (w.heap.size ≤ G) := Lib.hid hs1
      obtain ⟨x1, x2⟩ := x
      simp only at c1 c2 hp1 hp2
      clear hx e1 e2 hl0 hat hat2
      cases p1 <;> cases p2
      · have g1 : ¬ 0 < x1 := of_decide_eq_false hp1
        have g2 : ¬ 0 < x2 := of_decide_eq_false hp2
        clear hp1 hp2
        have HN : Hid (codeC nb L (k + 1) = l0) := Lib.hid (by rw [HCN.out]; unfold stepC; simp only [if_false, Bool.false_eq_true])
        clear HCN
        go_wp2
        go_roundw
        case rel => exact ⟨k + 1, hlt, by go_num, Lib.hid (by rw [HN.out]; exact HY.out), Lib.hid HBr.out, Lib.hid HBg.out⟩
        case measure => simp [intOf]; omega
      · have g1 : ¬ 0 < x1 := of_decide_eq_false hp1
        have g2 : 0 < x2 := of_decide_eq_true hp2
        clear hp1 hp2
        obtain ⟨d2, hd2⟩ : ∃ d2, (l0).getD (at2 / 8) 0 = d2 := ⟨_, rfl⟩
        have hc2 := HY.out.cell (i := at2 / 8) (by first | omega | (simp only [List.length_set]; omega))
        have hf2 := HY.out.frozen (i := at2 / 8) (by first | omega | (simp only [List.length_set]; omega))
        have hx2 := or_byte d2 (7 - at2 % 8) (by omega)
        obtain ⟨e2, he2⟩ : ∃ e2, UInt8.ofNat (d2.toNat ||| 2 ^ (7 - at2 % 8)) = e2 := ⟨_, rfl⟩
        have hP2 := HY.out.put (at2 / 8) e2
        rw [hd2] at hc2
        rw [he2] at hx2
        have HN : Hid (codeC nb L (k + 1) = (l0).set (at2 / 8) e2) := Lib.hid (by rw [HCN.out]; unfold stepC; simp only [if_true, if_false, Bool.false_eq_true]; first | rfl | (rw [hd2, he2]))
        clear hd2 he2
        clear HCN
        go_wp2
        go_roundw
        case rel => exact ⟨k + 1, hlt, by go_num, Lib.hid (by rw [HN.out]; exact hP2), Lib.hid (HBr.out.setCell (p := ⟨G, at2 / 8, none⟩) HG1.out _), Lib.hid (HBg.out.setCell (p := ⟨G, at2 / 8, none⟩) (Nat.le_refl _) _)⟩
        case measure => simp [intOf]; omega
      · have g1 : 0 < x1 := of_decide_eq_true hp1
        have g2 : ¬ 0 < x2 := of_decide_eq_false hp2
        clear hp1 hp2
        obtain ⟨d1, hd1⟩ : ∃ d1, (l0).getD (at_ / 8) 0 = d1 := ⟨_, rfl⟩
        have hc1 := HY.out.cell (i := at_ / 8) (by first | omega | (simp only [List.length_set]; omega))
        have hf1 := HY.out.frozen (i := at_ / 8) (by first | omega | (simp only [List.length_set]; omega))
        have hx1 := or_byte d1 (7 - at_ % 8) (by omega)
        obtain ⟨e1, he1⟩ : ∃ e1, UInt8.ofNat (d1.toNat ||| 2 ^ (7 - at_ % 8)) = e1 := ⟨_, rfl⟩
        have hP1 := HY.out.put (at_ / 8) e1
        rw [hd1] at hc1
        rw [he1] at hx1
        have HN : Hid (codeC nb L (k + 1) = (l0).set (at_ / 8) e1) := Lib.hid (by rw [HCN.out]; unfold stepC; simp only [if_true, if_false, Bool.false_eq_true]; first | rfl | (rw [hd1, he1]))
        clear hd1 he1
        clear HCN
        go_wp2
        go_roundw
        case rel => exact ⟨k + 1, hlt, by go_num, Lib.hid (by rw [HN.out]; exact hP1), Lib.hid (HBr.out.setCell (p := ⟨G, at_ / 8, none⟩) HG1.out _), Lib.hid (HBg.out.setCell (p := ⟨G, at_ / 8, none⟩) (Nat.le_refl _) _)⟩
        case measure => simp [intOf]; omega
      · have g1 : 0 < x1 := of_decide_eq_true hp1
        have g2 : 0 < x2 := of_decide_eq_true hp2
        clear hp1 hp2
        obtain ⟨d1, hd1⟩ : ∃ d1, (l0).getD (at_ / 8) 0 = d1 := ⟨_, rfl⟩
        have hc1 := HY.out.cell (i := at_ / 8) (by first | omega | (simp only [List.length_set]; omega))
        have hf1 := HY.out.frozen (i := at_ / 8) (by first | omega | (simp only [List.length_set]; omega))
        have hx1 := or_byte d1 (7 - at_ % 8) (by omega)
        obtain ⟨e1, he1⟩ : ∃ e1, UInt8.ofNat (d1.toNat ||| 2 ^ (7 - at_ % 8)) = e1 := ⟨_, rfl⟩
        have hP1 := HY.out.put (at_ / 8) e1
        rw [hd1] at hc1
        rw [he1] at hx1
        obtain ⟨d2, hd2⟩ : ∃ d2, ((l0).set (at_ / 8) e1).getD (at2 / 8) 0 = d2 := ⟨_, rfl⟩
        have hc2 := hP1.cell (i := at2 / 8) (by first | omega | (simp only [List.length_set]; omega))
        have hf2 := hP1.frozen (i := at2 / 8) (by first | omega | (simp only [List.length_set]; omega))
        have hx2 := or_byte d2 (7 - at2 % 8) (by omega)
        obtain ⟨e2, he2⟩ : ∃ e2, UInt8.ofNat (d2.toNat ||| 2 ^ (7 - at2 % 8)) = e2 := ⟨_, rfl⟩
        have hP2 := hP1.put (at2 / 8) e2
        rw [hd2] at hc2
        rw [he2] at hx2
        have HN : Hid (codeC nb L (k + 1) = ((l0).set (at_ / 8) e1).set (at2 / 8) e2) := Lib.hid (by rw [HCN.out]; unfold stepC; simp only [if_true]; first | rfl | (rw [hd1, he1]; rw [hd2, he2]))
        clear hd1 he1 hd2 he2
        clear HCN
        go_wp2
        go_roundw
        case rel => exact ⟨k + 1, hlt, by go_num, Lib.hid (by rw [HN.out]; exact hP2), Lib.hid ((HBr.out.setCell (p := ⟨G, at_ / 8, none⟩) HG1.out _).setCell (p := ⟨G, at2 / 8, none⟩) HG1.out _), Lib.hid ((HBg.out.setCell (p := ⟨G, at_ / 8, none⟩) (Nat.le_refl _) _).setCell (p := ⟨G, at2 / 8, none⟩) (Nat.le_refl _) _)⟩
        case measure => simp [intOf]; omega
    · have he : k = h := by omega
      subst he
      have hst := HY.out.toStr (P := Try.prog) 72 9 5 Try.underlying72 Try.underlying5 Try.underlying9 nb nb (codeC_length _ _ _).symm
      go_wp2
      go_ret2
      exact ⟨rfl, HBr.out⟩
theorem rCode_calls (Bs h : Nat) (dm sd : Int) (p : Option Addr) (cap : Nat) (zs : List (Int × Int)) (hh : h ≤ 512) (hh1 : 1 ≤ h) (hh4 : h % 4 = 0) (hd : 1 ≤ dm ∧ dm ≤ 1024) (w : World) (hz : PL w p zs) (hs : Sg w 64 Bs ((2 * h : Nat) : Int) dm sd) :
    Calls Try.prog 12 #[.pointer (some ⟨Bs, 0, none⟩), .slice p zs.length cap] w fun e w' => e = .returned (.tuple #[.string (sgC dm sd h zs), .int .i64 (sgE dm zs)]) ∧ Below w.heap.size w w' := by
  have H := rSums_calls Bs h dm sd p cap zs hh hh1 hd w hz hs
  unfold sgC
  unfold sgR at H
  by_cases h0 : sgE dm zs = 0
  · rw [h0, if_pos rfl]
    rw [h0, if_pos rfl] at H
    exact rCode_ok Bs h dm sd _ _ (sgL_length sd h zs) hh hh1 hh4 w hs (fun W hW => by subst hW; exact H)
  · rw [if_neg h0]
    exact rCode_no Bs _ h0 _ w (fun W hW => by subst hW; exact H.mono fun _ _ ⟨v, e, _, hb⟩ => ⟨v, e, hb⟩)
end Go.Proofs.Ytcdlmjbjpeokfaa
