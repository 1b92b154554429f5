/-
  THE LAW PlainRefuses, walked: refused calls change nothing.
-/
import Derived.Test.YtmfanldekjkbiaaDoorSameQ
import Derived.Test.YtmfanldekjkbiaaDoorPlayP
import Derived.Test.YtmfanldekjkbiaaDoorBegunP
import Derived.Test.YtmfanldekjkbiaaDoorTriP
import Derived.Deep.CutRange
namespace Go.Proofs.YtmfanldekjkbiaaDoor
open Go.RowKit ArgK
set_option linter.unusedVariables false

theorem ins_del {W : Nat} {L : List Pv} {p : Pv} (h : insCode W L p = 0) : getCode (L ++ [p]) p.i = 0 ∧ lessId (L ++ [p]) p.i = L := by
  unfold insCode at h
  split at h
  · exact absurd h (by decide)
  · rename_i h1
    split at h
    · exact absurd h (by decide)
    · split at h
      · exact absurd h (by decide)
      · rename_i h3
        have h3' : hasId L p.i = false := by simpa using h3
        refine ⟨?_, ?_⟩
        · unfold getCode
          have hh : hasId (L ++ [p]) p.i = true := hasId_iff.2 ⟨p, by simp, rfl⟩
          rw [if_neg h1, if_pos hh]
        · have := lessId_not h3'
          unfold lessId at this ⊢
          rw [List.filter_append, this]
          simp

/-- The pairs are as they were, the number at most two higher. -/
def Still (w6 : World) (mb pb W : Nat) (L : List Pv) (wx : World) : Prop := ∃ S : Int, 0 ≤ S ∧ S ≤ 100 ∧ MapIs wx mb pb W S L ∧ FrP w6 wx (MapB mb pb)

theorem went_seq {W : Nat} {S : Int} {L : List Pv} {z : List Uv} {a b : Nat} (h : Went W S L z a) (hb : b < a) : (z.getD b default).s = S + 1 + (b : Int) := by
  have := h b hb
  unfold plyCode at this
  split at this
  · exact absurd this (by decide)
  · rename_i h1
    have h2 : (z.getD b default).s = S + (b : Int) + 1 := by
      by_cases e : (z.getD b default).s = S + (b : Int) + 1
      · exact e
      · exact absurd (.inl e) h1
    omega

theorem add_addU (a : Addr) (i j : Nat) : (a.add i).add j = a.add (i + j) := by
  unfold Addr.add
  by_cases hi : i = 0
  · subst hi; simp
  · by_cases hj : j = 0
    · subst hj; simp
    · simp [hi, hj, Nat.add_assoc]

theorem UL.drop {w : World} {pa : Addr} {z : List Uv} (h : UL w (some pa) z) (a : Nat) : UL w (some (pa.add (a * 4))) (z.drop a) := by
  intro i x hx
  rw [List.getElem?_drop] at hx
  obtain ⟨b, e, h1, h2, h3, h4⟩ := h (a + i) x hx
  obtain rfl := Option.some.inj e
  have e2 : (pa.add (a * 4)).add (i * 4) = pa.add ((a + i) * 4) := by rw [add_addU, Nat.add_mul]
  exact ⟨_, rfl, by rw [e2]; exact h1, by rw [e2]; exact h2, by rw [e2]; exact h3, by rw [e2]; exact h4⟩

theorem add_blockU (a : Addr) (i : Nat) : (a.add i).block = a.block := by unfold Addr.add; split <;> rfl

theorem UL.none_ (w : World) {z : List Uv} (h : z = []) (p : Option Addr) : UL w p z := by
  subst h
  intro i x hx
  simp at hx

set_option maxRecDepth 100000 in
set_option maxHeartbeats 8000000 in
theorem PlainRefuses_walk (a0 : Int) (w0 : (Lit.int .i64 a0).wf = true) (v1 : Value) (z : List Pv) (a2 : Int) (w2 : (Lit.int .i64 a2).wf = true) (a3 : ByteArray) (s3 : a3.size ≤ 140737488351232) (v4 : Value) (zu : List Uv) (a5 : ByteArray) (s5 : a5.size ≤ 140737488351232) (w : World) (h1 : IsSl w 2 24 IsPair [v1] z) (h4 : IsSl w 4 40 IsUpd [v4] zu) (hL : TabLaid w) :
    Calls Tryd.prog 6 #[.int .i64 a0, v1, .int .i64 a2, .string a3, v4, .string a5] w fun e w' => e = .returned (.bool true) ∧ Below w.heap.size w w' := by
  obtain ⟨hz, pz, cz, rfl, hPL, hGP⟩ := pairs_of_arg h1
  obtain ⟨hzu, pu, cu, rfl, hcu, hcu2, hUL, hGU⟩ := updates_of_arg h4
  have hT := tab_of_laid hL
  have CW := Lib.hid (fun W => width13_calls a0 W)
  obtain ⟨W, hWe⟩ : ∃ W, widN a0 = W := ⟨_, rfl⟩
  have hWb := widN_bd a0
  have hWg := widN_good a0
  rw [hWe] at CW hWb hWg
  obtain ⟨hW1, hW2, hW3⟩ := hWb
  have CB := Lib.hid (begun13_calls w hT)
  have CQ := Lib.hid (fun X => fit13_calls a5 s5 W hW2 X)
  obtain ⟨q, hq⟩ : ∃ q, fitB a5 (W / 8) = q := ⟨_, rfl⟩
  have hqs : q.size = W / 8 := by rw [← hq]; exact fitB_size _ _
  rw [hq] at CQ
  have CF := Lib.hid (fun X hX => filled_calls W hWg pz cz z (by omega) hGP X hX)
  obtain ⟨L, hLe⟩ : ∃ L, fillL (W / 8) [] z = L := ⟨_, rfl⟩
  have hLb : L.length ≤ 80 := by rw [← hLe]; exact fillL_bound _ _ _ (Nat.zero_le _)
  rw [hLe] at CF
  obtain ⟨m, hm⟩ : ∃ m, z.length = m := ⟨_, rfl⟩
  rw [hm] at CF ⊢
  obtain ⟨n, hn⟩ : ∃ n, zu.length = n := ⟨_, rfl⟩
  obtain ⟨ln, hln⟩ : ∃ ln, L.length = ln := ⟨_, rfl⟩
  have HPu : Hid (∀ a, pu = some a → 0 < zu.length → a.block < w.heap.size) := Lib.hid (fun a ha h0 => by
    obtain ⟨a', e, u0, _⟩ := hUL 0 zu[0] (List.getElem?_eq_getElem h0)
    rw [ha] at e
    obtain rfl := Option.some.inj e
    have := cell_ltH u0
    have hb : (a.add (0 * 4)).block = a.block := by unfold Addr.add; split <;> rfl
    omega)
  rw [hn] at hzu hcu ⊢
  have HT := Lib.hid hT
  have HPL := Lib.hid hPL
  have HUL := Lib.hid hUL
  have HGU := Lib.hid hGU
  have HLn := Lib.hid hln
  have HN := Lib.hid hn
  rw [hln] at hLb
  clear hq hLe hm hT hL hPL hGP h1 h4 hz hWe hWg hln hUL hGU hn
  go_enter Tryd.func6, Tryd.ntmps6
  go_wp2_with fail
  refine CB.out.mono ?_
  rintro e w1 ⟨rfl, hb1⟩
  have HB1 := Lib.hid hb1
  clear hb1
  go_wp2_with fail
  refine (CW.out w1).mono ?_
  rintro e w1' ⟨rfl, rfl⟩
  go_wp2_with fail
  refine (CQ.out _).mono ?_
  rintro e w2' ⟨rfl, hb2⟩
  have HB2 := Lib.hid (HB1.out.trans (hb2.mono HB1.out.size))
  clear hb2
  go_wp2_with fail
  refine (CF.out w2' (HPL.out.below HB2.out)).mono ?_
  rintro e w5 ⟨mb, pb, vi, rfl, hM4, hr4, hb4, hmb, hpb⟩
  have HB5 := Lib.hid (HB2.out.trans (hb4.mono HB2.out.size))
  have hmb' : w.heap.size ≤ mb := Nat.le_trans HB2.out.size hmb
  have hpb' : w.heap.size ≤ pb := Nat.le_trans HB2.out.size hpb
  rw [HLn.out] at hM4
  have HM5 := Lib.hid hM4
  clear hb4 hM4 hr4 hmb hpb
  have CP := Lib.hid (fun X (S : Int) (hX : MapIs X mb pb W S L) => pairs_calls hX (by rw [HLn.out]; omega))
  go_wp2_with fail
  refine (CP.out w5 _ HM5.out).mono ?_
  rintro e w6 ⟨v6, T, rfl, hr6, hpT, hrT, hb6⟩
  rw [HLn.out] at hr6
  obtain ⟨pw, cw, rfl, _⟩ := own_rd hr6
  have HB6 := Lib.hid (HB5.out.trans (hb6.mono HB5.out.size))
  have HM6 := Lib.hid (HM5.out.below hb6)
  have HR6 := Lib.hid hr6
  have HpT := Lib.hid hpT
  have HrT := Lib.hid hrT
  have HTl : Hid (T.length = ln) := Lib.hid (by rw [hpT.length_eq, HLn.out])
  have hlm := HM5.out.lt
  have HFar : Hid (∀ g, (Value.slice pw ln cw).ownBlock = some g → g ≠ mb ∧ g ≠ pb) := Lib.hid (fun g hg => by have := (hr6.lt g hg).1; omega)
  clear hb6 hr6 hpT hrT
  go_wp2_with fail
  refine (seq_calls HM6.out).mono ?_
  rintro e w6' ⟨rfl, rfl⟩
  obtain ⟨c0, hc0⟩ : ∃ c0, insCode W L ⟨a2, a3⟩ = c0 := ⟨_, rfl⟩
  have CI := Lib.hid (insert_calls HM6.out (by omega) ⟨a2, a3⟩ w2 s3 hW2)
  have HC0 := Lib.hid hc0
  clear hc0
  go_wp2_with fail
  refine CI.out.mono ?_
  rintro e w7 ⟨he, hM7, hF7⟩
  rw [HC0.out] at he hM7
  subst he
  have HM7 := Lib.hid hM7
  have HF7 := Lib.hid hF7
  clear hM7 hF7
  go_upto_if 61 with fail
  go_cut [12] from 61 to 77 (fun s12 wx => s12 = .bool false ∧ Still w6' mb pb W L wx)
  case first =>
    by_cases h0 : c0 = 0
    · subst h0
      have hM := HM7.out
      rw [if_pos rfl, if_pos rfl] at hM
      have hid := ins_del HC0.out
      have CD := Lib.hid (delete_calls hM (by omega) a2 w2)
      have HID := Lib.hid hid
      clear hM hid
      go_wp2_with fail
      refine CD.out.mono ?_
      rintro e w8 ⟨he, hM8, hF8⟩
      have hg0 : getCode (L ++ [⟨a2, a3⟩]) a2 = 0 := HID.out.1
      have hl0 : lessId (L ++ [⟨a2, a3⟩]) a2 = L := HID.out.2
      rw [hg0] at he
      subst he
      rw [hg0, if_pos rfl, if_pos rfl, hl0] at hM8
      have HM8 := Lib.hid hM8
      have HF8 := Lib.hid (HF7.out.trans hF8 (fun _ k => .inl k))
      have q1 : ((ln : Int) + 1 + 1 != (ln : Int) + 2) = false := by rw [bne_eq_false_iff_eq]; omega
      clear hM8 hF8 hg0 hl0
      go_wp2_with fail
      refine (seq_calls HM8.out).mono ?_
      rintro e w9 ⟨rfl, rfl⟩
      go_wp2_with fail
      go_meet
      exact ⟨rfl, _, by omega, by omega, HM8.out, HF8.out⟩
    · have hM := HM7.out
      rw [if_neg h0, if_neg h0] at hM
      have hne : (c0 == 0) = false := by rw [beq_eq_false_iff_ne]; exact h0
      have HM8 := Lib.hid hM
      have q1 : ((ln : Int) != (ln : Int)) = false := by simp
      clear hM h0
      go_wp2_with fail
      refine (seq_calls HM8.out).mono ?_
      rintro e w9 ⟨rfl, rfl⟩
      go_wp2_with fail
      go_meet
      exact ⟨rfl, _, by omega, by omega, HM8.out, HF7.out⟩
  case rest =>
    obtain ⟨rfl, S, hS0, hS1, hMc, hFc⟩ := hcut
    have HMc := Lib.hid hMc
    have HBc : Hid (Below w.heap.size w wc) := Lib.hid (HB6.out.trans (hFc.below HB6.out.size (fun b hb => by rcases hb with rfl | rfl; exact hmb'; exact hpb')))
    have HRc : Hid (wc.ownsRow w5.heap.size 49 2 (.slice pw ln cw) ln (encP T)) := Lib.hid (own_frpH HR6.out hFc (fun g hg k => by have := HFar.out g hg; rcases k with k | k; exact this.1 k; exact this.2 k))
    have C1 := Lib.hid (topk_bad HMc.out hW2 q hqs (-1) (.inl (by decide)))
    clear hMc hFc HM7 HF7 CI HC0
    go_wp2_with fail
    refine C1.out.mono ?_
    rintro e wd ⟨rfl, hgd⟩
    have HGd := Lib.hid hgd
    have C2 := Lib.hid (radius_bad (HMc.out.gr hgd) hW2 q hqs ((W : Int) + 1) (.inr (by omega)))
    clear hgd
    go_wp2_with fail
    refine C2.out.mono ?_
    rintro e we ⟨rfl, hge⟩
    have HGe := Lib.hid (HGd.out.trans hge)
    clear hge
    go_wp2_with fail
    refine (topk_code (HMc.out.gr HGe.out) hW2 _ (by rw [ByteArray.size_append, hqs]; exact (by show W / 8 + 1 ≠ W / 8; omega)) (by rw [ByteArray.size_append, hqs]; exact (by show W / 8 + 1 ≤ 140737488351232; omega)) 1).mono ?_
    rintro e wf ⟨rfl, rfl⟩
    have C3 := Lib.hid (CP.out _ _ (HMc.out.gr HGe.out))
    go_wp2_with fail
    refine C3.out.mono ?_
    rintro e wg ⟨v9, T9, rfl, hr9, hpT9, hrT9, hb9⟩
    have hTT := risP_perm hrT9 HrT.out (hpT9.trans HpT.out.symm)
    subst hTT
    rw [HLn.out] at hr9
    obtain ⟨p9, c9, rfl, _⟩ := own_rd hr9
    have HBg : Hid (Below wc.heap.size wc wg) := Lib.hid (HGe.out.below.trans (hb9.mono HGe.out.below.size))
    have CS := Lib.hid (sameP_calls pw p9 cw c9 T9 ln HTl.out (by omega) wg (PL.of_own (own_belowAll HRc.out HBg.out)) (PL.of_own hr9))
    clear hr9 hpT9 hrT9 hb9
    go_wp2_with fail
    refine CS.out.mono ?_
    rintro e wh ⟨rfl, hgh⟩
    have HBh : Hid (Below wc.heap.size wc wh) := Lib.hid (HBg.out.trans (hgh.below.mono HBg.out.size))
    have HMh := Lib.hid (HMc.out.below HBh.out)
    have HBwh := Lib.hid (HBc.out.trans (HBh.out.mono HBc.out.size))
    clear hgh
    go_wp2_with fail
    refine (seq_calls HMh.out).mono ?_
    rintro e wh' ⟨rfl, rfl⟩
    have CPl := Lib.hid (Play_calls HMh.out (by omega) hW2 pu cu zu (by rw [HN.out]; omega) HGU.out (HUL.out.keep (B := 0) HBwh.out) (fun a ha h0 => by have := HPu.out a ha h0; omega))
    rw [HN.out] at CPl
    go_wp2_with fail
    refine CPl.out.mono ?_
    rintro e wi ⟨a, x, rfl, hal, hWt, hcase, hMi, hFi⟩
    rw [HN.out] at hal
    have HWt := Lib.hid hWt
    have HCs := Lib.hid hcase
    have HMi := Lib.hid hMi
    have HBi : Hid (Below w.heap.size w wi) := Lib.hid (HBwh.out.trans (hFi.below HBwh.out.size (fun b hb => by rcases hb with rfl | rfl; exact hmb'; exact hpb')))
    have HUi := Lib.hid (HUL.out.keep (B := 0) HBi.out)
    rw [HN.out] at hcase
    clear hWt hMi hFi
    rcases hcase with ⟨han, hx0⟩ | ⟨han, hxe, hx0⟩
    · subst hx0
      subst han
      have q1 : ((a : Int) == (a : Int)) = true := by simp
      have q2 : (S + (a : Int) != S + (a : Int)) = false := by simp
      have q3 : ¬ ((a : Int) < (a : Int)) := by omega
      go_wp2_with fail
      refine (seq_calls HMi.out).mono ?_
      rintro e wj ⟨rfl, rfl⟩
      go_wp2
      go_loopw [30] (fun i ws => ∃ t : Nat, t ≤ a ∧ i = .int .i64 t ∧ ws = wj) (fun i _ => a - (intOf i).toNat)
      case atStart => exact ⟨0, Nat.zero_le _, rfl, rfl⟩
      case round =>
        obtain ⟨t, ht, rfl, rfl⟩ := hrel
        by_cases htt : t < a
        · have hul : t < zu.length := by rw [HN.out]; omega
          obtain ⟨u, hu⟩ : ∃ u, zu[t]? = some u := ⟨_, List.getElem?_eq_getElem hul⟩
          have hus := went_seq HWt.out htt
          rw [List.getD_eq_getElem?_getD, hu] at hus
          simp only [Option.getD_some] at hus
          obtain ⟨pa, rfl, u0, _⟩ := HUi.out t u hu
          rw [hus] at u0
          have q9 : (S + 1 + (t : Int) != S + 1 + (t : Int)) = false := by simp
          have j0 : (0 : Int) ≤ (t : Int) := by omega
          have j1 : (t : Int) < (a : Int) := by omega
          have j2 : (t : Int) < (a : Int) := by omega
          clear hu hus hul
          go_wp2
          go_roundw
          case rel => exact ⟨t + 1, by omega, by go_num, by first | rfl | trivial⟩
          case measure => simp [intOf]; omega
        · obtain rfl : t = a := by omega
          clear htt ht
          have e0 : (zu.drop t).length = 0 := by rw [List.length_drop, HN.out]; omega
          have cpa := fun P C => Play_calls HMi.out (by omega) hW2 P C (zu.drop t) (by rw [e0]; omega) (fun x hx => HGU.out x (List.mem_of_mem_drop hx)) (UL.none_ _ (List.eq_nil_of_length_eq_zero e0) P) (fun a0 _ h0 => absurd h0 (by omega))
          simp only [e0] at cpa
          have CPA := Lib.hid cpa
          have i9 : (0 : Int) ≤ (t : Int) := by omega
          have i8 : (t : Int) ≤ (cu : Int) := by omega
          clear cpa e0
          rcases pu with _ | pa
          all_goals go_wp2_with fail
          all_goals (
            refine (CPA.out _ _).mono ?_
            rintro e wk ⟨b, y, rfl, hb, hw, hy, hMk, hFk⟩
            have hag := plays_again (x := 0) (.inl ⟨HN.out.symm, rfl⟩) hb hw hy
            obtain ⟨rfl, rfl⟩ := hag
            have HE : Hid (Below w.heap.size w wk) := Lib.hid (HBi.out.trans (hFk.below HBi.out.size (fun b hb => by rcases hb with rfl | rfl; exact hmb'; exact hpb')))
            clear hb hw hy hMk hFk
            go_wp2
            go_ret
            exact ⟨rfl, HE.out⟩)
    · clear hxe
      have q1 : ((a : Int) == (n : Int)) = false := by rw [beq_eq_false_iff_ne]; omega
      have q2 : (S + (a : Int) != S + (a : Int)) = false := by simp
      have q4 : (x == 0) = false := by rw [beq_eq_false_iff_ne]; exact hx0
      have q5 : (x == x) = true := by simp
      have q8 : ((x == 0) != ((a : Int) == (n : Int))) = false := by rw [q4, q1]; rfl
      have q6 : ¬ ((n : Int) < (a : Int)) := by omega
      have q7 : (a : Int) < (n : Int) := by omega
      go_wp2_with fail
      refine (seq_calls HMi.out).mono ?_
      rintro e wj ⟨rfl, rfl⟩
      go_wp2
      go_loopw [30] (fun i ws => ∃ t : Nat, t ≤ a ∧ i = .int .i64 t ∧ ws = wj) (fun i _ => a - (intOf i).toNat)
      case atStart => exact ⟨0, Nat.zero_le _, rfl, rfl⟩
      case round =>
        obtain ⟨t, ht, rfl, rfl⟩ := hrel
        by_cases htt : t < a
        · have hul : t < zu.length := by rw [HN.out]; omega
          obtain ⟨u, hu⟩ : ∃ u, zu[t]? = some u := ⟨_, List.getElem?_eq_getElem hul⟩
          have hus := went_seq HWt.out htt
          rw [List.getD_eq_getElem?_getD, hu] at hus
          simp only [Option.getD_some] at hus
          obtain ⟨pa, rfl, u0, _⟩ := HUi.out t u hu
          rw [hus] at u0
          have q9 : (S + 1 + (t : Int) != S + 1 + (t : Int)) = false := by simp
          have j0 : (0 : Int) ≤ (t : Int) := by omega
          have j1 : (t : Int) < (n : Int) := by omega
          have j2 : (t : Int) < (a : Int) := by omega
          clear hu hus hul
          go_wp2
          go_roundw
          case rel => exact ⟨t + 1, by omega, by go_num, by first | rfl | trivial⟩
          case measure => simp [intOf]; omega
        · obtain rfl : t = a := by omega
          clear htt ht
          obtain ⟨pa, rfl⟩ : ∃ pa, pu = some pa := by
            obtain ⟨pa, e, _⟩ := HUL.out 0 (zu.getD 0 default) (by rw [List.getD_eq_getElem?_getD, List.getElem?_eq_getElem (by rw [HN.out]; omega)]; rfl)
            exact ⟨pa, e⟩
          have i9 : (0 : Int) ≤ (t : Int) := by omega
          have i8 : (t : Int) ≤ (n : Int) := by omega
          have i7 : (n : Int) ≤ (cu : Int) := by omega
          have CP2 := Lib.hid (Play_calls HMi.out (by omega) hW2 (some (pa.add (t * 4))) (cu - t) (zu.drop t) (by rw [List.length_drop, HN.out]; omega) (fun x hx => HGU.out x (List.mem_of_mem_drop hx)) (UL.drop HUi.out t) (fun a0 ha h0 => by cases ha; have := HPu.out pa rfl (by rw [List.length_drop] at h0; omega); have hb := add_blockU pa (t * 4); omega))
          rw [List.length_drop, HN.out] at CP2
          go_wp2_with fail
          refine CP2.out.mono ?_
          rintro e wk ⟨b, y, rfl, hb, hw, hy, hMk, hFk⟩
          have hag := plays_again (HCs.out) hb hw hy
          obtain ⟨rfl, rfl⟩ := hag
          have HE : Hid (Below w.heap.size w wk) := Lib.hid (HBi.out.trans (hFk.below HBi.out.size (fun b hb => by rcases hb with rfl | rfl; exact hmb'; exact hpb')))
          clear hb hw hy hMk hFk
          go_wp2
          go_ret
          exact ⟨rfl, HE.out⟩
end Go.Proofs.YtmfanldekjkbiaaDoor
