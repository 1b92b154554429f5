/-
  WALK: the law BlockOpens returns true.
-/
import Derived.Test.YtihgjihdmlomaaaDoorJBwJ
import Derived.Test.YtihgjihdmlomaaaDoorJArgAs
import Derived.Test.YtihgjihdmlomaaaDoorJBuA
namespace Go.Proofs.YtihgjihdmlomaaaDoor
open Go.RowKit ArgK
set_option linter.unusedVariables false

theorem FileAt.le {W : World} {base fb : Nat} {h : Hd} {l : List Ent} {r : Int} (hF : FileAt W base fb h l r) : base ≤ fb := by
  obtain ⟨_, _, _, _, _, _, _, q⟩ := hF
  exact q
theorem RFileAt.le {W : World} {base fb : Nat} {h : Hd} {l : List Ent} {r : Int} (hF : RFileAt W base fb h l r) : base ≤ fb := by
  obtain ⟨_, _, _, _, _, _, _, q⟩ := hF
  exact q

/-- Opened by both. -/
theorem Opens_calls (b : ByteArray) (hb : b.size ≤ 1048576) (w : World) (hT : Tab w) : Calls Tryd.prog 15 #[.string b] w (OpenPost w b.data.toList) := by
  have h2 := (framesR_le b.data.toList).1
  have hl : b.data.toList.length = b.size := rfl
  exact Open_calls b (by omega) (by omega) w hT

/-- At the head of each round over the askings. -/
def OsRel (W0 : World) (b1 f1 b2 f2 : Nat) (h : Hd) (l : List Ent) (m k : Nat) (wr : World) : Prop :=
  ∃ r, k ≤ m ∧ Both wr b1 f1 b2 f2 h l r ∧ r ≤ 131072 * k ∧ Below W0.heap.size W0 wr

set_option maxRecDepth 100000 in
set_option maxHeartbeats 8000000 in
theorem BlockOpens_walk (b : ByteArray) (sb : b.size ≤ 140737488351232) (v1 : Value) (z : List (Ent × Int)) (w : World) (h1 : IsSl w 6 56 IsAsk [v1] z) (hL : TabLaid w) (hbulk : b.size ≤ 1048576) :
    Calls Tryd.prog 9 #[.string b, v1] w fun e w' => e = .returned (.bool true) ∧ Below w.heap.size w w' := by
  obtain ⟨p, c, rfl, hm, hA⟩ := al_arg h1
  have hT := tab_of_laid hL
  obtain ⟨m, hmm⟩ : ∃ m, z.length = m := ⟨_, rfl⟩
  rw [hmm] at hm ⊢
  have CO := Opens_calls b hbulk w hT
  have CR := fun W => ROpen_calls b hbulk W
  have HCO := Lib.hid CO
  have HCR := Lib.hid CR
  have HA := Lib.hid hA
  have HZ := Lib.hid hmm
  clear CO CR h1 hL hT hA hmm
  go_enter Tryd.func9, Tryd.ntmps9
  go_wp2_with fail
  refine HCO.out.mono ?_
  rintro e w1 ⟨hb1, hor1⟩
  have HB1 := Lib.hid hb1
  have hs1 := hb1.size
  clear hb1
  cases ho : openR b.data.toList with
  | none =>
    obtain rfl : e = .returned (.tuple #[.pointer none, .int .i64 80]) := by
      rcases hor1 with ⟨_, h⟩ | ⟨h', l', fb, h3, _⟩
      · exact h
      · rw [ho] at h3; cases h3
    clear hor1
    go_wp2_with fail
    refine (HCR.out w1).mono ?_
    rintro e w2 ⟨hb2, hor2⟩
    obtain rfl : e = .returned (.tuple #[.pointer none, .int .i64 80]) := by
      rcases hor2 with ⟨_, h⟩ | ⟨h', l', fb, h3, _⟩
      · exact h
      · rw [ho] at h3; cases h3
    have HB2 := Lib.hid (HB1.out.trans (hb2.mono hs1))
    clear hor2 hb2
    go_wp2
    go_ret
    exact ⟨rfl, HB2.out⟩
  | some q =>
    obtain ⟨h, l⟩ := q
    obtain ⟨hgo, _⟩ := openR_some ho
    have hgo2 := goesR_n h (l.length : Nat) l
    obtain ⟨f1, rfl, hF1⟩ : ∃ f1, e = .returned (.tuple #[.pointer (some ⟨f1, 0, none⟩), .int .i64 0]) ∧ FileAt w1 w.heap.size f1 h l 0 := by
      rcases hor1 with ⟨h2, _⟩ | ⟨h', l', fb, h3, h4, h5⟩
      · rw [ho] at h2; cases h2
      · rw [ho] at h3
        cases h3
        exact ⟨fb, h4, h5⟩
    have HF1 := Lib.hid hF1
    clear hor1 hF1
    go_wp2_with fail
    refine (HCR.out w1).mono ?_
    rintro e w2 ⟨hb2, hor2⟩
    obtain ⟨f2, rfl, hF2⟩ : ∃ f2, e = .returned (.tuple #[.pointer (some ⟨f2, 0, none⟩), .int .i64 0]) ∧ RFileAt w2 w1.heap.size f2 h l 0 := by
      rcases hor2 with ⟨h2, _⟩ | ⟨h', l', fb, h3, h4, h5⟩
      · rw [ho] at h2; cases h2
      · rw [ho] at h3
        cases h3
        exact ⟨fb, h4, h5⟩
    have HBo2 : Hid (Both w2 w.heap.size f1 w1.heap.size f2 h l 0) := Lib.hid ⟨HF1.out.below hb2, hF2⟩
    have HB2 := Lib.hid (HB1.out.trans (hb2.mono hs1))
    have hf1 : w.heap.size ≤ f1 := HF1.out.le
    have hf2 : w.heap.size ≤ f2 := Nat.le_trans hs1 hF2.le
    have hl := (goesR_good hgo).2.1
    have HGo := Lib.hid hgo
    clear hor2 hb2 hF2 ho hgo hgo2
    obtain ⟨B2, hB2e⟩ : ∃ q, w1.heap.size = q := ⟨_, rfl⟩
    rw [hB2e] at HBo2
    go_wp2_with fail
    refine (Head_calls _ f1 h l _ w2 HBo2.out.f).mono ?_
    rintro e w3 ⟨rfl, hb3⟩
    have HBo3 := Lib.hid (HBo2.out.below hb3)
    have HB3 := Lib.hid (HB2.out.trans (hb3.mono HB2.out.size))
    clear hb3
    go_wp2_with fail
    refine (RHead_calls _ f2 h l _ w3 HBo3.out.d).mono ?_
    rintro e w4 ⟨rfl, hb4⟩
    have HBo4 := Lib.hid (HBo3.out.below hb4)
    have HB4 := Lib.hid (HB3.out.trans (hb4.mono HB3.out.size))
    clear hb4
    unfold Hd.val
    go_wp2_with fail
    refine (All_calls _ f1 h l _ w4 HBo4.out.f hl).mono ?_
    rintro e w5 ⟨v5, rfl, ho5, hb5⟩
    have HBo5 := Lib.hid (HBo4.out.below hb5)
    have HB5 := Lib.hid (HB4.out.trans (hb5.mono HB4.out.size))
    have HO5 := Lib.hid ho5
    clear hb5 ho5
    go_wp2_with fail
    refine (RAll_calls _ f2 h l _ w5 HBo5.out.d hl).mono ?_
    rintro e w6 ⟨v6, rfl, ho6, hb6⟩
    have HBo6 := Lib.hid (HBo5.out.below hb6)
    have HB6 := Lib.hid (HB5.out.trans (hb6.mono HB5.out.size))
    have HO6 := Lib.hid ho6
    have HO5b := Lib.hid (own_belowAll HO5.out hb6)
    clear hb6 ho6
    go_wp2_with fail
    refine (sameE_true v5 v6 l (by omega) w6 (ESl.of_own HO5b.out) (ESl.of_own HO6.out)).mono ?_
    rintro e w7 ⟨rfl, hb7⟩
    have HBo7 := Lib.hid (HBo6.out.below hb7)
    have HB7 := Lib.hid (HB6.out.trans (hb7.mono HB6.out.size))
    clear hb7
    have H0 : Hid (OsRel w w.heap.size f1 B2 f2 h l m 0 w7) := Lib.hid ⟨0, Nat.zero_le _, HBo7.out, by omega, HB7.out⟩
    clear HBo2 HBo3 HBo4 HBo5 HBo6 HBo7 HB2 HB3 HB4 HB5 HB6 HB7 HO5 HO6 HO5b
    go_wp2
    go_loopw [9] (fun iv wr => ∃ k : Nat, iv = .int .i64 k ∧ OsRel w w.heap.size f1 B2 f2 h l m k wr) (fun iv _ => m - (intOf iv).toNat)
    case atStart => exact ⟨0, rfl, H0.out⟩
    case round =>
      obtain ⟨k, rfl, r, hk, hBo, hr, hB⟩ := hrel
      by_cases hlt : k < m
      · obtain ⟨x, hx⟩ : ∃ x, z[k]? = some x := ⟨_, List.getElem?_eq_getElem (by rw [HZ.out]; exact hlt)⟩
        obtain ⟨hxm, a, rfl, haB, h5, h6⟩ := HA.out k x hx
        have h5' := h5.below hB (by rw [add_blockE]; exact haB)
        have h6' := (hB.cell (p := ⟨(a.add (k * 6)).block, (a.add (k * 6)).off + 5, none⟩) (by show (a.add (k * 6)).block < _; rw [add_blockE]; exact haB)).trans h6
        obtain ⟨x0, x1, x2, x3, x4⟩ := h5'
        have CK := asked_calls w.heap.size f1 B2 f2 h l r x.1 x.2 hxm wr hBo HGo.out (by omega)
        have HCK := Lib.hid CK
        have HB := Lib.hid hB
        have i0' : (0 : Int) ≤ (k : Int) := by omega
        have i1' : (k : Int) < (m : Int) := by omega
        clear CK hBo hB hx h5 h6
        go_wp2_with fail
        refine HCK.out.mono ?_
        rintro e w8 ⟨r8, rfl, hBo8, hr8, hr9, hfr8⟩
        have HR8 : Hid (OsRel w w.heap.size f1 B2 f2 h l m (k + 1) w8) := Lib.hid ⟨r8, hlt, hBo8, by omega, hfr8.below HB.out hf1 hf2⟩
        clear hBo8 hfr8 x0 x1 x2 x3 x4 h6'
        go_wp2
        go_roundw
        case rel => exact ⟨k + 1, by go_num, HR8.out⟩
        case measure => simp [intOf]; omega
      · obtain rfl : k = m := by omega
        have hk1 : ¬ ((k : Int) < (k : Int)) := by omega
        have HBo10 := Lib.hid hBo
        have HB10 := Lib.hid hB
        clear hBo hB
        rename World => w10
        go_wp2_with fail
        refine (All_calls _ f1 h l _ w10 HBo10.out.f hl).mono ?_
        rintro e w11 ⟨v11, rfl, ho11, hb11⟩
        have HBo11 := Lib.hid (HBo10.out.below hb11)
        have HB11 := Lib.hid (HB10.out.trans (hb11.mono HB10.out.size))
        have HO11 := Lib.hid ho11
        clear hb11 ho11
        go_wp2_with fail
        refine (RAll_calls _ f2 h l _ w11 HBo11.out.d hl).mono ?_
        rintro e w12 ⟨v12, rfl, ho12, hb12⟩
        have HBo12 := Lib.hid (HBo11.out.below hb12)
        have HB12 := Lib.hid (HB11.out.trans (hb12.mono HB11.out.size))
        have HO12 := Lib.hid ho12
        have HO11b := Lib.hid (own_belowAll HO11.out hb12)
        clear hb12 ho12
        go_wp2_with fail
        refine (sameE_true v11 v12 l (by omega) w12 (ESl.of_own HO11b.out) (ESl.of_own HO12.out)).mono ?_
        rintro e w13 ⟨rfl, hb13⟩
        have HBo13 := Lib.hid (HBo12.out.below hb13)
        have HB13 := Lib.hid (HB12.out.trans (hb13.mono HB12.out.size))
        clear hb13
        go_wp2_with fail
        refine (Reads_calls _ f1 h l _ w13 HBo13.out.f).mono ?_
        rintro e w14 ⟨rfl, hw14⟩
        subst hw14
        go_wp2_with fail
        refine (RReads_calls _ f2 h l _ w14 HBo13.out.d).mono ?_
        rintro e w15 ⟨rfl, hw15⟩
        subst hw15
        go_wp2
        go_ret
        exact ⟨rfl, HB13.out⟩
end Go.Proofs.YtihgjihdmlomaaaDoor
