/-
  WALKS: Delete of a map of pairs; the searches that are refused.
-/
import Derived.Test.YtmfanldekjkbiaaDoorPlainB
import Derived.Test.YtmfanldekjkbiaaDoorPlainC
namespace Go.Proofs.YtmfanldekjkbiaaDoor
open Go.RowKit
set_option linter.unusedVariables false

/-- What Delete leaves. -/
def DelPost (w : World) (mb pb W : Nat) (S : Int) (L : List Pv) (i : Int) (e : Ending) (w' : World) : Prop :=
  e = .returned (.int .i64 (getCode L i)) ∧ MapIs w' mb pb W (if getCode L i = 0 then S + 1 else S) (if getCode L i = 0 then lessId L i else L) ∧ FrP w w' (MapB mb pb)

theorem delPost_no {w w' : World} {mb pb W : Nat} {S : Int} {L : List Pv} {i : Int} {c : Int} (hc : getCode L i = c) (h0 : c ≠ 0) (h : MapIs w mb pb W S L) (hg : Gr w w') : DelPost w mb pb W S L i (.returned (.int .i64 c)) w' := by
  refine ⟨by rw [hc], ?_, FrP.of_gr hg⟩
  rw [hc, if_neg h0, if_neg h0]
  exact h.gr hg

theorem delPost_ok {w W' w1 : World} {mb pb W : Nat} {S : Int} {L : List Pv} {i : Int} (hc : getCode L i = 0) (h : MapIs w mb pb W S L) (hg : Gr w W') (h1 : PairsIs w1 pb (lessId L i)) (h2 : W'.grownBy w1 (some pb)) :
    DelPost w mb pb W S L i (.returned (.int .i64 0)) (w1.setCell ⟨mb, 1, none⟩ (.int .i64 (S + 1))) := by
  have hm := h.gr hg
  refine ⟨by rw [hc], ?_, map_frp hg h2⟩
  rw [hc, if_pos rfl, if_pos rfl]
  have : MapIs w1 mb pb W S (lessId L i) := ⟨(h2.block mb hm.lt.1 (fun e => hm.ne (Option.some.inj e))).trans hm.1, h1, fun q hq => h.2.2 q (List.mem_filter.1 hq).1⟩
  exact map_seq this

set_option maxRecDepth 100000 in
set_option maxHeartbeats 2000000 in
theorem delete_calls {w : World} {mb pb W : Nat} {S : Int} {L : List Pv} (h : MapIs w mb pb W S L) (hS : 0 ≤ S ∧ S ≤ 4611686018427387904) (i : Int) (hi : (Lit.int .i64 i).wf = true) :
    Calls Tryd.prog 17 #[.pointer (some ⟨mb, 0, none⟩), .int .i64 i] w (DelPost w mb pb W S L i) := by
  have HG := Lib.hid (get_calls h i hi)
  have HM := Lib.hid h
  clear h
  by_cases hc : getCode L i = 0
  · have hh : hasId L i = true := by
      unfold getCode at hc
      split at hc
      · exact absurd hc (by decide)
      · split at hc
        · assumption
        · exact absurd hc (by decide)
    have HC := Lib.hid hc
    rw [hc, if_pos rfl] at HG
    clear hc
    go_enter Tryd.func17, Tryd.ntmps17
    go_wp2_with fail
    refine HG.out.mono ?_
    rintro e w1 ⟨rfl, hg⟩
    obtain ⟨c0, c1, c2, f1⟩ := (HM.out.gr hg).cells
    have HGr := Lib.hid hg
    clear hg
    go_wp2_with (at_delete; refine wpList_delete_pairs _ rfl _ _ rfl pb L rfl (HM.out.gr HGr.out).2.1 i rfl hi hh ?_; intro w2 hP2 hg2; have hk2 := map_seqCell HM.out HGr.out hg2; obtain ⟨k1, k2⟩ := hk2; have hk3 : w2.cell? ⟨mb, 2, none⟩ = some (.map (some pb)) := by (have hm := HM.out.gr HGr.out; have hb := (hg2.block mb hm.lt.1 (fun e => hm.ne (Option.some.inj e))).trans hm.1; simp [World.cell?, hb]))
    go_ret
    exact delPost_ok HC.out HM.out HGr.out hP2 hg2
  · obtain ⟨c, hcc⟩ : ∃ c, getCode L i = c := ⟨_, rfl⟩
    rw [hcc] at hc
    have hne : (c != 0) = true := by rw [bne_iff_ne]; exact hc
    have HC := Lib.hid hcc
    have hc' := hc
    rw [hcc, if_neg hc] at HG
    clear hcc hc
    go_enter Tryd.func17, Tryd.ntmps17
    go_wp2_with fail
    refine HG.out.mono ?_
    rintro e w1 ⟨rfl, hg⟩
    have HGr := Lib.hid hg
    clear hg
    go_wp2
    go_ret
    exact delPost_no HC.out hc' HM.out HGr.out

set_option maxRecDepth 100000 in
theorem topk_code {w : World} {mb pb W : Nat} {S : Int} {L : List Pv} (h : MapIs w mb pb W S L) (hW : W ≤ 1024) (q : ByteArray) (hq : q.size ≠ W / 8) (hq2 : q.size ≤ 140737488351232) (k : Int) :
    Calls Tryd.prog 13 #[.pointer (some ⟨mb, 0, none⟩), .string q, .int .i64 k] w fun e w' => e = .returned (.tuple #[.slice none 0 0, .int .i64 11]) ∧ w' = w := by
  obtain ⟨c0, c1, c2, f1⟩ := h.cells
  have hne : ((q.size : Int) != (W : Int) / 8) = true := by rw [bne_iff_ne]; omega
  have hw0 : (0 : Int) ≤ (W : Int) := by omega
  clear h
  go_enter Tryd.func13, Tryd.ntmps13
  go_wp2
  go_ret2
  exact ⟨rfl, rfl⟩

set_option maxRecDepth 100000 in
theorem topk_bad {w : World} {mb pb W : Nat} {S : Int} {L : List Pv} (h : MapIs w mb pb W S L) (hW : W ≤ 1024) (q : ByteArray) (hq : q.size = W / 8) (k : Int) (hk : k < 0 ∨ 4096 < k) :
    Calls Tryd.prog 13 #[.pointer (some ⟨mb, 0, none⟩), .string q, .int .i64 k] w fun e w' => e = .returned (.tuple #[.slice none 0 0, .int .i64 100]) ∧ Gr w w' := by
  obtain ⟨c0, c1, c2, f1⟩ := h.cells
  have hne : ((q.size : Int) != (W : Int) / 8) = false := by rw [bne_eq_false_iff_eq]; omega
  have hw0 : (0 : Int) ≤ (W : Int) := by omega
  have C := Lib.hid (newTop_bad k hk w)
  clear h
  go_enter Tryd.func13, Tryd.ntmps13
  go_wp2_with fail
  refine C.out.mono ?_
  rintro e w1 ⟨rfl, rfl⟩
  go_wp2
  go_ret2
  exact ⟨rfl, (Gr.refl _).alloc _⟩

set_option maxRecDepth 100000 in
theorem radius_bad {w : World} {mb pb W : Nat} {S : Int} {L : List Pv} (h : MapIs w mb pb W S L) (hW : W ≤ 1024) (q : ByteArray) (hq : q.size = W / 8) (r : Int) (hr : r < 0 ∨ (W : Int) < r) :
    Calls Tryd.prog 12 #[.pointer (some ⟨mb, 0, none⟩), .string q, .int .i64 r] w fun e w' => e = .returned (.tuple #[.slice none 0 0, .int .i64 101]) ∧ Gr w w' := by
  obtain ⟨c0, c1, c2, f1⟩ := h.cells
  have hne : ((q.size : Int) != (W : Int) / 8) = false := by rw [bne_eq_false_iff_eq]; omega
  have hw0 : (0 : Int) ≤ (W : Int) := by omega
  have hml := h.lt
  clear h
  by_cases hb : r < 0 ∨ 1024 < r
  · have C := Lib.hid (newBall_bad r hb w)
    go_enter Tryd.func12, Tryd.ntmps12
    go_wp2_with fail
    refine C.out.mono ?_
    rintro e w1 ⟨rfl, rfl⟩
    go_wp2
    go_ret2
    exact ⟨rfl, (Gr.refl _).alloc _⟩
  · have C := Lib.hid (newBall_ok r (by omega) (by omega) w)
    have d1 : decide ((W : Int) < r) = true := by simp; omega
    clear hr hb
    go_enter Tryd.func12, Tryd.ntmps12
    go_wp2_with fail
    refine C.out.mono ?_
    rintro e w1 ⟨tb, F1, rfl, hH, hG, hF⟩
    have hG2 := hG.alloc (.cells #[.pointer (some ⟨tb, 0, none⟩)] 67)
    have a0 := (hG2.below.cell (p := ⟨mb, 0, none⟩) hml.1).trans c0
    have HG2 := Lib.hid hG2
    clear hH hG hF hG2
    go_wp2
    go_ret2
    exact ⟨rfl, HG2.out⟩
end Go.Proofs.YtmfanldekjkbiaaDoor
