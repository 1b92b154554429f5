/-
  WALKS: Insert, Get, Delete, Count, Seq of a map of pairs.
-/
import Derived.Test.YtmfanldekjkbiaaDoorPlainA
namespace Go.Proofs.YtmfanldekjkbiaaDoor
open Go.RowKit
set_option linter.unusedVariables false

/-- What Insert answers. -/
def insCode (W : Nat) (L : List Pv) (p : Pv) : Int :=
  if ¬(0 ≤ p.i ∧ p.i ≤ 281474976710656) then 60 else if p.c.size ≠ W / 8 then 11 else if hasId L p.i = true then 130 else if 1048576 ≤ L.length then 43 else 0

/-- What Insert leaves. -/
def InsPost (w : World) (mb pb W : Nat) (S : Int) (L : List Pv) (p : Pv) (e : Ending) (w' : World) : Prop :=
  e = .returned (.int .i64 (insCode W L p)) ∧ MapIs w' mb pb W (if insCode W L p = 0 then S + 1 else S) (if insCode W L p = 0 then L ++ [p] else L) ∧ FrP w w' (MapB mb pb)

theorem insPost_no {w w' : World} {mb pb W : Nat} {S : Int} {L : List Pv} {p : Pv} {c : Int} (hc : insCode W L p = c) (h0 : c ≠ 0) (h : MapIs w mb pb W S L) (hg : Gr w w') : InsPost w mb pb W S L p (.returned (.int .i64 c)) w' := by
  refine ⟨by rw [hc], ?_, FrP.of_gr hg⟩
  rw [hc, if_neg h0, if_neg h0]
  exact h.gr hg

theorem map_seq {w1 : World} {mb pb W : Nat} {S S' : Int} {L : List Pv} (h : MapIs w1 mb pb W S L) : MapIs (w1.setCell ⟨mb, 1, none⟩ (.int .i64 S')) mb pb W S' L := by
  have hne := h.ne
  refine ⟨by simp [World.setCell, Array.getElem?_modify, h.1], h.2.1.of (Below.heap_setCell _ _ _ _ (fun e => hne e.symm)), h.2.2⟩

theorem map_frp {w W' w1 : World} {mb pb : Nat} {v : Value} (hg : Gr w W') (h1 : W'.grownBy w1 (some pb)) : FrP w (w1.setCell ⟨mb, 1, none⟩ v) (MapB mb pb) := by
  have hb := hg.below
  refine ⟨(h1.os.trans hb.os), (h1.tape.trans hb.tape), (h1.output.trans hb.output), by simpa [World.setCell] using Nat.le_trans hb.size h1.size, fun b hlt hn => ?_⟩
  rw [Below.heap_setCell _ _ _ _ (fun e => hn (.inl e)), h1.block b (Nat.lt_of_lt_of_le hlt hb.size) (fun e => hn (.inr (Option.some.inj e)))]
  exact hb.block b hlt

theorem insPost_ok {w W' w1 : World} {mb pb W : Nat} {S : Int} {L : List Pv} {p : Pv} (hc : insCode W L p = 0) (h : MapIs w mb pb W S L) (hp : 0 ≤ p.i ∧ p.i ≤ 281474976710656 ∧ p.c.size = W / 8) (hg : Gr w W') (h1 : PairsIs w1 pb (L ++ [p])) (h2 : W'.grownBy w1 (some pb)) :
    InsPost w mb pb W S L p (.returned (.int .i64 0)) (w1.setCell ⟨mb, 1, none⟩ (.int .i64 (S + 1))) := by
  have hm := h.gr hg
  refine ⟨by rw [hc], ?_, map_frp hg h2⟩
  rw [hc, if_pos rfl, if_pos rfl]
  have : MapIs w1 mb pb W S (L ++ [p]) := ⟨(h2.block mb hm.lt.1 (fun e => hm.ne (Option.some.inj e))).trans hm.1, h1, fun q hq => by
    rcases List.mem_append.1 hq with hq | hq
    · exact h.2.2 q hq
    · rw [List.mem_singleton.1 hq]; exact hp⟩
  exact map_seq this

theorem map_seqCell {w W' w1 : World} {mb pb W : Nat} {S : Int} {L : List Pv} (h : MapIs w mb pb W S L) (hg : Gr w W') (h2 : W'.grownBy w1 (some pb)) : w1.cell? ⟨mb, 1, none⟩ = some (.int .i64 S) ∧ w1.frozen? ⟨mb, 1, none⟩ = false := by
  have hm := h.gr hg
  have hb := (h2.block mb hm.lt.1 (fun e => hm.ne (Option.some.inj e))).trans hm.1
  simp [World.cell?, World.frozen?, hb]

set_option maxRecDepth 100000 in
set_option maxHeartbeats 4000000 in
theorem insert_calls {w : World} {mb pb W : Nat} {S : Int} {L : List Pv} (h : MapIs w mb pb W S L) (hS : 0 ≤ S ∧ S ≤ 4611686018427387904) (p : Pv) (hi : (Lit.int .i64 p.i).wf = true) (hc : p.c.size ≤ 140737488351232) (hW : W ≤ 1024) :
    Calls Tryd.prog 25 #[.pointer (some ⟨mb, 0, none⟩), .int .i64 p.i, .string p.c] w (InsPost w mb pb W S L p) := by
  obtain ⟨c0, c1, c2, f1⟩ := h.cells
  have hal : ∀ o, (w.alloc o).cell? ⟨mb, 0, none⟩ = some (.int .i64 (W : Int)) ∧ (w.alloc o).cell? ⟨mb, 1, none⟩ = some (.int .i64 S) ∧ (w.alloc o).cell? ⟨mb, 2, none⟩ = some (.map (some pb)) := fun o => by
    obtain ⟨k0, k1, k2, _⟩ := (h.gr ((Gr.refl w).alloc o)).cells
    exact ⟨k0, k1, k2⟩
  obtain ⟨a0, a1, a2⟩ := hal (.cells #[.string (codeAt L p.i)] 79)
  have HM := Lib.hid h
  have HP := Lib.hid h.2.1
  have C := fun W => isID_calls p.i W
  have HC := Lib.hid C
  clear h C hal
  have hq0 : (0 : Int) ≤ (W : Int) := by omega
  by_cases h1 : 0 ≤ p.i ∧ p.i ≤ 281474976710656
  · have d1 : decide (0 ≤ p.i ∧ p.i ≤ 281474976710656) = true := by simp [h1]
    rw [d1] at HC
    by_cases h2 : p.c.size = W / 8
    · have d2 : ((p.c.size : Int) != (W : Int) / 8) = false := by rw [bne_eq_false_iff_eq]; omega
      by_cases h3 : hasId L p.i = true
      · have hcode : insCode W L p = 130 := by unfold insCode; rw [if_neg (by simp [h1]), if_neg (by simp [h2]), if_pos h3]
        have HCd := Lib.hid hcode
        clear hcode
        go_enter Tryd.func25, Tryd.ntmps25
        go_wp2_with (at_lookup; refine wpList_lookup_pairs _ rfl _ _ rfl pb L rfl HP.out p.i rfl hi ?_; rw [h3])
        refine (HC.out _).mono ?_
        rintro e w1 ⟨rfl, rfl⟩
        go_wp2
        go_ret
        exact insPost_no HCd.out (by decide) HM.out ((Gr.refl _).alloc _)
      · have h3' : hasId L p.i = false := by simpa using h3
        by_cases h4 : 1048576 ≤ L.length
        · have hcode : insCode W L p = 43 := by unfold insCode; rw [if_neg (by simp [h1]), if_neg (by simp [h2]), if_neg h3, if_pos h4]
          have d4 : decide ((1048576 : Int) ≤ (L.length : Int)) = true := by simp; omega
          have HCd := Lib.hid hcode
          clear hcode
          go_enter Tryd.func25, Tryd.ntmps25
          go_wp2_with (at_lookup; refine wpList_lookup_pairs _ rfl _ _ rfl pb L rfl HP.out p.i rfl hi ?_; rw [h3'])
          refine (HC.out _).mono ?_
          rintro e w1 ⟨rfl, rfl⟩
          go_wp2_with (at_len; refine wpList_len_pairs _ rfl _ rfl pb L rfl (HM.out.gr ((Gr.refl _).alloc _)).2.1 ?_)
          go_ret
          exact insPost_no HCd.out (by decide) HM.out ((Gr.refl _).alloc _)
        · have hcode : insCode W L p = 0 := by unfold insCode; rw [if_neg (by simp [h1]), if_neg (by simp [h2]), if_neg h3, if_neg h4]
          have d4 : decide ((1048576 : Int) ≤ (L.length : Int)) = false := by simp; omega
          have HCd := Lib.hid hcode
          have HF := Lib.hid (And.intro h1.1 (And.intro h1.2 h2))
          clear hcode
          go_enter Tryd.func25, Tryd.ntmps25
          go_wp2_with (at_lookup; refine wpList_lookup_pairs _ rfl _ _ rfl pb L rfl HP.out p.i rfl hi ?_; rw [h3'])
          refine (HC.out _).mono ?_
          rintro e w1 ⟨rfl, rfl⟩
          go_wp2_with (first | (at_len; refine wpList_len_pairs _ rfl _ rfl pb L rfl (HM.out.gr ((Gr.refl _).alloc _)).2.1 ?_) | (at_mapUpdate; refine wpList_mapUpdate_pairs _ rfl _ _ _ rfl pb L rfl (HM.out.gr ((Gr.refl _).alloc _)).2.1 p rfl rfl hi h3' (by unfold maxLen; omega) ?_; intro w2 hP2 hg2; have hk2 := map_seqCell HM.out ((Gr.refl _).alloc _) hg2; obtain ⟨k1, k2⟩ := hk2))
          go_ret
          exact insPost_ok HCd.out HM.out HF.out ((Gr.refl _).alloc _) hP2 hg2
    · have hcode : insCode W L p = 11 := by unfold insCode; rw [if_neg (by simp [h1]), if_pos h2]
      have d2 : ((p.c.size : Int) != (W : Int) / 8) = true := by rw [bne_iff_ne]; omega
      have HCd := Lib.hid hcode
      clear hcode
      go_enter Tryd.func25, Tryd.ntmps25
      go_wp2_with (at_lookup; refine wpList_lookup_pairs _ rfl _ _ rfl pb L rfl HP.out p.i rfl hi ?_)
      refine (HC.out _).mono ?_
      rintro e w1 ⟨rfl, rfl⟩
      go_wp2
      go_ret
      exact insPost_no HCd.out (by decide) HM.out ((Gr.refl _).alloc _)
  · have d1 : decide (0 ≤ p.i ∧ p.i ≤ 281474976710656) = false := by simp only [decide_eq_false_iff_not]; exact h1
    rw [d1] at HC
    have hcode : insCode W L p = 60 := by unfold insCode; rw [if_pos h1]
    have HCd := Lib.hid hcode
    clear hcode
    go_enter Tryd.func25, Tryd.ntmps25
    go_wp2_with (at_lookup; refine wpList_lookup_pairs _ rfl _ _ rfl pb L rfl HP.out p.i rfl hi ?_)
    refine (HC.out _).mono ?_
    rintro e w1 ⟨rfl, rfl⟩
    go_wp2
    go_ret
    exact insPost_no HCd.out (by decide) HM.out ((Gr.refl _).alloc _)

/-- What Get answers: a code, or why there is none. -/
def getCode (L : List Pv) (i : Int) : Int := if ¬(0 ≤ i ∧ i ≤ 281474976710656) then 60 else if hasId L i = true then 0 else 131

set_option maxRecDepth 100000 in
set_option maxHeartbeats 2000000 in
theorem get_calls {w : World} {mb pb W : Nat} {S : Int} {L : List Pv} (h : MapIs w mb pb W S L) (i : Int) (hi : (Lit.int .i64 i).wf = true) :
    Calls Tryd.prog 15 #[.pointer (some ⟨mb, 0, none⟩), .int .i64 i] w fun e w' => e = .returned (.tuple #[.string (if getCode L i = 0 then codeAt L i else ⟨#[]⟩), .int .i64 (getCode L i)]) ∧ Gr w w' := by
  obtain ⟨c0, c1, c2, f1⟩ := h.cells
  have HP := Lib.hid h.2.1
  have HC := Lib.hid (fun W => isID_calls i W)
  clear h
  by_cases h1 : 0 ≤ i ∧ i ≤ 281474976710656
  · have d1 : decide (0 ≤ i ∧ i ≤ 281474976710656) = true := by simp [h1]
    rw [d1] at HC
    by_cases h3 : hasId L i = true
    · have hcode : getCode L i = 0 := by unfold getCode; rw [if_neg (by simp [h1]), if_pos h3]
      rw [hcode, if_pos rfl]
      clear hcode
      go_enter Tryd.func15, Tryd.ntmps15
      go_wp2_with fail
      refine (HC.out _).mono ?_
      rintro e w1 ⟨rfl, rfl⟩
      go_wp2_with (at_lookup; refine wpList_lookup_pairs _ rfl _ _ rfl pb L rfl HP.out i rfl hi ?_; rw [h3])
      go_ret2
      exact ⟨rfl, (Gr.refl _).alloc _⟩
    · have h3' : hasId L i = false := by simpa using h3
      have hcode : getCode L i = 131 := by unfold getCode; rw [if_neg (by simp [h1]), if_neg h3]
      rw [hcode, if_neg (by decide)]
      clear hcode
      go_enter Tryd.func15, Tryd.ntmps15
      go_wp2_with fail
      refine (HC.out _).mono ?_
      rintro e w1 ⟨rfl, rfl⟩
      go_wp2_with (at_lookup; refine wpList_lookup_pairs _ rfl _ _ rfl pb L rfl HP.out i rfl hi ?_; rw [h3'])
      go_ret2
      exact ⟨rfl, (Gr.refl _).alloc _⟩
  · have d1 : decide (0 ≤ i ∧ i ≤ 281474976710656) = false := by simp only [decide_eq_false_iff_not]; exact h1
    rw [d1] at HC
    have hcode : getCode L i = 60 := by unfold getCode; rw [if_pos h1]
    rw [hcode, if_neg (by decide)]
    clear hcode
    go_enter Tryd.func15, Tryd.ntmps15
    go_wp2_with fail
    refine (HC.out _).mono ?_
    rintro e w1 ⟨rfl, rfl⟩
    go_wp2
    go_ret2
    exact ⟨rfl, Gr.refl _⟩

theorem count_calls {w : World} {mb pb W : Nat} {S : Int} {L : List Pv} (h : MapIs w mb pb W S L) :
    Calls Tryd.prog 26 #[.pointer (some ⟨mb, 0, none⟩)] w fun e w' => e = .returned (.int .i64 (L.length : Nat)) ∧ w' = w := by
  obtain ⟨c0, c1, c2, f1⟩ := h.cells
  have HP := Lib.hid h.2.1
  clear h
  go_enter Tryd.func26, Tryd.ntmps26
  go_wp2_with (at_len; refine wpList_len_pairs _ rfl _ rfl pb L rfl HP.out ?_)
  go_ret
  exact ⟨rfl, rfl⟩

theorem seq_calls {w : World} {mb pb W : Nat} {S : Int} {L : List Pv} (h : MapIs w mb pb W S L) :
    Calls Tryd.prog 24 #[.pointer (some ⟨mb, 0, none⟩)] w fun e w' => e = .returned (.int .i64 S) ∧ w' = w := by
  obtain ⟨c0, c1, c2, f1⟩ := h.cells
  clear h
  go_enter Tryd.func24, Tryd.ntmps24
  go_wp2
  go_ret
  exact ⟨rfl, rfl⟩
end Go.Proofs.YtmfanldekjkbiaaDoor
