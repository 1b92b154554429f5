/-
  WALK: a file built, by the program.
-/
import Derived.Test.YtihgjihdmlomaaaDoorJBkZ
namespace Go.Proofs.YtihgjihdmlomaaaDoor
open Go.RowKit ArgK
set_option linter.unusedVariables false

/-- What build leaves. -/
def BuiltPost (w : World) (h : Hd) (list : List Ent) (e : Ending) (w' : World) : Prop :=
  ∃ q c, e = .returned (.tuple #[.string ⟨(fileB h list).toArray⟩, .slice q (linesB h list).length c]) ∧ Below w.heap.size w w' ∧ w'.ownsRow w.heap.size 134 7 (.slice q (linesB h list).length c) (linesB h list).length (encL (linesB h list))

set_option maxRecDepth 100000 in
set_option maxHeartbeats 4000000 in
theorem build_calls (h : Hd) (p : Option Addr) (n c : Nat) (list : List Ent) (hn : list.length = n) (hm : n ≤ 2097152) (hnc : n ≤ c) (hg : ∀ e ∈ list, Good e) (w : World) (hT : Tab w) (hE : EL w w.heap.size p list) :
    Calls Tryd.prog 34 #[h.val, .slice p n c] w (BuiltPost w h list) := by
  have hTB : 1 < w.heap.size := lt_of_cell (hT 0 (by decide))
  obtain ⟨hok, hlen, hbyt⟩ := blocksSt_ok h hg
  have hhd := headTB_len h list.length
  have hgl := groups_le hg
  obtain ⟨a, t, b, lo, hi, u⟩ := h
  simp only [Hd.val]
  obtain ⟨w1, hw1⟩ : ∃ w1, (w.alloc (.cells #[.int .i64 a, .int .i64 t, .int .i64 b, .int .i64 lo, .int .i64 hi, .int .i64 u] 23)).alloc (bdB (.pointer none) (.slice none 0 0) (.slice none 0 0) 0) = w1 := ⟨_, rfl⟩
  have hs1 : w1.heap.size = w.heap.size + 2 := by rw [← hw1]; simp
  have hz : w1.heap[w.heap.size]? = some (.cells #[.int .i64 a, .int .i64 t, .int .i64 b, .int .i64 lo, .int .i64 hi, .int .i64 u] 23 (0, 0)) := by
    rw [← hw1, Below.heap_alloc _ _ _ (by simp)]
    exact World.alloc_heap_new w _
  have hbd0 : Bd w1 (w.heap.size + 1) (w.heap.size + 1) ⟨[], [], 0⟩ := by
    have := Bd.new (w.alloc (.cells #[.int .i64 a, .int .i64 t, .int .i64 b, .int .i64 lo, .int .i64 hi, .int .i64 u] 23))
    rw [hw1] at this
    simpa using this
  have hb01 : Below w.heap.size w w1 := by rw [← hw1]; exact ((Below.refl _ w).alloc (Nat.le_refl _) _).alloc (by simp) _
  have HB01 := Lib.hid hb01
  have HW1 : Hid ((w.alloc (.cells #[.int .i64 a, .int .i64 t, .int .i64 b, .int .i64 lo, .int .i64 hi, .int .i64 u] 23)).alloc (.cells #[.pointer none, .slice none 0 0, .slice none 0 0, .int .u32 0] 107) = w1) := Lib.hid hw1
  obtain ⟨A, hA1, hA2, hA3⟩ := name_s (vNum a)
  obtain ⟨T, hT1, hT2, hT3⟩ := name_s (vNum t)
  obtain ⟨Bb, hB1, hB2, hB3⟩ := name_s (vNum b)
  obtain ⟨L, hL1, hL2, hL3⟩ := name_s (vNum lo)
  obtain ⟨H, hH1, hH2, hH3⟩ := name_s (vNum hi)
  obtain ⟨N, hN1, hN2, hN3⟩ := name_s (vNum list.length)
  have hcat : (((((A ++ T) ++ Bb) ++ L) ++ H) ++ N).data.toList = headTB ⟨a, t, b, lo, hi, u⟩ list.length := by
    simp only [cat_data, hA2, hT2, hB2, hL2, hH2, hN2, headTB]
  have s0 : A.size ≤ 10 := by rw [hA3]; exact vNum_len _
  have s1 : T.size ≤ 10 := by rw [hT3]; exact vNum_len _
  have s2 : Bb.size ≤ 10 := by rw [hB3]; exact vNum_len _
  have s3 : L.size ≤ 10 := by rw [hL3]; exact vNum_len _
  have s4 : H.size ≤ 10 := by rw [hH3]; exact vNum_len _
  have s5 : N.size ≤ 10 := by rw [hN3]; exact vNum_len _
  rw [hn] at hN1
  have HnA : Hid (∀ W, Below w1.heap.size w1 W → Calls Tryd.prog 58 #[.int .i64 a] W (fun e W' => e = .returned (.string A) ∧ Below w1.heap.size w1 W')) := Lib.hid (fun W hW => by rw [← hA1]; exact (number_calls a W).mono (fun e W' ⟨k1, k2⟩ => ⟨k1, hW.trans (k2.mono hW.size)⟩))
  have HnT : Hid (∀ W, Below w1.heap.size w1 W → Calls Tryd.prog 58 #[.int .i64 t] W (fun e W' => e = .returned (.string T) ∧ Below w1.heap.size w1 W')) := Lib.hid (fun W hW => by rw [← hT1]; exact (number_calls t W).mono (fun e W' ⟨k1, k2⟩ => ⟨k1, hW.trans (k2.mono hW.size)⟩))
  have HnB : Hid (∀ W, Below w1.heap.size w1 W → Calls Tryd.prog 58 #[.int .i64 b] W (fun e W' => e = .returned (.string Bb) ∧ Below w1.heap.size w1 W')) := Lib.hid (fun W hW => by rw [← hB1]; exact (number_calls b W).mono (fun e W' ⟨k1, k2⟩ => ⟨k1, hW.trans (k2.mono hW.size)⟩))
  have HnL : Hid (∀ W, Below w1.heap.size w1 W → Calls Tryd.prog 58 #[.int .i64 lo] W (fun e W' => e = .returned (.string L) ∧ Below w1.heap.size w1 W')) := Lib.hid (fun W hW => by rw [← hL1]; exact (number_calls lo W).mono (fun e W' ⟨k1, k2⟩ => ⟨k1, hW.trans (k2.mono hW.size)⟩))
  have HnH : Hid (∀ W, Below w1.heap.size w1 W → Calls Tryd.prog 58 #[.int .i64 hi] W (fun e W' => e = .returned (.string H) ∧ Below w1.heap.size w1 W')) := Lib.hid (fun W hW => by rw [← hH1]; exact (number_calls hi W).mono (fun e W' ⟨k1, k2⟩ => ⟨k1, hW.trans (k2.mono hW.size)⟩))
  have HnN : Hid (∀ W, Below w1.heap.size w1 W → Calls Tryd.prog 58 #[.int .i64 (n : Nat)] W (fun e W' => e = .returned (.string N) ∧ Below w1.heap.size w1 W')) := Lib.hid (fun W hW => by rw [← hN1]; exact (number_calls n W).mono (fun e W' ⟨k1, k2⟩ => ⟨k1, hW.trans (k2.mono hW.size)⟩))
  have HFr : Hid (∀ W, Below w1.heap.size w1 W → Calls Tryd.prog 57 #[.pointer (some ⟨w.heap.size + 1, 0, none⟩), .int .i64 4, .string (((((A ++ T) ++ Bb) ++ L) ++ H) ++ N)] W (fun e W' => e = .returned (.tuple #[]) ∧ Bd W' (w.heap.size + 1) (w.heap.size + 1) (headSt ⟨a, t, b, lo, hi, u⟩ list) ∧ Below (w.heap.size + 1) w1 W')) := Lib.hid (fun W hW => by
    have := frame_calls (w.heap.size + 1) (w.heap.size + 1) ⟨[], [], 0⟩ 4 (by decide) (by decide) (((((A ++ T) ++ Bb) ++ L) ++ H) ++ N) (by simp only [ByteArray.size_append]; omega) W ((hT.below hb01).below hW) (hbd0.below hW) (by simp only [ByteArray.size_append, List.length_nil]; omega)
    rw [hcat] at this
    exact this.mono (fun e W' ⟨k1, k2, k3, _⟩ => ⟨k1, by simpa [headSt] using k2, (hW.mono (by omega)).trans k3⟩))
  have HK : Hid (∀ W, Below (w.heap.size + 1) w1 W → W.cell? ⟨w.heap.size, 0, none⟩ = some (.int .i64 a) ∧ W.cell? ⟨w.heap.size, 1, none⟩ = some (.int .i64 t) ∧ W.cell? ⟨w.heap.size, 2, none⟩ = some (.int .i64 b) ∧ W.cell? ⟨w.heap.size, 3, none⟩ = some (.int .i64 lo) ∧ W.cell? ⟨w.heap.size, 4, none⟩ = some (.int .i64 hi) ∧ W.cell? ⟨w.heap.size, 5, none⟩ = some (.int .i64 u)) := Lib.hid (fun W hW => cells6 ((hW.block w.heap.size (by omega)).trans hz))
  obtain ⟨c0, c1, c2, c3, c4, c5⟩ := cells6 hz
  have hb0 : Below w1.heap.size w1 w1.drew := (Below.refl _ w1).drew
  have q1 := add_run (a := A) (b := T) (by omega)
  have q2 := add_run (a := A ++ T) (b := Bb) (by simp only [ByteArray.size_append]; omega)
  have q3 := add_run (a := (A ++ T) ++ Bb) (b := L) (by simp only [ByteArray.size_append]; omega)
  have q4 := add_run (a := ((A ++ T) ++ Bb) ++ L) (b := H) (by simp only [ByteArray.size_append]; omega)
  have q5 := add_run (a := (((A ++ T) ++ Bb) ++ L) ++ H) (b := N) (by simp only [ByteArray.size_append]; omega)
  have hsz1 : w.heap.size + 1 ≤ w1.heap.size := by omega
  have HSZ := Lib.hid hsz1
  have HTT := Lib.hid hT
  have HE := Lib.hid hE
  have HG := Lib.hid hg
  have HN := Lib.hid hn
  have HOK := Lib.hid hok
  have HLEN := Lib.hid hlen
  have HBYT := Lib.hid hbyt
  have HGL := Lib.hid hgl
  have HHD := Lib.hid hhd
  have hbu : ∀ W : World, (Instr.build 107 #[]).run Tryd.prog W = .ok (.agg #[.pointer none, .slice none 0 0, .slice none 0 0, .int .u32 0]) W := fun W => run_build W _ _ _ (by kernel_rfl)
  clear hz hs1 hb01 hw1 hbd0 hcat hA1 hA2 hA3 hT1 hT2 hT3 hB1 hB2 hB3 hL1 hL2 hL3 hH1 hH2 hH3 hN1 hN2 hN3 s0 s1 s2 s3 s4 s5 hT hE hg hn hok hlen hbyt hgl hhd hsz1
  go_enter Tryd.func34, Tryd.ntmps34
  go_wp2
  rw [HW1.out]
  go_region_held3 (fun W => W.cell? ⟨w.heap.size, 0, none⟩ = some (.int .i64 a) ∧ W.cell? ⟨w.heap.size, 1, none⟩ = some (.int .i64 t) ∧ W.cell? ⟨w.heap.size, 2, none⟩ = some (.int .i64 b) ∧ W.cell? ⟨w.heap.size, 3, none⟩ = some (.int .i64 lo) ∧ W.cell? ⟨w.heap.size, 4, none⟩ = some (.int .i64 hi) ∧ W.cell? ⟨w.heap.size, 5, none⟩ = some (.int .i64 u)) (first | exact ⟨c0, c1, c2, c3, c4, c5⟩ | exact HK.out _ (Below.mono (by assumption) HSZ.out) | exact HK.out _ (by assumption)) (first | (go_at_call 58; (with_reducible refine (HnA.out _ (by assumption)).mono ?_); rintro e wq ⟨rfl, hcq⟩) | (go_at_call 58; (with_reducible refine (HnT.out _ (by assumption)).mono ?_); rintro e wq ⟨rfl, hcq⟩) | (go_at_call 58; (with_reducible refine (HnB.out _ (by assumption)).mono ?_); rintro e wq ⟨rfl, hcq⟩) | (go_at_call 58; (with_reducible refine (HnL.out _ (by assumption)).mono ?_); rintro e wq ⟨rfl, hcq⟩) | (go_at_call 58; (with_reducible refine (HnH.out _ (by assumption)).mono ?_); rintro e wq ⟨rfl, hcq⟩) | (go_at_call 58; (with_reducible refine (HnN.out _ (by assumption)).mono ?_); rintro e wq ⟨rfl, hcq⟩) | (go_at_call 57; refine (HFr.out _ (by assumption)).mono ?_; rintro e wf ⟨rfl, hdf, hcf⟩))
  have hbf : Below w.heap.size w wf := HB01.out.trans (hcf.mono (Nat.le_succ _))
  have HBF := Lib.hid hbf
  have hTf := HTT.out.below hbf
  have CB := blocks_calls (w.heap.size + 1) (w.heap.size + 1) (headSt ⟨a, t, b, lo, hi, u⟩ list) p n c list HN.out hm hnc HG.out wf hTf (Nat.lt_succ_of_lt hTB) hdf (headSt_ok _ _) (by simp only [headSt, frameB_length]; have := HHD.out; omega) rfl ((HE.out.below hbf (Nat.le_refl _)).mono (Nat.le_succ _))
  have HCB := Lib.hid CB
  clear hbf hTf CB hdf hcf c0 c1 c2 c3 c4 c5 q1 q2 q3 q4 q5 hb0 hcq
  go_wp2_with fail
  refine HCB.out.mono ?_
  rintro e w3 ⟨rfl, hd3, hb3⟩
  have HB3 : Hid (Below w.heap.size w w3) := Lib.hid (HBF.out.trans (hb3.mono (Nat.le_succ _)))
  have CI := index_calls (w.heap.size + 1) (w.heap.size + 1) (blocksSt ⟨a, t, b, lo, hi, u⟩ list) w3 (HTT.out.below HB3.out) (Nat.lt_succ_of_lt hTB) hd3 HOK.out (by have := HBYT.out; rw [HN.out] at this; omega) (by rw [HLEN.out]; have := HGL.out; rw [HN.out] at this; omega)
  have HCI := Lib.hid CI
  clear hd3 hb3 CI
  go_wp2_with fail
  refine HCI.out.mono ?_
  rintro e w4 ⟨rfl, hd4, hb4⟩
  have HB4 : Hid (Below w.heap.size w w4) := Lib.hid (HB3.out.trans (hb4.mono (Nat.le_succ _)))
  have hne : (blocksSt ⟨a, t, b, lo, hi, u⟩ list).l ++ rowsB (blocksSt ⟨a, t, b, lo, hi, u⟩ list).lines ++ frameB 7 (footB (blocksSt ⟨a, t, b, lo, hi, u⟩ list)) ≠ [] := fun e => by
    have := congrArg List.length e
    rw [List.length_append, frameB_length] at this
    simp at this
  have hS := String_calls (w.heap.size + 1) (w.heap.size + 1) _ w4.drew (hd4.below (Below.refl _ w4).drew) hne
  obtain ⟨p4, _, v4, lv4, hbk4, _, hlin4⟩ := hd4.ex
  obtain ⟨lq, lc, rfl, _⟩ := own_rd hlin4
  have hnl : (blocksSt ⟨a, t, b, lo, hi, u⟩ list).lines.length = (linesB ⟨a, t, b, lo, hi, u⟩ list).length := rfl
  obtain ⟨ml, hml⟩ : ∃ ml, (linesB ⟨a, t, b, lo, hi, u⟩ list).length = ml := ⟨_, rfl⟩
  have d2 : w4.cell? ⟨w.heap.size + 1, 2, none⟩ = some (.slice lq ml lc) := by
    have h := hbk4
    unfold bdB at h
    simp only at h
    rw [hnl, hml] at h
    simp [World.cell?, h]
  have d2' : w4.drew.cell? ⟨w.heap.size + 1, 2, none⟩ = some (.slice lq ml lc) := d2
  have hS2 : Calls Tryd.prog 61 #[.pointer (some ⟨w.heap.size + 1, 0, none⟩)] w4.drew (fun e w' => e = .returned (.string ⟨(fileB ⟨a, t, b, lo, hi, u⟩ list).toArray⟩) ∧ w'.cell? ⟨w.heap.size + 1, 2, none⟩ = some (.slice lq ml lc) ∧ BuiltPost w ⟨a, t, b, lo, hi, u⟩ list (.returned (.tuple #[.string ⟨(fileB ⟨a, t, b, lo, hi, u⟩ list).toArray⟩, .slice lq ml lc])) w') := hS.mono (fun e w' ⟨k1, k2, lv, k3, k4, k5⟩ => by
    rw [d2'] at k4
    cases k4
    refine ⟨k1, k3, lq, lc, by rw [hml], HB4.out.trans ((Below.refl _ w4).drew.trans (k2.mono (Nat.le_succ _))), ?_⟩
    rw [hml]
    simp only at k5
    rw [hnl, hml] at k5
    exact own_le k5 (Nat.le_succ _))
  have HS := Lib.hid hS2
  generalize (⟨(fileB ⟨a, t, b, lo, hi, u⟩ list).toArray⟩ : ByteArray) = R at HS
  clear hS hS2 hd4 hb4 hbk4 hlin4 hne hml hnl d2'
  go_wp2
  go_region_held3 (fun W => W.cell? ⟨w.heap.size + 1, 2, none⟩ = some (.slice lq ml lc)) (first | exact d2 | exact hk5) (first | (go_at_call 61; refine HS.out.mono ?_; rintro e w5 ⟨rfl, hk5, hp5⟩))
  have HP5 := Lib.hid hp5
  clear hk5 hp5
  go_wp2
  go_ret2
  exact HP5.out
end Go.Proofs.YtihgjihdmlomaaaDoor
