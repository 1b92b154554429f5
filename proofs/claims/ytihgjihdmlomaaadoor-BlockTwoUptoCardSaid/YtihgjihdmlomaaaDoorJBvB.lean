/-
  THE LAW BlockLittle.
-/
import Derived.Test.YtihgjihdmlomaaaDoorJBvA
namespace Go.Proofs.YtihgjihdmlomaaaDoor
open Go.RowKit ArgK
set_option linter.unusedVariables false

set_option maxRecDepth 100000 in
set_option maxHeartbeats 8000000 in
theorem BlockLittle_walk (sa0 : Array Value) (h : Hd) (v1 : Value) (z : List Ent) (v2 : Value) (z2 : List Int) (sa3 : Array Value) (en : Ent) (w : World) (h0 : IsHd sa0.toList h) (h1 : IsSl w 5 48 IsEnt [v1] z) (h2 : XKit.IsRow w v2 z2) (h3 : IsEnt sa3.toList en) (hL : TabLaid w) :
    Calls Tryd.prog 10 #[.agg sa0, v1, v2, .agg sa3] w fun e w' => e = .returned (.bool true) ∧ Below w.heap.size w w' := by
  obtain rfl := hd_arg h0
  obtain rfl := ent_arg h3
  obtain ⟨p, c, rfl, hp, hnc, hm, hE, hcs⟩ := el_arg h1
  obtain ⟨p2, c2, rfl, hm2, hV, _⟩ := int_arg h2
  have hT := tab_of_laid hL
  obtain ⟨i0, hi, hz0, hz1, hz2⟩ := info_parts entinfo6
  obtain ⟨n, hn⟩ : ∃ n, z.length = n := ⟨_, rfl⟩
  obtain ⟨m, hmm⟩ : ∃ m, z2.length = m := ⟨_, rfl⟩
  rw [hn] at hp hnc hm ⊢
  rw [hmm] at hm2 ⊢
  obtain ⟨W0, hW0⟩ : ∃ W0, (w.alloc (.cells #[.int .i64 h.w, .int .i64 h.t, .int .i64 h.b, .int .i64 h.lo, .int .i64 h.hi, .int .i64 h.n] 23)).alloc (.cells #[.int .i64 en.v, .string en.c, .int .i64 en.i, .int .i64 en.s, .bool en.d] 33) = W0 := ⟨_, rfl⟩
  have hb0 : Below w.heap.size w W0 := by rw [← hW0]; exact ((Below.refl _ w).alloc (Nat.le_refl _) _).alloc (by simp) _
  have hsz0 : W0.heap.size = w.heap.size + 1 + 1 := by rw [← hW0]; simp
  have hx0 : W0.heap[w.heap.size]? = some (.cells #[.int .i64 h.w, .int .i64 h.t, .int .i64 h.b, .int .i64 h.lo, .int .i64 h.hi, .int .i64 h.n] 23 (0, 0)) := by
    rw [← hW0]
    exact (Below.heap_alloc _ _ _ (by simp)).trans (World.alloc_heap_new w _)
  have hx1 : W0.heap[w.heap.size + 1]? = some (.cells #[.int .i64 en.v, .string en.c, .int .i64 en.i, .int .i64 en.s, .bool en.d] 33 (0, 0)) := by
    rw [← hW0]
    have := World.alloc_heap_new (w.alloc (.cells #[.int .i64 h.w, .int .i64 h.t, .int .i64 h.b, .int .i64 h.lo, .int .i64 h.hi, .int .i64 h.n] 23)) (.cells #[.int .i64 en.v, .string en.c, .int .i64 en.i, .int .i64 en.s, .bool en.d] 33)
    rwa [World.size_alloc] at this
  have CBg := begun6_calls W0 (hT.below hb0)
  have HCBg := Lib.hid CBg
  have HN := Lib.hid hn
  have HM := Lib.hid hmm
  have HE := Lib.hid hE
  have HV := Lib.hid hV
  have HCS := Lib.hid hcs
  have HT := Lib.hid hT
  have HB0 := Lib.hid hb0
  have HX0 := Lib.hid hx0
  have HX1 := Lib.hid hx1
  have HSZ := Lib.hid hsz0
  have HW0 := Lib.hid hW0
  clear h0 h1 h2 h3 hL hn hmm hp hE hV hcs hT CBg hb0 hx0 hx1 hsz0
  go_enter Tryd.func10, Tryd.ntmps10
  go_wp2_with fail
  clear hW0
  refine HCBg.out.mono ?_
  rintro e w1 ⟨rfl, hb1⟩
  have hx01 := (hb1.block w.heap.size (by rw [HSZ.out]; omega)).trans HX0.out
  have HBw1 : Hid (Below w.heap.size w w1) := Lib.hid (HB0.out.trans (hb1.mono (by rw [HSZ.out]; omega)))
  have HB1 := Lib.hid hb1
  obtain ⟨d0, d1, d2, d3, d4, d5⟩ := cells6 hx01
  have CB := Build_calls h p n c z HN.out (by omega) hnc HCS.out w1 (HT.out.below HBw1.out) ((HE.out.below HBw1.out (Nat.le_refl _)).mono HBw1.out.size)
  unfold Hd.val BuildPost at CB
  clear hb1 hx01
  by_cases hgo : goesR h z = 0
  · have hbt : builtR h z = (fileB h z, 0) := by unfold builtR; rw [if_pos hgo]
    rw [hbt] at CB
    have CO := fun W hW => Open_built (h := h) (l := z) hgo W hW
    have hgn : goesR ⟨h.w, h.t, h.b, h.lo, h.hi, (n : Nat)⟩ z = 0 := by rw [goesR_n]; exact hgo
    have hnl : n ≤ 2097152 := by rw [← HN.out]; exact (goesR_good hgo).2.1
    obtain ⟨S, hS⟩ : ∃ S, (⟨(fileB h z).toArray⟩ : ByteArray) = S := ⟨_, rfl⟩
    simp only [hS] at CB CO
    have HCB := Lib.hid CB
    have HCO := Lib.hid CO
    have HGn := Lib.hid hgn
    clear CB CO hS hgn hbt hgo
    go_wp2_with fail
    refine HCB.out.mono ?_
    rintro e w2 ⟨rfl, hb2⟩
    have HB2 : Hid (Below W0.heap.size W0 w2) := Lib.hid (HB1.out.trans (hb2.mono HB1.out.size))
    have HBw2 : Hid (Below w.heap.size w w2) := Lib.hid (HBw1.out.trans (hb2.mono HBw1.out.size))
    clear hb2 d0 d1 d2 d3 d4 d5
    go_wp2_with fail
    refine (HCO.out w2 (HT.out.below HBw2.out)).mono ?_
    rintro e w3 ⟨fb, rfl, hF3, hfb3, hb3⟩
    rw [HN.out] at hF3
    have hsw2 := HB2.out.size
    have HB3 : Hid (Below W0.heap.size W0 w3) := Lib.hid (HB2.out.trans (hb3.mono HB2.out.size))
    have HF3 := Lib.hid hF3
    obtain ⟨bs, hbs⟩ : ∃ bs, w2.heap.size = bs := ⟨_, rfl⟩
    rw [hbs] at HF3 hfb3 hsw2
    have HFb : Hid (W0.heap.size ≤ fb) := Lib.hid (by omega)
    clear hb3 hF3 hbs hsw2 hfb3 HCO HCB HBw2
    go_wp2_with fail
    have HR0 : Hid (∃ r : Nat, r ≤ 0 * 131072 ∧ FileAt w3 bs fb ⟨h.w, h.t, h.b, h.lo, h.hi, (n : Nat)⟩ z (r : Nat) ∧ Below W0.heap.size W0 w3) := Lib.hid ⟨0, Nat.zero_le _, HF3.out, HB3.out⟩
    clear HF3 HB3 HB2 HB1 HBw1
    go_loopw [14] (fun iv wr => ∃ i : Nat, iv = .int .i64 i ∧ i ≤ m ∧ ∃ r : Nat, r ≤ i * 131072 ∧ FileAt wr bs fb ⟨h.w, h.t, h.b, h.lo, h.hi, (n : Nat)⟩ z (r : Nat) ∧ Below W0.heap.size W0 wr) (fun iv _ => m - (intOf iv).toNat)
    case atStart => exact ⟨0, rfl, Nat.zero_le _, HR0.out⟩
    case round =>
      rename World => wo
      obtain ⟨i, rfl, him, r, hr, hF, hB⟩ := hrel
      have HF := Lib.hid hF
      have HB := Lib.hid hB
      have HBw := Lib.hid (HB0.out.trans (hB.mono HB0.out.size))
      clear hF hB
      by_cases hlt : i < m
      · obtain ⟨y, hy⟩ : ∃ y, z2[i]? = some y := ⟨_, List.getElem?_eq_getElem (by rw [HM.out]; exact hlt)⟩
        obtain ⟨a2, rfl, ha2, hc2⟩ := HV.out i y hy
        have hi0 : (0 : Int) ≤ (i : Int) := by omega
        have hi1 : (i : Int) < (m : Int) := by omega
        have c2' := (HBw.out.cell (p := a2.add i) (by rw [add_blockE]; exact ha2)).trans hc2
        have CR := Reads_calls bs fb _ z (r : Nat) wo HF.out
        have CF := Find_law bs fb _ z r y wo HF.out HGn.out (by omega)
        obtain ⟨F, hF⟩ : ∃ F, z.filter (fun x => decide (x.v = y)) = F := ⟨_, rfl⟩
        rw [hF] at CF
        have hFl : F.length ≤ n := by
          rw [← hF, ← HN.out]
          exact List.length_filter_le _ _
        obtain ⟨fl, hfl⟩ : ∃ fl, F.length = fl := ⟨_, rfl⟩
        rw [hfl] at CF hFl
        rw [HN.out] at CF
        have HCR := Lib.hid CR
        have HCF := Lib.hid CF
        have HB2 := Lib.hid HB.out
        clear CR CF hF hfl hy hc2
        go_wp2_with fail
        refine HCR.out.mono ?_
        rintro e w5 ⟨rfl, hw5⟩
        obtain rfl := hw5
        go_wp2_with fail
        refine HCF.out.mono ?_
        rintro e w6 ⟨v6, r6, rfl, ho6, hF6, hg6, hr6, hr62, hr7, hr8⟩
        obtain ⟨vp, vc, rfl, _⟩ := own_rd ho6
        have CR6 := Reads_calls bs fb _ z (r6 : Nat) w6 hF6
        have HCR6 := Lib.hid CR6
        have HF6 := Lib.hid hF6
        have HB6 := Lib.hid (below_file HB.out hg6 HFb.out)
        have q1 : ¬ ((r6 : Int) < (r : Int)) := by omega
        have q2 : IntKind.i64.wrap ((r6 : Int) - (r : Int)) = (r6 : Int) - (r : Int) := by rw [IntKind.wrap_i64]; omega
        have q3 : IntKind.i64.wrap ((fl : Int) + 2) = (fl : Int) + 2 := by rw [IntKind.wrap_i64]; omega
        have q4 : ¬ ((fl : Int) + 2 < (r6 : Int) - (r : Int)) := by omega
        clear CR6 ho6 hF6 hg6
        by_cases hn0 : 0 < n
        · have q5 : (0 : Int) < (n : Int) := by omega
          have q6 : ((r6 : Int) == (r : Int)) = false := by
            have := hr8 hn0
            simp
            omega
          have hr9 : r6 ≤ (i + 1) * 131072 := by omega
          clear hr8 hr6 hr62 hr7
          go_wp2_with fail
          refine HCR6.out.mono ?_
          rintro e w7 ⟨rfl, hw7⟩
          obtain rfl := hw7
          go_wp2
          go_roundw
          case rel => exact ⟨i + 1, by go_num, hlt, r6, hr9, HF6.out, HB6.out⟩
          case measure => simp [intOf]; omega
        · have q5 : ¬ ((0 : Int) < (n : Int)) := by omega
          have hr9 : r6 ≤ (i + 1) * 131072 := by omega
          clear hr8 hr6 hr62 hr7
          go_wp2_with fail
          refine HCR6.out.mono ?_
          rintro e w7 ⟨rfl, hw7⟩
          obtain rfl := hw7
          go_wp2
          go_roundw
          case rel => exact ⟨i + 1, by go_num, hlt, r6, hr9, HF6.out, HB6.out⟩
          case measure => simp [intOf]; omega
      · obtain rfl : i = m := by omega
        have hii : ¬ ((i : Int) < (i : Int)) := by omega
        have CR := Reads_calls bs fb _ z (r : Nat) wo HF.out
        have HCR := Lib.hid CR
        obtain ⟨e0, e1, e2, e3, e4⟩ := cells5 ((HB.out.block (w.heap.size + 1) (by rw [HSZ.out]; omega)).trans HX1.out)
        have CFr := fun W => From0_calls fb en 0 (by decide) W
        unfold Ent.val at CFr
        have HCFr := Lib.hid CFr
        clear CR CFr
        go_wp2_with fail
        refine HCR.out.mono ?_
        rintro e w5 ⟨rfl, hw5⟩
        obtain rfl := hw5
        go_wp2_with fail
        refine (HCFr.out _).mono ?_
        rintro e w6 ⟨rfl, hb6⟩
        have hF6 := HF.out.below hb6
        have CA := All_calls bs fb _ z (r : Nat) w6 hF6 (by rw [HN.out]; exact hnl)
        rw [HN.out] at CA
        have HCA := Lib.hid CA
        have HF6 := Lib.hid hF6
        have HB6 := Lib.hid (HBw.out.trans (hb6.mono HBw.out.size))
        clear CA hF6 hb6 e0 e1 e2 e3 e4
        go_wp2_with fail
        refine HCA.out.mono ?_
        rintro e w7 ⟨v7, rfl, ho7, hb7⟩
        obtain ⟨vp, vc, rfl, _⟩ := own_rd ho7
        have hF7 := HF6.out.below hb7
        have CH := Head_calls bs fb _ z (r : Nat) w7 hF7
        unfold Hd.val at CH
        have HCH := Lib.hid CH
        have hfd : ∀ (W : World) (a b c d e f : Int), (Instr.field 23 (.agg #[.int .i64 a, .int .i64 b, .int .i64 c, .int .i64 d, .int .i64 e, .int .i64 f]) 5).run Tryd.prog W = .ok (.int .i64 f) W := fun _ _ _ _ _ _ _ => by kernel_rfl
        have HF7 := Lib.hid hF7
        have HB7 := Lib.hid (HB6.out.trans (hb7.mono HB6.out.size))
        clear CH hF7 hb7 ho7
        go_wp2_with fail
        refine HCH.out.mono ?_
        rintro e w8 ⟨rfl, hb8⟩
        have CR8 := Reads_calls bs fb _ z (r : Nat) w8 (HF7.out.below hb8)
        have HCR8 := Lib.hid CR8
        have HB8 := Lib.hid (HB7.out.trans (hb8.mono HB7.out.size))
        clear CR8 hb8
        go_wp2_with fail
        refine HCR8.out.mono ?_
        rintro e w9 ⟨rfl, hw9⟩
        obtain rfl := hw9
        go_wp2
        go_ret
        exact ⟨rfl, HB8.out⟩
  · obtain ⟨g, hg⟩ : ∃ g, goesR h z = g := ⟨_, rfl⟩
    have hbt : builtR h z = ([], g) := by unfold builtR; rw [if_neg hgo, hg]
    rw [hbt] at CB
    have CB2 : Calls Tryd.prog 12 #[.agg #[.int .i64 h.w, .int .i64 h.t, .int .i64 h.b, .int .i64 h.lo, .int .i64 h.hi, .int .i64 h.n], .slice p n c] w1 fun e w' => e = .returned (.tuple #[.string ⟨#[]⟩, .int .i64 g]) ∧ Below w1.heap.size w1 w' := CB
    rw [hg] at hgo
    have hg0 : (g == 0) = false := by simpa using hgo
    have HCB := Lib.hid CB2
    clear CB CB2 hbt hg
    go_wp2_with fail
    refine HCB.out.mono ?_
    rintro e w2 ⟨rfl, hb2⟩
    have HB2 := Lib.hid (HBw1.out.trans (hb2.mono HBw1.out.size))
    clear hb2 d0 d1 d2 d3 d4 d5
    go_wp2
    go_ret
    exact ⟨rfl, HB2.out⟩
end Go.Proofs.YtihgjihdmlomaaaDoor
