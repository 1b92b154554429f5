/-
  THE LAW WireTell.
-/
import Derived.Test.YtabhjkaheghbhaaTellArg
import Derived.Test.YtabhjkaheghbhaaTell
import Derived.Test.YtabhjkaheghbhaaTellDR
import Derived.Test.YtabhjkaheghbhaaToldP
import Derived.Deep.RegionHeld3
namespace Go.Proofs.Ytabhjkaheghbhaa
open Go.RowKit ArgK
set_option linter.unusedVariables false

set_option maxRecDepth 100000 in
set_option maxHeartbeats 1000000 in
theorem wtell_walk (op code n : Int) (t : ByteArray) (p : Option Addr) (cap : Nat) (z : List Hv) (hzl : z.length ≤ 1048576) (ht : t.size ≤ 1048576) (hc : ∀ x ∈ z, x.c.size ≤ 1048576) (hlen : t.size + (hitsB z).length + 128 ≤ 140737488355328) (hp : p = none → z = [] ∧ cap = 0) (w : World) (hz : HL w p z) :
    Calls Try.prog 5 #[.int .i64 op, .agg #[.int .i64 code, .int .i64 n, .string t, .slice p z.length cap]] w fun e w' => e = .returned (.bool true) ∧ Below w.heap.size w w' := by
  obtain ⟨i0, hi, hy0, hy1, hy2⟩ := info_parts hitinfo
  have hfl := freshH_bytes z.length
  have TA := Lib.hid (fun (q : Option Addr) (c : Nat) W h => Tell_calls op code n t q c z W h hlen)
  have TB := Lib.hid (fun (q : Option Addr) (c : Nat) W h => rTell_calls op code n t q c z (by omega) (by omega) (fun x hx => by have := hc x hx; omega) hlen W h)
  have SH := Lib.hid (fun (p1 p2 : Option Addr) (c1 c2 : Nat) W h1 h2 => sameHits_calls p1 p2 c1 c2 z (by omega) W h1 h2)
  have TA2 := Lib.hid (fun (q : Option Addr) (c : Nat) W h => Tell_calls op code n t q c (freshH z.length) W h (by omega))
  have TB2 := Lib.hid (fun (q : Option Addr) (c : Nat) W h => rTell_calls op code n t q c (freshH z.length) (by omega) (by rw [freshH_length]; omega) (freshH_size _) (by omega) W h)
  have SH2 := Lib.hid (fun (p1 p2 : Option Addr) (c1 c2 : Nat) W h1 h2 => sameHits_calls p1 p2 c1 c2 (freshH z.length) (by rw [freshH_length]; omega) W h1 h2)
  simp only [freshH_length] at TA2 TB2 SH2
  have hel := encH_length z
  obtain ⟨m, hm⟩ : ∃ m, z.length = m := ⟨_, rfl⟩
  simp only [hm] at TA TB SH TA2 TB2 SH2 hzl hel ⊢
  generalize (⟨(tellOut op code n t z).1.toArray⟩ : ByteArray) = s1 at TA TB
  generalize (tellOut op code n t z).2 = e1 at TA TB
  generalize (⟨(tellOut op code n t (freshH m)).1.toArray⟩ : ByteArray) = s2 at TA2 TB2
  generalize (tellOut op code n t (freshH m)).2 = e2 at TA2 TB2
  have hz0 := hz.below ((Below.refl w.heap.size w).alloc (Nat.le_refl _) (.cells #[.int .i64 code, .int .i64 n, .string t, .slice p m cap] 33))
  have HZ := Lib.hid hz
  have HB0 := Lib.hid ((Below.refl w.heap.size w).alloc (Nat.le_refl _) (.cells #[.int .i64 code, .int .i64 n, .string t, .slice p m cap] 33))
  have HQ0 := Lib.hid (Rp.new w code n t (.slice p m cap))
  have hsrc := encH_src hz0
  have chk0 : p = none → m = 0 ∧ cap = 0 := fun e => by obtain ⟨h1, h2⟩ := hp e; rw [h1] at hm; exact ⟨hm.symm, h2⟩
  have chk1 : (0 + m) * 32 ≤ 140737488355328 := by omega
  have chk2 : 0 + m ≤ maxLen := by unfold maxLen; omega
  have hone := encH_one z
  have chk5 : w.heap.size + 1 ≤ (w.alloc (.cells #[.int .i64 code, .int .i64 n, .string t, .slice p m cap] 33)).heap.size := by rw [World.size_alloc]; omega
  obtain ⟨EZ, hEZ⟩ : ∃ EZ, encH z = EZ := ⟨_, rfl⟩
  rw [hEZ] at hsrc hel hone
  have HEZ := Lib.hid hEZ
  have HM := Lib.hid hm
  have HC := Lib.hid hc
  clear hz hz0 hp hlen hc hfl ht hEZ hm
  go_enter Try.func5, Try.ntmps5
  go_wp2_with (at_builtin; refine wpList_append_opt rfl _ _ 31 rfl (w.heap.size + 1) 35 i0 _ 3 32 Try.underlying31 hi hy0 hy1 hy2 rfl (by decide) (.slice none 0 0) 0 [] rfl (World.ownsRow_nil _ _ _ _) p m cap EZ rfl chk0 hel hsrc hone chk2 chk1 chk5 ?_)
  intro v1 w1 hown1 hg1
  have HB1 := Lib.hid (grown_below HB0.out hg1 (by simp) (fun k hk => by cases hk))
  have HQ1 := Lib.hid (HQ0.out.of (hg1.block _ HQ0.out.lt (by simp [Value.ownBlock])))
  have HO1 := Lib.hid hown1
  have hs1 : w.heap.size + 1 ≤ w1.heap.size := Nat.le_trans chk5 hg1.size
  clear hown1 hg1 HB0 HQ0 chk5 hsrc hone chk1 chk2
  have chk1 : (m + 1) * 32 ≤ 140737488355328 := by omega
  have chk2 : m + 1 ≤ maxLen := by unfold maxLen; omega
  have chk3 : ∀ j u, (Hv.cells ⟨(-9 : Int), 0, ⟨#[]⟩⟩)[j]? = some u → (w1.alloc (.cells #[.int .i64 (-9), .int .i64 0, .string ⟨#[]⟩] 35)).cell? ((⟨w1.heap.size, 0, none⟩ : Addr).add j) = some u := World.news_of_block (heap_alloc_last w1 _)
  have chk4 : ∀ u ∈ Hv.cells ⟨(-9 : Int), 0, ⟨#[]⟩⟩, u.oneCell' = true := by simp [Hv.cells, Value.oneCell']
  have chk5 : w.heap.size + 1 ≤ (w1.alloc (.cells #[.int .i64 (-9), .int .i64 0, .string ⟨#[]⟩] 35)).heap.size := by rw [World.size_alloc]; omega
  go_wp2_with (at_builtin; refine wpList_append_own _ rfl _ _ 31 rfl (w.heap.size + 1) 35 i0 _ 3 32 Try.underlying31 hi hy0 hy1 hy2 rfl (by decide) v1 m EZ rfl (HO1.out.alloc _) ⟨w1.heap.size, 0, none⟩ 1 1 (Hv.cells ⟨(-9 : Int), 0, ⟨#[]⟩⟩) rfl rfl chk3 chk4 chk2 chk1 chk5 ?_)
  intro v2 w2 hown2 hg2 _
  have HB2 := Lib.hid (grown_below (HB1.out.alloc HB1.out.size (.cells #[.int .i64 (-9), .int .i64 0, .string ⟨#[]⟩] 35)) hg2 (by simp; omega) (fun k hk => by have := (HO1.out.lt k hk).1; omega))
  have HQ2 := Lib.hid ((HQ1.out.alloc (.cells #[.int .i64 (-9), .int .i64 0, .string ⟨#[]⟩] 35)).of (hg2.block _ (HQ1.out.alloc _).lt (fun e => by have := (HO1.out.lt _ e.symm).1; omega)))
  have hs2 : w.heap.size + 1 ≤ w2.heap.size := Nat.le_trans chk5 hg2.size
  have hown2' : w2.ownsRow (w.heap.size + 1) 35 3 v2 (m + 1) (EZ ++ Hv.cells ⟨(-9 : Int), 0, ⟨#[]⟩⟩) := hown2
  clear hown2 hg2 HB1 HQ1 HO1 chk1 chk2 chk3 chk4 chk5 hs1
  obtain ⟨g0, c2, rfl, hmc, hcm, hr2⟩ := own_rd hown2'
  obtain ⟨g, rfl, hg1, hg2, _, _⟩ := hr2 (by omega)
  clear hr2
  have HO2 := Lib.hid hown2'
  clear hown2'
  obtain ⟨q0, q1, q2, q3, qf⟩ := HQ2.out.cells
  clear qf
  have hk0 : (0 : Int) ≤ (m : Int) := by omega
  have hk1 : (m : Int) ≤ (c2 : Int) := by omega
  have HB3 := Lib.hid (HB2.out.alloc HB2.out.size (.cells #[.int .i64 code, .int .i64 n, .string t, .slice (some ⟨g, 0, none⟩) m c2] 33))
  have HQ3 := Lib.hid (HQ2.out.alloc (.cells #[.int .i64 code, .int .i64 n, .string t, .slice (some ⟨g, 0, none⟩) m c2] 33))
  have HP3 := Lib.hid (Rp.new w2 code n t (.slice (some ⟨g, 0, none⟩) m c2))
  have HO3 := Lib.hid (HO2.out.alloc (.cells #[.int .i64 code, .int .i64 n, .string t, .slice (some ⟨g, 0, none⟩) m c2] 33))
  go_wp2_with fail
  obtain ⟨Q, hQ⟩ : ∃ Q, w2.heap.size = Q := ⟨_, rfl⟩
  rw [hQ] at HP3 hg2 hs2 ⊢
  generalize w2.alloc (.cells #[.int .i64 code, .int .i64 n, .string t, .slice (some ⟨g, 0, none⟩) m c2] 33) = w3 at HB3 HQ3 HP3 HO3 ⊢
  have HT3 := Lib.hid (own_take HO3.out (Nat.le_add_right m 1))
  rw [show (EZ ++ Hv.cells ⟨(-9 : Int), 0, ⟨#[]⟩⟩).take (m * 3) = encH z by rw [HEZ.out, ← hel]; exact List.take_left] at HT3
  clear HB2 HQ2 HO2 q0 q1 q2 q3 hQ
  refine (TA.out _ _ _ (HL.of_own HT3.out).hr).mono ?_
  rintro x w4 ⟨rfl, k4⟩
  have HB4 := Lib.hid (HB3.out.trans (k4.mono HB3.out.size))
  have HQ4 := Lib.hid (HQ3.out.of (k4.block _ HQ3.out.lt))
  have HP4 := Lib.hid (HP3.out.of (k4.block _ HP3.out.lt))
  have HO4 := Lib.hid (own_belowAll HO3.out k4)
  clear k4 HB3 HQ3 HP3 HO3 HT3
  obtain ⟨q0, q1, q2, q3, qf⟩ := HQ4.out.cells
  clear qf
  go_wp2_with fail
  refine (TB.out _ _ _ (HZ.out.below HB4.out)).mono ?_
  rintro x w5 ⟨rfl, k5⟩
  have HB5 := Lib.hid (HB4.out.trans (k5.mono HB4.out.size))
  have HQ5 := Lib.hid (HQ4.out.of (k5.block _ HQ4.out.lt))
  have HP5 := Lib.hid (HP4.out.of (k5.block _ HP4.out.lt))
  have HO5 := Lib.hid (own_belowAll HO4.out k5)
  clear k5 HB4 HQ4 HP4 HO4 q0 q1 q2 q3
  have hL5 : w5.cell? ⟨g, m * 3, none⟩ = some (.int .i64 (-9)) := by
    rw [HO5.out.cellAt _ (by omega), List.getElem?_append_right (by omega), hel, Nat.sub_self]; rfl
  have HT5 := Lib.hid (own_take HO5.out (Nat.le_add_right m 1))
  rw [show (EZ ++ Hv.cells ⟨(-9 : Int), 0, ⟨#[]⟩⟩).take (m * 3) = encH z by rw [HEZ.out, ← hel]; exact List.take_left] at HT5
  have q3 := HQ5.out.cells.2.2.2.1
  have hg5 := (HO5.out.lt g rfl).2
  have hk2 : (m : Int) < (m : Int) + 1 := by omega
  have S5 : w5.drew.cell? ⟨w.heap.size, 3, none⟩ = some (.slice p m cap) ∧ w5.drew.cell? ⟨g, m * 3, none⟩ = some (.int .i64 (-9)) := ⟨q3, hL5⟩
  have S6 := Lib.hid (fun (w6 : World) (k6 : Below w5.drew.heap.size w5.drew w6) => (⟨(k6.cell (p := ⟨w.heap.size, 3, none⟩) HQ5.out.lt).trans q3, (k6.cell (p := ⟨g, m * 3, none⟩) hg5).trans hL5⟩ : w6.cell? ⟨w.heap.size, 3, none⟩ = some (.slice p m cap) ∧ w6.cell? ⟨g, m * 3, none⟩ = some (.int .i64 (-9))))
  go_wp2_with fail
  go_region_held3 (fun W => W.cell? ⟨w.heap.size, 3, none⟩ = some (.slice p m cap) ∧ W.cell? ⟨g, m * 3, none⟩ = some (.int .i64 (-9)))
    (first | with_reducible exact S5 | with_reducible exact s6 | fail)
    (first | (go_at_call 15; refine (SH.out _ _ _ _ w5.drew ((HL.of_own HT5.out).below (Below.refl w5.heap.size w5).drew) ((HZ.out.below HB5.out.drew))).mono ?_; rintro x w6 ⟨rfl, k6⟩; have s6 := S6.out w6 k6))
  have HB6 := Lib.hid (HB5.out.drew.trans (k6.mono HB5.out.drew.size))
  have HQ6 := Lib.hid (HQ5.out.of (k6.block _ HQ5.out.lt))
  have HP6 := Lib.hid (HP5.out.of (k6.block _ HP5.out.lt))
  have HO6 := Lib.hid (own_belowAll HO5.out ((Below.refl w5.heap.size w5).drew.trans k6))
  clear k6 s6 S5 S6 q3 hL5 HT5 HB5 HQ5 HP5 HO5 hk2 hg5
  have hQ6 : Q < w6.heap.size := HP6.out.lt
  obtain ⟨ob, hob⟩ : ∃ ob, w6.heap.size = ob := ⟨_, rfl⟩
  rw [hob] at hQ6
  have HOB := Lib.hid hob
  clear hob
  go_wp2_with fail
  go_loopw [12, 13] (fun v i ws => ∃ (k : Nat) (tail : List Value), k ≤ m ∧ i = .int .i64 k ∧ Hid (tail.length = (m + 1 - k) * 3) ∧ Hid (ws.ownsRow ob 35 3 v k (encH (freshH k))) ∧ Hid (ws.ownsRow (w.heap.size + 1) 35 3 (.slice (some ⟨g, 0, none⟩) (m + 1) c2) (m + 1) (encH (freshH k) ++ tail)) ∧ Hid (Rp ws w.heap.size code n t (.slice p m cap)) ∧ Hid (Rp ws Q code n t (.slice (some ⟨g, 0, none⟩) m c2)) ∧ Hid (Below w.heap.size w ws) ∧ Hid (ob ≤ ws.heap.size)) (fun _ i _ => m - (intOf i).toNat)
  case atStart => exact ⟨0, EZ ++ Hv.cells ⟨(-9 : Int), 0, ⟨#[]⟩⟩, Nat.zero_le _, rfl, Lib.hid (by rw [HO6.out.1, Nat.sub_zero]), Lib.hid (World.ownsRow_nil _ _ _ _), HO6, HQ6, HP6, HB6, Lib.hid (by rw [HOB.out]; exact Nat.le_refl _)⟩
  case round =>
    obtain ⟨k, tail, hk, rfl, HT, HV, HI, HQr, HPr, HBr, HS⟩ := hrel
    by_cases hlt : k < m
    · have hd : decide ((k : Int) < (m : Int)) = true := by simpa using hlt
      have hki : (k : Int) < (m : Int) := by omega
      have hki2 : (k : Int) < (m : Int) + 1 := by omega
      have hki0 : (0 : Int) ≤ (k : Int) := by omega
      have htl := HT.out
      have hfl : (encH (freshH k)).length = k * 3 := by rw [encH_length, freshH_length]
      have htot : (encH (freshH k) ++ tail).length = (m + 1) * 3 := HI.out.1
      obtain ⟨x0, hx0⟩ : ∃ u, wr.cell? ⟨g, k * 3, none⟩ = some u := ⟨_, (HI.out.cellAt (k * 3) (by omega)).trans (List.getElem?_eq_getElem (by omega))⟩
      obtain ⟨x1, hx1⟩ : ∃ u, wr.cell? ⟨g, k * 3 + 1, none⟩ = some u := ⟨_, (HI.out.cellAt (k * 3 + 1) (by omega)).trans (List.getElem?_eq_getElem (by omega))⟩
      obtain ⟨x2, hx2⟩ : ∃ u, wr.cell? ⟨g, k * 3 + 2, none⟩ = some u := ⟨_, (HI.out.cellAt (k * 3 + 2) (by omega)).trans (List.getElem?_eq_getElem (by omega))⟩
      have hf0 := HI.out.frozenAt (k * 3)
      have hf1 := HI.out.frozenAt (k * 3 + 1)
      have hf2 := HI.out.frozenAt (k * 3 + 2)
      have hov := HI.out
      go_upto_region 16 with fail
      have GR : wr.grownBy (((wr.setCell ⟨g, k * 3, none⟩ (.int .i64 (k : Int))).setCell ⟨g, k * 3 + 1, none⟩ (.int .i64 7)).setCell ⟨g, k * 3 + 2, none⟩ (.string ⟨#[122]⟩)) (some g) := grown_set (grown_set (grown_set (grown_refl wr _) _ _) _ _) _ _
      have HI7 := Lib.hid (over_one (z := []) HI.out (by omega))
      generalize ((wr.setCell ⟨g, k * 3, none⟩ (.int .i64 (k : Int))).setCell ⟨g, k * 3 + 1, none⟩ (.int .i64 7)).setCell ⟨g, k * 3 + 2, none⟩ (.string ⟨#[122]⟩) = w7 at GR HI7 ⊢
      have hQg : Q ≠ g := by omega
      have HV7 := Lib.hid (own_grown HV.out GR (fun b hb e => by have := (HV.out.lt b hb).1; cases e; omega))
      have HQ7 := Lib.hid (HQr.out.of (GR.block _ HQr.out.lt (fun e => by cases e; omega)))
      have HP7 := Lib.hid (HPr.out.of (GR.block _ HPr.out.lt (fun e => by cases e; omega)))
      have HB7 := Lib.hid (HBr.out.grown GR HBr.out.size (fun b hb => by cases hb; omega))
      have hs7 : ob ≤ w7.heap.size := Nat.le_trans HS.out GR.size
      obtain ⟨y0, y1, y2⟩ := over_cells HI7.out (by omega)
      have HT7 : Hid ((tail.drop 3).length = (m + 1 - (k + 1)) * 3) := Lib.hid (by rw [List.length_drop]; omega)
      clear GR HI HV HQr HPr HBr HS hov hx0 hx1 hx2 hf0 hf1 hf2 htot hfl htl HT
      have chk1 : (k + 1) * 32 ≤ 140737488355328 := by omega
      have chk2 : k + 1 ≤ maxLen := by unfold maxLen; omega
      have chk3 : ∀ j u, (Hv.cells ⟨(k : Int), 7, ⟨#[122]⟩⟩)[j]? = some u → (w7.alloc (.cells #[.int .i64 (k : Int), .int .i64 7, .string ⟨#[122]⟩] 35)).cell? ((⟨w7.heap.size, 0, none⟩ : Addr).add j) = some u := World.news_of_block (heap_alloc_last w7 _)
      have chk4 : ∀ u ∈ Hv.cells ⟨(k : Int), 7, ⟨#[122]⟩⟩, u.oneCell' = true := by simp [Hv.cells, Value.oneCell']
      have chk5 : ob ≤ (w7.alloc (.cells #[.int .i64 (k : Int), .int .i64 7, .string ⟨#[122]⟩] 35)).heap.size := by rw [World.size_alloc]; omega
      go_wp2_with (at_builtin; refine wpList_append_own _ rfl _ _ 31 rfl ob 35 i0 _ 3 32 Try.underlying31 hi hy0 hy1 hy2 rfl (by decide) _ k _ rfl (HV7.out.alloc _) ⟨w7.heap.size, 0, none⟩ 1 1 (Hv.cells ⟨(k : Int), 7, ⟨#[122]⟩⟩) rfl rfl chk3 chk4 chk2 chk1 chk5 ?_)
      intro v8 w8 hown8 hg8 _
      have GA := (HI7.out.alloc (.cells #[.int .i64 (k : Int), .int .i64 7, .string ⟨#[122]⟩] 35))
      have N1 : Hid (w8.ownsRow ob 35 3 v8 (k + 1) (encH (freshH (k + 1)))) := Lib.hid (by rw [freshH_succ, encH_snoc]; exact hown8)
      have N2 := Lib.hid (own_grown GA hg8 (fun b hb e => by have := (HV7.out.lt b e).1; obtain rfl : g = b := Option.some.inj hb; omega))
      have N3 := Lib.hid ((HQ7.out.alloc (.cells #[.int .i64 (k : Int), .int .i64 7, .string ⟨#[122]⟩] 35)).of (hg8.block _ (HQ7.out.alloc _).lt (fun e => by have := (HV7.out.lt _ e.symm).1; omega)))
      have N4 := Lib.hid ((HP7.out.alloc (.cells #[.int .i64 (k : Int), .int .i64 7, .string ⟨#[122]⟩] 35)).of (hg8.block _ (HP7.out.alloc _).lt (fun e => by have := (HV7.out.lt _ e.symm).1; omega)))
      have N5 := Lib.hid ((HB7.out.alloc HB7.out.size (.cells #[.int .i64 (k : Int), .int .i64 7, .string ⟨#[122]⟩] 35)).grown hg8 (Nat.le_trans HB7.out.size (by simp)) (fun b hb => by have := (HV7.out.lt b hb).1; omega))
      have N6 : Hid (ob ≤ w8.heap.size) := Lib.hid (Nat.le_trans chk5 hg8.size)
      clear GA hown8 hg8 HI7 HV7 HQ7 HP7 HB7 chk1 chk2 chk3 chk4 chk5 y0 y1 y2
      go_wp2
      go_roundw
      case rel => exact ⟨k + 1, _, hlt, by go_num, HT7, N1, N2, N3, N4, N5, N6⟩
      case measure => simp [intOf]; omega
    · obtain rfl : k = m := by omega
      have hd : decide ((k : Int) < (k : Int)) = false := by simp
      obtain ⟨pv, cv, rfl, _⟩ := own_rd HV.out
      obtain ⟨q0, q1, q2, q3, qf⟩ := HQr.out.cells
      have qf3 := qf 3
      clear qf
      go_upto_region 18 with fail
      have hvR : (Value.slice pv k cv).ownBlock ≠ some w.heap.size := fun e => by have := (HV.out.lt _ e).1; omega
      have HQ9 := Lib.hid (HQr.out.set.2.2 (.slice pv k cv))
      have HP9 := Lib.hid (HPr.out.of (Below.heap_setCell wr ⟨w.heap.size, 3, none⟩ (.slice pv k cv) Q (by show Q ≠ w.heap.size; omega)))
      have HV9 := Lib.hid (own_set3 (j := 3) HV.out hvR (.slice pv k cv))
      have HI9 := Lib.hid (own_set3 (j := 3) HI.out (fun e => by have := Option.some.inj e; simp only at this; omega : (Value.slice (some ⟨g, 0, none⟩) (k + 1) c2).ownBlock ≠ some w.heap.size) (.slice pv k cv))
      have HB9 := Lib.hid (HBr.out.setCell (p := ⟨w.heap.size, 3, none⟩) (Nat.le_refl _) (.slice pv k cv))
      generalize wr.setCell ⟨w.heap.size, 3, none⟩ (.slice pv k cv) = w9 at HQ9 HP9 HV9 HI9 HB9 ⊢
      clear HV HI HQr HPr HBr hvR q0 q1 q2 q3 qf3
      have hfl : (encH (freshH k)).length = k * 3 := by rw [encH_length, freshH_length]
      have HT9 := Lib.hid (own_take HI9.out (Nat.le_add_right k 1))
      rw [show (encH (freshH k) ++ tail).take (k * 3) = encH (freshH k) by rw [← hfl]; exact List.take_left] at HT9
      obtain ⟨p0, p1, p2, p3, pf⟩ := HP9.out.cells
      clear pf HI9
      go_wp2_with fail
      refine (TA2.out _ _ _ (HL.of_own HT9.out).hr).mono ?_
      rintro x wa ⟨rfl, ka⟩
      have HBa := Lib.hid (HB9.out.trans (ka.mono HB9.out.size))
      have HQa := Lib.hid (HQ9.out.of (ka.block _ HQ9.out.lt))
      have HVa := Lib.hid (own_belowAll HV9.out ka)
      have HTa := Lib.hid (own_belowAll HT9.out ka)
      clear ka HB9 HQ9 HP9 HV9 HT9 p0 p1 p2 p3
      obtain ⟨q0, q1, q2, q3, qf⟩ := HQa.out.cells
      clear qf
      go_wp2_with fail
      refine (TB2.out _ _ _ (HL.of_own HVa.out)).mono ?_
      rintro x wb ⟨rfl, kb⟩
      have HBb := Lib.hid (HBa.out.trans (kb.mono HBa.out.size))
      have HVb := Lib.hid (own_belowAll HVa.out kb)
      have HTb := Lib.hid (own_belowAll HTa.out kb)
      clear kb HBa HQa HVa HTa q0 q1 q2 q3
      go_wp2_with fail
      refine (SH2.out _ _ _ _ wb (HL.of_own HTb.out) (HL.of_own HVb.out)).mono ?_
      rintro x wc ⟨rfl, kc⟩
      have HBc := Lib.hid (HBb.out.trans (kc.mono HBb.out.size))
      clear kc HBb HVb HTb
      go_wp2
      go_ret
      exact ⟨rfl, HBc.out⟩
theorem WireTell_walk (a0 : Int) (w0 : (Lit.int .i64 a0).wf = true) (sa1 : Array Value) (z1 : Rpv) (w : World) (h1 : IsRp w sa1.toList z1) (hb : bkRp z1 ≤ 1048576) :
    Calls Try.prog 5 #[.int .i64 a0, .agg sa1] w fun e w' => e = .returned (.bool true) ∧ Below w.heap.size w w' := by
  obtain ⟨code, n, t, z⟩ := z1
  obtain ⟨v, hv, hz, _, _, _⟩ := h1
  simp only at hv hz
  obtain ⟨p, cap, rfl, hp, hl, _⟩ := hits_of_arg' hz
  obtain rfl : sa1 = #[.int .i64 code, .int .i64 n, .string t, .slice p z.length cap] := Array.toList_inj.1 hv
  obtain ⟨k1, k2, k3⟩ := hitsB_bulk z
  unfold bkRp at hb
  simp only at hb
  exact wtell_walk a0 code n t p cap z (by omega) (by omega) (fun x hx => by have := k3 x hx; omega) (by omega) hp w hl
end Go.Proofs.Ytabhjkaheghbhaa
