/-
  WALK: filled: a map of pairs, as they come.
-/
import Derived.Test.YtmfanldekjkbiaaDoorPlainB
import Derived.Test.YtmfanldekjkbiaaDoorPairR
import Derived.Test.YtmfanldekjkbiaaDoorPlainF
import Derived.Deep.RegionHeld3
import Derived.Deep.DeepCutAuto
namespace Go.Proofs.YtmfanldekjkbiaaDoor
open Go.RowKit
set_option linter.unusedVariables false

/-- One pair more, if it goes. -/
def addF (n : Nat) (acc : List Pv) (p : Pv) : List Pv := if ¬(0 ≤ p.i ∧ p.i ≤ 281474976710656) ∨ hasId acc p.i = true then acc else acc ++ [⟨p.i, fitB p.c n⟩]

def fillL (n : Nat) : List Pv → List Pv → List Pv
  | acc, [] => acc
  | acc, p :: ps => if acc.length < 80 then fillL n (addF n acc p) ps else acc

theorem fillL_full (n : Nat) {acc : List Pv} (h : ¬ acc.length < 80) (ps : List Pv) : fillL n acc ps = acc := by
  cases ps with
  | nil => rfl
  | cons p ps => unfold fillL; rw [if_neg h]

theorem fillL_nil (n : Nat) (acc : List Pv) : fillL n acc [] = acc := by rw [fillL]

theorem fillL_step (n : Nat) {acc z : List Pv} {a : Nat} {x : Pv} (h : acc.length < 80) (hx : z[a]? = some x) : fillL n acc (z.drop a) = fillL n (addF n acc x) (z.drop (a + 1)) := by
  obtain ⟨ha, e⟩ := List.getElem?_eq_some_iff.1 hx
  rw [List.drop_eq_getElem_cons ha, e]
  rw [fillL, if_pos h]

theorem addF_length (n : Nat) {acc : List Pv} (p : Pv) (h : acc.length < 80) : (addF n acc p).length ≤ 80 := by
  unfold addF
  split
  · omega
  · rw [List.length_append]; simp; omega

def FillRel (w : World) (mb pb W n : Nat) (z : List Pv) (a : Nat) (v : Value) (acc : List Pv) (ws : World) : Prop :=
  fillL n acc (z.drop a) = fillL n [] z ∧ acc.length ≤ 80 ∧ MapIs ws mb pb W (acc.length : Nat) acc ∧ ws.ownsRow w.heap.size 49 2 v acc.length (encP acc) ∧ Below w.heap.size w ws

theorem own_map_ne {ws : World} {mb pb W : Nat} {S : Int} {L : List Pv} {base n : Nat} {v : Value} {xs : List Value} (h : MapIs ws mb pb W S L) (hr : ws.ownsRow base 49 2 v n xs) : v.ownBlock ≠ some mb ∧ v.ownBlock ≠ some pb := by
  obtain ⟨h1, ⟨D, ⟨es, cl, hb, _⟩, _⟩, _⟩ := h
  rcases hr.2 with ⟨rfl, _⟩ | ⟨k, c, cur, rfl, _, hk, _⟩
  · exact ⟨(by intro e; cases e), (by intro e; cases e)⟩
  · refine ⟨fun e => ?_, fun e => ?_⟩
    · obtain rfl := Option.some.inj e
      rw [h1] at hk
      simp at hk
    · obtain rfl := Option.some.inj e
      rw [hb] at hk
      cases hk

theorem own_frpM {w w' : World} {mb pb base : Nat} {e : TypeId} {size : Nat} {v : Value} {n : Nat} {xs : List Value} (h : w.ownsRow base e size v n xs) (hf : FrP w w' (MapB mb pb)) (h1 : v.ownBlock ≠ some mb) (h2 : v.ownBlock ≠ some pb) : w'.ownsRow base e size v n xs := by
  refine ⟨h.1, ?_⟩
  rcases h.2 with hn | ⟨g, cap, cur, rfl, hbg, hg, rest⟩
  · exact .inl hn
  · refine .inr ⟨g, cap, cur, rfl, hbg, (hf.2.2.2.2 g (Array.getElem?_eq_some_iff.1 hg).1 (fun k => ?_)).trans hg, rest⟩
    rcases k with rfl | rfl
    · exact h1 rfl
    · exact h2 rfl

/-- The variable of a round. -/
def varP (i : Int) (c : ByteArray) (gp : Nat) (w : World) : Prop := w.heap[gp]? = some (.cells #[.int .i64 i, .string c] 49 (0, 0))

theorem varP.cells {i : Int} {c : ByteArray} {gp : Nat} {w : World} (h : varP i c gp w) : w.cell? ⟨gp, 0, none⟩ = some (.int .i64 i) ∧ w.cell? ⟨gp, 1, none⟩ = some (.string c) := by
  unfold varP at h
  simp [World.cell?, h]

theorem laidP (w w3 : World) (k3 : Below (w.alloc (.cells #[.int .i64 0, .string ⟨#[]⟩] 49)).drew.heap.size (w.alloc (.cells #[.int .i64 0, .string ⟨#[]⟩] 49)).drew w3) :
    Below w.heap.size w w3 ∧ (∀ j, w3.frozen? ⟨w.heap.size, j, none⟩ = false) ∧ w3.cell? ⟨w.heap.size, 0, none⟩ = some (.int .i64 0) ∧ w3.cell? ⟨w.heap.size, 1, none⟩ = some (.string ⟨#[]⟩) ∧
    (∀ i c, varP i c w.heap.size ((w3.setCell ⟨w.heap.size, 0, none⟩ (.int .i64 i)).setCell ⟨w.heap.size, 1, none⟩ (.string c)) ∧ Below w.heap.size w ((w3.setCell ⟨w.heap.size, 0, none⟩ (.int .i64 i)).setCell ⟨w.heap.size, 1, none⟩ (.string c))) := by
  have hz : (w.alloc (.cells #[.int .i64 0, .string ⟨#[]⟩] 49)).drew.heap.size = w.heap.size + 1 := World.size_alloc _ _
  rw [hz] at k3
  have T3 : w3.heap[w.heap.size]? = some (.cells #[.int .i64 0, .string ⟨#[]⟩] 49 (0, 0)) := (k3.block _ (by omega)).trans (World.alloc_heap_new w _)
  have B3 : Below w.heap.size w w3 := ((Below.refl _ _).alloc (Nat.le_refl _) _).drew.trans (k3.mono (by omega))
  refine ⟨B3, fun j => by simp [World.frozen?, T3], by simp [World.cell?, T3], by simp [World.cell?, T3], fun u v => ⟨?_, ?_⟩⟩
  · unfold varP
    simp [World.setCell, Array.getElem?_modify, T3]
  · exact (B3.setCell (p := ⟨w.heap.size, 0, none⟩) (Nat.le_refl _) _).setCell (p := ⟨w.heap.size, 1, none⟩) (Nat.le_refl _) _

theorem pairinfo : (Tryd.prog.info? 49).map (fun i => (i.zero, i.size, i.bytes)) = some (some (.agg #[.int .i64 0, .string ⟨#[]⟩]), 2, 24) := by kernel_rfl

/-- What filled leaves. -/
def FillPost (w : World) (W : Nat) (L : List Pv) (e : Ending) (w' : World) : Prop :=
  ∃ mb pb v, e = .returned (.tuple #[.pointer (some ⟨mb, 0, none⟩), v, .bool true]) ∧ MapIs w' mb pb W (L.length : Nat) L ∧ w'.ownsRow w.heap.size 49 2 v L.length (encP L) ∧ Below w.heap.size w w' ∧ w.heap.size ≤ mb ∧ w.heap.size ≤ pb

theorem hasId_take {L : List Pv} {j : Nat} {x : Int} (h : j < L.length) : hasId (L.take (j + 1)) x = (hasId (L.take j) x || (L.getD j default).i == x) := by
  unfold hasId
  rw [List.take_succ_eq_append_getElem h, List.any_append, List.getD_eq_getElem?_getD, List.getElem?_eq_getElem h]
  simp

set_option maxRecDepth 100000 in
set_option maxHeartbeats 4000000 in
theorem filled_calls (W : Nat) (hW : widthB W = true) (pz : Option Addr) (cz : Nat) (z : List Pv) (hz : z.length * 24 ≤ 140737488351232) (hg : ∀ x ∈ z, GoodP x) (w : World) (h1 : PL w pz z) :
    Calls Tryd.prog 10 #[.int .i64 (W : Int), .slice pz z.length cz] w (FillPost w W (fillL (W / 8) [] z)) := by
  obtain ⟨n, hn⟩ : ∃ n, W / 8 = n := ⟨_, rfl⟩
  obtain ⟨m, hm⟩ : ∃ m, z.length = m := ⟨_, rfl⟩
  obtain ⟨L, hL⟩ : ∃ L, fillL n [] z = L := ⟨_, rfl⟩
  have hW1 : W ≤ 1024 := by obtain ⟨k, h1, h2, h3, h4⟩ := widthB_true hW; omega
  have hfit := fun s hs => fit13_calls s hs W hW1
  rw [hn] at hfit
  have CN := Lib.hid (newMap_calls W hW w)
  rw [hn, hL, hm]
  rw [hm] at hz
  have HM := Lib.hid hm
  have HN := Lib.hid hn
  have HL := Lib.hid hL
  have H1 := Lib.hid h1
  have HG := Lib.hid hg
  have HF := Lib.hid hfit
  clear hm hn hL h1 hg hfit hW
  obtain ⟨i0, hi, hz0, hz1, hz2⟩ := info_parts pairinfo
  go_enter Tryd.func10, Tryd.ntmps10
  go_wp2_with fail
  refine CN.out.mono ?_
  rintro e w1 ⟨mb, pb, rfl, hM1, hb1, hmb, hpb⟩
  have HR0 : Hid (FillRel w mb pb W n z 0 (.slice none 0 0) [] w1) := Lib.hid ⟨rfl, Nat.zero_le _, hM1, World.ownsRow_nil _ _ _ _, hb1⟩
  clear hM1 hb1
  go_wp2
  go_loopw [9, 10] (fun v i ws => ∃ (a : Nat) (lv : Value) (acc : List Pv), a ≤ m ∧ i = .int .i64 a ∧ lv = v ∧ FillRel w mb pb W n z a lv acc ws) (fun _ i _ => m - (intOf i).toNat)
  case atStart => exact ⟨0, _, [], Nat.zero_le _, rfl, rfl, HR0.out⟩
  case round =>
    obtain ⟨a, lv, acc, ha, rfl, rfl, hR⟩ := hrel
    obtain ⟨wo, rfl⟩ : ∃ wo : World, wo = wr := ⟨_, rfl⟩
    obtain ⟨k1, k2, k3, k4, k5⟩ := hR
    obtain ⟨pv, cv, rfl, _, _, _⟩ := own_rd k4
    have HK1 := Lib.hid k1
    have HK3 := Lib.hid k3
    have HK4 := Lib.hid k4
    have HK5 := Lib.hid k5
    clear k1 k3 k4 k5
    by_cases hat : a < m
    · by_cases hlt : acc.length < 80
      · have hal : a < z.length := by rw [HM.out]; exact hat
        obtain ⟨x, hx⟩ : ∃ x, z[a]? = some x := ⟨_, List.getElem?_eq_getElem hal⟩
        obtain ⟨hxi, hxc⟩ := HG.out x (List.mem_of_getElem? hx)
        obtain ⟨pa, rfl, u0, u1⟩ := (H1.out.below HK5.out) a x hx
        have HU : Hid (∀ W, Below wo.heap.size wo W → W.cell? (pa.add (a * 2)) = some (.int .i64 x.i) ∧ W.cell? ⟨(pa.add (a * 2)).block, (pa.add (a * 2)).off + 1, none⟩ = some (.string x.c)) := Lib.hid (fun W hb => ⟨(hb.cell (cell_ltH u0)).trans u0, (hb.cell (cell_ltH u1)).trans u1⟩)
        have HX := Lib.hid hx
        have j0 : (0 : Int) ≤ (a : Int) := by omega
        have j1 : (a : Int) < (m : Int) := by omega
        have d80 : decide ((acc.length : Int) < 80) = true := by simp; omega
        have hq0 := (Below.refl wo.heap.size wo).drew
        have HFx := Lib.hid (HF.out x.c hxc)
        obtain ⟨c, hc⟩ : ∃ c, fitB x.c n = c := ⟨_, rfl⟩
        have hcs : c.size = n := by rw [← hc, fitB_size]
        rw [hc] at HFx
        have HC := Lib.hid hc
        clear hx hal u0 u1 hc
        go_upto_region 8 with fail
        go_cut [11] (fun s11 wx => ∃ gp, s11 = .pointer (some ⟨gp, 0, none⟩) ∧ varP x.i c gp wx ∧ Below wo.heap.size wo wx ∧ wo.heap.size ≤ gp)
        case first =>
          go_region_held3 (fun w' => w'.cell? (pa.add (a * 2)) = some (.int .i64 x.i) ∧ w'.cell? ⟨(pa.add (a * 2)).block, (pa.add (a * 2)).off + 1, none⟩ = some (.string x.c))
            (first | exact HU.out _ (hR3 _ _).2 | exact HU.out _ hq1 | exact HU.out _ hq0 | exact HU.out _ (hq1.alloc hq1.size _) | exact HU.out _ (hq0.alloc (Nat.le_refl _) _) | exact HU.out _ (Below.refl _ _) | exact HU.out _ (((Below.refl _ _).alloc (Nat.le_refl _) _).drew))
            (first
              | (go_at_call 9; refine (HFx.out wo.drew).mono ?_; rintro e z1 ⟨rfl, hq1'⟩; have hq1 : Below wo.heap.size wo z1 := hq0.trans hq1')
              | (go_at_call 9; refine (HFx.out (wo.alloc (.cells #[.int .i64 0, .string ⟨#[]⟩] 49)).drew).mono ?_; rintro e z1 ⟨rfl, hq1'⟩; obtain ⟨hq1, fr, t0, t1, hR3⟩ := laidP wo z1 hq1')
              | fail)
          all_goals first | (go_wp2_with fail; go_meet; exact ⟨_, rfl, (hR3 _ _).1, (hR3 _ _).2, Nat.le_refl _⟩) | (go_wp2_with fail; go_meet; exact ⟨_, rfl, World.alloc_heap_new _ _, hq1.alloc hq1.size _, hq1.size⟩)
        case rest =>
          obtain ⟨gp, rfl, hv, hbw, hgp⟩ := hcut
          have hR0 := own_belowAll HK4.out hbw
          have HP0 := Lib.hid (PL.of_own hR0)
          have HV0 := Lib.hid hv
          have HB0 := Lib.hid hbw
          have hvl : gp < wc.heap.size := (Array.getElem?_eq_some_iff.1 hv).1
          clear hv hbw hR0
          go_wp2
          go_loopw [12, 13] (fun t j ws => ∃ k : Nat, k ≤ acc.length ∧ j = .int .i64 k ∧ t = .bool (hasId (acc.take k) x.i) ∧ Gr wc ws) (fun _ j _ => acc.length - (intOf j).toNat)
          case atStart => exact ⟨0, Nat.zero_le _, rfl, by simp [hasId], Gr.refl _⟩
          case round =>
            obtain ⟨k, hk, rfl, rfl, hG⟩ := hrel
            obtain ⟨wi, rfl⟩ : ∃ wo : World, wo = wr := ⟨_, rfl⟩
            have HG1 := Lib.hid hG
            have HV1 : Hid (varP x.i c gp wi) := Lib.hid ((hG.below.block gp hvl).trans HV0.out)
            by_cases hkt : k < acc.length
            · obtain ⟨pe, rfl, q0, q1⟩ := (HP0.out.below hG.below) k (acc.getD k default) (by rw [List.getD_eq_getElem?_getD, List.getElem?_eq_getElem hkt]; rfl)
              have HS := Lib.hid (hasId_take (x := x.i) hkt)
              obtain ⟨v0, v1⟩ := HV1.out.cells
              have b0 : (0 : Int) ≤ (k : Int) := by omega
              have b1 : (k : Int) < (acc.length : Int) := by omega
              obtain ⟨tw, htw⟩ : ∃ tw, hasId (acc.take k) x.i = tw := ⟨_, rfl⟩
              rw [htw] at HS ⊢
              obtain ⟨ei, hei⟩ : ∃ ei, (acc.getD k default).i = ei := ⟨_, rfl⟩
              rw [hei] at q0 HS
              clear hG htw hei
              cases tw
              · go_wp2
                go_quiet (fail)
                go_wp2
                go_roundw
                case rel => first | exact ⟨k + 1, by omega, by go_num, by rw [HS.out]; simp, HG1.out.drewN _⟩ | exact ⟨k + 1, by omega, by go_num, by rw [HS.out]; simp, HG1.out.drew⟩
                case measure => simp [intOf]; omega
              · go_wp2
                go_quiet (fail)
                go_wp2
                go_roundw
                case rel => first | exact ⟨k + 1, by omega, by go_num, by rw [HS.out]; simp, HG1.out.drewN _⟩ | exact ⟨k + 1, by omega, by go_num, by rw [HS.out]; simp, HG1.out.drew⟩
                case measure => simp [intOf]; omega
            · obtain rfl : k = acc.length := by omega
              rw [List.take_length]
              have hB1 : Below wo.heap.size wo wi := HB0.out.trans (hG.below.mono HB0.out.size)
              have hMi := HK3.out.below hB1
              have hne := own_map_ne hMi (own_belowAll HK4.out hB1)
              have hgm : gp ≠ mb ∧ gp ≠ pb := by have := HK3.out.lt; omega
              have HC1 := Lib.hid (insert_calls hMi (by omega) ⟨x.i, c⟩ hxi (by have := HN.out; show c.size ≤ _; omega) hW1)
              have HRi := Lib.hid (own_belowAll HK4.out hB1)
              have HB1 := Lib.hid hB1
              have HNe := Lib.hid hne
              have HGm := Lib.hid hgm
              clear hG hB1 hMi hne hgm
              obtain ⟨y0, y1⟩ := HV1.out.cells
              have HAft : Hid (∀ w3, FrP wi w3 (MapB mb pb) → varP x.i c gp w3 ∧ w3.ownsRow w.heap.size 49 2 (.slice pv acc.length cv) acc.length (encP acc) ∧ Below w.heap.size w w3) := Lib.hid (fun w3 hF => by
                refine ⟨(hF.2.2.2.2 gp (Array.getElem?_eq_some_iff.1 HV1.out).1 (fun k => by rcases k with k | k; exact HGm.out.1 k; exact HGm.out.2 k)).trans HV1.out, own_frpM HRi.out hF HNe.out.1 HNe.out.2, ?_⟩
                have s1 := HK5.out.size
                refine (HK5.out.trans (HB1.out.mono s1)).trans (hF.below (Nat.le_trans s1 HB1.out.size) (fun b hb => ?_))
                rcases hb with rfl | rfl
                · exact hmb
                · exact hpb)
              by_cases hbad : 0 ≤ x.i ∧ x.i ≤ 281474976710656
              · by_cases htw : hasId acc x.i = true
                · have hcode : insCode W acc ⟨x.i, c⟩ = 130 := by
                    unfold insCode
                    rw [if_neg (by simp [hbad]), if_neg (by have := HN.out; simp; omega), if_pos htw]
                  have HAD : Hid (addF n acc x = acc) := Lib.hid (by unfold addF; rw [if_pos (.inr htw)])
                  have HCode := Lib.hid hcode
                  rw [htw]
                  have p0 : ¬ (x.i < 0) := by omega
                  have p1 : ¬ (281474976710656 < x.i) := by omega
                  clear hcode htw
                  go_wp2_with fail
                  refine HC1.out.mono ?_
                  rintro e w3 ⟨rfl, hM3, hF3⟩
                  rw [HCode.out] at hM3 ⊢
                  obtain ⟨hv3, hr3, hb3⟩ := HAft.out w3 hF3
                  obtain ⟨v0, v1⟩ := hv3.cells
                  have HR4 : Hid (FillRel w mb pb W n z (a + 1) (.slice pv acc.length cv) (addF n acc x) w3) := Lib.hid (by
                    refine ⟨by rw [← fillL_step n hlt HX.out]; exact HK1.out, addF_length n x hlt, ?_⟩
                    rw [HAD.out]
                    exact ⟨hM3, hr3, hb3⟩)
                  clear hM3 hF3 hr3 hb3 hv3
                  have HN := Lib.hid (⟨a + 1, _, acc, by omega, rfl, rfl, by have := HR4.out; rw [HAD.out] at this; exact this⟩ : ∃ (a' : Nat) (lv : Value) (acc' : List Pv), a' ≤ m ∧ Value.int .i64 ((a + 1 : Nat) : Int) = .int .i64 a' ∧ lv = .slice pv acc.length cv ∧ FillRel w mb pb W n z a' lv acc' w3)
                  go_wp2
                  go_roundw
                  case rel => first | exact HN.out | ((repeat (with_reducible apply Exists.intro)); exact ⟨HN.out, rfl⟩)
                  case measure => simp [intOf]; omega
                · have htw' : hasId acc x.i = false := by simpa using htw
                  have hcode : insCode W acc ⟨x.i, c⟩ = 0 := by
                    unfold insCode
                    rw [if_neg (by simp [hbad]), if_neg (by have := HN.out; simp; omega), if_neg htw, if_neg (by omega)]
                  have HAD : Hid (addF n acc x = acc ++ [⟨x.i, c⟩]) := Lib.hid (by unfold addF; rw [if_neg (by simp [hbad, htw']), HC.out])
                  have HCode := Lib.hid hcode
                  rw [htw']
                  have p0 : ¬ (x.i < 0) := by omega
                  have p1 : ¬ (281474976710656 < x.i) := by omega
                  clear hcode htw htw'
                  go_wp2_with fail
                  refine HC1.out.mono ?_
                  rintro e w3 ⟨rfl, hM3, hF3⟩
                  rw [HCode.out] at hM3 ⊢
                  obtain ⟨hv3, hr3, hb3⟩ := HAft.out w3 hF3
                  obtain ⟨v0, v1⟩ := hv3.cells
                  have HM3 := Lib.hid hM3
                  have HB3 := Lib.hid hb3
                  have hR3 := own_belowAll hr3 ((Below.refl w3.heap.size w3).alloc (Nat.le_refl _) (.cells #[.int .i64 x.i, .string c] 49))
                  have hnews := World.news_of_block (cs := #[.int .i64 x.i, .string c]) (t := 49) (fr := (0, 0)) (World.alloc_heap_new w3 (.cells #[.int .i64 x.i, .string c] 49))
                  have HNe3 := Lib.hid (own_map_ne hM3 hr3)
                  have HGO := Lib.hid (fun g (hg : (Value.slice pv acc.length cv).ownBlock = some g) => (hr3.lt g hg).1)
                  have hs3 := hb3.size
                  clear hM3 hF3 hr3 hb3 hv3
                  go_wp2_with (at_builtin; refine wpList_append_two _ rfl _ _ 22 rfl w.heap.size 49 i0 _ 2 24 Tryd.underlying22 hi hz0 hz1 hz2 rfl (by decide) (.slice pv acc.length cv) acc.length _ rfl hR3 ⟨w3.heap.size, 0, none⟩ 1 1 (Pv.cells ⟨x.i, c⟩) rfl rfl hnews (by simp [Value.oneCell', Pv.cells]) (by decide) (by unfold maxLen; omega) (by omega) (by simp; omega) ?_; intro g' capn y3 hown' hold hlies hlt2)
                  have HR4 : Hid (FillRel w mb pb W n z (a + 1) (.slice (some ⟨g', 0, none⟩) (acc.length + 1) capn) (addF n acc x) y3) := Lib.hid (by
                    refine ⟨by rw [← fillL_step n hlt HX.out]; exact HK1.out, addF_length n x hlt, ?_⟩
                    rw [HAD.out]
                    have hM4 := HM3.out.below ((Below.refl w3.heap.size w3).alloc (Nat.le_refl _) (.cells #[.int .i64 x.i, .string c] 49))
                    refine ⟨?_, by rw [List.length_append, encP_snoc]; exact hown', hlies.below (HB3.out.alloc (by omega) _) (by simp; omega) (fun q hq => HGO.out q hq)⟩
                    have := hM4.of (hlies.block hM4.lt.1 HNe3.out.1) (hlies.block hM4.lt.2 HNe3.out.2)
                    rw [List.length_append]
                    simpa using this)
                  clear hown' hold hlies hlt2 hR3 hnews
                  have HN2 := Lib.hid (⟨a + 1, _, _, by omega, rfl, rfl, HR4.out⟩ : ∃ (a' : Nat) (lv : Value) (acc' : List Pv), a' ≤ m ∧ Value.int .i64 ((a + 1 : Nat) : Int) = .int .i64 a' ∧ lv = .slice (some ⟨g', 0, none⟩) (acc.length + 1) capn ∧ FillRel w mb pb W n z a' lv acc' y3)
                  go_wp2
                  go_roundw
                  case rel => first | exact HN2.out | ((repeat (with_reducible apply Exists.intro)); exact ⟨HN2.out, rfl⟩)
                  case measure => simp [intOf]; omega
              · have hcode : insCode W acc ⟨x.i, c⟩ = 60 := by
                  unfold insCode
                  rw [if_pos hbad]
                have HAD : Hid (addF n acc x = acc) := Lib.hid (by unfold addF; rw [if_pos (.inl hbad)])
                have HCode := Lib.hid hcode
                obtain ⟨tw, htw⟩ : ∃ tw, hasId acc x.i = tw := ⟨_, rfl⟩
                rw [htw]
                clear hcode htw
                go_wp2_with fail
                refine HC1.out.mono ?_
                rintro e w3 ⟨rfl, hM3, hF3⟩
                rw [HCode.out] at hM3 ⊢
                obtain ⟨hv3, hr3, hb3⟩ := HAft.out w3 hF3
                obtain ⟨v0, v1⟩ := hv3.cells
                have HR4 : Hid (FillRel w mb pb W n z (a + 1) (.slice pv acc.length cv) (addF n acc x) w3) := Lib.hid (by
                  refine ⟨by rw [← fillL_step n hlt HX.out]; exact HK1.out, addF_length n x hlt, ?_⟩
                  rw [HAD.out]
                  exact ⟨hM3, hr3, hb3⟩)
                clear hM3 hF3 hr3 hb3 hv3
                have HN := Lib.hid (⟨a + 1, _, acc, by omega, rfl, rfl, by have := HR4.out; rw [HAD.out] at this; exact this⟩ : ∃ (a' : Nat) (lv : Value) (acc' : List Pv), a' ≤ m ∧ Value.int .i64 ((a + 1 : Nat) : Int) = .int .i64 a' ∧ lv = .slice pv acc.length cv ∧ FillRel w mb pb W n z a' lv acc' w3)
                by_cases p0 : x.i < 0
                · go_wp2
                  go_roundw
                  case rel => first | exact HN.out | ((repeat (with_reducible apply Exists.intro)); exact ⟨HN.out, rfl⟩)
                  case measure => simp [intOf]; omega
                · have p1 : 281474976710656 < x.i := by omega
                  go_wp2
                  go_roundw
                  case rel => first | exact HN.out | ((repeat (with_reducible apply Exists.intro)); exact ⟨HN.out, rfl⟩)
                  case measure => simp [intOf]; omega
      · have d80 : decide ((acc.length : Int) < 80) = false := by simp; omega
        have j1 : (a : Int) < (m : Int) := by omega
        have hLa : acc = L := by
          have := HK1.out
          rw [fillL_full n hlt] at this
          rw [← HL.out]
          exact this
        have hq1 : ((acc.length : Int) == (acc.length : Int)) = true := by simp
        have CC := Lib.hid (count_calls HK3.out)
        have CS := Lib.hid (seq_calls HK3.out)
        have HE : Hid (FillPost w W L (.returned (.tuple #[.pointer (some ⟨mb, 0, none⟩), .slice pv acc.length cv, .bool true])) wo) := Lib.hid (by
          rw [← hLa]
          exact ⟨mb, pb, _, rfl, HK3.out, HK4.out, HK5.out, hmb, hpb⟩)
        clear hLa
        go_wp2_with fail
        refine CC.out.mono ?_
        rintro e w5 ⟨rfl, rfl⟩
        go_wp2_with fail
        refine CS.out.mono ?_
        rintro e w6 ⟨rfl, rfl⟩
        go_wp2
        go_ret3
        exact HE.out
    · obtain rfl : a = m := by omega
      have hLa : acc = L := by
        have := HK1.out
        rw [List.drop_of_length_le (by rw [HM.out]; exact Nat.le_refl _)] at this
        rw [fillL_nil] at this
        rw [← HL.out]
        exact this
      have hq1 : ((acc.length : Int) == (acc.length : Int)) = true := by simp
      have CC := Lib.hid (count_calls HK3.out)
      have CS := Lib.hid (seq_calls HK3.out)
      have HE : Hid (FillPost w W L (.returned (.tuple #[.pointer (some ⟨mb, 0, none⟩), .slice pv acc.length cv, .bool true])) wo) := Lib.hid (by
        rw [← hLa]
        exact ⟨mb, pb, _, rfl, HK3.out, HK4.out, HK5.out, hmb, hpb⟩)
      clear hLa
      go_wp2_with fail
      refine CC.out.mono ?_
      rintro e w5 ⟨rfl, rfl⟩
      go_wp2_with fail
      refine CS.out.mono ?_
      rintro e w6 ⟨rfl, rfl⟩
      go_wp2
      go_ret3
      exact HE.out
end Go.Proofs.YtmfanldekjkbiaaDoor
