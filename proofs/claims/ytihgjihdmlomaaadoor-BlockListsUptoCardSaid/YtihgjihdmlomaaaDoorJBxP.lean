/-
  WALK: lists of entries that were answered share nothing.
-/
import Derived.Test.YtihgjihdmlomaaaDoorJA
import Derived.Test.YtihgjihdmlomaaaDoorJH
import Derived.Outline
import Derived.RegionTactic
import Derived.ChangeAlike
import Derived.BigRegion
namespace Go.Proofs.YtihgjihdmlomaaaDoor
open Go.RowKit
set_option linter.unusedVariables false

theorem entsinfo : (Tryd.prog.info? 24).map (fun i => (i.zero, i.size, i.bytes)) = some (some (.slice none 0 0), 1, 24) := by kernel_rfl
set_option maxRecDepth 100000 in
set_option maxHeartbeats 2000000 in
theorem apartE_calls (v : Value) (n : Nat) (L : Nat → Value) (ln : Nat → Nat) (b0 : Nat) (hn : n ≤ 100) (hl : ∀ i, i < n → ln i ≤ 1099511627776) (w : World) (hb0 : b0 ≤ w.heap.size)
    (h1 : w.ownsRow b0 24 1 v n ((List.range n).map L)) (h2 : ∀ i, i < n → ∃ xs, w.ownsRow b0 33 5 (L i) (ln i) xs) (h3 : ApartL n L) :
    Calls Tryd.prog 28 #[v] w fun e w' => e = .returned (.bool true) ∧ Below b0 w w' := by
  obtain ⟨pv, cv, rfl, _, _, hrd⟩ := own_rd h1
  obtain ⟨i0, hi, hz0, hz1, hz2⟩ := info_parts entinfo6
  obtain ⟨i1, hj, hy0, hy1, hy2⟩ := info_parts entsinfo
  have H1 := Lib.hid h1
  have H2 := Lib.hid h2
  have H3 := Lib.hid h3
  have HRD := Lib.hid hrd
  have HL := Lib.hid hl
  obtain ⟨mk, hmk⟩ : ∃ mk : Nat → List Value, ∀ i, mk i = [.int .i64 (-1 - (i : Int)), .string ⟨#[]⟩, .int .i64 0, .int .i64 0, .bool false] := ⟨_, fun i => rfl⟩
  have HMK := Lib.hid hmk
  obtain ⟨mk2, hmk2⟩ : ∃ mk : Nat → List Value, ∀ i, mk i = [.int .i64 (-101 - (i : Int)), .string ⟨#[]⟩, .int .i64 0, .int .i64 0, .bool false] := ⟨_, fun i => rfl⟩
  have HMK2 := Lib.hid hmk2
  clear hmk2
  clear h1 h2 h3 hrd hl hmk
  go_enter Tryd.func28, Tryd.ntmps28
  go_wp2
  go_loopw [3] (fun i wr => ∃ k : Nat, k ≤ n ∧ i = .int .i64 k ∧ Below b0 w wr ∧ Hid (wr.ownsRow b0 24 1 (.slice pv n cv) n ((List.range n).map L) ∧ ∀ j, j < n → ∃ xs, wr.ownsRow b0 33 5 (L j) (ln j) xs ∧ (j < k → xs = marks (mk j) (ln j)))) (fun i _ => n - (intOf i).toNat)
  case atStart => exact ⟨0, Nat.zero_le _, rfl, Below.refl _ _, Lib.hid ⟨H1.out, fun j hj => by obtain ⟨xs, hx⟩ := H2.out j hj; exact ⟨xs, hx, fun h => absurd h (Nat.not_lt_zero _)⟩⟩⟩
  case round =>
    obtain ⟨k, hk, rfl, hbl, HH⟩ := hrel
    obtain ⟨wo, rfl⟩ : ∃ wo : World, wo = wr := ⟨_, rfl⟩
    by_cases hlt : k < n
    · obtain ⟨gv, rfl, hgv1, hgv2, _, _⟩ := HRD.out (by omega)
      obtain ⟨hv0, hrows⟩ := HH.out
      have hlk := HL.out k hlt
      obtain ⟨x0, hx0, _⟩ := hrows k hlt
      obtain ⟨pk, ck, hLk, hck, _, _⟩ := own_rd hx0
      have hcv : wo.cell? ⟨gv, k, none⟩ = some (L k) := by rw [hv0.cellAt k (by omega)]; simp [hlt]
      have hgvlt := (hv0.lt gv rfl).2
      have hneV : (L k).ownBlock ≠ some gv := own_ne hv0 hx0 (by decide) gv rfl
      obtain ⟨wi, hwi⟩ : ∃ wi, wo = wi := ⟨_, rfl⟩
      have hri : wi.ownsRow b0 33 5 (L k) (ln k) x0 := by rw [← hwi]; exact hx0
      have hcvi : wi.cell? ⟨gv, k, none⟩ = some (L k) := by rw [← hwi]; exact hcv
      have hbli : Below b0 w wi := by rw [← hwi]; exact hbl
      have HWI := Lib.hid hwi
      have HVI : Hid (wi.ownsRow b0 24 1 (.slice (some ⟨gv, 0, none⟩) n cv) n ((List.range n).map L) ∧ ∀ j, j < n → ∃ xs, wi.ownsRow b0 33 5 (L j) (ln j) xs ∧ (j < k → xs = marks (mk j) (ln j))) := Lib.hid ⟨by rw [← hwi]; exact hv0, fun j hj => by rw [← hwi]; exact hrows j hj⟩
      have hxl := hx0.1
      have HRI := Lib.hid hri
      rw [hLk] at hcvi hneV
      have HLK := Lib.hid hLk
      clear hrows hx0 hcv hwi hri hv0 hLk HH
      go_wp2
      rw [HWI.out]
      go_loopw [4] (fun j ws => ∃ t : Nat, t ≤ ln k ∧ j = .int .i64 t ∧ wi.grownBy ws (Value.slice pk (ln k) ck).ownBlock ∧ Hid (∃ xs, ws.ownsRow b0 33 5 (.slice pk (ln k) ck) (ln k) (marks (mk k) t ++ xs))) (fun j _ => ln k - (intOf j).toNat)
      case atStart => exact ⟨0, Nat.zero_le _, rfl, grown_refl _ _, Lib.hid ⟨x0, by rw [marks_zero, ← HLK.out]; exact HRI.out⟩⟩
      case round =>
        obtain ⟨t, ht, rfl, hgr, HR⟩ := hrel
        obtain ⟨xs, hr⟩ := HR.out
        have c1 := hgr.cell hcvi (fun e => hneV e.symm)
        by_cases hlt2 : t < ln k
        · obtain ⟨_, _, he, _, _, hcs⟩ := own_rd hr
          cases he
          obtain ⟨g, rfl, hg1, hg2, hcell, hfr⟩ := hcs (by omega)
          have hml : (marks (mk k) t).length = t * 5 := by rw [marks_length, HMK.out]; rfl
          have hxl2 := hr.1
          rw [List.length_append, hml] at hxl2
          have htl : (marks (mk k) t ++ xs).length = ln k * 5 := by rw [List.length_append, hml]; omega
          obtain ⟨u0, hu0⟩ : ∃ u, wr.cell? ⟨g, t * 5, none⟩ = some u := ⟨_, (hcell (t * 5) (by omega)).trans (List.getElem?_eq_getElem (by omega))⟩
          have hf0 := hfr (t * 5)
          obtain ⟨u1, hu1⟩ : ∃ u, wr.cell? ⟨g, t * 5 + 1, none⟩ = some u := ⟨_, (hcell (t * 5 + 1) (by omega)).trans (List.getElem?_eq_getElem (by omega))⟩
          have hf1 := hfr (t * 5 + 1)
          obtain ⟨u2, hu2⟩ : ∃ u, wr.cell? ⟨g, t * 5 + 2, none⟩ = some u := ⟨_, (hcell (t * 5 + 2) (by omega)).trans (List.getElem?_eq_getElem (by omega))⟩
          have hf2 := hfr (t * 5 + 2)
          obtain ⟨u3, hu3⟩ : ∃ u, wr.cell? ⟨g, t * 5 + 3, none⟩ = some u := ⟨_, (hcell (t * 5 + 3) (by omega)).trans (List.getElem?_eq_getElem (by omega))⟩
          have hf3 := hfr (t * 5 + 3)
          obtain ⟨u4, hu4⟩ : ∃ u, wr.cell? ⟨g, t * 5 + 4, none⟩ = some u := ⟨_, (hcell (t * 5 + 4) (by omega)).trans (List.getElem?_eq_getElem (by omega))⟩
          have hf4 := hfr (t * 5 + 4)
          clear hcell hfr
          go_wp2
          obtain ⟨hs1, _⟩ := hr.stored (t * 5) (.int .i64 (-1 - (k : Int)))
          obtain ⟨hs2, _⟩ := hs1.stored (t * 5 + 1) (.string ⟨#[]⟩)
          obtain ⟨hs3, _⟩ := hs2.stored (t * 5 + 2) (.int .i64 0)
          obtain ⟨hs4, _⟩ := hs3.stored (t * 5 + 3) (.int .i64 0)
          obtain ⟨hs5, _⟩ := hs4.stored (t * 5 + 4) (.bool false)
          have hse : ((((((marks (mk k) t ++ xs).set (t * 5) (.int .i64 (-1 - (k : Int)))).set (t * 5 + 1) (.string ⟨#[]⟩)).set (t * 5 + 2) (.int .i64 0)).set (t * 5 + 3) (.int .i64 0)).set (t * 5 + 4) (.bool false)) = marks (mk k) (t + 1) ++ xs.drop 5 := by
            have := setsAt_app (mk k) (marks (mk k) t) xs (by rw [HMK.out]; show 5 ≤ _; omega)
            rw [hml, HMK.out] at this
            rw [marks_succ, HMK.out]
            exact this
          rw [hse] at hs5
          clear hse hs1 hs2 hs3 hs4
          go_roundw
          case rel => exact ⟨t + 1, by omega, by go_num, (grown_set (grown_set (grown_set (grown_set (grown_set hgr _ _) _ _) _ _) _ _) _ _), Lib.hid ⟨_, hs5⟩⟩
          case measure => simp [intOf]; omega
        · obtain rfl : t = ln k := by omega
          have hxe : xs = [] := by
            have hml : (marks (mk k) (ln k)).length = ln k * 5 := by rw [marks_length, HMK.out]; rfl
            have hxl2 := hr.1
            rw [List.length_append, hml] at hxl2
            exact List.eq_nil_of_length_eq_zero (by omega)
          rw [hxe, List.append_nil] at hr
          go_wp2
          have hbn : Below b0 w wr := hbli.grown hgr (by have := hbli.size; omega) (fun g hg => (hr.lt g hg).1)
          go_roundw
          case rel => exact ⟨k + 1, by omega, by go_num, hbn, Lib.hid ⟨own_grown HVI.out.1 hgr (fun g hg => by cases hg; exact hneV), fun j hj => by
            by_cases hjk : j = k
            · subst hjk
              exact ⟨_, (by rw [HLK.out]; exact hr), fun _ => rfl⟩
            · obtain ⟨xs, hx, hm⟩ := HVI.out.2 j hj
              refine ⟨xs, own_grown (w := wi) hx hgr (fun g hg e => ?_), fun h => hm (by omega)⟩
              rw [← HLK.out] at e
              exact H3.out k j hlt hj (fun e => hjk e.symm) g e hg⟩⟩
          case measure => simp [intOf]; omega
    · obtain rfl : k = n := by omega
      obtain ⟨hv0, hrows⟩ := HH.out
      have hst : Two wo b0 33 5 k L (fun _ => undef) ln mk mk2 64 0 := Two.start (fun j hj => by
        obtain ⟨xs, hx, hm⟩ := hrows j hj
        rw [hm hj] at hx
        exact hx) H3.out
      have hS0 : Hid (wo.ownsRow b0 24 1 (.slice pv k cv) k ((List.range k).map L) ∧ Two wo b0 33 5 k L (fun _ => undef) ln mk mk2 64 0) := Lib.hid ⟨hv0, hst⟩
      clear hv0 hrows hst HH hlt hk
      go_wp2
      go_loopw [5, 6] (fun m i wr => ∃ (t : Nat) (M : Nat → Value) (mv : Value), t ≤ k ∧ i = .int .i64 t ∧ mv = m ∧ Below b0 w wr ∧ Hid (wr.ownsRow b0 24 1 (.slice pv k cv) k ((List.range k).map L) ∧ wr.ownsRow b0 24 1 m t ((List.range t).map M) ∧ (∀ b, m.ownBlock = some b → (Value.slice pv k cv).ownBlock ≠ some b) ∧ Two wr b0 33 5 k L M ln mk mk2 64 t)) (fun _ i _ => k - (intOf i).toNat)
      case atStart => exact ⟨0, _, _, Nat.zero_le _, rfl, rfl, hbl, Lib.hid ⟨hS0.out.1, World.ownsRow_nil _ _ _ _, (fun b hb => by cases hb), hS0.out.2⟩⟩
      case round =>
        obtain ⟨t, M, mv, ht, rfl, rfl, hbl2, HQ⟩ := hrel
        obtain ⟨wt, rfl⟩ : ∃ wt : World, wt = wr := ⟨_, rfl⟩
        by_cases hlt : t < k
        · obtain ⟨gv, rfl, hgv1, hgv2, _, _⟩ := HRD.out (by omega)
          obtain ⟨hv, hm, hne, htwo⟩ := HQ.out
          have hlk := HL.out t hlt
          have hcv : wt.cell? ⟨gv, t, none⟩ = some (L t) := by rw [hv.cellAt t (by omega)]; simp [hlt]
          obtain ⟨pk, ck, hLk, hck, _, _⟩ := own_rd (htwo.1 t hlt)
          obtain ⟨wi, hwi⟩ : ∃ wi, wt = wi := ⟨_, rfl⟩
          have hcvi : wi.cell? ⟨gv, t, none⟩ = some (L t) := by rw [← hwi]; exact hcv
          have hbli : Below b0 w wi := by rw [← hwi]; exact hbl2
          have hvi : wi.ownsRow b0 24 1 (.slice (some ⟨gv, 0, none⟩) k cv) k ((List.range k).map L) := by rw [← hwi]; exact hv
          have hmi : wi.ownsRow b0 24 1 mv t ((List.range t).map M) := by rw [← hwi]; exact hm
          have hti : TwoIn wi b0 33 5 k L M ln mk mk2 64 t (.slice pk (ln t) ck) 0 := by rw [← hwi, ← hLk]; exact htwo.go hlt
          have hn0 : ∀ b, (Value.slice pk (ln t) ck).ownBlock = some b → True := fun _ _ => trivial
          have hwis : wi.heap.size = wt.heap.size := by rw [← hwi]
          rw [hLk] at hcvi
          have hcva := hcvi
          rw [← hwi] at hcva
          have HWI := Lib.hid hwi
          have HN := Lib.hid hne
          have HT := Lib.hid (And.intro hvi (And.intro hmi (And.intro hti hn0)))
          clear hv hm hne htwo hcv hLk hwi hvi hmi hti hn0 HQ
          go_wp2
          rw [HWI.out]
          clear hcva
          go_loopw [7, 8] (fun l i ws => ∃ (s : Nat) (lv : Value), s ≤ 64 ∧ i = .int .i64 s ∧ lv = l ∧ Below b0 w ws ∧ wi.heap.size ≤ ws.heap.size ∧ Hid (True ∧ ws.ownsRow b0 24 1 (.slice (some ⟨gv, 0, none⟩) k cv) k ((List.range k).map L) ∧ ws.ownsRow b0 24 1 mv t ((List.range t).map M) ∧ TwoIn ws b0 33 5 k L M ln mk mk2 64 t l s ∧ ∀ b, l.ownBlock = some b → True)) (fun _ i _ => 64 - (intOf i).toNat)
          case atStart => exact ⟨0, _, by omega, rfl, rfl, hbli, Nat.le_refl _, Lib.hid ⟨trivial, HT.out.1, HT.out.2.1, HT.out.2.2.1, HT.out.2.2.2⟩⟩
          case round =>
            obtain ⟨s, lv, hs, rfl, rfl, hbl3, hws, HR⟩ := hrel
            by_cases hls : s < 64
            · obtain ⟨hmb, hv, hm, hti, hnb⟩ := HR.out
              have hll := hti.2.2.1
              have hsz3 := hbl3.size
              go_wp2_with (at_builtin; refine wpList_append_two _ rfl _ _ 24 rfl b0 33 i0 (.agg #[.int .i64 0, .string ⟨#[]⟩, .int .i64 0, .int .i64 0, .bool false]) 5 48 Tryd.underlying24 hi hz0 hz1 hz2 rfl (by decide) lv (ln t + s) _ rfl (hll.alloc _) ⟨wr.heap.size, 0, none⟩ 1 1 [.int .i64 (-101 - (t : Int)), .string ⟨#[]⟩, .int .i64 0, .int .i64 0, .bool false] rfl rfl (World.news_of_block (heap_alloc_new wr _)) (by simp [Value.oneCell']) (by decide) (by unfold maxLen; omega) (by omega) (by simp; omega) ?_; intro g capn y1 hown' hold hlies hlt2)
              have hbn : Below b0 w y1 := hlies.below (hbl3.alloc (by omega) _) (by simp; omega) (fun b hb => (hll.lt b hb).1)
              have hmn : True := trivial
              have hvn := hlies.own (hv.alloc _) (fun b hb => own_ne hv hll (by decide) b hb)
              have hmvn := hlies.own (hm.alloc _) (fun b hb => own_ne hm hll (by decide) b hb)
              rw [← HMK2.out] at hown'
              have htn := TwoIn.append (hti.keep (fun _ _ _ h => h.alloc _)) hlt (by decide) hown' hold hlies
              have hnn : ∀ b, (Value.slice (some (⟨g, 0, none⟩ : Addr)) (ln t + s + 1) capn).ownBlock = some b → True := fun _ _ => trivial
              have hsy : wi.heap.size ≤ y1.heap.size := Nat.le_trans (by simp; omega) hlies.row.size
              have HN2 := Lib.hid (And.intro hmn (And.intro hvn (And.intro hmvn (And.intro htn hnn))))
              go_roundw
              case rel => exact ⟨s + 1, _, by omega, by go_num, rfl, hbn, hsy, Lib.hid HN2.out⟩
              case measure => simp [intOf]; omega
            · obtain rfl : s = 64 := by omega
              obtain ⟨hmb, hv, hm, hti, hnb⟩ := HR.out
              have hll := hti.2.2.1
              have hsz3 := hbl3.size
              obtain ⟨g, cl, rfl, hg1, hg2⟩ := hll.form (by omega)
              go_wp2_with (at_builtin; refine wpList_append_two _ rfl _ _ 55 rfl b0 24 i1 (.slice none 0 0) 1 24 Tryd.underlying55 hj hy0 hy1 hy2 rfl (by decide) mv t _ rfl (hm.alloc _) ⟨wr.heap.size, 0, none⟩ 1 1 [.slice (some ⟨g, 0, none⟩) (ln t + 64) cl] rfl rfl (World.news_of_block (heap_alloc_new wr _)) (by simp [Value.oneCell']) (by decide) (by unfold maxLen; omega) (by omega) (by simp; omega) ?_; intro g' capn y1 hown' hold hlies hlt2)
              have hbn : Below b0 w y1 := hlies.below (hbl3.alloc (by omega) _) (by simp; omega) (fun b hb => (hm.lt b hb).1)
              have hvn := hlies.own (hv.alloc _) (fun b hb e => HN.out b e hb)
              have htn := hti.stop.keep (w' := y1) (fun v m xs h => hlies.own (h.alloc _) (fun b hb e => own_ne hm h (by decide) b e hb))
              have hnn : ∀ b, (Value.slice (some (⟨g', 0, none⟩ : Addr)) (t + 1) capn).ownBlock = some b → (Value.slice (some (⟨gv, 0, none⟩ : Addr)) k cv).ownBlock ≠ some b := fun b hb => by
                obtain rfl : g' = b := Option.some.inj hb
                rcases hlies with ⟨he, _⟩ | ⟨he, _⟩
                · exact HN.out g' (by rw [he]; rfl)
                · intro e
                  have := (hv.lt g' e).2
                  rw [he] at this
                  simp at this
                  omega
              rw [← rows_snoc] at hown'
              have HN2 := Lib.hid (And.intro hvn (And.intro hown' (And.intro hnn htn)))
              go_roundw
              case rel => exact ⟨t + 1, _, _, by omega, by go_num, rfl, hbn, Lib.hid HN2.out⟩
              case measure => simp [intOf]; omega
        · obtain rfl : t = k := by omega
          have HQ2 := HQ
          clear HQ hlt
          go_wp2
          go_loopw [9] (fun i ws => ∃ (s : Nat), s ≤ t ∧ i = .int .i64 s ∧ Below wt.heap.size wt ws) (fun i _ => t - (intOf i).toNat)
          case atStart => exact ⟨0, Nat.zero_le _, rfl, Below.refl _ _⟩
          case round =>
            obtain ⟨s, hs, rfl, hbl4⟩ := hrel
            obtain ⟨ws, rfl⟩ : ∃ ws : World, ws = wr := ⟨_, rfl⟩
            by_cases hls : s < t
            · obtain ⟨gv, rfl, _, _, _, _⟩ := HRD.out (by omega)
              obtain ⟨hv, hm, hne, htwo⟩ := HQ2.out
              have hlk := HL.out s hls
              obtain ⟨gm, cm, rfl, hgm1, hgm2⟩ := hm.form (by omega)
              have hMs := htwo.2.1 s hls
              obtain ⟨gM, cM, hMe, hgM1, hgM2⟩ := hMs.form (by omega)
              have hLs := htwo.1 s hls
              obtain ⟨pL, cL, hLe, _, _, hLr⟩ := own_rd hLs
              have k1 : wt.cell? ⟨gm, s, none⟩ = some (M s) := by rw [hm.cellAt s (by omega)]; simp [hls]
              have k2 : wt.cell? ⟨gv, s, none⟩ = some (L s) := by rw [hv.cellAt s (by omega)]; simp [hls]
              have hgv2 := (hv.lt gv rfl).2
              rw [hMe] at k1 hMs
              rw [hLe] at k2
              have hMc : Hid (∀ j, j < ln s → wt.cell? ⟨gM, j * 5, none⟩ = some (.int .i64 (-1 - (s : Int))) ∧ wt.cell? ⟨gM, j * 5 + 1, none⟩ = some (.string ⟨#[]⟩) ∧ wt.cell? ⟨gM, j * 5 + 2, none⟩ = some (.int .i64 0) ∧ wt.cell? ⟨gM, j * 5 + 3, none⟩ = some (.int .i64 0) ∧ wt.cell? ⟨gM, j * 5 + 4, none⟩ = some (.bool false)) := Lib.hid (fun j hj => by
                have e0 := hMs.cellAt (j * 5) (by omega)
                have q0 := marks_get (mk s) (ln s) j 0 hj (by rw [HMK.out]; simp)
                rw [List.getElem?_append_left (by rw [marks_length, HMK.out]; show _ < ln s * 5; omega)] at e0
                rw [HMK.out] at q0 e0
                have e1 := hMs.cellAt (j * 5 + 1) (by omega)
                have q1 := marks_get (mk s) (ln s) j 1 hj (by rw [HMK.out]; simp)
                rw [List.getElem?_append_left (by rw [marks_length, HMK.out]; show _ < ln s * 5; omega)] at e1
                rw [HMK.out] at q1 e1
                have e2 := hMs.cellAt (j * 5 + 2) (by omega)
                have q2 := marks_get (mk s) (ln s) j 2 hj (by rw [HMK.out]; simp)
                rw [List.getElem?_append_left (by rw [marks_length, HMK.out]; show _ < ln s * 5; omega)] at e2
                rw [HMK.out] at q2 e2
                have e3 := hMs.cellAt (j * 5 + 3) (by omega)
                have q3 := marks_get (mk s) (ln s) j 3 hj (by rw [HMK.out]; simp)
                rw [List.getElem?_append_left (by rw [marks_length, HMK.out]; show _ < ln s * 5; omega)] at e3
                rw [HMK.out] at q3 e3
                have e4 := hMs.cellAt (j * 5 + 4) (by omega)
                have q4 := marks_get (mk s) (ln s) j 4 hj (by rw [HMK.out]; simp)
                rw [List.getElem?_append_left (by rw [marks_length, HMK.out]; show _ < ln s * 5; omega)] at e4
                rw [HMK.out] at q4 e4
                exact ⟨e0.trans q0, e1.trans q1, e2.trans q2, e3.trans q3, e4.trans q4⟩)
              have hMd : Hid (∀ j, j < 64 → wt.cell? ⟨gM, (ln s + j) * 5, none⟩ = some (.int .i64 (-101 - (s : Int))) ∧ wt.cell? ⟨gM, (ln s + j) * 5 + 1, none⟩ = some (.string ⟨#[]⟩) ∧ wt.cell? ⟨gM, (ln s + j) * 5 + 2, none⟩ = some (.int .i64 0) ∧ wt.cell? ⟨gM, (ln s + j) * 5 + 3, none⟩ = some (.int .i64 0) ∧ wt.cell? ⟨gM, (ln s + j) * 5 + 4, none⟩ = some (.bool false)) := Lib.hid (fun j hj => by
                have e0 := hMs.cellAt ((ln s + j) * 5) (by omega)
                have q0 := marks_get (mk2 s) 64 j 0 hj (by rw [HMK2.out]; simp)
                rw [List.getElem?_append_right (by rw [marks_length, HMK.out]; show ln s * 5 ≤ _; omega), marks_length, show (mk s).length = 5 by rw [HMK.out]; rfl, show (ln s + j) * 5 - ln s * 5 = j * 5 by omega] at e0
                rw [HMK2.out] at q0 e0
                have e1 := hMs.cellAt ((ln s + j) * 5 + 1) (by omega)
                have q1 := marks_get (mk2 s) 64 j 1 hj (by rw [HMK2.out]; simp)
                rw [List.getElem?_append_right (by rw [marks_length, HMK.out]; show ln s * 5 ≤ _; omega), marks_length, show (mk s).length = 5 by rw [HMK.out]; rfl, show (ln s + j) * 5 + 1 - ln s * 5 = j * 5 + 1 by omega] at e1
                rw [HMK2.out] at q1 e1
                have e2 := hMs.cellAt ((ln s + j) * 5 + 2) (by omega)
                have q2 := marks_get (mk2 s) 64 j 2 hj (by rw [HMK2.out]; simp)
                rw [List.getElem?_append_right (by rw [marks_length, HMK.out]; show ln s * 5 ≤ _; omega), marks_length, show (mk s).length = 5 by rw [HMK.out]; rfl, show (ln s + j) * 5 + 2 - ln s * 5 = j * 5 + 2 by omega] at e2
                rw [HMK2.out] at q2 e2
                have e3 := hMs.cellAt ((ln s + j) * 5 + 3) (by omega)
                have q3 := marks_get (mk2 s) 64 j 3 hj (by rw [HMK2.out]; simp)
                rw [List.getElem?_append_right (by rw [marks_length, HMK.out]; show ln s * 5 ≤ _; omega), marks_length, show (mk s).length = 5 by rw [HMK.out]; rfl, show (ln s + j) * 5 + 3 - ln s * 5 = j * 5 + 3 by omega] at e3
                rw [HMK2.out] at q3 e3
                have e4 := hMs.cellAt ((ln s + j) * 5 + 4) (by omega)
                have q4 := marks_get (mk2 s) 64 j 4 hj (by rw [HMK2.out]; simp)
                rw [List.getElem?_append_right (by rw [marks_length, HMK.out]; show ln s * 5 ≤ _; omega), marks_length, show (mk s).length = 5 by rw [HMK.out]; rfl, show (ln s + j) * 5 + 4 - ln s * 5 = j * 5 + 4 by omega] at e4
                rw [HMK2.out] at q4 e4
                exact ⟨e0.trans q0, e1.trans q1, e2.trans q2, e3.trans q3, e4.trans q4⟩)
              have hLc : Hid (∀ j, j < ln s → ∃ gL, pL = some ⟨gL, 0, none⟩ ∧ gL < wt.heap.size ∧ wt.cell? ⟨gL, j * 5, none⟩ = some (.int .i64 (-1 - (s : Int))) ∧ wt.cell? ⟨gL, j * 5 + 1, none⟩ = some (.string ⟨#[]⟩) ∧ wt.cell? ⟨gL, j * 5 + 2, none⟩ = some (.int .i64 0) ∧ wt.cell? ⟨gL, j * 5 + 3, none⟩ = some (.int .i64 0) ∧ wt.cell? ⟨gL, j * 5 + 4, none⟩ = some (.bool false)) := Lib.hid (fun j hj => by
                obtain ⟨gL, z0, _, h1, h2, _⟩ := hLr (by omega)
                have e0 := h2 (j * 5) (by omega)
                have q0 := marks_get (mk s) (ln s) j 0 hj (by rw [HMK.out]; simp)
                rw [HMK.out] at q0 e0
                have e1 := h2 (j * 5 + 1) (by omega)
                have q1 := marks_get (mk s) (ln s) j 1 hj (by rw [HMK.out]; simp)
                rw [HMK.out] at q1 e1
                have e2 := h2 (j * 5 + 2) (by omega)
                have q2 := marks_get (mk s) (ln s) j 2 hj (by rw [HMK.out]; simp)
                rw [HMK.out] at q2 e2
                have e3 := h2 (j * 5 + 3) (by omega)
                have q3 := marks_get (mk s) (ln s) j 3 hj (by rw [HMK.out]; simp)
                rw [HMK.out] at q3 e3
                have e4 := h2 (j * 5 + 4) (by omega)
                have q4 := marks_get (mk s) (ln s) j 4 hj (by rw [HMK.out]; simp)
                rw [HMK.out] at q4 e4
                exact ⟨gL, z0, h1, e0.trans q0, e1.trans q1, e2.trans q2, e3.trans q3, e4.trans q4⟩)
              have b1 := hbl4.size
              clear hv hm hne htwo hMs hLs hLr hMe hLe
              have k2w := (hbl4.cell (p := ⟨gv, s, none⟩) hgv2).trans k2
              go_wp2
              clear k2w
              obtain ⟨wi, hwi⟩ : ∃ wi, ws = wi := ⟨_, rfl⟩
              have hbi : Below wt.heap.size wt wi := by rw [← hwi]; exact hbl4
              have hwz : wi.heap.size = ws.heap.size := by rw [← hwi]
              rw [hwi]
              clear hwi
              go_loopw [11] (fun j wr => ∃ (r : Nat), r ≤ ln s + 64 ∧ j = .int .i64 r ∧ Below wi.heap.size wi wr) (fun j _ => ln s + 64 - (intOf j).toNat)
              case atStart => exact ⟨0, Nat.zero_le _, rfl, Below.refl _ _⟩
              case round =>
                obtain ⟨r, hr, rfl, hbl5⟩ := hrel
                have hbl6 := hbi.trans (hbl5.mono (by omega))
                have k1' := (hbl6.cell (p := ⟨gm, s, none⟩) hgm2).trans k1
                have k2' := (hbl6.cell (p := ⟨gv, s, none⟩) hgv2).trans k2
                by_cases hlr : r < ln s + 64
                · by_cases hlq : r < ln s
                  · obtain ⟨c0, c1, c2, c3, c4⟩ := hMc.out r hlq
                    obtain ⟨gL, rfl, hgL, d0, d1, d2, d3, d4⟩ := hLc.out r hlq
                    have c0' := (hbl6.cell (p := ⟨gM, r * 5, none⟩) hgM2).trans c0
                    have c1' := (hbl6.cell (p := ⟨gM, r * 5 + 1, none⟩) hgM2).trans c1
                    have c2' := (hbl6.cell (p := ⟨gM, r * 5 + 2, none⟩) hgM2).trans c2
                    have c3' := (hbl6.cell (p := ⟨gM, r * 5 + 3, none⟩) hgM2).trans c3
                    have c4' := (hbl6.cell (p := ⟨gM, r * 5 + 4, none⟩) hgM2).trans c4
                    have d0' := (hbl6.cell (p := ⟨gL, r * 5, none⟩) hgL).trans d0
                    have d1' := (hbl6.cell (p := ⟨gL, r * 5 + 1, none⟩) hgL).trans d1
                    have d2' := (hbl6.cell (p := ⟨gL, r * 5 + 2, none⟩) hgL).trans d2
                    have d3' := (hbl6.cell (p := ⟨gL, r * 5 + 3, none⟩) hgL).trans d3
                    have d4' := (hbl6.cell (p := ⟨gL, r * 5 + 4, none⟩) hgL).trans d4
                    have hd : decide ((r : Int) < (ln s : Int)) = true := by simp; omega
                    have hd2 : decide ((ln s : Int) ≤ (r : Int)) = false := by simp; omega
                    clear d0 d1 d2 d3 d4 c0 c1 c2 c3 c4
                    go_wp2
                    go_roundw
                    case rel => exact ⟨r + 1, by omega, by go_num, hbl5⟩
                    case measure => simp [intOf]; omega
                  · obtain ⟨c0, c1, c2, c3, c4⟩ := hMd.out (r - ln s) (by omega)
                    rw [show ln s + (r - ln s) = r by omega] at c0 c1 c2 c3 c4
                    have c0' := (hbl6.cell (p := ⟨gM, r * 5, none⟩) hgM2).trans c0
                    have c1' := (hbl6.cell (p := ⟨gM, r * 5 + 1, none⟩) hgM2).trans c1
                    have c2' := (hbl6.cell (p := ⟨gM, r * 5 + 2, none⟩) hgM2).trans c2
                    have c3' := (hbl6.cell (p := ⟨gM, r * 5 + 3, none⟩) hgM2).trans c3
                    have c4' := (hbl6.cell (p := ⟨gM, r * 5 + 4, none⟩) hgM2).trans c4
                    have hd : decide ((r : Int) < (ln s : Int)) = false := by simp; omega
                    have hd2 : decide ((ln s : Int) ≤ (r : Int)) = true := by simp; omega
                    clear c0 c1 c2 c3 c4
                    go_wp2
                    go_roundw
                    case rel => exact ⟨r + 1, by omega, by go_num, hbl5⟩
                    case measure => simp [intOf]; omega
                · obtain rfl : r = ln s + 64 := by omega
                  go_wp2
                  go_roundw
                  case rel => exact ⟨s + 1, by omega, by go_num, hbl6⟩
                  case measure => simp [intOf]; omega
            · obtain rfl : s = t := by omega
              go_wp2
              go_ret
              exact ⟨rfl, hbl2.trans (hbl4.mono (by have := hbl2.size; omega))⟩
end Go.Proofs.YtihgjihdmlomaaaDoor
