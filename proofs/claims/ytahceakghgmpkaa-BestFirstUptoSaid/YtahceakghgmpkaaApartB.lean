/-
  WALK: lists of hits that were answered share nothing.
-/
import Derived.Test.YtahceakghgmpkaaApp
import Derived.Test.YtahceakghgmpkaaLawB
import Derived.Outline
import Derived.RegionTactic
import Derived.ChangeAlike
import Derived.BigRegion
namespace Go.Proofs.Ytahceakghgmpkaa
open Go.RowKit
set_option linter.unusedVariables false

theorem hitsinfo : (Try.prog.info? 23).map (fun i => (i.zero, i.size, i.bytes)) = some (some (.slice none 0 0), 1, 24) := by kernel_rfl
set_option maxRecDepth 100000 in
set_option maxHeartbeats 2000000 in
theorem apartB_calls (v : Value) (n : Nat) (L : Nat → Value) (ln : Nat → Nat) (b0 : Nat) (hn : n ≤ 100) (hl : ∀ i, i < n → ln i ≤ 4398046510976) (w : World) (hb0 : b0 ≤ w.heap.size)
    (h1 : w.ownsRow b0 23 1 v n ((List.range n).map L)) (h2 : ∀ i, i < n → ∃ xs, w.ownsRow b0 34 3 (L i) (ln i) xs) (h3 : ApartL n L) :
    Calls Try.prog 34 #[v] w fun e w' => e = .returned (.bool true) ∧ Below b0 w w' := by
  obtain ⟨pv, cv, rfl, _, _, hrd⟩ := own_rd h1
  obtain ⟨i0, hi, hz0, hz1, hz2⟩ := info_parts hitinfo
  obtain ⟨i1, hj, hy0, hy1, hy2⟩ := info_parts hitsinfo
  have H1 := Lib.hid h1
  have H2 := Lib.hid h2
  have H3 := Lib.hid h3
  have HRD := Lib.hid hrd
  have HL := Lib.hid hl
  obtain ⟨mk, hmk⟩ : ∃ mk : Nat → List Value, ∀ i, mk i = [.int .i64 (-20 - (i : Int)), .int .i64 (-20 - (i : Int)), .string ⟨#[109, 97, 114, 107]⟩] := ⟨_, fun i => rfl⟩
  have HMK := Lib.hid hmk
  have HMK2 := HMK
  clear h1 h2 h3 hrd hl hmk
  go_enter Try.func34, Try.ntmps34
  go_wp2
  go_loopw [3] (fun i wr => ∃ k : Nat, k ≤ n ∧ i = .int .i64 k ∧ Below b0 w wr ∧ Hid (wr.ownsRow b0 23 1 (.slice pv n cv) n ((List.range n).map L) ∧ ∀ j, j < n → ∃ xs, wr.ownsRow b0 34 3 (L j) (ln j) xs ∧ (j < k → xs = marks (mk j) (ln j)))) (fun i _ => n - (intOf i).toNat)
  case atStart => exact ⟨0, Nat.zero_le _, rfl, Below.refl _ _, Lib.hid ⟨H1.out, fun j hj => by obtain ⟨xs, hx⟩ := H2.out j hj; exact ⟨xs, hx, fun h => absurd h (Nat.not_lt_zero _)⟩⟩⟩
  case round =>
    obtain ⟨k, hk, rfl, hbl, HH⟩ := hrel
    obtain ⟨wo, rfl⟩ : ∃ wo : World, wo = wr := ⟨_, rfl⟩
    by_cases hlt : k < n
    · obtain ⟨gv, rfl, hgv1, hgv2, _, _⟩ := HRD.out (by omega)
      obtain ⟨hv0, hrows⟩ := HH.out
      have hlk := HL.out k hlt
      obtain ⟨x0, hx0, _⟩ := hrows k hlt
      obtain ⟨pk, ck, hLk, hck, _, _⟩ := own_rd hx0
      have hcv : wo.cell? ⟨gv, k, none⟩ = some (L k) := by rw [hv0.cellAt k (by omega)]; simp [hlt]
      have hgvlt := (hv0.lt gv rfl).2
      have hneV : (L k).ownBlock ≠ some gv := own_ne hv0 hx0 (by decide) gv rfl
      obtain ⟨wi, hwi⟩ : ∃ wi, wo.alloc (.cells #[.int .i64 (-20 - (k : Int)), .int .i64 (-20 - (k : Int)), .string ⟨#[109, 97, 114, 107]⟩] 34) = wi := ⟨_, rfl⟩
      have hmb : wi.heap[wo.heap.size]? = some (.cells #[.int .i64 (-20 - (k : Int)), .int .i64 (-20 - (k : Int)), .string ⟨#[109, 97, 114, 107]⟩] 34 (0, 0)) := by rw [← hwi]; exact heap_alloc_new wo _
      have hri : wi.ownsRow b0 34 3 (L k) (ln k) x0 := by rw [← hwi]; exact hx0.alloc _
      have hcvi : wi.cell? ⟨gv, k, none⟩ = some (L k) := by rw [← hwi]; exact (World.cell?_alloc_lt wo _ ⟨gv, k, none⟩ hgvlt).trans hcv
      have hbli : Below b0 w wi := by rw [← hwi]; exact hbl.alloc (by have := hbl.size; omega) _
      have hni : wi.heap.size = wo.heap.size + 1 := by rw [← hwi]; simp
      have hneM : (L k).ownBlock ≠ some wo.heap.size := fun e => by have := (hx0.lt _ e).2; omega
      have HWI := Lib.hid hwi
      have HVI : Hid (wi.ownsRow b0 23 1 (.slice (some ⟨gv, 0, none⟩) n cv) n ((List.range n).map L) ∧ ∀ j, j < n → ∃ xs, wi.ownsRow b0 34 3 (L j) (ln j) xs ∧ (j < k → xs = marks (mk j) (ln j))) := Lib.hid ⟨by rw [← hwi]; exact hv0.alloc _, fun j hj => by
        obtain ⟨xs, hx, hm⟩ := hrows j hj
        exact ⟨xs, by rw [← hwi]; exact hx.alloc _, hm⟩⟩
      have hxl := hx0.1
      have HRI := Lib.hid hri
      rw [hLk] at hcvi hneV hneM
      have HLK := Lib.hid hLk
      clear hrows hx0 hcv hwi hri hv0 hLk HH
      go_wp2
      rw [HWI.out]
      go_loopw [5] (fun j ws => ∃ t : Nat, t ≤ ln k ∧ j = .int .i64 t ∧ wi.grownBy ws (Value.slice pk (ln k) ck).ownBlock ∧ Hid (∃ xs, ws.ownsRow b0 34 3 (.slice pk (ln k) ck) (ln k) (marks (mk k) t ++ xs))) (fun j _ => ln k - (intOf j).toNat)
      case atStart => exact ⟨0, Nat.zero_le _, rfl, grown_refl _ _, Lib.hid ⟨x0, by rw [marks_zero, ← HLK.out]; exact HRI.out⟩⟩
      case round =>
        obtain ⟨t, ht, rfl, hgr, HR⟩ := hrel
        obtain ⟨xs, hr⟩ := HR.out
        have c1 := hgr.cell hcvi (fun e => hneV e.symm)
        by_cases hlt2 : t < ln k
        · obtain ⟨_, _, he, _, _, hcs⟩ := own_rd hr
          cases he
          obtain ⟨g, rfl, hg1, hg2, hcell, hfr⟩ := hcs (by omega)
          have hml : (marks (mk k) t).length = t * 3 := by rw [marks_length, HMK.out]; rfl
          have hxl2 := hr.1
          rw [List.length_append, hml] at hxl2
          have htl : (marks (mk k) t ++ xs).length = ln k * 3 := by rw [List.length_append, hml]; omega
          obtain ⟨u0, hu0⟩ : ∃ u, wr.cell? ⟨g, t * 3, none⟩ = some u := ⟨_, (hcell (t * 3) (by omega)).trans (List.getElem?_eq_getElem (by omega))⟩
          have hf0 := hfr (t * 3)
          obtain ⟨u1, hu1⟩ : ∃ u, wr.cell? ⟨g, t * 3 + 1, none⟩ = some u := ⟨_, (hcell (t * 3 + 1) (by omega)).trans (List.getElem?_eq_getElem (by omega))⟩
          have hf1 := hfr (t * 3 + 1)
          obtain ⟨u2, hu2⟩ : ∃ u, wr.cell? ⟨g, t * 3 + 2, none⟩ = some u := ⟨_, (hcell (t * 3 + 2) (by omega)).trans (List.getElem?_eq_getElem (by omega))⟩
          have hf2 := hfr (t * 3 + 2)
          have hmb' := (hgr.block wo.heap.size (by omega) (fun e => hneM e.symm)).trans hmb
          have m0 : wr.cell? ⟨wo.heap.size, 0, none⟩ = some (.int .i64 (-20 - (k : Int))) := by rw [cell_of_row wr _ 0 _ _ _ hmb']; rfl
          have m1 : wr.cell? ⟨wo.heap.size, 1, none⟩ = some (.int .i64 (-20 - (k : Int))) := by rw [cell_of_row wr _ 1 _ _ _ hmb']; rfl
          have m2 : wr.cell? ⟨wo.heap.size, 2, none⟩ = some (.string ⟨#[109, 97, 114, 107]⟩) := by rw [cell_of_row wr _ 2 _ _ _ hmb']; rfl
          clear hmb'
          clear hcell hfr
          go_wp2
          go_region
          go_wp2
          obtain ⟨hs1, _⟩ := hr.stored (t * 3) (.int .i64 (-20 - (k : Int)))
          obtain ⟨hs2, _⟩ := hs1.stored (t * 3 + 1) (.int .i64 (-20 - (k : Int)))
          obtain ⟨hs3, _⟩ := hs2.stored (t * 3 + 2) (.string ⟨#[109, 97, 114, 107]⟩)
          have hse : ((((marks (mk k) t ++ xs).set (t * 3) (.int .i64 (-20 - (k : Int)))).set (t * 3 + 1) (.int .i64 (-20 - (k : Int)))).set (t * 3 + 2) (.string ⟨#[109, 97, 114, 107]⟩)) = marks (mk k) (t + 1) ++ xs.drop 3 := by
            have := setsAt_app (mk k) (marks (mk k) t) xs (by rw [HMK.out]; show 3 ≤ _; omega)
            rw [hml, HMK.out] at this
            rw [marks_succ, HMK.out]
            exact this
          rw [hse] at hs3
          clear hse hs1 hs2
          go_roundw
          case rel => exact ⟨t + 1, by omega, by go_num, grown_drew (grown_set (grown_set (grown_set hgr _ _) _ _) _ _), Lib.hid ⟨_, hs3.drew⟩⟩
          case measure => simp [intOf]; omega
        · obtain rfl : t = ln k := by omega
          have hxe : xs = [] := by
            have hml : (marks (mk k) (ln k)).length = ln k * 3 := by rw [marks_length, HMK.out]; rfl
            have hxl2 := hr.1
            rw [List.length_append, hml] at hxl2
            exact List.eq_nil_of_length_eq_zero (by omega)
          rw [hxe, List.append_nil] at hr
          go_wp2
          have hbn : Below b0 w wr := hbli.grown hgr (by have := hbli.size; omega) (fun g hg => (hr.lt g hg).1)
          go_roundw
          case rel => exact ⟨k + 1, by omega, by go_num, hbn, Lib.hid ⟨own_grown HVI.out.1 hgr (fun g hg => by cases hg; exact hneV), fun j hj => by
            by_cases hjk : j = k
            · subst hjk
              exact ⟨_, (by rw [HLK.out]; exact hr), fun _ => rfl⟩
            · obtain ⟨xs, hx, hm⟩ := HVI.out.2 j hj
              refine ⟨xs, own_grown (w := wi) hx hgr (fun g hg e => ?_), fun h => hm (by omega)⟩
              rw [← HLK.out] at e
              exact H3.out k j hlt hj (fun e => hjk e.symm) g e hg⟩⟩
          case measure => simp [intOf]; omega
    · obtain rfl : k = n := by omega
      obtain ⟨hv0, hrows⟩ := HH.out
      have hst : Two wo b0 34 3 k L (fun _ => undef) ln mk mk 70 0 := Two.start (fun j hj => by
        obtain ⟨xs, hx, hm⟩ := hrows j hj
        rw [hm hj] at hx
        exact hx) H3.out
      have hS0 : Hid (wo.ownsRow b0 23 1 (.slice pv k cv) k ((List.range k).map L) ∧ Two wo b0 34 3 k L (fun _ => undef) ln mk mk 70 0) := Lib.hid ⟨hv0, hst⟩
      clear hv0 hrows hst HH hlt hk
      go_wp2
      go_loopw [6, 7] (fun m i wr => ∃ (t : Nat) (M : Nat → Value) (mv : Value), t ≤ k ∧ i = .int .i64 t ∧ mv = m ∧ Below b0 w wr ∧ Hid (wr.ownsRow b0 23 1 (.slice pv k cv) k ((List.range k).map L) ∧ wr.ownsRow b0 23 1 m t ((List.range t).map M) ∧ (∀ b, m.ownBlock = some b → (Value.slice pv k cv).ownBlock ≠ some b) ∧ Two wr b0 34 3 k L M ln mk mk 70 t)) (fun _ i _ => k - (intOf i).toNat)
      case atStart => exact ⟨0, _, _, Nat.zero_le _, rfl, rfl, hbl, Lib.hid ⟨hS0.out.1, World.ownsRow_nil _ _ _ _, (fun b hb => by cases hb), hS0.out.2⟩⟩
      case round =>
        obtain ⟨t, M, mv, ht, rfl, rfl, hbl2, HQ⟩ := hrel
        obtain ⟨wt, rfl⟩ : ∃ wt : World, wt = wr := ⟨_, rfl⟩
        by_cases hlt : t < k
        · obtain ⟨gv, rfl, hgv1, hgv2, _, _⟩ := HRD.out (by omega)
          obtain ⟨hv, hm, hne, htwo⟩ := HQ.out
          have hlk := HL.out t hlt
          have hcv : wt.cell? ⟨gv, t, none⟩ = some (L t) := by rw [hv.cellAt t (by omega)]; simp [hlt]
          obtain ⟨pk, ck, hLk, hck, _, _⟩ := own_rd (htwo.1 t hlt)
          obtain ⟨wi, hwi⟩ : ∃ wi, wt.alloc (.cells #[.int .i64 (-20 - (t : Int)), .int .i64 (-20 - (t : Int)), .string ⟨#[109, 97, 114, 107]⟩] 34) = wi := ⟨_, rfl⟩
          have hmb : wi.heap[wt.heap.size]? = some (.cells #[.int .i64 (-20 - (t : Int)), .int .i64 (-20 - (t : Int)), .string ⟨#[109, 97, 114, 107]⟩] 34 (0, 0)) := by rw [← hwi]; exact heap_alloc_new wt _
          have hcvi : wi.cell? ⟨gv, t, none⟩ = some (L t) := by rw [← hwi]; exact (World.cell?_alloc_lt wt _ ⟨gv, t, none⟩ (hv.lt gv rfl).2).trans hcv
          have hbli : Below b0 w wi := by rw [← hwi]; exact hbl2.alloc (by have := hbl2.size; omega) _
          have hvi : wi.ownsRow b0 23 1 (.slice (some ⟨gv, 0, none⟩) k cv) k ((List.range k).map L) := by rw [← hwi]; exact hv.alloc _
          have hmi : wi.ownsRow b0 23 1 mv t ((List.range t).map M) := by rw [← hwi]; exact hm.alloc _
          have hti : TwoIn wi b0 34 3 k L M ln mk mk 70 t (.slice pk (ln t) ck) 0 := by rw [← hwi, ← hLk]; exact (htwo.go hlt).keep (fun _ _ _ h => h.alloc _)
          have hn0 : ∀ b, (Value.slice pk (ln t) ck).ownBlock = some b → b ≠ wt.heap.size := fun b hb e => by
            rw [← hLk] at hb
            have := ((htwo.1 t hlt).lt b hb).2
            omega
          have hwis : wi.heap.size = wt.heap.size + 1 := by rw [← hwi]; simp
          rw [hLk] at hcvi
          have hcva := hcvi
          rw [← hwi] at hcva
          have HMB := Lib.hid hmb
          clear hmb
          have HWI := Lib.hid hwi
          have HN := Lib.hid hne
          have HT := Lib.hid (And.intro hvi (And.intro hmi (And.intro hti hn0)))
          clear hv hm hne htwo hcv hLk hwi hvi hmi hti hn0 HQ
          go_wp2
          rw [HWI.out]
          clear hcva
          go_loopw [9, 10] (fun l i ws => ∃ (s : Nat) (lv : Value), s ≤ 70 ∧ i = .int .i64 s ∧ lv = l ∧ Below b0 w ws ∧ wi.heap.size ≤ ws.heap.size ∧ Hid (ws.heap[wt.heap.size]? = some (.cells #[.int .i64 (-20 - (t : Int)), .int .i64 (-20 - (t : Int)), .string ⟨#[109, 97, 114, 107]⟩] 34 (0, 0)) ∧ ws.ownsRow b0 23 1 (.slice (some ⟨gv, 0, none⟩) k cv) k ((List.range k).map L) ∧ ws.ownsRow b0 23 1 mv t ((List.range t).map M) ∧ TwoIn ws b0 34 3 k L M ln mk mk 70 t l s ∧ ∀ b, l.ownBlock = some b → b ≠ wt.heap.size)) (fun _ i _ => 70 - (intOf i).toNat)
          case atStart => exact ⟨0, _, by omega, rfl, rfl, hbli, Nat.le_refl _, Lib.hid ⟨HMB.out, HT.out.1, HT.out.2.1, HT.out.2.2.1, HT.out.2.2.2⟩⟩
          case round =>
            obtain ⟨s, lv, hs, rfl, rfl, hbl3, hws, HR⟩ := hrel
            by_cases hls : s < 70
            · obtain ⟨hmb, hv, hm, hti, hnb⟩ := HR.out
              have m0 : wr.cell? ⟨wt.heap.size, 0, none⟩ = some (.int .i64 (-20 - (t : Int))) := by rw [cell_of_row wr _ 0 _ _ _ hmb]; rfl
              have m1 : wr.cell? ⟨wt.heap.size, 1, none⟩ = some (.int .i64 (-20 - (t : Int))) := by rw [cell_of_row wr _ 1 _ _ _ hmb]; rfl
              have m2 : wr.cell? ⟨wt.heap.size, 2, none⟩ = some (.string ⟨#[109, 97, 114, 107]⟩) := by rw [cell_of_row wr _ 2 _ _ _ hmb]; rfl
              have hll := hti.2.2.1
              have hsz3 := hbl3.size
              go_wp2_with (at_builtin; refine wpList_append_two _ rfl _ _ 23 rfl b0 34 i0 (.agg #[.int .i64 0, .int .i64 0, .string ⟨#[]⟩]) 3 32 Try.underlying23 hi hz0 hz1 hz2 rfl (by decide) lv (ln t + s) _ rfl (hll.alloc _) ⟨wr.heap.size, 0, none⟩ 1 1 [.int .i64 (-20 - (t : Int)), .int .i64 (-20 - (t : Int)), .string ⟨#[109, 97, 114, 107]⟩] rfl rfl (World.news_of_block (heap_alloc_new wr _)) (by simp [Value.oneCell']) (by decide) (by unfold maxLen; omega) (by omega) (by simp; omega) ?_; intro g capn y1 hown' hold hlies hlt2)
              have hbn : Below b0 w y1 := hlies.below (hbl3.alloc (by omega) _) (by simp; omega) (fun b hb => (hll.lt b hb).1)
              have hmn := (hlies.block (k := wt.heap.size) (by simp; omega) (fun e => hnb _ e rfl)).trans ((Below.heap_alloc wr _ wt.heap.size (by omega)).trans hmb)
              have hvn := hlies.own (hv.alloc _) (fun b hb => own_ne hv hll (by decide) b hb)
              have hmvn := hlies.own (hm.alloc _) (fun b hb => own_ne hm hll (by decide) b hb)
              rw [← HMK2.out] at hown'
              have htn := TwoIn.append (hti.keep (fun _ _ _ h => h.alloc _)) hlt (by decide) hown' hold hlies
              have hnn : ∀ b, (Value.slice (some (⟨g, 0, none⟩ : Addr)) (ln t + s + 1) capn).ownBlock = some b → b ≠ wt.heap.size := fun b hb => by
                obtain rfl : g = b := Option.some.inj hb
                rcases hlies with ⟨he, _⟩ | ⟨he, _⟩
                · exact hnb g (by rw [he]; rfl)
                · rw [he]; simp; omega
              have hsy : wi.heap.size ≤ y1.heap.size := Nat.le_trans (by simp; omega) hlies.row.size
              have HN2 := Lib.hid (And.intro hmn (And.intro hvn (And.intro hmvn (And.intro htn hnn))))
              go_roundw
              case rel => exact ⟨s + 1, _, by omega, by go_num, rfl, hbn, hsy, Lib.hid HN2.out⟩
              case measure => simp [intOf]; omega
            · obtain rfl : s = 70 := by omega
              obtain ⟨hmb, hv, hm, hti, hnb⟩ := HR.out
              have hll := hti.2.2.1
              have hsz3 := hbl3.size
              obtain ⟨g, cl, rfl, hg1, hg2⟩ := hll.form (by omega)
              go_wp2_with (at_builtin; refine wpList_append_two _ rfl _ _ 50 rfl b0 23 i1 (.slice none 0 0) 1 24 Try.underlying50 hj hy0 hy1 hy2 rfl (by decide) mv t _ rfl (hm.alloc _) ⟨wr.heap.size, 0, none⟩ 1 1 [.slice (some ⟨g, 0, none⟩) (ln t + 70) cl] rfl rfl (World.news_of_block (heap_alloc_new wr _)) (by simp [Value.oneCell']) (by decide) (by unfold maxLen; omega) (by omega) (by simp; omega) ?_; intro g' capn y1 hown' hold hlies hlt2)
              have hbn : Below b0 w y1 := hlies.below (hbl3.alloc (by omega) _) (by simp; omega) (fun b hb => (hm.lt b hb).1)
              have hvn := hlies.own (hv.alloc _) (fun b hb e => HN.out b e hb)
              have htn := hti.stop.keep (w' := y1) (fun v m xs h => hlies.own (h.alloc _) (fun b hb e => own_ne hm h (by decide) b e hb))
              have hnn : ∀ b, (Value.slice (some (⟨g', 0, none⟩ : Addr)) (t + 1) capn).ownBlock = some b → (Value.slice (some (⟨gv, 0, none⟩ : Addr)) k cv).ownBlock ≠ some b := fun b hb => by
                obtain rfl : g' = b := Option.some.inj hb
                rcases hlies with ⟨he, _⟩ | ⟨he, _⟩
                · exact HN.out g' (by rw [he]; rfl)
                · intro e
                  have := (hv.lt g' e).2
                  rw [he] at this
                  simp at this
                  omega
              rw [← rows_snoc] at hown'
              have HN2 := Lib.hid (And.intro hvn (And.intro hown' (And.intro hnn htn)))
              go_roundw
              case rel => exact ⟨t + 1, _, _, by omega, by go_num, rfl, hbn, Lib.hid HN2.out⟩
              case measure => simp [intOf]; omega
        · obtain rfl : t = k := by omega
          have HQ2 := HQ
          clear HQ hlt
          go_wp2
          go_loopw [11] (fun i ws => ∃ (s : Nat), s ≤ t ∧ i = .int .i64 s ∧ Below wt.heap.size wt ws) (fun i _ => t - (intOf i).toNat)
          case atStart => exact ⟨0, Nat.zero_le _, rfl, Below.refl _ _⟩
          case round =>
            obtain ⟨s, hs, rfl, hbl4⟩ := hrel
            obtain ⟨ws, rfl⟩ : ∃ ws : World, ws = wr := ⟨_, rfl⟩
            by_cases hls : s < t
            · obtain ⟨gv, rfl, _, _, _, _⟩ := HRD.out (by omega)
              obtain ⟨hv, hm, hne, htwo⟩ := HQ2.out
              have hlk := HL.out s hls
              obtain ⟨gm, cm, rfl, hgm1, hgm2⟩ := hm.form (by omega)
              have hMs := htwo.2.1 s hls
              obtain ⟨gM, cM, hMe, hgM1, hgM2⟩ := hMs.form (by omega)
              have hLs := htwo.1 s hls
              obtain ⟨pL, cL, hLe, _, _, hLr⟩ := own_rd hLs
              have k1 : wt.cell? ⟨gm, s, none⟩ = some (M s) := by rw [hm.cellAt s (by omega)]; simp [hls]
              have k2 : wt.cell? ⟨gv, s, none⟩ = some (L s) := by rw [hv.cellAt s (by omega)]; simp [hls]
              have hgv2 := (hv.lt gv rfl).2
              rw [hMe] at k1 hMs
              rw [hLe] at k2
              have hMc : Hid (∀ j, j < ln s + 70 → wt.cell? ⟨gM, j * 3, none⟩ = some (.int .i64 (-20 - (s : Int))) ∧ wt.cell? ⟨gM, j * 3 + 1, none⟩ = some (.int .i64 (-20 - (s : Int))) ∧ wt.cell? ⟨gM, j * 3 + 2, none⟩ = some (.string ⟨#[109, 97, 114, 107]⟩)) := Lib.hid (fun j hj => by
                have e0 := hMs.cellAt (j * 3) (by omega)
                have q0 := marks_get (mk s) (ln s + 70) j 0 hj (by rw [HMK.out]; simp)
                rw [← marks_add] at e0
                rw [HMK.out] at q0 e0
                have e1 := hMs.cellAt (j * 3 + 1) (by omega)
                have q1 := marks_get (mk s) (ln s + 70) j 1 hj (by rw [HMK.out]; simp)
                rw [← marks_add] at e1
                rw [HMK.out] at q1 e1
                have e2 := hMs.cellAt (j * 3 + 2) (by omega)
                have q2 := marks_get (mk s) (ln s + 70) j 2 hj (by rw [HMK.out]; simp)
                rw [← marks_add] at e2
                rw [HMK.out] at q2 e2
                exact ⟨e0.trans q0, e1.trans q1, e2.trans q2⟩)
              have hLc : Hid (∀ j, j < ln s → ∃ gL, pL = some ⟨gL, 0, none⟩ ∧ gL < wt.heap.size ∧ wt.cell? ⟨gL, j * 3, none⟩ = some (.int .i64 (-20 - (s : Int))) ∧ wt.cell? ⟨gL, j * 3 + 1, none⟩ = some (.int .i64 (-20 - (s : Int))) ∧ wt.cell? ⟨gL, j * 3 + 2, none⟩ = some (.string ⟨#[109, 97, 114, 107]⟩)) := Lib.hid (fun j hj => by
                obtain ⟨gL, z0, _, h1, h2, _⟩ := hLr (by omega)
                have e0 := h2 (j * 3) (by omega)
                have q0 := marks_get (mk s) (ln s) j 0 hj (by rw [HMK.out]; simp)
                rw [HMK.out] at q0 e0
                have e1 := h2 (j * 3 + 1) (by omega)
                have q1 := marks_get (mk s) (ln s) j 1 hj (by rw [HMK.out]; simp)
                rw [HMK.out] at q1 e1
                have e2 := h2 (j * 3 + 2) (by omega)
                have q2 := marks_get (mk s) (ln s) j 2 hj (by rw [HMK.out]; simp)
                rw [HMK.out] at q2 e2
                exact ⟨gL, z0, h1, e0.trans q0, e1.trans q1, e2.trans q2⟩)
              have b1 := hbl4.size
              clear hv hm hne htwo hMs hLs hLr hMe hLe
              go_wp2
              obtain ⟨wi, hwi⟩ : ∃ wi, ws.alloc (.cells #[.int .i64 (-20 - (s : Int)), .int .i64 (-20 - (s : Int)), .string ⟨#[109, 97, 114, 107]⟩] 34) = wi := ⟨_, rfl⟩
              have hmb : wi.heap[ws.heap.size]? = some (.cells #[.int .i64 (-20 - (s : Int)), .int .i64 (-20 - (s : Int)), .string ⟨#[109, 97, 114, 107]⟩] 34 (0, 0)) := by rw [← hwi]; exact heap_alloc_new ws _
              have hbi : Below wt.heap.size wt wi := by rw [← hwi]; exact hbl4.alloc b1 _
              have hwz : wi.heap.size = ws.heap.size + 1 := by rw [← hwi]; simp
              rw [hwi]
              clear hwi
              go_loopw [13] (fun j wr => ∃ (r : Nat), r ≤ ln s + 70 ∧ j = .int .i64 r ∧ Below wi.heap.size wi wr) (fun j _ => ln s + 70 - (intOf j).toNat)
              case atStart => exact ⟨0, Nat.zero_le _, rfl, Below.refl _ _⟩
              case round =>
                obtain ⟨r, hr, rfl, hbl5⟩ := hrel
                have hbl6 := hbi.trans (hbl5.mono (by omega))
                have k1' := (hbl6.cell (p := ⟨gm, s, none⟩) hgm2).trans k1
                have k2' := (hbl6.cell (p := ⟨gv, s, none⟩) hgv2).trans k2
                by_cases hlr : r < ln s + 70
                · obtain ⟨c0, c1, c2⟩ := hMc.out r hlr
                  have c0' := (hbl6.cell (p := ⟨gM, r * 3, none⟩) hgM2).trans c0
                  have c1' := (hbl6.cell (p := ⟨gM, r * 3 + 1, none⟩) hgM2).trans c1
                  have c2' := (hbl6.cell (p := ⟨gM, r * 3 + 2, none⟩) hgM2).trans c2
                  have hmb' := (hbl5.block ws.heap.size (by omega)).trans hmb
                  have m0 : wr.cell? ⟨ws.heap.size, 0, none⟩ = some (.int .i64 (-20 - (s : Int))) := by rw [cell_of_row wr _ 0 _ _ _ hmb']; rfl
                  have m1 : wr.cell? ⟨ws.heap.size, 1, none⟩ = some (.int .i64 (-20 - (s : Int))) := by rw [cell_of_row wr _ 1 _ _ _ hmb']; rfl
                  have m2 : wr.cell? ⟨ws.heap.size, 2, none⟩ = some (.string ⟨#[109, 97, 114, 107]⟩) := by rw [cell_of_row wr _ 2 _ _ _ hmb']; rfl
                  clear hmb'
                  clear c0 c1 c2
                  by_cases hlq : r < ln s
                  · obtain ⟨gL, rfl, hgL, d0, d1, d2⟩ := hLc.out r hlq
                    have d0' := (hbl6.cell (p := ⟨gL, r * 3, none⟩) hgL).trans d0
                    have d1' := (hbl6.cell (p := ⟨gL, r * 3 + 1, none⟩) hgL).trans d1
                    have d2' := (hbl6.cell (p := ⟨gL, r * 3 + 2, none⟩) hgL).trans d2
                    have hd : decide ((r : Int) < (ln s : Int)) = true := by simp; omega
                    clear d0 d1 d2
                    go_wp2
                    go_quiet (fail)
                    go_wp2
                    go_roundw
                    case rel => exact ⟨r + 1, by omega, by go_num, below_drewN hbl5 _⟩
                    case measure => simp [intOf]; omega
                  · have hd : decide ((r : Int) < (ln s : Int)) = false := by simp; omega
                    go_wp2
                    go_quiet (fail)
                    go_wp2
                    go_roundw
                    case rel => exact ⟨r + 1, by omega, by go_num, below_drewN hbl5 _⟩
                    case measure => simp [intOf]; omega
                · obtain rfl : r = ln s + 70 := by omega
                  go_wp2
                  go_roundw
                  case rel => exact ⟨s + 1, by omega, by go_num, hbl6⟩
                  case measure => simp [intOf]; omega
            · obtain rfl : s = t := by omega
              go_wp2
              go_ret
              exact ⟨rfl, hbl2.trans (hbl4.mono (by have := hbl2.size; omega))⟩
end Go.Proofs.Ytahceakghgmpkaa
