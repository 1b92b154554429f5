/-
  WALK: the law BitsChunks, its third part: Join; and the law.
-/
import Derived.Test.YtldcfgifimdmmaaLawSp
namespace Go.Proofs.Ytldcfgifimdmmaa
open Go.RowKit XKit
set_option linter.unusedVariables false

/-- What Join answers. -/
noncomputable def joinR (a b : Int) (zs : List Int) : List UInt8 × Int := by
  classical
  exact if chunkedR a b = 0 then (if zs.length = b.toNat ∧ ∀ x : Fin b.toNat, goodV a.toNat b.toNat zs x then (joinB a.toNat b.toNat (zs.map Int.toNat), 0) else ([], 13)) else ([], chunkedR a b)
theorem joinR_no {a b : Int} {zs : List Int} (h : chunkedR a b ≠ 0) : joinR a b zs = ([], chunkedR a b) := by unfold joinR; rw [if_neg h]
theorem joinR_bad {a b : Int} {zs : List Int} (h : chunkedR a b = 0) (h2 : ¬ (zs.length = b.toNat ∧ ∀ x : Fin b.toNat, goodV a.toNat b.toNat zs x)) : joinR a b zs = ([], 13) := by unfold joinR; rw [if_pos h, if_neg h2]
theorem joinR_ok {a b : Int} {zs : List Int} (h : chunkedR a b = 0) (h2 : zs.length = b.toNat ∧ ∀ x : Fin b.toNat, goodV a.toNat b.toNat zs x) : joinR a b zs = (joinB a.toNat b.toNat (zs.map Int.toNat), 0) := by unfold joinR; rw [if_pos h, if_pos h2]
theorem Join_any (a b : Int) (p : Option Addr) (n cap : Nat) (zs : List Int) (hz : zs.length = n) (w : World) (hq : ∀ i, i < n → ∃ a, p = some a ∧ w.cell? (a.add i) = some (.int .i64 (zs.getD i 0))) :
    Calls Try.prog 19 #[.int .i64 a, .int .i64 b, .slice p n cap] w fun e w' => e = .returned (.tuple #[.string ⟨(joinR a b zs).1.toArray⟩, .int .i64 (joinR a b zs).2]) ∧ Below w.heap.size w w' := by
  by_cases h : chunkedR a b = 0
  · have h' := h
    obtain ⟨w0, m0, rfl, rfl, _⟩ := chunkedR_zero h
    by_cases hn : n = m0
    · subst hn
      by_cases hg : ∀ x : Fin n, goodV w0 n zs x
      · rw [joinR_ok h' ⟨by simpa using hz, by simpa using hg⟩]
        exact (Join_ok w0 n p cap zs h' hz w hq).mono fun e w' ⟨h1, _, h3⟩ => ⟨h1 hg, h3⟩
      · rw [joinR_bad h' (fun hh => hg (by simpa using hh.2))]
        exact (Join_ok w0 n p cap zs h' hz w hq).mono fun e w' ⟨_, h2, h3⟩ => ⟨h2 hg, h3⟩
    · rw [joinR_bad h' (fun hh => hn (by have := hh.1; rw [hz] at this; simpa using this))]
      exact (Join_len w0 m0 p n cap h' (by omega) w)
  · rw [joinR_no h]
    exact Join_no a b p n cap h w
theorem RefJoin_any (a b : Int) (p : Option Addr) (n cap : Nat) (zs : List Int) (hz : zs.length = n) (w : World) (hq : ∀ i, i < n → ∃ a, p = some a ∧ w.cell? (a.add i) = some (.int .i64 (zs.getD i 0))) :
    Calls Try.prog 30 #[.int .i64 a, .int .i64 b, .slice p n cap] w fun e w' => e = .returned (.tuple #[.string ⟨(joinR a b zs).1.toArray⟩, .int .i64 (joinR a b zs).2]) ∧ Below w.heap.size w w' := by
  by_cases h : chunkedR a b = 0
  · have h' := h
    obtain ⟨w0, m0, rfl, rfl, _⟩ := chunkedR_zero h
    by_cases hn : n = m0
    · subst hn
      by_cases hg : ∀ x : Fin n, goodV w0 n zs x
      · rw [joinR_ok h' ⟨by simpa using hz, by simpa using hg⟩]
        exact (RefJoin_ok w0 n p cap zs h' hz w hq).mono fun e w' ⟨h1, _, h3⟩ => ⟨h1 hg, h3⟩
      · rw [joinR_bad h' (fun hh => hg (by simpa using hh.2))]
        exact (RefJoin_ok w0 n p cap zs h' hz w hq).mono fun e w' ⟨_, h2, h3⟩ => ⟨h2 hg, h3⟩
    · rw [joinR_bad h' (fun hh => hn (by have := hh.1; rw [hz] at this; simpa using this))]
      exact (RefJoin_len w0 m0 p n cap h' hn w)
  · rw [joinR_no h]
    exact RefJoin_no a b _ h w
attribute [local irreducible] joinR

/-- The list that is handed in in round i. -/
def turn1 (zs : List Int) (i : Nat) : List Int := if i = 1 then zs.reverse else zs
theorem turn1_length (zs : List Int) (i : Nat) : (turn1 zs i).length = zs.length := by unfold turn1; split <;> simp
theorem turn1_get (zs : List Int) (i j : Nat) (h : j < zs.length) : (turn1 zs i).getD j 0 = if i = 1 then zs.getD (zs.length - 1 - j) 0 else zs.getD j 0 := by
  unfold turn1
  split
  · simp only [List.getD, List.getElem?_reverse h]
  · rfl
theorem own_cells {w : World} {base : Nat} {e : TypeId} {v : Option Addr} {n cap : Nat} {zs : List Int} (h : w.ownsRow base e 1 (.slice v n cap) n (zs.map (Value.int .i64))) : ∀ i, i < n → ∃ a, v = some a ∧ w.cell? (a.add i) = some (.int .i64 (zs.getD i 0)) := fun i hi => by
  have hl := h.1
  obtain ⟨p, c, he, _, _, hr⟩ := own_rd h
  cases he
  obtain ⟨g, rfl, _, _, hc, _⟩ := hr (by omega)
  exact ⟨_, rfl, by rw [add0, hc i (by omega), ints_get _ _ (by simpa using (by omega : i < (zs.map (Value.int .i64)).length))]⟩

set_option maxRecDepth 100000 in
set_option maxHeartbeats 2000000 in
theorem lawJoined_calls (a b : Int) (p : Option Addr) (n cap : Nat) (zs : List Int) (hz : zs.length = n) (hn : 8 * n ≤ 140737488351232) (w : World) (hq : ∀ i, i < n → ∃ a, p = some a ∧ w.cell? (a.add i) = some (.int .i64 (zs.getD i 0))) :
    Calls Try.prog 16 #[.int .i64 a, .int .i64 b, .slice p n cap] w fun e w' => e = .returned (.bool true) ∧ Below w.heap.size w w' := by
  obtain ⟨i0, hi, hz0, hz1, hz2⟩ := info_parts intinfo
  have hmk := fun W : World => run_make (P := Try.prog) W 39 3 i0 _ Try.underlying39 hi hz0 .i64 .i64 (n + 64) (n + 64) (by omega) (by omega) (by rw [hz2]; omega) (by omega)
  have HZ := Lib.hid hz
  have HQ := Lib.hid hq
  clear hz hq
  go_enter Try.func16, Try.ntmps16
  go_wp2
  obtain ⟨w1, hw1⟩ : ∃ w1, w.alloc (.cells (madeCells #[.int .i64 0] (n + 64)) 3) = w1 := ⟨_, rfl⟩
  have hf1 : w1.ownsRow w.heap.size 3 1 (.slice (some ⟨w.heap.size, 0, none⟩) (n + 64) (n + 64)) (n + 64) (madeCells #[.int .i64 0] (n + 64)).toList := by
    rw [← hw1]
    exact World.ownsRow_lit w _ (n + 64) (Nat.le_refl _) (by unfold maxLen; omega) (by simp [madeCells])
  have hb1 : Below w.heap.size w w1 := by rw [← hw1]; exact (Below.refl _ w).alloc (Nat.le_refl _) _
  have hs1 : w.heap.size < w1.heap.size := by rw [← hw1]; simp
  have HF1 := Lib.hid hf1
  rw [hw1]
  clear hw1 hf1 hmk
  go_loopw [9] (fun i ws => ∃ (k : Nat), k ≤ 3 ∧ i = .int .i64 k ∧ Below w.heap.size w ws ∧ w.heap.size < ws.heap.size ∧ Hid (∃ xs, ws.ownsRow w.heap.size 3 1 (.slice (some ⟨w.heap.size, 0, none⟩) (n + 64) (n + 64)) (n + 64) xs)) (fun i _ => 3 - (intOf i).toNat)
  case atStart => exact ⟨0, by omega, rfl, hb1, hs1, Lib.hid ⟨_, HF1.out⟩⟩
  case round =>
    obtain ⟨k, hk, rfl, hbl, hsz, HF⟩ := hrel
    obtain ⟨wo, rfl⟩ : ∃ wo : World, wo = wr := ⟨_, rfl⟩
    by_cases hlt : k < 3
    · have hd3 : decide ((k : Int) < 3) = true := by simp; omega
      have HTL : Hid ((turn1 zs k).length = n) := Lib.hid (by rw [turn1_length, HZ.out])
      go_wp2
      go_loopw [10, 11] (fun v j ws => ∃ (t : Nat) (lv : Value), t ≤ n ∧ j = .int .i64 t ∧ lv = v ∧ Below w.heap.size w ws ∧ w.heap.size < ws.heap.size ∧ Hid (∃ xs, ws.ownsRow w.heap.size 3 1 (.slice (some ⟨w.heap.size, 0, none⟩) (n + 64) (n + 64)) (n + 64) (((turn1 zs k).take t).map (Value.int .i64) ++ xs) ∧ ws.ownsRow (w.heap.size + 1) 3 1 v t (((turn1 zs k).take t).map (Value.int .i64)))) (fun _ j _ => n - (intOf j).toNat)
      case atStart => exact ⟨0, _, Nat.zero_le _, rfl, rfl, hbl, hsz, Lib.hid (by obtain ⟨xs, hx⟩ := HF.out; exact ⟨xs, hx, World.ownsRow_nil _ _ _ _⟩)⟩
      case round =>
        obtain ⟨t, lv, ht, rfl, rfl, hbl2, hsz2, HH⟩ := hrel
        by_cases hltt : t < n
        · obtain ⟨xs, hfull, hnow⟩ := HH.out
          have hgd := turn1_get zs k t (by rw [HZ.out]; exact hltt)
          rw [HZ.out] at hgd
          obtain ⟨x, hx⟩ : ∃ x, (turn1 zs k).getD t 0 = x := ⟨_, rfl⟩
          have HS : Hid ((turn1 zs k).take (t + 1) = (turn1 zs k).take t ++ [x]) := Lib.hid (by
            rw [List.take_succ_eq_append_getElem (by rw [HTL.out]; exact hltt), ← hx]
            simp [List.getD, HTL.out, hltt])
          have hml : (((turn1 zs k).take t).map (Value.int .i64)).length = t := by rw [List.length_map, List.length_take, HTL.out]; omega
          have hxl := hfull.1
          rw [List.length_append, hml] at hxl
          obtain ⟨u, hu⟩ : ∃ u, xs[0]? = some u := ⟨_, List.getElem?_eq_getElem (by omega)⟩
          have hxt : (((turn1 zs k).take t).map (Value.int .i64) ++ xs)[t]? = some u := by rw [List.getElem?_append_right (by omega), hml, Nat.sub_self, hu]
          have hnf : ∀ b, lv.ownBlock = some b → (Value.slice (some (⟨w.heap.size, 0, none⟩ : Addr)) (n + 64) (n + 64)).ownBlock ≠ some b := fun b hb e => by
            have := (hnow.lt b hb).1
            have : w.heap.size = b := Option.some.inj e
            omega
          rw [hx] at hgd
          have hx64 := hxl
          clear hx hu
          by_cases hk1 : k = 1
          · have hk1b : ((k : Int) == 1) = true := by rw [beq_iff_eq]; omega
            rw [if_pos hk1] at hgd
            obtain ⟨ad0, rfl, hc0⟩ := HQ.out t hltt
            obtain ⟨ad1, he, hc1⟩ := HQ.out (n - 1 - t) (by omega)
            cases he
            have hadb : ∀ (j : Nat) v, w.cell? (ad0.add j) = some v → (ad0.add j).block < w.heap.size := fun j v h => by
              rcases Nat.lt_or_ge (ad0.add j).block w.heap.size with h' | h'
              · exact h'
              · simp [World.cell?, Array.getElem?_eq_none h'] at h
            have c0 := (hbl2.cell (p := ad0.add t) (hadb _ _ hc0)).trans hc0
            have c1 := (hbl2.cell (p := ad0.add (n - 1 - t)) (hadb _ _ hc1)).trans hc1
            rw [← hgd] at c1
            obtain ⟨d, hd⟩ : ∃ d, n - 1 - t = d := ⟨_, rfl⟩
            have hdi : (n : Int) - 1 - (t : Int) = (d : Int) := by omega
            have hdn : d < n := by omega
            rw [hd] at c1
            clear hc0 hc1 hgd hadb hd hk1
            go_wp2_with (at_builtin; refine wpList_append_two _ rfl _ _ 39 rfl (w.heap.size + 1) 3 i0 (.int .i64 0) 1 8 Try.underlying39 hi hz0 hz1 hz2 rfl (by decide) lv t _ rfl (hnow.alloc _) ⟨wr.heap.size, 0, none⟩ 1 1 [.int .i64 x] rfl rfl (World.news_of_block (heap_alloc_new wr _)) (by simp [Value.oneCell']) (by decide) (by unfold maxLen; omega) (by omega) (by simp; omega) ?_; intro g capn y1 hown' hold hlies hlt2; have hfn := hlies.own (hfull.alloc _) (fun b hb e => hnf b e hb); have hfc := hfn.cellAt t (by omega); rw [hxt] at hfc; have hff := hfn.frozenAt t)
            have hfs := (hfn.stored t (.int .i64 x)).1
            have hbn : Below w.heap.size w (y1.setCell ⟨w.heap.size, t, none⟩ (.int .i64 x)) := Below.setCell (p := ⟨w.heap.size, t, none⟩) (hlies.below (hbl2.alloc (by omega) _) (by simp; omega) (fun b hb => by have := (hnow.lt b hb).1; omega)) (Nat.le_refl _) _
            have hss : ((((turn1 zs k).take t).map (Value.int .i64) ++ xs).set t (.int .i64 x)) = ((turn1 zs k).take (t + 1)).map (Value.int .i64) ++ xs.drop 1 := by
              have := setsAt_app [.int .i64 x] (((turn1 zs k).take t).map (Value.int .i64)) xs (by simp; omega)
              rw [hml] at this
              rw [HS.out, List.map_append]
              simpa [setsAt] using this
            rw [hss] at hfs
            have hns : (y1.setCell ⟨w.heap.size, t, none⟩ (.int .i64 x)).ownsRow (w.heap.size + 1) 3 1 (.slice (some ⟨g, 0, none⟩) (t + 1) capn) (t + 1) (((turn1 zs k).take (t + 1)).map (Value.int .i64)) := by
              rw [HS.out, List.map_append]
              refine own_setCell hown' (fun e => ?_) _
              have : g = w.heap.size := Option.some.inj e
              have := (hown'.lt g rfl).1
              omega
            have hzs : w.heap.size < (y1.setCell ⟨w.heap.size, t, none⟩ (.int .i64 x)).heap.size := by have := hlies.row.size; simp at this ⊢; omega
            have HN2 := Lib.hid (And.intro hfs hns)
            go_roundw
            case rel => exact ⟨t + 1, _, by omega, by go_num, rfl, hbn, hzs, Lib.hid ⟨_, HN2.out⟩⟩
            case measure => simp [intOf]; omega
          · have hk1b : ((k : Int) == 1) = false := by rw [beq_eq_false_iff_ne]; omega
            rw [if_neg hk1] at hgd
            obtain ⟨ad0, rfl, hc0⟩ := HQ.out t hltt
            have hadb : (ad0.add t).block < w.heap.size := by
              rcases Nat.lt_or_ge (ad0.add t).block w.heap.size with h' | h'
              · exact h'
              · simp [World.cell?, Array.getElem?_eq_none h'] at hc0
            have c0 := (hbl2.cell (p := ad0.add t) hadb).trans hc0
            rw [← hgd] at c0
            clear hc0 hgd hk1
            go_wp2_with (at_builtin; refine wpList_append_two _ rfl _ _ 39 rfl (w.heap.size + 1) 3 i0 (.int .i64 0) 1 8 Try.underlying39 hi hz0 hz1 hz2 rfl (by decide) lv t _ rfl (hnow.alloc _) ⟨wr.heap.size, 0, none⟩ 1 1 [.int .i64 x] rfl rfl (World.news_of_block (heap_alloc_new wr _)) (by simp [Value.oneCell']) (by decide) (by unfold maxLen; omega) (by omega) (by simp; omega) ?_; intro g capn y1 hown' hold hlies hlt2; have hfn := hlies.own (hfull.alloc _) (fun b hb e => hnf b e hb); have hfc := hfn.cellAt t (by omega); rw [hxt] at hfc; have hff := hfn.frozenAt t)
            have hfs := (hfn.stored t (.int .i64 x)).1
            have hbn : Below w.heap.size w (y1.setCell ⟨w.heap.size, t, none⟩ (.int .i64 x)) := Below.setCell (p := ⟨w.heap.size, t, none⟩) (hlies.below (hbl2.alloc (by omega) _) (by simp; omega) (fun b hb => by have := (hnow.lt b hb).1; omega)) (Nat.le_refl _) _
            have hss : ((((turn1 zs k).take t).map (Value.int .i64) ++ xs).set t (.int .i64 x)) = ((turn1 zs k).take (t + 1)).map (Value.int .i64) ++ xs.drop 1 := by
              have := setsAt_app [.int .i64 x] (((turn1 zs k).take t).map (Value.int .i64)) xs (by simp; omega)
              rw [hml] at this
              rw [HS.out, List.map_append]
              simpa [setsAt] using this
            rw [hss] at hfs
            have hns : (y1.setCell ⟨w.heap.size, t, none⟩ (.int .i64 x)).ownsRow (w.heap.size + 1) 3 1 (.slice (some ⟨g, 0, none⟩) (t + 1) capn) (t + 1) (((turn1 zs k).take (t + 1)).map (Value.int .i64)) := by
              rw [HS.out, List.map_append]
              refine own_setCell hown' (fun e => ?_) _
              have : g = w.heap.size := Option.some.inj e
              have := (hown'.lt g rfl).1
              omega
            have hzs : w.heap.size < (y1.setCell ⟨w.heap.size, t, none⟩ (.int .i64 x)).heap.size := by have := hlies.row.size; simp at this ⊢; omega
            have HN2 := Lib.hid (And.intro hfs hns)
            go_roundw
            case rel => exact ⟨t + 1, _, by omega, by go_num, rfl, hbn, hzs, Lib.hid ⟨_, HN2.out⟩⟩
            case measure => simp [intOf]; omega
        · obtain rfl : t = n := by omega
          clear hltt ht
          have hH2 : Hid (∃ xs, wr.ownsRow w.heap.size 3 1 (.slice (some ⟨w.heap.size, 0, none⟩) (t + 64) (t + 64)) (t + 64) ((turn1 zs k).map (Value.int .i64) ++ (marks [.int .i64 (-7)] 0 ++ xs)) ∧ wr.ownsRow (w.heap.size + 1) 3 1 lv t ((turn1 zs k).map (Value.int .i64))) := Lib.hid (by
            obtain ⟨xs, h1, h2⟩ := HH.out
            rw [List.take_of_length_le (by rw [HTL.out]; exact Nat.le_refl _)] at h1 h2
            exact ⟨xs, by rw [marks_zero, List.nil_append]; exact h1, h2⟩)
          clear HH
          obtain ⟨wp, rfl⟩ : ∃ wp : World, wp = wr := ⟨_, rfl⟩
          go_wp2
          go_loopw [13] (fun j ws => ∃ (s : Nat), s ≤ 64 ∧ j = .int .i64 ((t + s : Nat) : Int) ∧ Below w.heap.size w ws ∧ w.heap.size < ws.heap.size ∧ Hid (∃ xs, ws.ownsRow w.heap.size 3 1 (.slice (some ⟨w.heap.size, 0, none⟩) (t + 64) (t + 64)) (t + 64) ((turn1 zs k).map (Value.int .i64) ++ (marks [.int .i64 (-7)] s ++ xs)) ∧ ws.ownsRow (w.heap.size + 1) 3 1 lv t ((turn1 zs k).map (Value.int .i64)))) (fun j _ => t + 64 - (intOf j).toNat)
          case atStart => exact ⟨0, by omega, rfl, hbl2, hsz2, Lib.hid hH2.out⟩
          case round =>
            obtain ⟨s, hs, rfl, hbl3, hsz3, HH⟩ := hrel
            by_cases hls : s < 64
            · obtain ⟨xs, hfull, hnow⟩ := HH.out
              have hml : ((turn1 zs k).map (Value.int .i64)).length = t := by rw [List.length_map, HTL.out]
              have hmm : (marks [.int .i64 (-7)] s).length = s := by rw [marks_length]; simp
              have hxl := hfull.1
              rw [List.length_append, List.length_append, hml, hmm] at hxl
              obtain ⟨u, hu⟩ : ∃ u, wr.cell? ⟨w.heap.size, t + s, none⟩ = some u := ⟨_, (hfull.cellAt (t + s) (by omega)).trans (List.getElem?_eq_getElem (by rw [List.length_append, List.length_append, hml, hmm]; omega))⟩
              have hff := hfull.frozenAt (t + s)
              have hfs := (hfull.stored (t + s) (.int .i64 (-7))).1
              have hss : ((turn1 zs k).map (Value.int .i64) ++ (marks [.int .i64 (-7)] s ++ xs)).set (t + s) (.int .i64 (-7)) = (turn1 zs k).map (Value.int .i64) ++ (marks [.int .i64 (-7)] (s + 1) ++ xs.drop 1) := by
                have := setsAt_app [.int .i64 (-7)] ((turn1 zs k).map (Value.int .i64) ++ marks [.int .i64 (-7)] s) xs (by simp; omega)
                rw [List.length_append, hml, hmm] at this
                rw [marks_succ]
                simpa [setsAt] using this
              rw [hss] at hfs
              have hns : (wr.setCell ⟨w.heap.size, t + s, none⟩ (.int .i64 (-7))).ownsRow (w.heap.size + 1) 3 1 lv t ((turn1 zs k).map (Value.int .i64)) := own_setCell hnow (fun e => by have := (hnow.lt _ e).1; simp at this; omega) _
              have hbn : Below w.heap.size w (wr.setCell ⟨w.heap.size, t + s, none⟩ (.int .i64 (-7))) := hbl3.setCell (p := ⟨w.heap.size, t + s, none⟩) (Nat.le_refl _) _
              have HN2 := Lib.hid (And.intro hfs hns)
              have hii : ((t + s : Nat) : Int) < (t : Int) + 64 := by omega
              have hd6 : decide (((t + s : Nat) : Int) < (t : Int) + 64) = true := by simp; omega
              clear hfull hnow hfs hns hss hxl hml hmm
              go_wp2
              go_roundw
              case rel => exact ⟨s + 1, by omega, by go_num, hbn, by simpa using hsz3, Lib.hid ⟨_, HN2.out⟩⟩
              case measure => simp [intOf]; omega
            · obtain rfl : s = 64 := by omega
              obtain ⟨xs, hfull, hnow⟩ := HH.out
              have hml : ((turn1 zs k).map (Value.int .i64)).length = t := by rw [List.length_map, HTL.out]
              have hview : wr.ownsRow w.heap.size 3 1 (.slice (some ⟨w.heap.size, 0, none⟩) t (t + 64)) t ((turn1 zs k).map (Value.int .i64)) := by
                have := own_take hfull (k := t) (by omega)
                rw [show t * 1 = ((turn1 zs k).map (Value.int .i64)).length by omega, List.take_left] at this
                exact this
              have htail : ∀ j, j < 64 → wr.cell? ⟨w.heap.size, t + j, none⟩ = some (.int .i64 (-7)) := fun j hj => by
                rw [hfull.cellAt (t + j) (by omega), List.getElem?_append_right (by omega), hml, Nat.add_sub_cancel_left, List.getElem?_append_left (by rw [marks_length]; simpa using hj)]
                have := marks_get [.int .i64 (-7)] 64 j 0 hj (by simp)
                simpa using this
              obtain ⟨pl, cl, rfl, _, _, _⟩ := own_rd hnow
              have CJ := Join_any a b (some ⟨w.heap.size, 0, none⟩) t (t + 64) (turn1 zs k) HTL.out wr (own_cells hview)
              have CR := fun W (h : Below wr.heap.size wr W) => RefJoin_any a b pl t cl (turn1 zs k) HTL.out W (own_cells (own_belowAll hnow h))
              obtain ⟨js, hjs⟩ : ∃ s : ByteArray, (⟨(joinR a b (turn1 zs k)).1.toArray⟩ : ByteArray) = s := ⟨_, rfl⟩
              obtain ⟨je, hje⟩ : ∃ e, (joinR a b (turn1 zs k)).2 = e := ⟨_, rfl⟩
              rw [hjs, hje] at CJ
              simp only [hjs, hje] at CR
              have CS := fun W (h : Below wr.heap.size wr W) => sameInts_true (.slice (some ⟨w.heap.size, 0, none⟩) t (t + 64)) (.slice pl t cl) _ _ t ((turn1 zs k).map (Value.int .i64)) (by omega) (fun j hj => ⟨_, ints_get _ j (by rw [HTL.out]; exact hj)⟩) W (own_belowAll hview h) (own_belowAll hnow h)
              have HFX : Hid (∃ xs, wr.ownsRow w.heap.size 3 1 (.slice (some ⟨w.heap.size, 0, none⟩) (t + 64) (t + 64)) (t + 64) xs) := Lib.hid ⟨_, hfull⟩
              have HCJ := Lib.hid CJ
              have HCR := Lib.hid CR
              have HCS := Lib.hid CS
              have HTA := Lib.hid htail
              have hjj : (js.toList == js.toList) = true := by simp
              have hje2 : (je == je) = true := by simp
              clear CJ CR CS htail hfull hnow hview hjs hje hml HH
              go_wp2_with fail
              refine HCJ.out.mono ?_
              rintro e y1 ⟨rfl, hb1⟩
              go_wp2_with fail
              refine (HCR.out y1 hb1).mono ?_
              rintro e y2 ⟨rfl, hb2⟩
              have hb12 := hb1.trans (hb2.mono hb1.size)
              go_wp2_with fail
              refine (HCS.out y2 hb12).mono ?_
              rintro e y3 ⟨rfl, hb3⟩
              have hb123 := hb12.trans (hb3.mono hb12.size)
              clear hb1 hb2 hb12 hb3
              go_wp2
              go_loopw [19] (fun j ws => ∃ (s : Nat), s ≤ 64 ∧ j = .int .i64 ((t + s : Nat) : Int) ∧ Below wr.heap.size wr ws) (fun j _ => t + 64 - (intOf j).toNat)
              case atStart => exact ⟨0, by omega, rfl, hb123⟩
              case round =>
                obtain ⟨s, hs, rfl, hb4⟩ := hrel
                by_cases hls : s < 64
                · have c0 := (hb4.cell (p := ⟨w.heap.size, t + s, none⟩) hsz3).trans (HTA.out s hls)
                  have hii : ((t + s : Nat) : Int) < (t : Int) + 64 := by omega
                  have hd6 : decide (((t + s : Nat) : Int) < (t : Int) + 64) = true := by simp; omega
                  go_wp2
                  go_roundw
                  case rel => exact ⟨s + 1, by omega, by go_num, hb4⟩
                  case measure => simp [intOf]; omega
                · obtain rfl : s = 64 := by omega
                  go_wp2
                  go_roundw
                  case rel => exact ⟨k + 1, by omega, by go_num, hbl3.trans (hb4.mono (by omega)), Nat.lt_of_lt_of_le hsz3 hb4.size, Lib.hid (by
                    obtain ⟨xs, hx⟩ := HFX.out
                    exact ⟨_, own_belowAll hx hb4⟩)⟩
                  case measure => simp [intOf]; omega
    · obtain rfl : k = 3 := by omega
      go_wp2
      go_ret
      exact ⟨rfl, hbl⟩

set_option maxHeartbeats 1000000 in
theorem BitsChunks_walk (a0 : Int) (w0 : (Lit.int .i64 a0).wf = true) (a1 : Int) (w1 : (Lit.int .i64 a1).wf = true) (a2 : ByteArray) (s2 : a2.size ≤ 140737488351232) (a3 : Value) (z3 : List Int) (w : World) (hR : IsRow w a3 z3) :
    Calls Try.prog 6 #[.int .i64 a0, .int .i64 a1, .string a2, a3] w fun e w' => e = .returned (.bool true) ∧ Below w.heap.size w w' := by
  obtain ⟨hR1, hR2, hR3⟩ := hR
  obtain ⟨p, cap, rfl, hp⟩ : ∃ (p : Option Addr) (cap : Nat), a3 = .slice p z3.length cap ∧ ∀ i, i < z3.length → ∃ a, p = some a ∧ w.cell? (a.add i) = some (.int .i64 (z3.getD i 0)) := by
    rcases hR3 with ⟨rfl, rfl⟩ | ⟨a, cap, rfl, _, _, hc⟩
    · exact ⟨none, 0, rfl, fun i hi => absurd hi (Nat.not_lt_zero _)⟩
    · exact ⟨some a, cap, rfl, fun i hi => ⟨a, rfl, hc i hi⟩⟩
  have C1 := lawChunked_calls a0 a1 w
  have C2 := lawParted_calls a0 a1 a2
  have C3 := fun W (h : Below w.heap.size w W) => lawJoined_calls a0 a1 p z3.length cap z3 rfl hR1 W (fun i hi => by
    obtain ⟨a, ha, hc⟩ := hp i hi
    refine ⟨a, ha, (h.cell (p := a.add i) ?_).trans hc⟩
    rcases Nat.lt_or_ge (a.add i).block w.heap.size with h | h
    · exact h
    · simp [World.cell?, Array.getElem?_eq_none h] at hc)
  have H2 := Lib.hid C2
  have H3 := Lib.hid C3
  clear C2 C3 hp hR3 hR2
  go_enter Try.func6, Try.ntmps6
  go_wp2_with fail
  refine C1.mono ?_
  rintro e x1 ⟨rfl, h1⟩
  go_wp2_with fail
  refine (H2.out x1).mono ?_
  rintro e x2 ⟨rfl, h2⟩
  have h12 := h1.trans (h2.mono h1.size)
  go_wp2_with fail
  refine (H3.out x2 h12).mono ?_
  rintro e x3 ⟨rfl, h3⟩
  have h123 := h12.trans (h3.mono h12.size)
  go_wp2
  go_ret
  exact ⟨rfl, h123⟩
end Go.Proofs.Ytldcfgifimdmmaa
