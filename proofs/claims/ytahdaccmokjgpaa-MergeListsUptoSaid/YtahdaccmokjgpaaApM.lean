/-
  WALK: lists of entries that were answered share nothing.
-/
import Derived.Test.YtahdaccmokjgpaaWrt
import Derived.Outline
import Derived.RegionTactic
import Derived.ChangeAlike
import Derived.BigRegion
namespace Go.Proofs.Ytahdaccmokjgpaa
open Go.RowKit ArgK
set_option linter.unusedVariables false

theorem grown_ofBelow {w w' : World} {row : Option Nat} (h : Below w.heap.size w w') : w.grownBy w' row := ⟨h.os, h.tape, h.output, h.size, fun k hk _ => h.block k hk⟩

set_option maxRecDepth 100000 in
set_option maxHeartbeats 8000000 in
theorem apartM_calls (v : Value) (n : Nat) (L : Nat → Value) (ln : Nat → Nat) (b0 : Nat) (hn : n ≤ 100) (hl : ∀ i, i < n → ln i ≤ 1099511627776) (w : World) (hb0 : b0 ≤ w.heap.size)
    (h1 : w.ownsRow b0 25 1 v n ((List.range n).map L)) (h2 : ∀ i, i < n → ∃ xs, w.ownsRow b0 24 5 (L i) (ln i) xs) (h3 : ApartL n L) :
    Calls Try.prog 24 #[v] w fun e w' => e = .returned (.bool true) ∧ Below b0 w w' := by
  obtain ⟨pv, cv, rfl, _, _, hrd⟩ := own_rd h1
  obtain ⟨i0, hi, hz0, hz1, hz2⟩ := info_parts entinfo
  obtain ⟨i1, hj, hy0, hy1, hy2⟩ := info_parts entsinfoM
  have H1 := Lib.hid h1
  have H2 := Lib.hid h2
  have H3 := Lib.hid h3
  have HRD := Lib.hid hrd
  have HL := Lib.hid hl
  obtain ⟨mk, hmk⟩ : ∃ mk : Nat → List Value, ∀ i, mk i = [.int .i64 (-(20 + (i : Int))), .string ⟨#[109, 97, 114, 107]⟩, .int .i64 (-(20 + (i : Int))), .int .i64 (-(20 + (i : Int))), .bool false] := ⟨_, fun i => rfl⟩
  have HMK := Lib.hid hmk
  clear h1 h2 h3 hrd hl hmk
  go_enter Try.func24, Try.ntmps24
  go_wp2
  go_loopw [3] (fun i wr => ∃ k : Nat, k ≤ n ∧ i = .int .i64 k ∧ Below b0 w wr ∧ Hid (wr.ownsRow b0 25 1 (.slice pv n cv) n ((List.range n).map L) ∧ ∀ j, j < n → ∃ xs, wr.ownsRow b0 24 5 (L j) (ln j) xs ∧ (j < k → xs = marks (mk j) (ln j)))) (fun i _ => n - (intOf i).toNat)
  case atStart => exact ⟨0, Nat.zero_le _, rfl, Below.refl _ _, Lib.hid ⟨H1.out, fun j hj => by obtain ⟨xs, hx⟩ := H2.out j hj; exact ⟨xs, hx, fun h => absurd h (Nat.not_lt_zero _)⟩⟩⟩
  case round =>
    obtain ⟨k, hk, rfl, hbl, HH⟩ := hrel
    obtain ⟨wo, rfl⟩ : ∃ wo : World, wo = wr := ⟨_, rfl⟩
    by_cases hlt : k < n
    · obtain ⟨gv, rfl, hgv1, hgv2, _, _⟩ := HRD.out (by omega)
      obtain ⟨hv0, hrows⟩ := HH.out
      have hlk := HL.out k hlt
      obtain ⟨x0, hx0, _⟩ := hrows k hlt
      obtain ⟨pk, ck, hLk, hck, _, _⟩ := own_rd hx0
      have hcv : wo.cell? ⟨gv, k, none⟩ = some (L k) := by rw [hv0.cellAt k (by omega)]; simp [hlt]
      have hgvlt := (hv0.lt gv rfl).2
      have hneV : (L k).ownBlock ≠ some gv := own_ne hv0 hx0 (by decide) gv rfl
      obtain ⟨wi, hwi⟩ : ∃ wi, wo = wi := ⟨_, rfl⟩
      have hri : wi.ownsRow b0 24 5 (L k) (ln k) x0 := by rw [← hwi]; exact hx0
      have hcvi : wi.cell? ⟨gv, k, none⟩ = some (L k) := by rw [← hwi]; exact hcv
      have hbli : Below b0 w wi := by rw [← hwi]; exact hbl
      have HWI := Lib.hid hwi
      have HVI : Hid (wi.ownsRow b0 25 1 (.slice (some ⟨gv, 0, none⟩) n cv) n ((List.range n).map L) ∧ ∀ j, j < n → ∃ xs, wi.ownsRow b0 24 5 (L j) (ln j) xs ∧ (j < k → xs = marks (mk j) (ln j))) := Lib.hid ⟨by rw [← hwi]; exact hv0, fun j hj => by rw [← hwi]; exact hrows j hj⟩
      have hxl := hx0.1
      have HRI := Lib.hid hri
      rw [hLk] at hcvi hneV
      have HLK := Lib.hid hLk
      clear hrows hx0 hcv hwi hri hv0 hLk HH
      go_wp2
      rw [HWI.out]
      go_loopw [4] (fun j ws => ∃ t : Nat, t ≤ ln k ∧ j = .int .i64 t ∧ wi.grownBy ws (Value.slice pk (ln k) ck).ownBlock ∧ Hid (∃ xs, ws.ownsRow b0 24 5 (.slice pk (ln k) ck) (ln k) (marks (mk k) t ++ xs))) (fun j _ => ln k - (intOf j).toNat)
      case atStart => exact ⟨0, Nat.zero_le _, rfl, grown_refl _ _, Lib.hid ⟨x0, by rw [marks_zero, ← HLK.out]; exact HRI.out⟩⟩
      case round =>
        obtain ⟨t, ht, rfl, hgr, HR⟩ := hrel
        obtain ⟨xs, hr⟩ := HR.out
        have c1 := hgr.cell hcvi (fun e => hneV e.symm)
        by_cases hlt2 : t < ln k
        · obtain ⟨_, _, he, _, _, hcs⟩ := own_rd hr
          cases he
          obtain ⟨g, rfl, hg1, hg2, hcell, hfr⟩ := hcs (by omega)
          have hml : (marks (mk k) t).length = t * 5 := by rw [marks_length, HMK.out]; rfl
          have hxl2 := hr.1
          rw [List.length_append, hml] at hxl2
          have htl : (marks (mk k) t ++ xs).length = ln k * 5 := by rw [List.length_append, hml]; omega
          obtain ⟨u0, hu0⟩ : ∃ u, wr.cell? ⟨g, t * 5, none⟩ = some u := ⟨_, (hcell (t * 5) (by omega)).trans (List.getElem?_eq_getElem (by omega))⟩
          have hf0 := hfr (t * 5)
          obtain ⟨u1, hu1⟩ : ∃ u, wr.cell? ⟨g, t * 5 + 1, none⟩ = some u := ⟨_, (hcell (t * 5 + 1) (by omega)).trans (List.getElem?_eq_getElem (by omega))⟩
          have hf1 := hfr (t * 5 + 1)
          obtain ⟨u2, hu2⟩ : ∃ u, wr.cell? ⟨g, t * 5 + 2, none⟩ = some u := ⟨_, (hcell (t * 5 + 2) (by omega)).trans (List.getElem?_eq_getElem (by omega))⟩
          have hf2 := hfr (t * 5 + 2)
          obtain ⟨u3, hu3⟩ : ∃ u, wr.cell? ⟨g, t * 5 + 3, none⟩ = some u := ⟨_, (hcell (t * 5 + 3) (by omega)).trans (List.getElem?_eq_getElem (by omega))⟩
          have hf3 := hfr (t * 5 + 3)
          obtain ⟨u4, hu4⟩ : ∃ u, wr.cell? ⟨g, t * 5 + 4, none⟩ = some u := ⟨_, (hcell (t * 5 + 4) (by omega)).trans (List.getElem?_eq_getElem (by omega))⟩
          have hf4 := hfr (t * 5 + 4)
          clear hcell hfr
          have HR0 := Lib.hid hr
          have HGr := Lib.hid hgr
          have CM := mark_calls (20 + (k : Int)) (by omega) (by omega)
          unfold markE Ent.val at CM
          have HCM := Lib.hid CM
          have HC1 : Hid (∀ W, wi.grownBy W (Value.slice (some (⟨g, 0, none⟩ : Addr)) (ln k) ck).ownBlock → W.cell? ⟨gv, k, none⟩ = some (.slice (some ⟨g, 0, none⟩) (ln k) ck)) := Lib.hid (fun W hW => hW.cell hcvi (fun e => hneV e.symm))
          have hwk : IntKind.i64.wrap (20 + (k : Int)) = 20 + (k : Int) := by rw [IntKind.wrap_i64]; omega
          clear CM hf0 hf1 hf2 hf3 hf4 hu0 hu1 hu2 hu3 hu4
          go_wp2
          refine wp_region_held_drew (S := (fun W => W.cell? ⟨gv, k, none⟩ = some (.slice (some ⟨g, 0, none⟩) (ln k) ck))) (by kernel_rfl) ?_ (fun hHeld => ?_)
          · exact HC1.out _ (grown_drew HGr.out)
          refine wpAnyH_take (i := 0) (oi := { dst := some 26, op := Op.move (Operand.tmp 0), type := 43, pos := "law.go:71", after := #[], guard := none }) (v := ?_) rfl (by kernel_rfl) (by kernel_rfl) (by kernel_rfl) (fun _ _ _ h => h) (Or.inl ⟨by rfl, ?_⟩) (by assumption) ?_
          rotate_left 1
          · intro w hSw
            (try dsimp only at hSw)
            go_simp
            try with_reducible rfl
          (try simp only [Act.put, List.setIfInBounds_toArray, List.set_cons_zero, List.set_cons_succ])
          refine wpAnyH_take (i := 1) (oi := { dst := some 27, op := Op.move (Operand.tmp 3), type := 3, pos := "law.go:71", after := #[], guard := none }) (v := ?_) rfl (by kernel_rfl) (by kernel_rfl) (by kernel_rfl) (fun _ _ _ h => h) (Or.inl ⟨by rfl, ?_⟩) (by assumption) ?_
          rotate_left 1
          · intro w hSw
            (try dsimp only at hSw)
            go_simp
            try with_reducible rfl
          (try simp only [Act.put, List.setIfInBounds_toArray, List.set_cons_zero, List.set_cons_succ])
          refine wpAnyH_take (i := 2) (oi := { dst := some 28, op := Op.indexAddr 43 (Operand.tmp 26) (Operand.tmp 27), type := 0, pos := "law.go:71", after := #[{ on := 0, ground := Ground.data }, { on := 1, ground := Ground.data }], guard := none }) (v := ?_) rfl (by kernel_rfl) (by kernel_rfl) (by kernel_rfl) (fun _ _ _ h => h) (Or.inl ⟨by rfl, ?_⟩) (by assumption) ?_
          rotate_left 1
          · intro w hSw
            (try dsimp only at hSw)
            go_simp
            try with_reducible rfl
          (try simp only [Act.put, List.setIfInBounds_toArray, List.set_cons_zero, List.set_cons_succ])
          refine wpAnyH_take (i := 3) (oi := { dst := some 29, op := Op.load 25 (Operand.tmp 28), type := 25, pos := "law.go:71", after := #[{ on := 2, ground := Ground.data }], guard := none }) (v := ?_) rfl (by kernel_rfl) (by kernel_rfl) (by kernel_rfl) (fun _ _ _ h => h) (Or.inl ⟨by rfl, ?_⟩) (by assumption) ?_
          rotate_left 1
          · intro w hSw
            (try dsimp only at hSw)
            go_simp
            try with_reducible rfl
          (try simp only [Act.put, List.setIfInBounds_toArray, List.set_cons_zero, List.set_cons_succ])
          refine wpAnyH_take (i := 4) (oi := { dst := some 30, op := Op.move (Operand.tmp 4), type := 3, pos := "law.go:71", after := #[], guard := none }) (v := ?_) rfl (by kernel_rfl) (by kernel_rfl) (by kernel_rfl) (fun _ _ _ h => h) (Or.inl ⟨by rfl, ?_⟩) (by assumption) ?_
          rotate_left 1
          · intro w hSw
            (try dsimp only at hSw)
            go_simp
            try with_reducible rfl
          (try simp only [Act.put, List.setIfInBounds_toArray, List.set_cons_zero, List.set_cons_succ])
          refine wpAnyH_take (i := 5) (oi := { dst := some 31, op := Op.move (Operand.tmp 3), type := 3, pos := "law.go:71", after := #[], guard := none }) (v := ?_) rfl (by kernel_rfl) (by kernel_rfl) (by kernel_rfl) (fun _ _ _ h => h) (Or.inl ⟨by rfl, ?_⟩) (by assumption) ?_
          rotate_left 1
          · intro w hSw
            (try dsimp only at hSw)
            go_simp
            try with_reducible rfl
          (try simp only [Act.put, List.setIfInBounds_toArray, List.set_cons_zero, List.set_cons_succ])
          refine wpAnyH_take (i := 6) (oi := { dst := some 32, op := Op.binOp BinOp.add 3 (Operand.const (Value.int IntKind.i64 20)) (Operand.tmp 31) 3, type := 3, pos := "law.go:71", after := #[{ on := 5, ground := Ground.data }], guard := none }) (v := ?_) rfl (by kernel_rfl) (by kernel_rfl) (by kernel_rfl) (fun _ _ _ h => h) (Or.inl ⟨by rfl, ?_⟩) (by assumption) ?_
          rotate_left 1
          · intro w hSw
            (try dsimp only at hSw)
            go_simp
            try with_reducible rfl
          (try simp only [Act.put, List.setIfInBounds_toArray, List.set_cons_zero, List.set_cons_succ])
          refine wpAnyH_ready (rs := [7]) (by kernel_rfl) (by simp) ?_
          refine AllReadyH.cons (o := { dst := some 33, op := Op.call { callee := Callee.value (Operand.func 12), args := #[Operand.tmp 32], argTypes := #[3] }, type := 24, pos := "law.go:71", after := #[{ on := 6, ground := Ground.data }], guard := none }) rfl (fun K hK => ?_) ?_
          rotate_left 1
          · exact AllReadyH.nil
          go_simp
          refine (HCM.out _).mono ?_
          rintro e7 wS ⟨rfl, hb7⟩
          have HRS := Lib.hid (own_belowAll (HR0.out.drew) hb7)
          have HGS := Lib.hid (grown_trans (grown_drew HGr.out) (grown_ofBelow hb7))
          clear hb7
          refine hK.out _ _ ?_ (fun hHeld7 => ?_)
          · exact HC1.out _ HGS.out
          clear hK K
          (try simp only [Act.put, List.setIfInBounds_toArray, List.set_cons_zero, List.set_cons_succ])
          refine wpAnyH_take (i := 8) (oi := { dst := some 34, op := Op.indexAddr 25 (Operand.tmp 29) (Operand.tmp 30), type := 0, pos := "law.go:71", after := #[{ on := 3, ground := Ground.data }, { on := 4, ground := Ground.data }, { on := 0, ground := Ground.phase }, { on := 1, ground := Ground.phase }, { on := 2, ground := Ground.phase }, { on := 3, ground := Ground.phase }, { on := 4, ground := Ground.phase }, { on := 5, ground := Ground.phase }, { on := 6, ground := Ground.phase }, { on := 7, ground := Ground.phase }], guard := none }) (v := ?_) rfl (by kernel_rfl) (by kernel_rfl) (by kernel_rfl) (fun _ _ _ h => h) (Or.inl ⟨by rfl, ?_⟩) (by assumption) ?_
          rotate_left 1
          · intro w hSw
            (try dsimp only at hSw)
            go_simp
            try with_reducible rfl
          (try simp only [Act.put, List.setIfInBounds_toArray, List.set_cons_zero, List.set_cons_succ])
          refine wpAnyH_ready (rs := [9]) (by kernel_rfl) (by simp) ?_
          refine AllReadyH.cons (o := { dst := none, op := Op.store 24 (Operand.tmp 34) (Operand.tmp 33), type := 0, pos := "law.go:71", after := #[{ on := 8, ground := Ground.data }, { on := 7, ground := Ground.data }, { on := 7, ground := Ground.chain }, { on := 0, ground := Ground.phase }, { on := 1, ground := Ground.phase }, { on := 2, ground := Ground.phase }, { on := 3, ground := Ground.phase }, { on := 4, ground := Ground.phase }, { on := 5, ground := Ground.phase }, { on := 6, ground := Ground.phase }, { on := 7, ground := Ground.phase }], guard := none }) rfl (fun K hK => ?_) ?_
          rotate_left 1
          · exact AllReadyH.nil
          go_simp
          obtain ⟨_, _, he9, _, _, hcs9⟩ := own_rd HRS.out
          cases he9
          obtain ⟨_, hg9, _, _, hcell9, hfr9⟩ := hcs9 (by omega)
          cases hg9
          obtain ⟨w0, hw0⟩ : ∃ u, wS.cell? ⟨g, t * 5, none⟩ = some u := ⟨_, (hcell9 (t * 5) (by omega)).trans (List.getElem?_eq_getElem (by omega))⟩
          have hf0 := hfr9 (t * 5)
          obtain ⟨w1, hw1⟩ : ∃ u, wS.cell? ⟨g, t * 5 + 1, none⟩ = some u := ⟨_, (hcell9 (t * 5 + 1) (by omega)).trans (List.getElem?_eq_getElem (by omega))⟩
          have hf1 := hfr9 (t * 5 + 1)
          obtain ⟨w2, hw2⟩ : ∃ u, wS.cell? ⟨g, t * 5 + 2, none⟩ = some u := ⟨_, (hcell9 (t * 5 + 2) (by omega)).trans (List.getElem?_eq_getElem (by omega))⟩
          have hf2 := hfr9 (t * 5 + 2)
          obtain ⟨w3, hw3⟩ : ∃ u, wS.cell? ⟨g, t * 5 + 3, none⟩ = some u := ⟨_, (hcell9 (t * 5 + 3) (by omega)).trans (List.getElem?_eq_getElem (by omega))⟩
          have hf3 := hfr9 (t * 5 + 3)
          obtain ⟨w4, hw4⟩ : ∃ u, wS.cell? ⟨g, t * 5 + 4, none⟩ = some u := ⟨_, (hcell9 (t * 5 + 4) (by omega)).trans (List.getElem?_eq_getElem (by omega))⟩
          have hf4 := hfr9 (t * 5 + 4)
          clear hcell9 hfr9
          go_simp
          refine hK.out _ _ ?_ (fun hHeld9 => ?_)
          · exact HC1.out _ (grown_set (grown_set (grown_set (grown_set (grown_set HGS.out _ _) _ _) _ _) _ _) _ _)
          clear hK K
          (try simp only [Act.put, List.setIfInBounds_toArray, List.set_cons_zero, List.set_cons_succ])
          refine wpAnyH_done (by kernel_rfl) ?_ _
          have hr := HRS.out
          have hgr := HGS.out
          go_wp2
          obtain ⟨hs1, _⟩ := hr.stored (t * 5) (.int .i64 (-(20 + (k : Int))))
          obtain ⟨hs2, _⟩ := hs1.stored (t * 5 + 1) (.string ⟨#[109, 97, 114, 107]⟩)
          obtain ⟨hs3, _⟩ := hs2.stored (t * 5 + 2) (.int .i64 (-(20 + (k : Int))))
          obtain ⟨hs4, _⟩ := hs3.stored (t * 5 + 3) (.int .i64 (-(20 + (k : Int))))
          obtain ⟨hs5, _⟩ := hs4.stored (t * 5 + 4) (.bool false)
          have hse : ((((((marks (mk k) t ++ xs).set (t * 5) (.int .i64 (-(20 + (k : Int))))).set (t * 5 + 1) (.string ⟨#[109, 97, 114, 107]⟩)).set (t * 5 + 2) (.int .i64 (-(20 + (k : Int))))).set (t * 5 + 3) (.int .i64 (-(20 + (k : Int))))).set (t * 5 + 4) (.bool false)) = marks (mk k) (t + 1) ++ xs.drop 5 := by
            have := setsAt_app (mk k) (marks (mk k) t) xs (by rw [HMK.out]; show 5 ≤ _; omega)
            rw [hml, HMK.out] at this
            rw [marks_succ, HMK.out]
            exact this
          rw [hse] at hs5
          go_roundw
          case rel => exact ⟨t + 1, by omega, by go_num, (grown_set (grown_set (grown_set (grown_set (grown_set hgr _ _) _ _) _ _) _ _) _ _), Lib.hid ⟨_, hs5⟩⟩
          case measure => simp [intOf]; omega
        · obtain rfl : t = ln k := by omega
          have hxe : xs = [] := by
            have hml : (marks (mk k) (ln k)).length = ln k * 5 := by rw [marks_length, HMK.out]; rfl
            have hxl2 := hr.1
            rw [List.length_append, hml] at hxl2
            exact List.eq_nil_of_length_eq_zero (by omega)
          rw [hxe, List.append_nil] at hr
          go_wp2
          have hbn : Below b0 w wr := hbli.grown hgr (by have := hbli.size; omega) (fun g hg => (hr.lt g hg).1)
          go_roundw
          case rel => exact ⟨k + 1, by omega, by go_num, hbn, Lib.hid ⟨own_grown HVI.out.1 hgr (fun g hg => by cases hg; exact hneV), fun j hj => by
            by_cases hjk : j = k
            · subst hjk
              exact ⟨_, (by rw [HLK.out]; exact hr), fun _ => rfl⟩
            · obtain ⟨xs, hx, hm⟩ := HVI.out.2 j hj
              refine ⟨xs, own_grown (w := wi) hx hgr (fun g hg e => ?_), fun h => hm (by omega)⟩
              rw [← HLK.out] at e
              exact H3.out k j hlt hj (fun e => hjk e.symm) g e hg⟩⟩
          case measure => simp [intOf]; omega
    · obtain rfl : k = n := by omega
      obtain ⟨hv0, hrows⟩ := HH.out
      have hst : Two wo b0 24 5 k L (fun _ => undef) ln mk mk 70 0 := Two.start (fun j hj => by
        obtain ⟨xs, hx, hm⟩ := hrows j hj
        rw [hm hj] at hx
        exact hx) H3.out
      have hS0 : Hid (wo.ownsRow b0 25 1 (.slice pv k cv) k ((List.range k).map L) ∧ Two wo b0 24 5 k L (fun _ => undef) ln mk mk 70 0) := Lib.hid ⟨hv0, hst⟩
      clear hv0 hrows hst HH hlt hk
      go_wp2
      go_loopw [5, 6] (fun m i wr => ∃ (t : Nat) (M : Nat → Value) (mv : Value), t ≤ k ∧ i = .int .i64 t ∧ mv = m ∧ Below b0 w wr ∧ Hid (wr.ownsRow b0 25 1 (.slice pv k cv) k ((List.range k).map L) ∧ wr.ownsRow b0 25 1 m t ((List.range t).map M) ∧ (∀ b, m.ownBlock = some b → (Value.slice pv k cv).ownBlock ≠ some b) ∧ Two wr b0 24 5 k L M ln mk mk 70 t)) (fun _ i _ => k - (intOf i).toNat)
      case atStart => exact ⟨0, _, _, Nat.zero_le _, rfl, rfl, hbl, Lib.hid ⟨hS0.out.1, World.ownsRow_nil _ _ _ _, (fun b hb => by cases hb), hS0.out.2⟩⟩
      case round =>
        obtain ⟨t, M, mv, ht, rfl, rfl, hbl2, HQ⟩ := hrel
        obtain ⟨wt, rfl⟩ : ∃ wt : World, wt = wr := ⟨_, rfl⟩
        by_cases hlt : t < k
        · obtain ⟨gv, rfl, hgv1, hgv2, _, _⟩ := HRD.out (by omega)
          obtain ⟨hv, hm, hne, htwo⟩ := HQ.out
          have hlk := HL.out t hlt
          have hcv : wt.cell? ⟨gv, t, none⟩ = some (L t) := by rw [hv.cellAt t (by omega)]; simp [hlt]
          obtain ⟨pk, ck, hLk, hck, _, _⟩ := own_rd (htwo.1 t hlt)
          obtain ⟨wi, hwi⟩ : ∃ wi, wt = wi := ⟨_, rfl⟩
          have hcvi : wi.cell? ⟨gv, t, none⟩ = some (L t) := by rw [← hwi]; exact hcv
          have hbli : Below b0 w wi := by rw [← hwi]; exact hbl2
          have hvi : wi.ownsRow b0 25 1 (.slice (some ⟨gv, 0, none⟩) k cv) k ((List.range k).map L) := by rw [← hwi]; exact hv
          have hmi : wi.ownsRow b0 25 1 mv t ((List.range t).map M) := by rw [← hwi]; exact hm
          have hti : TwoIn wi b0 24 5 k L M ln mk mk 70 t (.slice pk (ln t) ck) 0 := by rw [← hwi, ← hLk]; exact htwo.go hlt
          have hn0 : ∀ b, (Value.slice pk (ln t) ck).ownBlock = some b → True := fun _ _ => trivial
          have hwis : wi.heap.size = wt.heap.size := by rw [← hwi]
          rw [hLk] at hcvi
          have hcva := hcvi
          rw [← hwi] at hcva
          have HWI := Lib.hid hwi
          have HN := Lib.hid hne
          have HT := Lib.hid (And.intro hvi (And.intro hmi (And.intro hti hn0)))
          clear hv hm hne htwo hcv hLk hwi hvi hmi hti hn0 HQ
          go_wp2
          rw [HWI.out]
          clear hcva
          go_loopw [7, 8] (fun l i ws => ∃ (s : Nat) (lv : Value), s ≤ 70 ∧ i = .int .i64 s ∧ lv = l ∧ Below b0 w ws ∧ wi.heap.size ≤ ws.heap.size ∧ Hid (True ∧ ws.ownsRow b0 25 1 (.slice (some ⟨gv, 0, none⟩) k cv) k ((List.range k).map L) ∧ ws.ownsRow b0 25 1 mv t ((List.range t).map M) ∧ TwoIn ws b0 24 5 k L M ln mk mk 70 t l s ∧ ∀ b, l.ownBlock = some b → True)) (fun _ i _ => 70 - (intOf i).toNat)
          case atStart => exact ⟨0, _, by omega, rfl, rfl, hbli, Nat.le_refl _, Lib.hid ⟨trivial, HT.out.1, HT.out.2.1, HT.out.2.2.1, HT.out.2.2.2⟩⟩
          case round =>
            obtain ⟨s, lv, hs, rfl, rfl, hbl3, hws, HR⟩ := hrel
            by_cases hls : s < 70
            · obtain ⟨hmb, hv, hm, hti, hnb⟩ := HR.out
              have hll := hti.2.2.1
              have CM := fun W => mark_calls (20 + (t : Int)) (by omega) (by omega) W
              unfold markE Ent.val at CM
              have HCM := Lib.hid CM
              have hwk : IntKind.i64.wrap (20 + (t : Int)) = 20 + (t : Int) := by rw [IntKind.wrap_i64]; omega
              have HR1 := Lib.hid (And.intro hv (And.intro hm hti))
              have HB3 := Lib.hid hbl3
              clear CM hv hm hti hmb hnb hbl3
              go_wp2_with fail
              refine (HCM.out _).mono ?_
              rintro e7 wj ⟨rfl, hbj⟩
              have hv := own_belowAll HR1.out.1 hbj
              have hm := own_belowAll HR1.out.2.1 hbj
              have hti := HR1.out.2.2.keep (fun _ _ _ h => own_belowAll h hbj)
              have hsz3 := HB3.out.size
              have hbl3 := HB3.out.trans (hbj.mono (by omega))
              have hws2 : wi.heap.size ≤ wj.heap.size := Nat.le_trans hws hbj.size
              have hll := hti.2.2.1
              have hsz4 := hbl3.size
              have HV4 := Lib.hid (And.intro hv (And.intro hm (And.intro hti hbl3)))
              have HLL := Lib.hid (hll.alloc (.cells #[.int .i64 (-(20 + (t : Int))), .string ⟨#[109, 97, 114, 107]⟩, .int .i64 (-(20 + (t : Int))), .int .i64 (-(20 + (t : Int))), .bool false] 24))
              clear hbj HR1 HB3 HCM hv hm hti hbl3 hll
              go_wp2_with (at_builtin; refine wpList_append_two _ rfl _ _ 25 rfl b0 24 i0 _ 5 48 Try.underlying25 hi hz0 hz1 hz2 rfl (by decide) lv (ln t + s) _ rfl HLL.out ⟨wj.heap.size, 0, none⟩ 1 1 [.int .i64 (-(20 + (t : Int))), .string ⟨#[109, 97, 114, 107]⟩, .int .i64 (-(20 + (t : Int))), .int .i64 (-(20 + (t : Int))), .bool false] rfl rfl (World.news_of_block (heap_alloc_new wj _)) (by simp [Value.oneCell']) (by decide) (by unfold maxLen; omega) (by omega) (by simp; omega) ?_; intro g capn y1 hown' hold hlies hlt2)
              obtain ⟨hv, hm, hti, hbl3⟩ := HV4.out
              have hll := hti.2.2.1
              have hbn : Below b0 w y1 := hlies.below (hbl3.alloc (by omega) _) (by simp; omega) (fun b hb => (hll.lt b hb).1)
              have hmn : True := trivial
              have hvn := hlies.own (hv.alloc _) (fun b hb => own_ne hv hll (by decide) b hb)
              have hmvn := hlies.own (hm.alloc _) (fun b hb => own_ne hm hll (by decide) b hb)
              rw [← HMK.out] at hown'
              have htn := TwoIn.append (hti.keep (fun _ _ _ h => h.alloc _)) hlt (by decide) hown' hold hlies
              have hnn : ∀ b, (Value.slice (some (⟨g, 0, none⟩ : Addr)) (ln t + s + 1) capn).ownBlock = some b → True := fun _ _ => trivial
              have hsy : wi.heap.size ≤ y1.heap.size := Nat.le_trans (by simp; omega) hlies.row.size
              have HN2 := Lib.hid (And.intro hmn (And.intro hvn (And.intro hmvn (And.intro htn hnn))))
              go_roundw
              case rel => exact ⟨s + 1, _, by omega, by go_num, rfl, hbn, hsy, Lib.hid HN2.out⟩
              case measure => simp [intOf]; omega
            · obtain rfl : s = 70 := by omega
              obtain ⟨hmb, hv, hm, hti, hnb⟩ := HR.out
              have hll := hti.2.2.1
              have hsz3 := hbl3.size
              obtain ⟨g, cl, rfl, hg1, hg2⟩ := hll.form (by omega)
              go_wp2_with (at_builtin; refine wpList_append_two _ rfl _ _ 43 rfl b0 25 i1 (.slice none 0 0) 1 24 Try.underlying43 hj hy0 hy1 hy2 rfl (by decide) mv t _ rfl (hm.alloc _) ⟨wr.heap.size, 0, none⟩ 1 1 [.slice (some ⟨g, 0, none⟩) (ln t + 70) cl] rfl rfl (World.news_of_block (heap_alloc_new wr _)) (by simp [Value.oneCell']) (by decide) (by unfold maxLen; omega) (by omega) (by simp; omega) ?_; intro g' capn y1 hown' hold hlies hlt2)
              have hbn : Below b0 w y1 := hlies.below (hbl3.alloc (by omega) _) (by simp; omega) (fun b hb => (hm.lt b hb).1)
              have hvn := hlies.own (hv.alloc _) (fun b hb e => HN.out b e hb)
              have htn := hti.stop.keep (w' := y1) (fun v m xs h => hlies.own (h.alloc _) (fun b hb e => own_ne hm h (by decide) b e hb))
              have hnn : ∀ b, (Value.slice (some (⟨g', 0, none⟩ : Addr)) (t + 1) capn).ownBlock = some b → (Value.slice (some (⟨gv, 0, none⟩ : Addr)) k cv).ownBlock ≠ some b := fun b hb => by
                obtain rfl : g' = b := Option.some.inj hb
                rcases hlies with ⟨he, _⟩ | ⟨he, _⟩
                · exact HN.out g' (by rw [he]; rfl)
                · intro e
                  have := (hv.lt g' e).2
                  rw [he] at this
                  simp at this
                  omega
              rw [← rows_snoc] at hown'
              have HN2 := Lib.hid (And.intro hvn (And.intro hown' (And.intro hnn htn)))
              go_roundw
              case rel => exact ⟨t + 1, _, _, by omega, by go_num, rfl, hbn, Lib.hid HN2.out⟩
              case measure => simp [intOf]; omega
        · obtain rfl : t = k := by omega
          have HQ2 := HQ
          clear HQ hlt
          go_wp2
          go_loopw [9] (fun i ws => ∃ (s : Nat), s ≤ t ∧ i = .int .i64 s ∧ Below wt.heap.size wt ws) (fun i _ => t - (intOf i).toNat)
          case atStart => exact ⟨0, Nat.zero_le _, rfl, Below.refl _ _⟩
          case round =>
            obtain ⟨s, hs, rfl, hbl4⟩ := hrel
            obtain ⟨ws, rfl⟩ : ∃ ws : World, ws = wr := ⟨_, rfl⟩
            by_cases hls : s < t
            · obtain ⟨gv, rfl, _, _, _, _⟩ := HRD.out (by omega)
              obtain ⟨hv, hm, hne, htwo⟩ := HQ2.out
              have hlk := HL.out s hls
              obtain ⟨gm, cm, rfl, hgm1, hgm2⟩ := hm.form (by omega)
              have hMs := htwo.2.1 s hls
              obtain ⟨gM, cM, hMe, hgM1, hgM2⟩ := hMs.form (by omega)
              have hLs := htwo.1 s hls
              obtain ⟨pL, cL, hLe, _, _, hLr⟩ := own_rd hLs
              have k1 : wt.cell? ⟨gm, s, none⟩ = some (M s) := by rw [hm.cellAt s (by omega)]; simp [hls]
              have k2 : wt.cell? ⟨gv, s, none⟩ = some (L s) := by rw [hv.cellAt s (by omega)]; simp [hls]
              have hgv2 := (hv.lt gv rfl).2
              rw [hMe] at k1 hMs
              rw [hLe] at k2
              have hMc : Hid (∀ j, j < ln s → wt.cell? ⟨gM, j * 5, none⟩ = some (.int .i64 (-(20 + (s : Int)))) ∧ wt.cell? ⟨gM, j * 5 + 1, none⟩ = some (.string ⟨#[109, 97, 114, 107]⟩) ∧ wt.cell? ⟨gM, j * 5 + 2, none⟩ = some (.int .i64 (-(20 + (s : Int)))) ∧ wt.cell? ⟨gM, j * 5 + 3, none⟩ = some (.int .i64 (-(20 + (s : Int)))) ∧ wt.cell? ⟨gM, j * 5 + 4, none⟩ = some (.bool false)) := Lib.hid (fun j hj => by
                have e0 := hMs.cellAt (j * 5) (by omega)
                have q0 := marks_get (mk s) (ln s) j 0 hj (by rw [HMK.out]; simp)
                rw [List.getElem?_append_left (by rw [marks_length, HMK.out]; show _ < ln s * 5; omega)] at e0
                rw [HMK.out] at q0 e0
                have e1 := hMs.cellAt (j * 5 + 1) (by omega)
                have q1 := marks_get (mk s) (ln s) j 1 hj (by rw [HMK.out]; simp)
                rw [List.getElem?_append_left (by rw [marks_length, HMK.out]; show _ < ln s * 5; omega)] at e1
                rw [HMK.out] at q1 e1
                have e2 := hMs.cellAt (j * 5 + 2) (by omega)
                have q2 := marks_get (mk s) (ln s) j 2 hj (by rw [HMK.out]; simp)
                rw [List.getElem?_append_left (by rw [marks_length, HMK.out]; show _ < ln s * 5; omega)] at e2
                rw [HMK.out] at q2 e2
                have e3 := hMs.cellAt (j * 5 + 3) (by omega)
                have q3 := marks_get (mk s) (ln s) j 3 hj (by rw [HMK.out]; simp)
                rw [List.getElem?_append_left (by rw [marks_length, HMK.out]; show _ < ln s * 5; omega)] at e3
                rw [HMK.out] at q3 e3
                have e4 := hMs.cellAt (j * 5 + 4) (by omega)
                have q4 := marks_get (mk s) (ln s) j 4 hj (by rw [HMK.out]; simp)
                rw [List.getElem?_append_left (by rw [marks_length, HMK.out]; show _ < ln s * 5; omega)] at e4
                rw [HMK.out] at q4 e4
                exact ⟨e0.trans q0, e1.trans q1, e2.trans q2, e3.trans q3, e4.trans q4⟩)
              have hMd : Hid (∀ j, j < 70 → wt.cell? ⟨gM, (ln s + j) * 5, none⟩ = some (.int .i64 (-(20 + (s : Int)))) ∧ wt.cell? ⟨gM, (ln s + j) * 5 + 1, none⟩ = some (.string ⟨#[109, 97, 114, 107]⟩) ∧ wt.cell? ⟨gM, (ln s + j) * 5 + 2, none⟩ = some (.int .i64 (-(20 + (s : Int)))) ∧ wt.cell? ⟨gM, (ln s + j) * 5 + 3, none⟩ = some (.int .i64 (-(20 + (s : Int)))) ∧ wt.cell? ⟨gM, (ln s + j) * 5 + 4, none⟩ = some (.bool false)) := Lib.hid (fun j hj => by
                have e0 := hMs.cellAt ((ln s + j) * 5) (by omega)
                have q0 := marks_get (mk s) 70 j 0 hj (by rw [HMK.out]; simp)
                rw [List.getElem?_append_right (by rw [marks_length, HMK.out]; show ln s * 5 ≤ _; omega), marks_length, show (mk s).length = 5 by rw [HMK.out]; rfl, show (ln s + j) * 5 - ln s * 5 = j * 5 by omega] at e0
                rw [HMK.out] at q0 e0
                have e1 := hMs.cellAt ((ln s + j) * 5 + 1) (by omega)
                have q1 := marks_get (mk s) 70 j 1 hj (by rw [HMK.out]; simp)
                rw [List.getElem?_append_right (by rw [marks_length, HMK.out]; show ln s * 5 ≤ _; omega), marks_length, show (mk s).length = 5 by rw [HMK.out]; rfl, show (ln s + j) * 5 + 1 - ln s * 5 = j * 5 + 1 by omega] at e1
                rw [HMK.out] at q1 e1
                have e2 := hMs.cellAt ((ln s + j) * 5 + 2) (by omega)
                have q2 := marks_get (mk s) 70 j 2 hj (by rw [HMK.out]; simp)
                rw [List.getElem?_append_right (by rw [marks_length, HMK.out]; show ln s * 5 ≤ _; omega), marks_length, show (mk s).length = 5 by rw [HMK.out]; rfl, show (ln s + j) * 5 + 2 - ln s * 5 = j * 5 + 2 by omega] at e2
                rw [HMK.out] at q2 e2
                have e3 := hMs.cellAt ((ln s + j) * 5 + 3) (by omega)
                have q3 := marks_get (mk s) 70 j 3 hj (by rw [HMK.out]; simp)
                rw [List.getElem?_append_right (by rw [marks_length, HMK.out]; show ln s * 5 ≤ _; omega), marks_length, show (mk s).length = 5 by rw [HMK.out]; rfl, show (ln s + j) * 5 + 3 - ln s * 5 = j * 5 + 3 by omega] at e3
                rw [HMK.out] at q3 e3
                have e4 := hMs.cellAt ((ln s + j) * 5 + 4) (by omega)
                have q4 := marks_get (mk s) 70 j 4 hj (by rw [HMK.out]; simp)
                rw [List.getElem?_append_right (by rw [marks_length, HMK.out]; show ln s * 5 ≤ _; omega), marks_length, show (mk s).length = 5 by rw [HMK.out]; rfl, show (ln s + j) * 5 + 4 - ln s * 5 = j * 5 + 4 by omega] at e4
                rw [HMK.out] at q4 e4
                exact ⟨e0.trans q0, e1.trans q1, e2.trans q2, e3.trans q3, e4.trans q4⟩)
              have hLc : Hid (∀ j, j < ln s → ∃ gL, pL = some ⟨gL, 0, none⟩ ∧ gL < wt.heap.size ∧ wt.cell? ⟨gL, j * 5, none⟩ = some (.int .i64 (-(20 + (s : Int)))) ∧ wt.cell? ⟨gL, j * 5 + 1, none⟩ = some (.string ⟨#[109, 97, 114, 107]⟩) ∧ wt.cell? ⟨gL, j * 5 + 2, none⟩ = some (.int .i64 (-(20 + (s : Int)))) ∧ wt.cell? ⟨gL, j * 5 + 3, none⟩ = some (.int .i64 (-(20 + (s : Int)))) ∧ wt.cell? ⟨gL, j * 5 + 4, none⟩ = some (.bool false)) := Lib.hid (fun j hj => by
                obtain ⟨gL, z0, _, h1, h2, _⟩ := hLr (by omega)
                have e0 := h2 (j * 5) (by omega)
                have q0 := marks_get (mk s) (ln s) j 0 hj (by rw [HMK.out]; simp)
                rw [HMK.out] at q0 e0
                have e1 := h2 (j * 5 + 1) (by omega)
                have q1 := marks_get (mk s) (ln s) j 1 hj (by rw [HMK.out]; simp)
                rw [HMK.out] at q1 e1
                have e2 := h2 (j * 5 + 2) (by omega)
                have q2 := marks_get (mk s) (ln s) j 2 hj (by rw [HMK.out]; simp)
                rw [HMK.out] at q2 e2
                have e3 := h2 (j * 5 + 3) (by omega)
                have q3 := marks_get (mk s) (ln s) j 3 hj (by rw [HMK.out]; simp)
                rw [HMK.out] at q3 e3
                have e4 := h2 (j * 5 + 4) (by omega)
                have q4 := marks_get (mk s) (ln s) j 4 hj (by rw [HMK.out]; simp)
                rw [HMK.out] at q4 e4
                exact ⟨gL, z0, h1, e0.trans q0, e1.trans q1, e2.trans q2, e3.trans q3, e4.trans q4⟩)
              have b1 := hbl4.size
              clear hv hm hne htwo hMs hLs hLr hMe hLe
              have k2w := (hbl4.cell (p := ⟨gv, s, none⟩) hgv2).trans k2
              go_wp2
              clear k2w
              obtain ⟨wi, hwi⟩ : ∃ wi, ws = wi := ⟨_, rfl⟩
              have hbi : Below wt.heap.size wt wi := by rw [← hwi]; exact hbl4
              have hwz : wi.heap.size = ws.heap.size := by rw [← hwi]
              rw [hwi]
              clear hwi
              go_loopw [10] (fun j wr => ∃ (r : Nat), r ≤ ln s + 70 ∧ j = .int .i64 r ∧ Below wi.heap.size wi wr) (fun j _ => ln s + 70 - (intOf j).toNat)
              case atStart => exact ⟨0, Nat.zero_le _, rfl, Below.refl _ _⟩
              case round =>
                obtain ⟨r, hr, rfl, hbl5⟩ := hrel
                have hbl6 := hbi.trans (hbl5.mono (by omega))
                have k1' := (hbl6.cell (p := ⟨gm, s, none⟩) hgm2).trans k1
                have k2' := (hbl6.cell (p := ⟨gv, s, none⟩) hgv2).trans k2
                by_cases hlr : r < ln s + 70
                · have CM := fun W => mark_calls (20 + (s : Int)) (by omega) (by omega) W
                  unfold markE Ent.val at CM
                  have HCM := Lib.hid CM
                  have hwk : IntKind.i64.wrap (20 + (s : Int)) = 20 + (s : Int) := by rw [IntKind.wrap_i64]; omega
                  have HB5 := Lib.hid hbl5
                  have HBi := Lib.hid hbi
                  have r0 : (0 : Int) ≤ (r : Int) := by omega
                  have r1 : (r : Int) < (ln s : Int) + 70 := by omega
                  clear CM
                  by_cases hlq : r < ln s
                  · obtain ⟨c0, c1, c2, c3, c4⟩ := hMc.out r hlq
                    obtain ⟨gL, rfl, hgL, d0, d1, d2, d3, d4⟩ := hLc.out r hlq
                    have HSK : Hid (∀ W, Below wi.heap.size wi W → W.cell? ⟨gm, s, none⟩ = some (.slice (some ⟨gM, 0, none⟩) (ln s + 70) cM) ∧ W.cell? ⟨gv, s, none⟩ = some (.slice (some ⟨gL, 0, none⟩) (ln s) cL) ∧ W.cell? ⟨gM, r * 5, none⟩ = some (.int .i64 (-(20 + (s : Int)))) ∧ W.cell? ⟨gM, r * 5 + 1, none⟩ = some (.string ⟨#[109, 97, 114, 107]⟩) ∧ W.cell? ⟨gM, r * 5 + 2, none⟩ = some (.int .i64 (-(20 + (s : Int)))) ∧ W.cell? ⟨gM, r * 5 + 3, none⟩ = some (.int .i64 (-(20 + (s : Int)))) ∧ W.cell? ⟨gM, r * 5 + 4, none⟩ = some (.bool false) ∧ W.cell? ⟨gL, r * 5, none⟩ = some (.int .i64 (-(20 + (s : Int)))) ∧ W.cell? ⟨gL, r * 5 + 1, none⟩ = some (.string ⟨#[109, 97, 114, 107]⟩) ∧ W.cell? ⟨gL, r * 5 + 2, none⟩ = some (.int .i64 (-(20 + (s : Int)))) ∧ W.cell? ⟨gL, r * 5 + 3, none⟩ = some (.int .i64 (-(20 + (s : Int)))) ∧ W.cell? ⟨gL, r * 5 + 4, none⟩ = some (.bool false)) := Lib.hid (fun W hW => by
                      have h6 := HBi.out.trans (hW.mono HBi.out.size)
                      exact ⟨(h6.cell (p := ⟨gm, s, none⟩) hgm2).trans k1, (h6.cell (p := ⟨gv, s, none⟩) hgv2).trans k2, (h6.cell (p := ⟨gM, r * 5, none⟩) hgM2).trans c0, (h6.cell (p := ⟨gM, r * 5 + 1, none⟩) hgM2).trans c1, (h6.cell (p := ⟨gM, r * 5 + 2, none⟩) hgM2).trans c2, (h6.cell (p := ⟨gM, r * 5 + 3, none⟩) hgM2).trans c3, (h6.cell (p := ⟨gM, r * 5 + 4, none⟩) hgM2).trans c4, (h6.cell (p := ⟨gL, r * 5, none⟩) hgL).trans d0, (h6.cell (p := ⟨gL, r * 5 + 1, none⟩) hgL).trans d1, (h6.cell (p := ⟨gL, r * 5 + 2, none⟩) hgL).trans d2, (h6.cell (p := ⟨gL, r * 5 + 3, none⟩) hgL).trans d3, (h6.cell (p := ⟨gL, r * 5 + 4, none⟩) hgL).trans d4⟩)
                    have hd : decide ((r : Int) < (ln s : Int)) = true := by simp; omega
                    have r2 : (r : Int) < (ln s : Int) := by omega
                    clear c0 c1 c2 c3 c4 d0 d1 d2 d3 d4 k1 k2 k2' hbl6 hbl5 hbi
                    go_wp2
                    clear k1'
                    refine wp_region_held_drew (S := (fun W => W.cell? ⟨gm, s, none⟩ = some (.slice (some ⟨gM, 0, none⟩) (ln s + 70) cM) ∧ W.cell? ⟨gv, s, none⟩ = some (.slice (some ⟨gL, 0, none⟩) (ln s) cL) ∧ W.cell? ⟨gM, r * 5, none⟩ = some (.int .i64 (-(20 + (s : Int)))) ∧ W.cell? ⟨gM, r * 5 + 1, none⟩ = some (.string ⟨#[109, 97, 114, 107]⟩) ∧ W.cell? ⟨gM, r * 5 + 2, none⟩ = some (.int .i64 (-(20 + (s : Int)))) ∧ W.cell? ⟨gM, r * 5 + 3, none⟩ = some (.int .i64 (-(20 + (s : Int)))) ∧ W.cell? ⟨gM, r * 5 + 4, none⟩ = some (.bool false) ∧ W.cell? ⟨gL, r * 5, none⟩ = some (.int .i64 (-(20 + (s : Int)))) ∧ W.cell? ⟨gL, r * 5 + 1, none⟩ = some (.string ⟨#[109, 97, 114, 107]⟩) ∧ W.cell? ⟨gL, r * 5 + 2, none⟩ = some (.int .i64 (-(20 + (s : Int)))) ∧ W.cell? ⟨gL, r * 5 + 3, none⟩ = some (.int .i64 (-(20 + (s : Int)))) ∧ W.cell? ⟨gL, r * 5 + 4, none⟩ = some (.bool false))) (by kernel_rfl) ?_ (fun hHeld => ?_)
                    · exact HSK.out _ HB5.out.drew
                    refine wpAnyH_take (i := 0) (oi := { dst := some 74, op := Op.move (Operand.tmp 5), type := 43, pos := "law.go:84", after := #[], guard := none }) (v := ?_) rfl (by kernel_rfl) (by kernel_rfl) (by kernel_rfl) (fun _ _ _ h => h) (Or.inl ⟨by rfl, ?_⟩) (by assumption) ?_
                    rotate_left 1
                    · intro w hSw
                      (try dsimp only at hSw)
                      go_simp
                      try with_reducible rfl
                    (try simp only [Act.put, List.setIfInBounds_toArray, List.set_cons_zero, List.set_cons_succ])
                    refine wpAnyH_take (i := 1) (oi := { dst := some 75, op := Op.move (Operand.tmp 9), type := 3, pos := "law.go:84", after := #[], guard := none }) (v := ?_) rfl (by kernel_rfl) (by kernel_rfl) (by kernel_rfl) (fun _ _ _ h => h) (Or.inl ⟨by rfl, ?_⟩) (by assumption) ?_
                    rotate_left 1
                    · intro w hSw
                      (try dsimp only at hSw)
                      go_simp
                      try with_reducible rfl
                    (try simp only [Act.put, List.setIfInBounds_toArray, List.set_cons_zero, List.set_cons_succ])
                    refine wpAnyH_take (i := 2) (oi := { dst := some 76, op := Op.indexAddr 43 (Operand.tmp 74) (Operand.tmp 75), type := 0, pos := "law.go:84", after := #[{ on := 0, ground := Ground.data }, { on := 1, ground := Ground.data }], guard := none }) (v := ?_) rfl (by kernel_rfl) (by kernel_rfl) (by kernel_rfl) (fun _ _ _ h => h) (Or.inl ⟨by rfl, ?_⟩) (by assumption) ?_
                    rotate_left 1
                    · intro w hSw
                      (try dsimp only at hSw)
                      go_simp
                      try with_reducible rfl
                    (try simp only [Act.put, List.setIfInBounds_toArray, List.set_cons_zero, List.set_cons_succ])
                    refine wpAnyH_take (i := 3) (oi := { dst := some 77, op := Op.load 25 (Operand.tmp 76), type := 25, pos := "law.go:84", after := #[{ on := 2, ground := Ground.data }], guard := none }) (v := ?_) rfl (by kernel_rfl) (by kernel_rfl) (by kernel_rfl) (fun _ _ _ h => h) (Or.inl ⟨by rfl, ?_⟩) (by assumption) ?_
                    rotate_left 1
                    · intro w hSw
                      (try dsimp only at hSw)
                      go_simp
                      try with_reducible rfl
                    (try simp only [Act.put, List.setIfInBounds_toArray, List.set_cons_zero, List.set_cons_succ])
                    refine wpAnyH_take (i := 4) (oi := { dst := some 78, op := Op.move (Operand.tmp 10), type := 3, pos := "law.go:84", after := #[], guard := none }) (v := ?_) rfl (by kernel_rfl) (by kernel_rfl) (by kernel_rfl) (fun _ _ _ h => h) (Or.inl ⟨by rfl, ?_⟩) (by assumption) ?_
                    rotate_left 1
                    · intro w hSw
                      (try dsimp only at hSw)
                      go_simp
                      try with_reducible rfl
                    (try simp only [Act.put, List.setIfInBounds_toArray, List.set_cons_zero, List.set_cons_succ])
                    refine wpAnyH_take (i := 5) (oi := { dst := some 79, op := Op.indexAddr 25 (Operand.tmp 77) (Operand.tmp 78), type := 0, pos := "law.go:84", after := #[{ on := 3, ground := Ground.data }, { on := 4, ground := Ground.data }], guard := none }) (v := ?_) rfl (by kernel_rfl) (by kernel_rfl) (by kernel_rfl) (fun _ _ _ h => h) (Or.inl ⟨by rfl, ?_⟩) (by assumption) ?_
                    rotate_left 1
                    · intro w hSw
                      (try dsimp only at hSw)
                      go_simp
                      try with_reducible rfl
                    (try simp only [Act.put, List.setIfInBounds_toArray, List.set_cons_zero, List.set_cons_succ])
                    refine wpAnyH_take (i := 6) (oi := { dst := some 80, op := Op.load 24 (Operand.tmp 79), type := 24, pos := "law.go:84", after := #[{ on := 5, ground := Ground.data }], guard := none }) (v := ?_) rfl (by kernel_rfl) (by kernel_rfl) (by kernel_rfl) (fun _ _ _ h => h) (Or.inl ⟨by rfl, ?_⟩) (by assumption) ?_
                    rotate_left 1
                    · intro w hSw
                      (try dsimp only at hSw)
                      go_simp
                      try with_reducible rfl
                    (try simp only [Act.put, List.setIfInBounds_toArray, List.set_cons_zero, List.set_cons_succ])
                    refine wpAnyH_take (i := 7) (oi := { dst := some 81, op := Op.move (Operand.tmp 9), type := 3, pos := "law.go:84", after := #[], guard := none }) (v := ?_) rfl (by kernel_rfl) (by kernel_rfl) (by kernel_rfl) (fun _ _ _ h => h) (Or.inl ⟨by rfl, ?_⟩) (by assumption) ?_
                    rotate_left 1
                    · intro w hSw
                      (try dsimp only at hSw)
                      go_simp
                      try with_reducible rfl
                    (try simp only [Act.put, List.setIfInBounds_toArray, List.set_cons_zero, List.set_cons_succ])
                    refine wpAnyH_take (i := 8) (oi := { dst := some 82, op := Op.binOp BinOp.add 3 (Operand.const (Value.int IntKind.i64 20)) (Operand.tmp 81) 3, type := 3, pos := "law.go:84", after := #[{ on := 7, ground := Ground.data }], guard := none }) (v := ?_) rfl (by kernel_rfl) (by kernel_rfl) (by kernel_rfl) (fun _ _ _ h => h) (Or.inl ⟨by rfl, ?_⟩) (by assumption) ?_
                    rotate_left 1
                    · intro w hSw
                      (try dsimp only at hSw)
                      go_simp
                      try with_reducible rfl
                    (try simp only [Act.put, List.setIfInBounds_toArray, List.set_cons_zero, List.set_cons_succ])
                    refine wpAnyH_ready (rs := [9]) (by kernel_rfl) (by simp) ?_
                    refine AllReadyH.cons (o := { dst := some 83, op := Op.call { callee := Callee.value (Operand.func 12), args := #[Operand.tmp 82], argTypes := #[3] }, type := 24, pos := "law.go:84", after := #[{ on := 8, ground := Ground.data }], guard := none }) rfl (fun K hK => ?_) ?_
                    rotate_left 1
                    · exact AllReadyH.nil
                    go_simp
                    refine (HCM.out _).mono ?_
                    rintro e9 w9 ⟨rfl, hb9⟩
                    have HB9 := Lib.hid (HB5.out.trans ((below_of_drew hb9).mono HB5.out.size))
                    clear hb9
                    refine hK.out _ _ ?_ (fun hHeld9 => ?_)
                    · exact HSK.out _ HB9.out
                    clear hK K
                    (try simp only [Act.put, List.setIfInBounds_toArray, List.set_cons_zero, List.set_cons_succ])
                    refine wpAnyH_take (i := 10) (oi := { dst := some 84, op := Op.binOp BinOp.neq 24 (Operand.tmp 80) (Operand.tmp 83) 24, type := 4, pos := "law.go:84", after := #[{ on := 6, ground := Ground.data }, { on := 9, ground := Ground.data }], guard := none }) (v := ?_) rfl (by kernel_rfl) (by kernel_rfl) (by kernel_rfl) (fun _ _ _ h => h) (Or.inl ⟨by rfl, ?_⟩) (by assumption) ?_
                    rotate_left 1
                    · intro w hSw
                      (try dsimp only at hSw)
                      go_simp
                      try with_reducible rfl
                    (try simp only [Act.put, List.setIfInBounds_toArray, List.set_cons_zero, List.set_cons_succ])
                    refine wpAnyH_take (i := 11) (oi := { dst := some 85, op := Op.move (Operand.tmp 84), type := 4, pos := "law.go:84", after := #[{ on := 10, ground := Ground.data }, { on := 9, ground := Ground.chain }], guard := none }) (v := ?_) rfl (by kernel_rfl) (by kernel_rfl) (by kernel_rfl) (fun _ _ _ h => h) (Or.inl ⟨by rfl, ?_⟩) (by assumption) ?_
                    rotate_left 1
                    · intro w hSw
                      (try dsimp only at hSw)
                      go_simp
                      try with_reducible rfl
                    (try simp only [Act.put, List.setIfInBounds_toArray, List.set_cons_zero, List.set_cons_succ])
                    refine wpAnyH_take (i := 12) (oi := { dst := some 86, op := Op.move (Operand.tmp 10), type := 3, pos := "law.go:84", after := #[{ on := 11, ground := Ground.guard }], guard := some (11, false) }) (v := ?_) rfl (by kernel_rfl) (by kernel_rfl) (by kernel_rfl) (fun _ _ _ h => h) (Or.inl ⟨by rfl, ?_⟩) (by assumption) ?_
                    rotate_left 1
                    · intro w hSw
                      (try dsimp only at hSw)
                      go_simp
                      try with_reducible rfl
                    (try simp only [Act.put, List.setIfInBounds_toArray, List.set_cons_zero, List.set_cons_succ])
                    refine wpAnyH_take (i := 13) (oi := { dst := some 87, op := Op.move (Operand.tmp 0), type := 43, pos := "law.go:84", after := #[{ on := 11, ground := Ground.guard }], guard := some (11, false) }) (v := ?_) rfl (by kernel_rfl) (by kernel_rfl) (by kernel_rfl) (fun _ _ _ h => h) (Or.inl ⟨by rfl, ?_⟩) (by assumption) ?_
                    rotate_left 1
                    · intro w hSw
                      (try dsimp only at hSw)
                      go_simp
                      try with_reducible rfl
                    (try simp only [Act.put, List.setIfInBounds_toArray, List.set_cons_zero, List.set_cons_succ])
                    refine wpAnyH_take (i := 14) (oi := { dst := some 88, op := Op.move (Operand.tmp 9), type := 3, pos := "law.go:84", after := #[{ on := 11, ground := Ground.guard }], guard := some (11, false) }) (v := ?_) rfl (by kernel_rfl) (by kernel_rfl) (by kernel_rfl) (fun _ _ _ h => h) (Or.inl ⟨by rfl, ?_⟩) (by assumption) ?_
                    rotate_left 1
                    · intro w hSw
                      (try dsimp only at hSw)
                      go_simp
                      try with_reducible rfl
                    (try simp only [Act.put, List.setIfInBounds_toArray, List.set_cons_zero, List.set_cons_succ])
                    refine wpAnyH_take (i := 15) (oi := { dst := some 89, op := Op.indexAddr 43 (Operand.tmp 87) (Operand.tmp 88), type := 0, pos := "law.go:84", after := #[{ on := 13, ground := Ground.data }, { on := 14, ground := Ground.data }, { on := 11, ground := Ground.guard }], guard := some (11, false) }) (v := ?_) rfl (by kernel_rfl) (by kernel_rfl) (by kernel_rfl) (fun _ _ _ h => h) (Or.inl ⟨by rfl, ?_⟩) (by assumption) ?_
                    rotate_left 1
                    · intro w hSw
                      (try dsimp only at hSw)
                      go_simp
                      try with_reducible rfl
                    (try simp only [Act.put, List.setIfInBounds_toArray, List.set_cons_zero, List.set_cons_succ])
                    refine wpAnyH_take (i := 16) (oi := { dst := some 90, op := Op.load 25 (Operand.tmp 89), type := 25, pos := "law.go:84", after := #[{ on := 15, ground := Ground.data }, { on := 11, ground := Ground.guard }], guard := some (11, false) }) (v := ?_) rfl (by kernel_rfl) (by kernel_rfl) (by kernel_rfl) (fun _ _ _ h => h) (Or.inl ⟨by rfl, ?_⟩) (by assumption) ?_
                    rotate_left 1
                    · intro w hSw
                      (try dsimp only at hSw)
                      go_simp
                      try with_reducible rfl
                    (try simp only [Act.put, List.setIfInBounds_toArray, List.set_cons_zero, List.set_cons_succ])
                    refine wpAnyH_take (i := 17) (oi := { dst := some 91, op := Op.call { callee := Callee.builtin Builtin.len, args := #[Operand.tmp 90], argTypes := #[25] }, type := 3, pos := "law.go:84", after := #[{ on := 16, ground := Ground.data }, { on := 11, ground := Ground.guard }], guard := some (11, false) }) (v := ?_) rfl (by kernel_rfl) (by kernel_rfl) (by kernel_rfl) (fun _ _ _ h => h) (Or.inl ⟨by rfl, ?_⟩) (by assumption) ?_
                    rotate_left 1
                    · intro w hSw
                      (try dsimp only at hSw)
                      go_simp
                      try with_reducible rfl
                    (try simp only [Act.put, List.setIfInBounds_toArray, List.set_cons_zero, List.set_cons_succ])
                    refine wpAnyH_take (i := 18) (oi := { dst := some 92, op := Op.binOp BinOp.lss 3 (Operand.tmp 86) (Operand.tmp 91) 3, type := 4, pos := "law.go:84", after := #[{ on := 12, ground := Ground.data }, { on := 17, ground := Ground.data }, { on := 11, ground := Ground.guard }], guard := some (11, false) }) (v := ?_) rfl (by kernel_rfl) (by kernel_rfl) (by kernel_rfl) (fun _ _ _ h => h) (Or.inl ⟨by rfl, ?_⟩) (by assumption) ?_
                    rotate_left 1
                    · intro w hSw
                      (try dsimp only at hSw)
                      go_simp
                      try with_reducible rfl
                    (try simp only [Act.put, List.setIfInBounds_toArray, List.set_cons_zero, List.set_cons_succ])
                    refine wpAnyH_take (i := 19) (oi := { dst := some 93, op := Op.move (Operand.tmp 92), type := 4, pos := "law.go:84", after := #[{ on := 18, ground := Ground.data }, { on := 11, ground := Ground.chain }, { on := 11, ground := Ground.guard }], guard := some (11, false) }) (v := ?_) rfl (by kernel_rfl) (by kernel_rfl) (by kernel_rfl) (fun _ _ _ h => h) (Or.inl ⟨by rfl, ?_⟩) (by assumption) ?_
                    rotate_left 1
                    · intro w hSw
                      (try dsimp only at hSw)
                      go_simp
                      try with_reducible rfl
                    (try simp only [Act.put, List.setIfInBounds_toArray, List.set_cons_zero, List.set_cons_succ])
                    refine wpAnyH_take (i := 20) (oi := { dst := some 94, op := Op.move (Operand.tmp 0), type := 43, pos := "law.go:84", after := #[{ on := 19, ground := Ground.guard }], guard := some (19, true) }) (v := ?_) rfl (by kernel_rfl) (by kernel_rfl) (by kernel_rfl) (fun _ _ _ h => h) (Or.inl ⟨by rfl, ?_⟩) (by assumption) ?_
                    rotate_left 1
                    · intro w hSw
                      (try dsimp only at hSw)
                      go_simp
                      try with_reducible rfl
                    (try simp only [Act.put, List.setIfInBounds_toArray, List.set_cons_zero, List.set_cons_succ])
                    refine wpAnyH_take (i := 21) (oi := { dst := some 95, op := Op.move (Operand.tmp 9), type := 3, pos := "law.go:84", after := #[{ on := 19, ground := Ground.guard }], guard := some (19, true) }) (v := ?_) rfl (by kernel_rfl) (by kernel_rfl) (by kernel_rfl) (fun _ _ _ h => h) (Or.inl ⟨by rfl, ?_⟩) (by assumption) ?_
                    rotate_left 1
                    · intro w hSw
                      (try dsimp only at hSw)
                      go_simp
                      try with_reducible rfl
                    (try simp only [Act.put, List.setIfInBounds_toArray, List.set_cons_zero, List.set_cons_succ])
                    refine wpAnyH_take (i := 22) (oi := { dst := some 96, op := Op.indexAddr 43 (Operand.tmp 94) (Operand.tmp 95), type := 0, pos := "law.go:84", after := #[{ on := 20, ground := Ground.data }, { on := 21, ground := Ground.data }, { on := 19, ground := Ground.guard }], guard := some (19, true) }) (v := ?_) rfl (by kernel_rfl) (by kernel_rfl) (by kernel_rfl) (fun _ _ _ h => h) (Or.inl ⟨by rfl, ?_⟩) (by assumption) ?_
                    rotate_left 1
                    · intro w hSw
                      (try dsimp only at hSw)
                      go_simp
                      try with_reducible rfl
                    (try simp only [Act.put, List.setIfInBounds_toArray, List.set_cons_zero, List.set_cons_succ])
                    refine wpAnyH_take (i := 23) (oi := { dst := some 97, op := Op.load 25 (Operand.tmp 96), type := 25, pos := "law.go:84", after := #[{ on := 22, ground := Ground.data }, { on := 19, ground := Ground.guard }], guard := some (19, true) }) (v := ?_) rfl (by kernel_rfl) (by kernel_rfl) (by kernel_rfl) (fun _ _ _ h => h) (Or.inl ⟨by rfl, ?_⟩) (by assumption) ?_
                    rotate_left 1
                    · intro w hSw
                      (try dsimp only at hSw)
                      go_simp
                      try with_reducible rfl
                    (try simp only [Act.put, List.setIfInBounds_toArray, List.set_cons_zero, List.set_cons_succ])
                    refine wpAnyH_take (i := 24) (oi := { dst := some 98, op := Op.move (Operand.tmp 10), type := 3, pos := "law.go:84", after := #[{ on := 19, ground := Ground.guard }], guard := some (19, true) }) (v := ?_) rfl (by kernel_rfl) (by kernel_rfl) (by kernel_rfl) (fun _ _ _ h => h) (Or.inl ⟨by rfl, ?_⟩) (by assumption) ?_
                    rotate_left 1
                    · intro w hSw
                      (try dsimp only at hSw)
                      go_simp
                      try with_reducible rfl
                    (try simp only [Act.put, List.setIfInBounds_toArray, List.set_cons_zero, List.set_cons_succ])
                    refine wpAnyH_take (i := 25) (oi := { dst := some 99, op := Op.indexAddr 25 (Operand.tmp 97) (Operand.tmp 98), type := 0, pos := "law.go:84", after := #[{ on := 23, ground := Ground.data }, { on := 24, ground := Ground.data }, { on := 19, ground := Ground.guard }], guard := some (19, true) }) (v := ?_) rfl (by kernel_rfl) (by kernel_rfl) (by kernel_rfl) (fun _ _ _ h => h) (Or.inl ⟨by rfl, ?_⟩) (by assumption) ?_
                    rotate_left 1
                    · intro w hSw
                      (try dsimp only at hSw)
                      go_simp
                      try with_reducible rfl
                    (try simp only [Act.put, List.setIfInBounds_toArray, List.set_cons_zero, List.set_cons_succ])
                    refine wpAnyH_take (i := 26) (oi := { dst := some 100, op := Op.load 24 (Operand.tmp 99), type := 24, pos := "law.go:84", after := #[{ on := 25, ground := Ground.data }, { on := 19, ground := Ground.guard }], guard := some (19, true) }) (v := ?_) rfl (by kernel_rfl) (by kernel_rfl) (by kernel_rfl) (fun _ _ _ h => h) (Or.inl ⟨by rfl, ?_⟩) (by assumption) ?_
                    rotate_left 1
                    · intro w hSw
                      (try dsimp only at hSw)
                      go_simp
                      try with_reducible rfl
                    (try simp only [Act.put, List.setIfInBounds_toArray, List.set_cons_zero, List.set_cons_succ])
                    refine wpAnyH_take (i := 27) (oi := { dst := some 101, op := Op.move (Operand.tmp 9), type := 3, pos := "law.go:84", after := #[{ on := 19, ground := Ground.guard }], guard := some (19, true) }) (v := ?_) rfl (by kernel_rfl) (by kernel_rfl) (by kernel_rfl) (fun _ _ _ h => h) (Or.inl ⟨by rfl, ?_⟩) (by assumption) ?_
                    rotate_left 1
                    · intro w hSw
                      (try dsimp only at hSw)
                      go_simp
                      try with_reducible rfl
                    (try simp only [Act.put, List.setIfInBounds_toArray, List.set_cons_zero, List.set_cons_succ])
                    refine wpAnyH_take (i := 28) (oi := { dst := some 102, op := Op.binOp BinOp.add 3 (Operand.const (Value.int IntKind.i64 20)) (Operand.tmp 101) 3, type := 3, pos := "law.go:84", after := #[{ on := 27, ground := Ground.data }, { on := 19, ground := Ground.guard }], guard := some (19, true) }) (v := ?_) rfl (by kernel_rfl) (by kernel_rfl) (by kernel_rfl) (fun _ _ _ h => h) (Or.inl ⟨by rfl, ?_⟩) (by assumption) ?_
                    rotate_left 1
                    · intro w hSw
                      (try dsimp only at hSw)
                      go_simp
                      try with_reducible rfl
                    (try simp only [Act.put, List.setIfInBounds_toArray, List.set_cons_zero, List.set_cons_succ])
                    refine wpAnyH_ready (rs := [29]) (by kernel_rfl) (by simp) ?_
                    refine AllReadyH.cons (o := { dst := some 103, op := Op.call { callee := Callee.value (Operand.func 12), args := #[Operand.tmp 102], argTypes := #[3] }, type := 24, pos := "law.go:84", after := #[{ on := 28, ground := Ground.data }, { on := 19, ground := Ground.chain }, { on := 19, ground := Ground.guard }], guard := some (19, true) }) rfl (fun K hK => ?_) ?_
                    rotate_left 1
                    · exact AllReadyH.nil
                    go_simp
                    refine (HCM.out _).mono ?_
                    rintro e29 w29 ⟨rfl, hb29⟩
                    have HB29 := Lib.hid (HB9.out.trans (hb29.mono HB9.out.size))
                    clear hb29
                    refine hK.out _ _ ?_ (fun hHeld29 => ?_)
                    · exact HSK.out _ HB29.out
                    clear hK K
                    (try simp only [Act.put, List.setIfInBounds_toArray, List.set_cons_zero, List.set_cons_succ])
                    refine wpAnyH_take (i := 30) (oi := { dst := some 104, op := Op.binOp BinOp.neq 24 (Operand.tmp 100) (Operand.tmp 103) 24, type := 4, pos := "law.go:84", after := #[{ on := 26, ground := Ground.data }, { on := 29, ground := Ground.data }, { on := 19, ground := Ground.guard }], guard := some (19, true) }) (v := ?_) rfl (by kernel_rfl) (by kernel_rfl) (by kernel_rfl) (fun _ _ _ h => h) (Or.inl ⟨by rfl, ?_⟩) (by assumption) ?_
                    rotate_left 1
                    · intro w hSw
                      (try dsimp only at hSw)
                      go_simp
                      try with_reducible rfl
                    (try simp only [Act.put, List.setIfInBounds_toArray, List.set_cons_zero, List.set_cons_succ])
                    refine wpAnyH_take (i := 31) (oi := { dst := some 105, op := Op.pick (Operand.tmp 93) (Operand.tmp 104) (Operand.const (Value.bool false)), type := 4, pos := "law.go:84", after := #[{ on := 19, ground := Ground.data }, { on := 30, ground := Ground.data }, { on := 11, ground := Ground.guard }], guard := some (11, false) }) (v := ?_) rfl (by kernel_rfl) (by kernel_rfl) (by kernel_rfl) (fun _ _ _ h => h) (Or.inl ⟨by rfl, ?_⟩) (by assumption) ?_
                    rotate_left 1
                    · intro w hSw
                      (try dsimp only at hSw)
                      go_simp
                      try with_reducible rfl
                    (try simp only [Act.put, List.setIfInBounds_toArray, List.set_cons_zero, List.set_cons_succ])
                    refine wpAnyH_take (i := 32) (oi := { dst := some 106, op := Op.pick (Operand.tmp 85) (Operand.const (Value.bool true)) (Operand.tmp 105), type := 4, pos := "law.go:84", after := #[{ on := 11, ground := Ground.data }, { on := 31, ground := Ground.data }], guard := none }) (v := ?_) rfl (by kernel_rfl) (by kernel_rfl) (by kernel_rfl) (fun _ _ _ h => h) (Or.inl ⟨by rfl, ?_⟩) (by assumption) ?_
                    rotate_left 1
                    · intro w hSw
                      (try dsimp only at hSw)
                      go_simp
                      try with_reducible rfl
                    (try simp only [Act.put, List.setIfInBounds_toArray, List.set_cons_zero, List.set_cons_succ])
                    refine wpAnyH_done (by kernel_rfl) ?_ _
                    go_wp2
                    go_roundw
                    case rel => exact ⟨r + 1, by omega, by go_num, HB29.out⟩
                    case measure => simp [intOf]; omega
                  · obtain ⟨c0, c1, c2, c3, c4⟩ := hMd.out (r - ln s) (by omega)
                    rw [show ln s + (r - ln s) = r by omega] at c0 c1 c2 c3 c4
                    have HSK : Hid (∀ W, Below wi.heap.size wi W → W.cell? ⟨gm, s, none⟩ = some (.slice (some ⟨gM, 0, none⟩) (ln s + 70) cM) ∧ W.cell? ⟨gv, s, none⟩ = some (.slice pL (ln s) cL) ∧ W.cell? ⟨gM, r * 5, none⟩ = some (.int .i64 (-(20 + (s : Int)))) ∧ W.cell? ⟨gM, r * 5 + 1, none⟩ = some (.string ⟨#[109, 97, 114, 107]⟩) ∧ W.cell? ⟨gM, r * 5 + 2, none⟩ = some (.int .i64 (-(20 + (s : Int)))) ∧ W.cell? ⟨gM, r * 5 + 3, none⟩ = some (.int .i64 (-(20 + (s : Int)))) ∧ W.cell? ⟨gM, r * 5 + 4, none⟩ = some (.bool false)) := Lib.hid (fun W hW => by
                      have h6 := HBi.out.trans (hW.mono HBi.out.size)
                      exact ⟨(h6.cell (p := ⟨gm, s, none⟩) hgm2).trans k1, (h6.cell (p := ⟨gv, s, none⟩) hgv2).trans k2, (h6.cell (p := ⟨gM, r * 5, none⟩) hgM2).trans c0, (h6.cell (p := ⟨gM, r * 5 + 1, none⟩) hgM2).trans c1, (h6.cell (p := ⟨gM, r * 5 + 2, none⟩) hgM2).trans c2, (h6.cell (p := ⟨gM, r * 5 + 3, none⟩) hgM2).trans c3, (h6.cell (p := ⟨gM, r * 5 + 4, none⟩) hgM2).trans c4⟩)
                    have hd : decide ((r : Int) < (ln s : Int)) = false := by simp; omega
                    clear c0 c1 c2 c3 c4 k1 k2 k2' hbl6 hbl5 hbi
                    go_wp2
                    clear k1'
                    refine wp_region_held_drew (S := (fun W => W.cell? ⟨gm, s, none⟩ = some (.slice (some ⟨gM, 0, none⟩) (ln s + 70) cM) ∧ W.cell? ⟨gv, s, none⟩ = some (.slice pL (ln s) cL) ∧ W.cell? ⟨gM, r * 5, none⟩ = some (.int .i64 (-(20 + (s : Int)))) ∧ W.cell? ⟨gM, r * 5 + 1, none⟩ = some (.string ⟨#[109, 97, 114, 107]⟩) ∧ W.cell? ⟨gM, r * 5 + 2, none⟩ = some (.int .i64 (-(20 + (s : Int)))) ∧ W.cell? ⟨gM, r * 5 + 3, none⟩ = some (.int .i64 (-(20 + (s : Int)))) ∧ W.cell? ⟨gM, r * 5 + 4, none⟩ = some (.bool false))) (by kernel_rfl) ?_ (fun hHeld => ?_)
                    · exact HSK.out _ HB5.out.drew
                    refine wpAnyH_take (i := 0) (oi := { dst := some 74, op := Op.move (Operand.tmp 5), type := 43, pos := "law.go:84", after := #[], guard := none }) (v := ?_) rfl (by kernel_rfl) (by kernel_rfl) (by kernel_rfl) (fun _ _ _ h => h) (Or.inl ⟨by rfl, ?_⟩) (by assumption) ?_
                    rotate_left 1
                    · intro w hSw
                      (try dsimp only at hSw)
                      go_simp
                      try with_reducible rfl
                    (try simp only [Act.put, List.setIfInBounds_toArray, List.set_cons_zero, List.set_cons_succ])
                    refine wpAnyH_take (i := 1) (oi := { dst := some 75, op := Op.move (Operand.tmp 9), type := 3, pos := "law.go:84", after := #[], guard := none }) (v := ?_) rfl (by kernel_rfl) (by kernel_rfl) (by kernel_rfl) (fun _ _ _ h => h) (Or.inl ⟨by rfl, ?_⟩) (by assumption) ?_
                    rotate_left 1
                    · intro w hSw
                      (try dsimp only at hSw)
                      go_simp
                      try with_reducible rfl
                    (try simp only [Act.put, List.setIfInBounds_toArray, List.set_cons_zero, List.set_cons_succ])
                    refine wpAnyH_take (i := 2) (oi := { dst := some 76, op := Op.indexAddr 43 (Operand.tmp 74) (Operand.tmp 75), type := 0, pos := "law.go:84", after := #[{ on := 0, ground := Ground.data }, { on := 1, ground := Ground.data }], guard := none }) (v := ?_) rfl (by kernel_rfl) (by kernel_rfl) (by kernel_rfl) (fun _ _ _ h => h) (Or.inl ⟨by rfl, ?_⟩) (by assumption) ?_
                    rotate_left 1
                    · intro w hSw
                      (try dsimp only at hSw)
                      go_simp
                      try with_reducible rfl
                    (try simp only [Act.put, List.setIfInBounds_toArray, List.set_cons_zero, List.set_cons_succ])
                    refine wpAnyH_take (i := 3) (oi := { dst := some 77, op := Op.load 25 (Operand.tmp 76), type := 25, pos := "law.go:84", after := #[{ on := 2, ground := Ground.data }], guard := none }) (v := ?_) rfl (by kernel_rfl) (by kernel_rfl) (by kernel_rfl) (fun _ _ _ h => h) (Or.inl ⟨by rfl, ?_⟩) (by assumption) ?_
                    rotate_left 1
                    · intro w hSw
                      (try dsimp only at hSw)
                      go_simp
                      try with_reducible rfl
                    (try simp only [Act.put, List.setIfInBounds_toArray, List.set_cons_zero, List.set_cons_succ])
                    refine wpAnyH_take (i := 4) (oi := { dst := some 78, op := Op.move (Operand.tmp 10), type := 3, pos := "law.go:84", after := #[], guard := none }) (v := ?_) rfl (by kernel_rfl) (by kernel_rfl) (by kernel_rfl) (fun _ _ _ h => h) (Or.inl ⟨by rfl, ?_⟩) (by assumption) ?_
                    rotate_left 1
                    · intro w hSw
                      (try dsimp only at hSw)
                      go_simp
                      try with_reducible rfl
                    (try simp only [Act.put, List.setIfInBounds_toArray, List.set_cons_zero, List.set_cons_succ])
                    refine wpAnyH_take (i := 5) (oi := { dst := some 79, op := Op.indexAddr 25 (Operand.tmp 77) (Operand.tmp 78), type := 0, pos := "law.go:84", after := #[{ on := 3, ground := Ground.data }, { on := 4, ground := Ground.data }], guard := none }) (v := ?_) rfl (by kernel_rfl) (by kernel_rfl) (by kernel_rfl) (fun _ _ _ h => h) (Or.inl ⟨by rfl, ?_⟩) (by assumption) ?_
                    rotate_left 1
                    · intro w hSw
                      (try dsimp only at hSw)
                      go_simp
                      try with_reducible rfl
                    (try simp only [Act.put, List.setIfInBounds_toArray, List.set_cons_zero, List.set_cons_succ])
                    refine wpAnyH_take (i := 6) (oi := { dst := some 80, op := Op.load 24 (Operand.tmp 79), type := 24, pos := "law.go:84", after := #[{ on := 5, ground := Ground.data }], guard := none }) (v := ?_) rfl (by kernel_rfl) (by kernel_rfl) (by kernel_rfl) (fun _ _ _ h => h) (Or.inl ⟨by rfl, ?_⟩) (by assumption) ?_
                    rotate_left 1
                    · intro w hSw
                      (try dsimp only at hSw)
                      go_simp
                      try with_reducible rfl
                    (try simp only [Act.put, List.setIfInBounds_toArray, List.set_cons_zero, List.set_cons_succ])
                    refine wpAnyH_take (i := 7) (oi := { dst := some 81, op := Op.move (Operand.tmp 9), type := 3, pos := "law.go:84", after := #[], guard := none }) (v := ?_) rfl (by kernel_rfl) (by kernel_rfl) (by kernel_rfl) (fun _ _ _ h => h) (Or.inl ⟨by rfl, ?_⟩) (by assumption) ?_
                    rotate_left 1
                    · intro w hSw
                      (try dsimp only at hSw)
                      go_simp
                      try with_reducible rfl
                    (try simp only [Act.put, List.setIfInBounds_toArray, List.set_cons_zero, List.set_cons_succ])
                    refine wpAnyH_take (i := 8) (oi := { dst := some 82, op := Op.binOp BinOp.add 3 (Operand.const (Value.int IntKind.i64 20)) (Operand.tmp 81) 3, type := 3, pos := "law.go:84", after := #[{ on := 7, ground := Ground.data }], guard := none }) (v := ?_) rfl (by kernel_rfl) (by kernel_rfl) (by kernel_rfl) (fun _ _ _ h => h) (Or.inl ⟨by rfl, ?_⟩) (by assumption) ?_
                    rotate_left 1
                    · intro w hSw
                      (try dsimp only at hSw)
                      go_simp
                      try with_reducible rfl
                    (try simp only [Act.put, List.setIfInBounds_toArray, List.set_cons_zero, List.set_cons_succ])
                    refine wpAnyH_ready (rs := [9]) (by kernel_rfl) (by simp) ?_
                    refine AllReadyH.cons (o := { dst := some 83, op := Op.call { callee := Callee.value (Operand.func 12), args := #[Operand.tmp 82], argTypes := #[3] }, type := 24, pos := "law.go:84", after := #[{ on := 8, ground := Ground.data }], guard := none }) rfl (fun K hK => ?_) ?_
                    rotate_left 1
                    · exact AllReadyH.nil
                    go_simp
                    refine (HCM.out _).mono ?_
                    rintro e9 w9 ⟨rfl, hb9⟩
                    have HB9 := Lib.hid (HB5.out.trans ((below_of_drew hb9).mono HB5.out.size))
                    clear hb9
                    refine hK.out _ _ ?_ (fun hHeld9 => ?_)
                    · exact HSK.out _ HB9.out
                    clear hK K
                    (try simp only [Act.put, List.setIfInBounds_toArray, List.set_cons_zero, List.set_cons_succ])
                    refine wpAnyH_take (i := 10) (oi := { dst := some 84, op := Op.binOp BinOp.neq 24 (Operand.tmp 80) (Operand.tmp 83) 24, type := 4, pos := "law.go:84", after := #[{ on := 6, ground := Ground.data }, { on := 9, ground := Ground.data }], guard := none }) (v := ?_) rfl (by kernel_rfl) (by kernel_rfl) (by kernel_rfl) (fun _ _ _ h => h) (Or.inl ⟨by rfl, ?_⟩) (by assumption) ?_
                    rotate_left 1
                    · intro w hSw
                      (try dsimp only at hSw)
                      go_simp
                      try with_reducible rfl
                    (try simp only [Act.put, List.setIfInBounds_toArray, List.set_cons_zero, List.set_cons_succ])
                    refine wpAnyH_take (i := 11) (oi := { dst := some 85, op := Op.move (Operand.tmp 84), type := 4, pos := "law.go:84", after := #[{ on := 10, ground := Ground.data }, { on := 9, ground := Ground.chain }], guard := none }) (v := ?_) rfl (by kernel_rfl) (by kernel_rfl) (by kernel_rfl) (fun _ _ _ h => h) (Or.inl ⟨by rfl, ?_⟩) (by assumption) ?_
                    rotate_left 1
                    · intro w hSw
                      (try dsimp only at hSw)
                      go_simp
                      try with_reducible rfl
                    (try simp only [Act.put, List.setIfInBounds_toArray, List.set_cons_zero, List.set_cons_succ])
                    refine wpAnyH_take (i := 12) (oi := { dst := some 86, op := Op.move (Operand.tmp 10), type := 3, pos := "law.go:84", after := #[{ on := 11, ground := Ground.guard }], guard := some (11, false) }) (v := ?_) rfl (by kernel_rfl) (by kernel_rfl) (by kernel_rfl) (fun _ _ _ h => h) (Or.inl ⟨by rfl, ?_⟩) (by assumption) ?_
                    rotate_left 1
                    · intro w hSw
                      (try dsimp only at hSw)
                      go_simp
                      try with_reducible rfl
                    (try simp only [Act.put, List.setIfInBounds_toArray, List.set_cons_zero, List.set_cons_succ])
                    refine wpAnyH_take (i := 13) (oi := { dst := some 87, op := Op.move (Operand.tmp 0), type := 43, pos := "law.go:84", after := #[{ on := 11, ground := Ground.guard }], guard := some (11, false) }) (v := ?_) rfl (by kernel_rfl) (by kernel_rfl) (by kernel_rfl) (fun _ _ _ h => h) (Or.inl ⟨by rfl, ?_⟩) (by assumption) ?_
                    rotate_left 1
                    · intro w hSw
                      (try dsimp only at hSw)
                      go_simp
                      try with_reducible rfl
                    (try simp only [Act.put, List.setIfInBounds_toArray, List.set_cons_zero, List.set_cons_succ])
                    refine wpAnyH_take (i := 14) (oi := { dst := some 88, op := Op.move (Operand.tmp 9), type := 3, pos := "law.go:84", after := #[{ on := 11, ground := Ground.guard }], guard := some (11, false) }) (v := ?_) rfl (by kernel_rfl) (by kernel_rfl) (by kernel_rfl) (fun _ _ _ h => h) (Or.inl ⟨by rfl, ?_⟩) (by assumption) ?_
                    rotate_left 1
                    · intro w hSw
                      (try dsimp only at hSw)
                      go_simp
                      try with_reducible rfl
                    (try simp only [Act.put, List.setIfInBounds_toArray, List.set_cons_zero, List.set_cons_succ])
                    refine wpAnyH_take (i := 15) (oi := { dst := some 89, op := Op.indexAddr 43 (Operand.tmp 87) (Operand.tmp 88), type := 0, pos := "law.go:84", after := #[{ on := 13, ground := Ground.data }, { on := 14, ground := Ground.data }, { on := 11, ground := Ground.guard }], guard := some (11, false) }) (v := ?_) rfl (by kernel_rfl) (by kernel_rfl) (by kernel_rfl) (fun _ _ _ h => h) (Or.inl ⟨by rfl, ?_⟩) (by assumption) ?_
                    rotate_left 1
                    · intro w hSw
                      (try dsimp only at hSw)
                      go_simp
                      try with_reducible rfl
                    (try simp only [Act.put, List.setIfInBounds_toArray, List.set_cons_zero, List.set_cons_succ])
                    refine wpAnyH_take (i := 16) (oi := { dst := some 90, op := Op.load 25 (Operand.tmp 89), type := 25, pos := "law.go:84", after := #[{ on := 15, ground := Ground.data }, { on := 11, ground := Ground.guard }], guard := some (11, false) }) (v := ?_) rfl (by kernel_rfl) (by kernel_rfl) (by kernel_rfl) (fun _ _ _ h => h) (Or.inl ⟨by rfl, ?_⟩) (by assumption) ?_
                    rotate_left 1
                    · intro w hSw
                      (try dsimp only at hSw)
                      go_simp
                      try with_reducible rfl
                    (try simp only [Act.put, List.setIfInBounds_toArray, List.set_cons_zero, List.set_cons_succ])
                    refine wpAnyH_take (i := 17) (oi := { dst := some 91, op := Op.call { callee := Callee.builtin Builtin.len, args := #[Operand.tmp 90], argTypes := #[25] }, type := 3, pos := "law.go:84", after := #[{ on := 16, ground := Ground.data }, { on := 11, ground := Ground.guard }], guard := some (11, false) }) (v := ?_) rfl (by kernel_rfl) (by kernel_rfl) (by kernel_rfl) (fun _ _ _ h => h) (Or.inl ⟨by rfl, ?_⟩) (by assumption) ?_
                    rotate_left 1
                    · intro w hSw
                      (try dsimp only at hSw)
                      go_simp
                      try with_reducible rfl
                    (try simp only [Act.put, List.setIfInBounds_toArray, List.set_cons_zero, List.set_cons_succ])
                    refine wpAnyH_take (i := 18) (oi := { dst := some 92, op := Op.binOp BinOp.lss 3 (Operand.tmp 86) (Operand.tmp 91) 3, type := 4, pos := "law.go:84", after := #[{ on := 12, ground := Ground.data }, { on := 17, ground := Ground.data }, { on := 11, ground := Ground.guard }], guard := some (11, false) }) (v := ?_) rfl (by kernel_rfl) (by kernel_rfl) (by kernel_rfl) (fun _ _ _ h => h) (Or.inl ⟨by rfl, ?_⟩) (by assumption) ?_
                    rotate_left 1
                    · intro w hSw
                      (try dsimp only at hSw)
                      go_simp
                      try with_reducible rfl
                    (try simp only [Act.put, List.setIfInBounds_toArray, List.set_cons_zero, List.set_cons_succ])
                    refine wpAnyH_take (i := 19) (oi := { dst := some 93, op := Op.move (Operand.tmp 92), type := 4, pos := "law.go:84", after := #[{ on := 18, ground := Ground.data }, { on := 11, ground := Ground.chain }, { on := 11, ground := Ground.guard }], guard := some (11, false) }) (v := ?_) rfl (by kernel_rfl) (by kernel_rfl) (by kernel_rfl) (fun _ _ _ h => h) (Or.inl ⟨by rfl, ?_⟩) (by assumption) ?_
                    rotate_left 1
                    · intro w hSw
                      (try dsimp only at hSw)
                      go_simp
                      try with_reducible rfl
                    (try simp only [Act.put, List.setIfInBounds_toArray, List.set_cons_zero, List.set_cons_succ])
                    refine wpAnyH_take (i := 20) (oi := { dst := some 94, op := Op.move (Operand.tmp 0), type := 43, pos := "law.go:84", after := #[{ on := 19, ground := Ground.guard }], guard := some (19, true) }) (v := undef) rfl (by kernel_rfl) (by kernel_rfl) (by kernel_rfl) (fun _ _ _ h => h) (Or.inr ⟨by rfl, rfl⟩) (by assumption) ?_
                    (try simp only [Act.put, List.setIfInBounds_toArray, List.set_cons_zero, List.set_cons_succ])
                    refine wpAnyH_take (i := 21) (oi := { dst := some 95, op := Op.move (Operand.tmp 9), type := 3, pos := "law.go:84", after := #[{ on := 19, ground := Ground.guard }], guard := some (19, true) }) (v := undef) rfl (by kernel_rfl) (by kernel_rfl) (by kernel_rfl) (fun _ _ _ h => h) (Or.inr ⟨by rfl, rfl⟩) (by assumption) ?_
                    (try simp only [Act.put, List.setIfInBounds_toArray, List.set_cons_zero, List.set_cons_succ])
                    refine wpAnyH_take (i := 22) (oi := { dst := some 96, op := Op.indexAddr 43 (Operand.tmp 94) (Operand.tmp 95), type := 0, pos := "law.go:84", after := #[{ on := 20, ground := Ground.data }, { on := 21, ground := Ground.data }, { on := 19, ground := Ground.guard }], guard := some (19, true) }) (v := undef) rfl (by kernel_rfl) (by kernel_rfl) (by kernel_rfl) (fun _ _ _ h => h) (Or.inr ⟨by rfl, rfl⟩) (by assumption) ?_
                    (try simp only [Act.put, List.setIfInBounds_toArray, List.set_cons_zero, List.set_cons_succ])
                    refine wpAnyH_take (i := 23) (oi := { dst := some 97, op := Op.load 25 (Operand.tmp 96), type := 25, pos := "law.go:84", after := #[{ on := 22, ground := Ground.data }, { on := 19, ground := Ground.guard }], guard := some (19, true) }) (v := undef) rfl (by kernel_rfl) (by kernel_rfl) (by kernel_rfl) (fun _ _ _ h => h) (Or.inr ⟨by rfl, rfl⟩) (by assumption) ?_
                    (try simp only [Act.put, List.setIfInBounds_toArray, List.set_cons_zero, List.set_cons_succ])
                    refine wpAnyH_take (i := 24) (oi := { dst := some 98, op := Op.move (Operand.tmp 10), type := 3, pos := "law.go:84", after := #[{ on := 19, ground := Ground.guard }], guard := some (19, true) }) (v := undef) rfl (by kernel_rfl) (by kernel_rfl) (by kernel_rfl) (fun _ _ _ h => h) (Or.inr ⟨by rfl, rfl⟩) (by assumption) ?_
                    (try simp only [Act.put, List.setIfInBounds_toArray, List.set_cons_zero, List.set_cons_succ])
                    refine wpAnyH_take (i := 25) (oi := { dst := some 99, op := Op.indexAddr 25 (Operand.tmp 97) (Operand.tmp 98), type := 0, pos := "law.go:84", after := #[{ on := 23, ground := Ground.data }, { on := 24, ground := Ground.data }, { on := 19, ground := Ground.guard }], guard := some (19, true) }) (v := undef) rfl (by kernel_rfl) (by kernel_rfl) (by kernel_rfl) (fun _ _ _ h => h) (Or.inr ⟨by rfl, rfl⟩) (by assumption) ?_
                    (try simp only [Act.put, List.setIfInBounds_toArray, List.set_cons_zero, List.set_cons_succ])
                    refine wpAnyH_take (i := 26) (oi := { dst := some 100, op := Op.load 24 (Operand.tmp 99), type := 24, pos := "law.go:84", after := #[{ on := 25, ground := Ground.data }, { on := 19, ground := Ground.guard }], guard := some (19, true) }) (v := undef) rfl (by kernel_rfl) (by kernel_rfl) (by kernel_rfl) (fun _ _ _ h => h) (Or.inr ⟨by rfl, rfl⟩) (by assumption) ?_
                    (try simp only [Act.put, List.setIfInBounds_toArray, List.set_cons_zero, List.set_cons_succ])
                    refine wpAnyH_take (i := 27) (oi := { dst := some 101, op := Op.move (Operand.tmp 9), type := 3, pos := "law.go:84", after := #[{ on := 19, ground := Ground.guard }], guard := some (19, true) }) (v := undef) rfl (by kernel_rfl) (by kernel_rfl) (by kernel_rfl) (fun _ _ _ h => h) (Or.inr ⟨by rfl, rfl⟩) (by assumption) ?_
                    (try simp only [Act.put, List.setIfInBounds_toArray, List.set_cons_zero, List.set_cons_succ])
                    refine wpAnyH_take (i := 28) (oi := { dst := some 102, op := Op.binOp BinOp.add 3 (Operand.const (Value.int IntKind.i64 20)) (Operand.tmp 101) 3, type := 3, pos := "law.go:84", after := #[{ on := 27, ground := Ground.data }, { on := 19, ground := Ground.guard }], guard := some (19, true) }) (v := undef) rfl (by kernel_rfl) (by kernel_rfl) (by kernel_rfl) (fun _ _ _ h => h) (Or.inr ⟨by rfl, rfl⟩) (by assumption) ?_
                    (try simp only [Act.put, List.setIfInBounds_toArray, List.set_cons_zero, List.set_cons_succ])
                    refine wpAnyH_take (i := 29) (oi := { dst := some 103, op := Op.call { callee := Callee.value (Operand.func 12), args := #[Operand.tmp 102], argTypes := #[3] }, type := 24, pos := "law.go:84", after := #[{ on := 28, ground := Ground.data }, { on := 19, ground := Ground.chain }, { on := 19, ground := Ground.guard }], guard := some (19, true) }) (v := undef) rfl (by kernel_rfl) (by kernel_rfl) (by kernel_rfl) (fun _ _ _ h => h) (Or.inr ⟨by rfl, rfl⟩) (by assumption) ?_
                    (try simp only [Act.put, List.setIfInBounds_toArray, List.set_cons_zero, List.set_cons_succ])
                    refine wpAnyH_take (i := 30) (oi := { dst := some 104, op := Op.binOp BinOp.neq 24 (Operand.tmp 100) (Operand.tmp 103) 24, type := 4, pos := "law.go:84", after := #[{ on := 26, ground := Ground.data }, { on := 29, ground := Ground.data }, { on := 19, ground := Ground.guard }], guard := some (19, true) }) (v := undef) rfl (by kernel_rfl) (by kernel_rfl) (by kernel_rfl) (fun _ _ _ h => h) (Or.inr ⟨by rfl, rfl⟩) (by assumption) ?_
                    (try simp only [Act.put, List.setIfInBounds_toArray, List.set_cons_zero, List.set_cons_succ])
                    refine wpAnyH_take (i := 31) (oi := { dst := some 105, op := Op.pick (Operand.tmp 93) (Operand.tmp 104) (Operand.const (Value.bool false)), type := 4, pos := "law.go:84", after := #[{ on := 19, ground := Ground.data }, { on := 30, ground := Ground.data }, { on := 11, ground := Ground.guard }], guard := some (11, false) }) (v := ?_) rfl (by kernel_rfl) (by kernel_rfl) (by kernel_rfl) (fun _ _ _ h => h) (Or.inl ⟨by rfl, ?_⟩) (by assumption) ?_
                    rotate_left 1
                    · intro w hSw
                      (try dsimp only at hSw)
                      go_simp
                      try with_reducible rfl
                    (try simp only [Act.put, List.setIfInBounds_toArray, List.set_cons_zero, List.set_cons_succ])
                    refine wpAnyH_take (i := 32) (oi := { dst := some 106, op := Op.pick (Operand.tmp 85) (Operand.const (Value.bool true)) (Operand.tmp 105), type := 4, pos := "law.go:84", after := #[{ on := 11, ground := Ground.data }, { on := 31, ground := Ground.data }], guard := none }) (v := ?_) rfl (by kernel_rfl) (by kernel_rfl) (by kernel_rfl) (fun _ _ _ h => h) (Or.inl ⟨by rfl, ?_⟩) (by assumption) ?_
                    rotate_left 1
                    · intro w hSw
                      (try dsimp only at hSw)
                      go_simp
                      try with_reducible rfl
                    (try simp only [Act.put, List.setIfInBounds_toArray, List.set_cons_zero, List.set_cons_succ])
                    refine wpAnyH_done (by kernel_rfl) ?_ _
                    go_wp2
                    go_roundw
                    case rel => exact ⟨r + 1, by omega, by go_num, HB9.out⟩
                    case measure => simp [intOf]; omega
                · obtain rfl : r = ln s + 70 := by omega
                  go_wp2
                  go_roundw
                  case rel => exact ⟨s + 1, by omega, by go_num, hbl6⟩
                  case measure => simp [intOf]; omega
            · obtain rfl : s = t := by omega
              go_wp2
              go_ret
              exact ⟨rfl, hbl2.trans (hbl4.mono (by have := hbl2.size; omega))⟩
end Go.Proofs.Ytahdaccmokjgpaa
