/-
  WALK: the document's put.
-/
import Derived.Test.YtahdaccmokjgpaaRfP
namespace Go.Proofs.Ytahdaccmokjgpaa
open Go.RowKit ArgK
set_option linter.unusedVariables false

def RPutPost (w : World) (base : Nat) (L : List Ent) (e : Ent) (en : Ending) (w' : World) : Prop :=
  Below w.heap.size w w' ∧ ∃ v' b, en = .returned (.tuple #[v', .bool b]) ∧ w'.ownsRow base 24 5 v' (rput L e).length (encE (rput L e))

theorem rput_ins {L : List Ent} {e : Ent} (h : ∀ x, L[ahead L e]? = some x → ¬ eat x e) : rput L e = L.take (ahead L e) ++ [e] ++ L.drop (ahead L e) := by
  unfold rput
  cases hx : L[ahead L e]? with
  | none => rfl
  | some x => simp only; rw [if_neg (h x hx)]; rfl
theorem rput_rep {L : List Ent} {e x : Ent} (hx : L[ahead L e]? = some x) (hat : eat x e) (hlt : x.s < e.s) : rput L e = L.take (ahead L e) ++ [e] ++ L.drop (ahead L e + 1) := by
  unfold rput
  rw [hx]
  simp only
  rw [if_pos hat, if_pos hlt]
theorem rput_same {L : List Ent} {e x : Ent} (hx : L[ahead L e]? = some x) (hat : eat x e) (hlt : ¬ x.s < e.s) : rput L e = L := by
  unfold rput
  rw [hx]
  simp only
  rw [if_pos hat, if_neg hlt]
theorem rput_fin {w W : World} {base : Nat} {L : List Ent} {e : Ent} {k k2 n m : Nat} {v3 : Value} {b : Bool} (hn : L.length = n) (hk : k ≤ n) (hk2 : k2 ≤ n) (hR : rput L e = L.take k ++ [e] ++ L.drop k2) (hbw : base ≤ w.heap.size) (hb : Below w.heap.size w W) (hm : m = k + 1 + (n - k2)) (ho : W.ownsRow w.heap.size 24 5 v3 m (encE (L.take k) ++ (e.cells ++ encE (L.drop k2)))) : RPutPost w base L e (.returned (.tuple #[v3, .bool b])) W := by
  refine ⟨hb, v3, b, rfl, ?_⟩
  have hl : (rput L e).length = m := by
    rw [hR, hm]
    simp only [List.length_append, List.length_take, List.length_drop, List.length_singleton, hn, Nat.min_eq_left hk]
  rw [hl, hR, encE_append, encE_snoc, List.append_assoc]
  exact own_le ho hbw

set_option maxRecDepth 100000 in
set_option maxHeartbeats 4000000 in
theorem rput_calls {w : World} {base : Nat} {v : Value} {L : List Ent} (e : Ent) (hv : w.ownsRow base 24 5 v L.length (encE L)) (hbw : base ≤ w.heap.size) (hn : L.length ≤ 4294967296) :
    Calls Try.prog 40 #[v, e.val] w (RPutPost w base L e) := by
  obtain ⟨i0, hi0, hz0, hz1, hz2⟩ := info_parts entinfo
  have e0 := World.alloc_heap_new w (eBlk e)
  have HE0 := Lib.hid e0
  obtain ⟨z0, z1, z2, z3, z4⟩ := eBlk_cells e0
  have hb0 := (Below.refl w.heap.size w).alloc (Nat.le_refl _) (eBlk e)
  have HB0 := Lib.hid hb0
  clear e0 hb0
  unfold Ent.val
  unfold eBlk at z0 z1 z2 z3 z4
  have chk8 : ∀ u ∈ e.cells, u.oneCell' = true := by simp [Value.oneCell', Ent.cells]
  have HV := Lib.hid hv
  obtain ⟨n, hln⟩ : ∃ n, L.length = n := ⟨_, rfl⟩
  have HLN := Lib.hid hln
  rcases hv.2 with ⟨hv1, hl0⟩ | ⟨g, c, cur, hv1, hbg, hv2, hnc, hcm, _⟩
  · subst hv1
    have hLn : L = [] := List.eq_nil_of_length_eq_zero hl0
    subst hLn
    have hA0 : ahead [] e = 0 := rfl
    have hR : rput [] e = ([] : List Ent).take 0 ++ [e] ++ ([] : List Ent).drop 0 := by rw [rput_ins (fun x hx => by simp at hx)]; rfl
    have HR := Lib.hid hR
    clear hv hl0 hln hR HLN HV
    go_enter Try.func40, Try.ntmps40
    go_wp2
    go_loopw [6] (fun i wr => i = .int .i64 0 ∧ Below (w.alloc (eBlk e)).heap.size (w.alloc (eBlk e)) wr) (fun _ _ => 0)
    case atStart => exact ⟨rfl, Below.refl _ _⟩
    case round =>
      obtain ⟨rfl, hbl⟩ := hrel
      have HBL := Lib.hid hbl
      clear hbl z0 z1 z2 z3 z4
      go_wp2
      go_quiet (fail)
      obtain ⟨W1, hW1⟩ : ∃ W1 : World, wr.drewN nq = W1 := ⟨_, rfl⟩
      rw [hW1]
      have HW1 := Lib.hid (show Below wr.heap.size wr W1 by rw [← hW1]; exact drewN_below _ _ _)
      clear hW1
      go_wp2
      go_quiet (fail)
      obtain ⟨W2, hW2⟩ : ∃ WZ : World, W1.drewN nq = WZ := ⟨_, rfl⟩
      rw [hW2]
      have HDW2 := Lib.hid (show Below W1.heap.size W1 W2 by rw [← hW2]; exact drewN_below _ _ _)
      clear hW2
      have hBW := HB0.out.trans (((HBL.out.trans (HW1.out.mono HBL.out.size)).trans (HDW2.out.mono (HBL.out.trans (HW1.out.mono HBL.out.size)).size)).mono HB0.out.size)
      have HBX := Lib.hid hBW
      have hezW := ((HBL.out.trans (HW1.out.mono HBL.out.size)).trans (HDW2.out.mono (HBL.out.trans (HW1.out.mono HBL.out.size)).size)).block w.heap.size (by simp) |>.trans HE0.out
      obtain ⟨u0, u1, u2, u3, u4⟩ := eBlk_cells hezW
      clear hBW hezW
      have hva := (own_none (w := W2) (base := w.heap.size) (e := 24) (size := 5)).alloc (.cells #[.int .i64 e.v, .string e.c, .int .i64 e.i, .int .i64 e.s, .bool e.d] 24)
      have hnews := World.news_of_block (cs := #[.int .i64 e.v, .string e.c, .int .i64 e.i, .int .i64 e.s, .bool e.d]) (t := 24) (fr := (0, 0)) (heap_alloc_new W2 (.cells #[.int .i64 e.v, .string e.c, .int .i64 e.i, .int .i64 e.s, .bool e.d] 24))
      have chk5 : 0 + 1 ≤ maxLen := by unfold maxLen; omega
      have chk6 : (0 + 1) * 48 ≤ 140737488355328 := by omega
      have hsz1 := HBX.out.size
      have chk7 : w.heap.size ≤ (W2.alloc (.cells #[.int .i64 e.v, .string e.c, .int .i64 e.i, .int .i64 e.s, .bool e.d] 24)).heap.size := by simp; omega
      go_wp2_with (at_builtin; refine wpList_append_lies _ rfl _ _ _ rfl w.heap.size 24 i0 _ 5 48 Try.underlying25 hi0 hz0 hz1 hz2 rfl (by decide) (.slice none 0 0) 0 _ rfl hva ⟨W2.heap.size, 0, none⟩ 1 1 e.cells rfl rfl hnews chk8 (by decide) chk5 chk6 chk7 (W2.heap.size + 1) (by simp) ?_)
      intro g2 cap2 w7 hown7 hgrow7 hat7 hlt7
      have hb7 : Below w.heap.size W2 w7 := ⟨hgrow7.os, hgrow7.tape, hgrow7.output, by have := hgrow7.size; simp at this; omega, fun j hj => (hgrow7.block j (by simp; omega) (fun e' => by cases e')).trans (Below.heap_alloc _ _ _ (by omega))⟩
      have HB7 := Lib.hid (HBX.out.trans hb7)
      have hs7 := HB7.out.size
      have HO7 := Lib.hid hown7
      have hlo7 : g2 ≥ w.heap.size := (hown7.lt g2 rfl).1
      have hcap7 := own_cap hown7
      clear hown7 hgrow7 hat7 hlt7 hva hnews hb7
      have HF : Hid (∀ b, RPutPost w base [] e (.returned (.tuple #[.slice (some ⟨g2, 0, none⟩) (0 + 1) cap2, .bool b])) w7) := Lib.hid (fun b => rput_fin (k := 0) (k2 := 0) (n := 0) rfl (Nat.le_refl _) (Nat.le_refl _) HR.out hbw HB7.out rfl (by have := HO7.out; rw [show encE (([] : List Ent).take 0) ++ (e.cells ++ encE (([] : List Ent).drop 0)) = e.cells by simp [encE_nil]]; simpa using this))
      go_wp2
      go_ret2
      exact HF.out _
  · subst hv1
    have hcs := fun j (hj : j < L.length * 5) => HV.out.cellAt j hj
    have hgl : g < w.heap.size := (Array.getElem?_eq_some_iff.1 hv2).1
    have HCS := Lib.hid hcs
    rw [hln] at hnc hn
    have hcs' := hcm
    rw [hln]
    clear hv hln hcs hv2
    go_enter Try.func40, Try.ntmps40
    go_wp2
    go_loopw [6] (fun i wr => ∃ k : Nat, k ≤ n ∧ i = .int .i64 k ∧ Hid (∀ (j : Nat) (x : Ent), j < k → L[j]? = some x → eless x e) ∧ Below (w.alloc (eBlk e)).heap.size (w.alloc (eBlk e)) wr) (fun i _ => n - (intOf i).toNat)
    case atStart => exact ⟨0, Nat.zero_le _, rfl, Lib.hid (fun j x hj => by omega), Below.refl _ _⟩
    case round =>
      obtain ⟨k, hk, rfl, HZ, hbl⟩ := hrel
      have HEZr := Lib.hid ((hbl.block _ (by simp)).trans HE0.out)
      have hzlr : w.heap.size < wr.heap.size := (Array.getElem?_eq_some_iff.1 HEZr.out).1
      have HBwr := Lib.hid (HB0.out.trans (hbl.mono HB0.out.size))
      have hglr : g < wr.heap.size := Nat.lt_of_lt_of_le hgl HBwr.out.size
      have HBL := Lib.hid hbl
      clear hbl z0 z1 z2 z3 z4
      by_cases hlt : k < n
      · obtain ⟨x, hx⟩ : ∃ x, L[k]? = some x := ⟨_, List.getElem?_eq_getElem (by rw [HLN.out]; exact hlt)⟩
        have HX := Lib.hid hx
        have i0' : (0 : Int) ≤ (k : Int) := by omega
        have i1' : (k : Int) < (n : Int) := by omega
        have CC := fun W => RefCompare_calls x e W
        unfold Ent.val at CC
        clear hx
        have hxc : ∀ j, j < 5 → wr.cell? ⟨g, k * 5 + j, none⟩ = x.cells[j]? := fun j hj => by
          rw [World.cell?_of_block (a := ⟨g, k * 5 + j, none⟩) (HBwr.out.block g hgl), HCS.out _ (by rw [HLN.out]; omega)]
          exact encE_get L k x HX.out j hj
        have HK1 : Hid (∀ W, Below wr.heap.size wr W → (fun W => W.cell? ⟨g, k * 5, none⟩ = some (.int .i64 x.v) ∧ W.cell? ⟨g, k * 5 + 1, none⟩ = some (.string x.c) ∧ W.cell? ⟨g, k * 5 + 2, none⟩ = some (.int .i64 x.i) ∧ W.cell? ⟨g, k * 5 + 3, none⟩ = some (.int .i64 x.s) ∧ W.cell? ⟨g, k * 5 + 4, none⟩ = some (.bool x.d) ∧ W.cell? ⟨w.heap.size, 0, none⟩ = some (.int .i64 e.v) ∧ W.cell? ⟨w.heap.size, 1, none⟩ = some (.string e.c) ∧ W.cell? ⟨w.heap.size, 2, none⟩ = some (.int .i64 e.i) ∧ W.cell? ⟨w.heap.size, 3, none⟩ = some (.int .i64 e.s) ∧ W.cell? ⟨w.heap.size, 4, none⟩ = some (.bool e.d)) W) := Lib.hid (fun W hW => by
          have q := hW.block g hglr
          have q2 := eBlk_cells ((hW.block _ hzlr).trans HEZr.out)
          exact ⟨(World.cell?_of_block q).trans (hxc 0 (by decide)), (World.cell?_of_block q).trans (hxc 1 (by decide)), (World.cell?_of_block q).trans (hxc 2 (by decide)), (World.cell?_of_block q).trans (hxc 3 (by decide)), (World.cell?_of_block q).trans (hxc 4 (by decide)), q2⟩)
        obtain ⟨x0, x1, x2, x3, x4, y0, y1, y2, y3, y4⟩ := HK1.out wr (Below.refl _ _)
        clear hxc
        rcases eless_or x e with hlx | hlx | hlx
        · have HZ2 : Hid (∀ (j : Nat) (y : Ent), j < k + 1 → L[j]? = some y → eless y e) := Lib.hid (fun j y hj hy => by
            rcases Nat.lt_or_ge j k with h | h
            · exact HZ.out j y h hy
            · obtain rfl : j = k := by omega
              rw [HX.out] at hy; cases hy; exact hlx)
          rw [cmpE_lt hlx] at CC
          have HCM := Lib.hid CC
          clear CC hlx
          go_wp2
          go_region_held3 (fun W => W.cell? ⟨g, k * 5, none⟩ = some (.int .i64 x.v) ∧ W.cell? ⟨g, k * 5 + 1, none⟩ = some (.string x.c) ∧ W.cell? ⟨g, k * 5 + 2, none⟩ = some (.int .i64 x.i) ∧ W.cell? ⟨g, k * 5 + 3, none⟩ = some (.int .i64 x.s) ∧ W.cell? ⟨g, k * 5 + 4, none⟩ = some (.bool x.d) ∧ W.cell? ⟨w.heap.size, 0, none⟩ = some (.int .i64 e.v) ∧ W.cell? ⟨w.heap.size, 1, none⟩ = some (.string e.c) ∧ W.cell? ⟨w.heap.size, 2, none⟩ = some (.int .i64 e.i) ∧ W.cell? ⟨w.heap.size, 3, none⟩ = some (.int .i64 e.s) ∧ W.cell? ⟨w.heap.size, 4, none⟩ = some (.bool e.d)) (first | exact ⟨x0, x1, x2, x3, x4, y0, y1, y2, y3, y4⟩ | exact HK1.out _ (below_of_drew hb1)) (first | (go_at_call 11; refine (HCM.out _).mono ?_; rintro e' w2 ⟨rfl, hb1⟩))
          have HB2 : Hid (Below (w.alloc (eBlk e)).heap.size (w.alloc (eBlk e)) w2) := Lib.hid (HBL.out.trans ((below_of_drew hb1).mono HBL.out.size))
          clear hb1
          go_wp2
          go_roundw
          case rel => exact ⟨k + 1, by omega, by go_num, HZ2, HB2.out⟩
          case measure => simp [intOf]; omega
        · have hah : ahead L e = k := ahead_eq HZ.out (by rw [HLN.out]; exact hk) (fun y hy => by rw [HX.out] at hy; cases hy; exact fun h => eless_not_eat h hlx)
          rw [cmpE_eq hlx] at CC
          have HCM := Lib.hid CC
          by_cases hxs : x.s < e.s
          · have HRR : Hid (rput L e = L.take k ++ [e] ++ L.drop (k + 1)) := Lib.hid (by rw [← hah]; exact rput_rep (by rw [hah]; exact HX.out) hlx hxs)
            clear CC hlx hah
            go_wp2
            go_region_held3 (fun W => W.cell? ⟨g, k * 5, none⟩ = some (.int .i64 x.v) ∧ W.cell? ⟨g, k * 5 + 1, none⟩ = some (.string x.c) ∧ W.cell? ⟨g, k * 5 + 2, none⟩ = some (.int .i64 x.i) ∧ W.cell? ⟨g, k * 5 + 3, none⟩ = some (.int .i64 x.s) ∧ W.cell? ⟨g, k * 5 + 4, none⟩ = some (.bool x.d) ∧ W.cell? ⟨w.heap.size, 0, none⟩ = some (.int .i64 e.v) ∧ W.cell? ⟨w.heap.size, 1, none⟩ = some (.string e.c) ∧ W.cell? ⟨w.heap.size, 2, none⟩ = some (.int .i64 e.i) ∧ W.cell? ⟨w.heap.size, 3, none⟩ = some (.int .i64 e.s) ∧ W.cell? ⟨w.heap.size, 4, none⟩ = some (.bool e.d)) (first | exact ⟨x0, x1, x2, x3, x4, y0, y1, y2, y3, y4⟩ | exact HK1.out _ (below_of_drew hb1)) (first | (go_at_call 11; refine (HCM.out _).mono ?_; rintro e' w2 ⟨rfl, hb1⟩))
            have HBW := Lib.hid (HBwr.out.trans ((below_of_drew hb1).mono HBwr.out.size))
            have hezW := ((below_of_drew hb1).block _ hzlr).trans HEZr.out
            clear x0 x1 x2 x3 x4 y0 y1 y2 y3 y4
            clear hb1
            have hgc : ∀ j, j < n * 5 → w2.cell? ⟨g, j, none⟩ = (encE L)[j]? := fun j hj => (World.cell?_of_block (a := ⟨g, j, none⟩) (HBW.out.block g hgl)).trans (HCS.out j (by rw [HLN.out]; exact hj))
            have HSrc := Lib.hid (part_src hgc HLN.out hk).1
            have HLE : Hid ((encE (L.take k)).length = k * 5) := Lib.hid (by rw [encE_length, List.length_take, HLN.out, Nat.min_eq_left hk])
            have hsW := HBW.out.size
            have q1 : (k : Int) ≤ (c : Int) := by omega
            have q2 : (0 : Int) ≤ (k : Int) := by omega
            have q3 : k ≤ c := by omega
            have chk1 : 0 + k ≤ maxLen := by unfold maxLen; omega
            have chk2 : (0 + k) * 48 ≤ 140737488355328 := by omega
            clear hgc
            go_wp2_with (at_builtin; refine wpList_append_opt rfl _ _ 25 rfl w.heap.size 24 i0 _ 5 48 Try.underlying25 hi0 hz0 hz1 hz2 rfl (by decide) _ 0 [] rfl own_none (some ⟨g, 0, none⟩) k c (encE (L.take k)) rfl (fun h => by cases h) HLE.out HSrc.out encE_mem_one chk1 chk2 hsW ?_)
            intro v1 w4 hown4 hg4
            have hown4 : w4.ownsRow w.heap.size 24 5 v1 k (encE (L.take k)) := by simpa using hown4
            have hb4 : Below w2.heap.size w2 w4 := ⟨hg4.os, hg4.tape, hg4.output, hg4.size, fun j hj => hg4.block j hj (by simp [Value.ownBlock])⟩
            have HB4 := Lib.hid (HBW.out.trans (hb4.mono hsW))
            have hez4 := (hb4.block w.heap.size (Array.getElem?_eq_some_iff.1 hezW).1).trans hezW
            obtain ⟨p1, c1, rfl, _, _, _⟩ := own_rd hown4
            have HO4 := Lib.hid hown4
            have HEZ4 := Lib.hid hez4
            have hzl4 : w.heap.size < w4.heap.size := (Array.getElem?_eq_some_iff.1 hez4).1
            have hgl4 : g < w4.heap.size := Nat.lt_of_lt_of_le hgl HB4.out.size
            clear hown4 hg4 hb4
            have hxc : ∀ j, j < 5 → w4.cell? ⟨g, k * 5 + j, none⟩ = x.cells[j]? := fun j hj => by
              rw [World.cell?_of_block (a := ⟨g, k * 5 + j, none⟩) (HB4.out.block g hgl), HCS.out _ (by rw [HLN.out]; omega)]
              exact encE_get L k x HX.out j hj
            have HK4 : Hid (∀ W, Below w4.heap.size w4 W → (fun W => W.cell? ⟨g, k * 5, none⟩ = some (.int .i64 x.v) ∧ W.cell? ⟨g, k * 5 + 1, none⟩ = some (.string x.c) ∧ W.cell? ⟨g, k * 5 + 2, none⟩ = some (.int .i64 x.i) ∧ W.cell? ⟨g, k * 5 + 3, none⟩ = some (.int .i64 x.s) ∧ W.cell? ⟨g, k * 5 + 4, none⟩ = some (.bool x.d) ∧ W.cell? ⟨w.heap.size, 0, none⟩ = some (.int .i64 e.v) ∧ W.cell? ⟨w.heap.size, 1, none⟩ = some (.string e.c) ∧ W.cell? ⟨w.heap.size, 2, none⟩ = some (.int .i64 e.i) ∧ W.cell? ⟨w.heap.size, 3, none⟩ = some (.int .i64 e.s) ∧ W.cell? ⟨w.heap.size, 4, none⟩ = some (.bool e.d)) W) := Lib.hid (fun W hW => by
              have q := hW.block g hgl4
              have q2 := eBlk_cells ((hW.block _ hzl4).trans HEZ4.out)
              exact ⟨(World.cell?_of_block q).trans (hxc 0 (by decide)), (World.cell?_of_block q).trans (hxc 1 (by decide)), (World.cell?_of_block q).trans (hxc 2 (by decide)), (World.cell?_of_block q).trans (hxc 3 (by decide)), (World.cell?_of_block q).trans (hxc 4 (by decide)), q2⟩)
            obtain ⟨x0, x1, x2, x3, x4, y0, y1, y2, y3, y4⟩ := HK4.out w4 (Below.refl _ _)
            clear hxc
            have hkn1 : ((k : Int) == (n : Int)) = false := by simp; omega
            have hkn2 : (k == n) = false := by simp; omega
            have hkn3 : ¬ ((k : Int) = (n : Int)) := by omega
            have hkn4 : ¬ (k = n) := by omega
            go_wp2
            go_region_held3 (fun W => W.cell? ⟨g, k * 5, none⟩ = some (.int .i64 x.v) ∧ W.cell? ⟨g, k * 5 + 1, none⟩ = some (.string x.c) ∧ W.cell? ⟨g, k * 5 + 2, none⟩ = some (.int .i64 x.i) ∧ W.cell? ⟨g, k * 5 + 3, none⟩ = some (.int .i64 x.s) ∧ W.cell? ⟨g, k * 5 + 4, none⟩ = some (.bool x.d) ∧ W.cell? ⟨w.heap.size, 0, none⟩ = some (.int .i64 e.v) ∧ W.cell? ⟨w.heap.size, 1, none⟩ = some (.string e.c) ∧ W.cell? ⟨w.heap.size, 2, none⟩ = some (.int .i64 e.i) ∧ W.cell? ⟨w.heap.size, 3, none⟩ = some (.int .i64 e.s) ∧ W.cell? ⟨w.heap.size, 4, none⟩ = some (.bool e.d)) (first | exact ⟨x0, x1, x2, x3, x4, y0, y1, y2, y3, y4⟩ | exact HK4.out _ (below_of_drew hb5)) (first | (go_at_call 11; refine (HCM.out _).mono ?_; rintro e' w5 ⟨rfl, hb5⟩))
            have HB45 := Lib.hid (below_of_drew hb5)
            clear hb5
            have HB5 := Lib.hid (HB4.out.trans (HB45.out.mono HB4.out.size))
            have HEZ5 := Lib.hid ((HB45.out.block _ hzl4).trans HEZ4.out)
            have HO5 := Lib.hid (own_belowAll HO4.out HB45.out)
            clear x0 x1 x2 x3 x4 y0 y1 y2 y3 y4
            obtain ⟨x0, x1, x2, x3, x4, y0, y1, y2, y3, y4⟩ := HK4.out w5 HB45.out
            go_wp2
            go_quiet (fail)
            obtain ⟨W6, hW6⟩ : ∃ WZ : World, w5.drewN nq = WZ := ⟨_, rfl⟩
            rw [hW6]
            have HDW6 := Lib.hid (show Below w5.heap.size w5 W6 by rw [← hW6]; exact drewN_below _ _ _)
            clear hW6
            have HBX := Lib.hid (HB5.out.trans (HDW6.out.mono HB5.out.size))
            have HO1 := Lib.hid (own_belowAll HO5.out HDW6.out)
            clear x0 x1 x2 x3 x4 y0 y1 y2 y3 y4
            obtain ⟨x0, x1, x2, x3, x4, y0, y1, y2, y3, y4⟩ := HK4.out W6 (HB45.out.trans (HDW6.out.mono HB45.out.size))
            have hva := HO1.out.alloc (.cells #[.int .i64 e.v, .string e.c, .int .i64 e.i, .int .i64 e.s, .bool e.d] 24)
            have hnews := World.news_of_block (cs := #[.int .i64 e.v, .string e.c, .int .i64 e.i, .int .i64 e.s, .bool e.d]) (t := 24) (fr := (0, 0)) (heap_alloc_new W6 (.cells #[.int .i64 e.v, .string e.c, .int .i64 e.i, .int .i64 e.s, .bool e.d] 24))
            have chk5 : k + 1 ≤ maxLen := by unfold maxLen; omega
            have chk6 : (k + 1) * 48 ≤ 140737488355328 := by omega
            have hsz1 := HBX.out.size
            have chk7 : w.heap.size ≤ (W6.alloc (.cells #[.int .i64 e.v, .string e.c, .int .i64 e.i, .int .i64 e.s, .bool e.d] 24)).heap.size := by simp; omega
            go_wp2_with (at_builtin; refine wpList_append_lies _ rfl _ _ _ rfl w.heap.size 24 i0 _ 5 48 Try.underlying25 hi0 hz0 hz1 hz2 rfl (by decide) (.slice p1 k c1) k _ rfl hva ⟨W6.heap.size, 0, none⟩ 1 1 e.cells rfl rfl hnews chk8 (by decide) chk5 chk6 chk7 (W6.heap.size + 1) (by simp) ?_)
            intro g2 cap2 w7 hown7 hgrow7 hat7 hlt7
            have hb7 : Below w.heap.size W6 w7 := ⟨hgrow7.os, hgrow7.tape, hgrow7.output, by have := hgrow7.size; simp at this; omega, fun j hj => (hgrow7.block j (by simp; omega) (fun e' => by have := (HO1.out.lt j e'.symm).1; omega)).trans (Below.heap_alloc _ _ _ (by omega))⟩
            have HB7 := Lib.hid (HBX.out.trans hb7)
            have hs7 := HB7.out.size
            have HO7 := Lib.hid hown7
            have hlo7 : g2 ≥ w.heap.size := (hown7.lt g2 rfl).1
            have hcap7 := own_cap hown7
            clear hown7 hgrow7 hat7 hlt7 hva hnews hb7
            by_cases hn1 : n = k + 1
            · subst hn1
              have HF : Hid (∀ b, RPutPost w base L e (.returned (.tuple #[.slice (some ⟨g2, 0, none⟩) (k + 1) cap2, .bool b])) w7) := Lib.hid (fun b => rput_fin (k := k) (k2 := k + 1) (m := k + 1) HLN.out (by omega) (by omega) HRR.out hbw HB7.out (by omega) (by rw [List.drop_eq_nil_of_le (by rw [HLN.out]; omega), encE_nil, List.append_nil]; exact HO7.out))
              by_cases hkc : c = k + 1
              · subst hkc
                go_wp2
                go_ret2
                exact HF.out _
              · have hkc2 : ¬ (c ≤ k + 1) := by omega
                have hkc3 : ¬ (c = k + 1) := by omega
                go_wp2
                go_ret2
                exact HF.out _
            · skip
              have HW7 : ∀ j, j < n * 5 → w7.cell? ⟨g, j, none⟩ = (encE L)[j]? := fun j hj => (World.cell?_of_block (a := ⟨g, j, none⟩) (HB7.out.block g hgl)).trans (HCS.out j (by rw [HLN.out]; exact hj))
              have HSrc2 := Lib.hid (part_src HW7 HLN.out (k := k + 1) (by omega)).2
              have HLE2 : Hid ((encE (L.drop (k + 1))).length = (n - (k + 1)) * 5) := Lib.hid (by rw [encE_length, List.length_drop, HLN.out])
              have chkA : k + 1 + (n - (k + 1)) ≤ maxLen := by unfold maxLen; omega
              have chkB : (k + 1 + (n - (k + 1))) * 48 ≤ 140737488355328 := by omega
              have hkc2 : ¬ (c ≤ k + 1) := by omega
              have hkc3 : ¬ (c = k + 1) := by omega
              clear HW7
              go_wp2_with (at_builtin; refine wpList_append_opt rfl _ _ 25 rfl w.heap.size 24 i0 _ 5 48 Try.underlying25 hi0 hz0 hz1 hz2 rfl (by decide) _ (k + 1) _ rfl HO7.out (some ⟨g, (k + 1) * 5, none⟩) (n - (k + 1)) _ (encE (L.drop (k + 1))) rfl (fun h => by cases h) HLE2.out HSrc2.out encE_mem_one chkA chkB hs7 ?_)
              intro v8 w8 hown8 hg8
              have HF : Hid (∀ b, RPutPost w base L e (.returned (.tuple #[v8, .bool b])) w8) := Lib.hid (fun b => rput_fin (k := k) (k2 := k + 1) HLN.out (by omega) (by omega) HRR.out hbw (HB7.out.trans (⟨hg8.os, hg8.tape, hg8.output, hg8.size, fun j hj => hg8.block j (by omega) (fun e' => by have : g2 = j := (Option.some.inj e').symm; omega)⟩ : Below w.heap.size w7 w8)) rfl (by first | exact hown8 | (rw [← List.append_assoc]; exact hown8)))
              clear hown8 hg8
              go_wp2
              go_ret2
              exact HF.out _
          · have HRR : Hid (rput L e = L) := Lib.hid (rput_same (by rw [hah]; exact HX.out) hlx hxs)
            clear CC hlx hah
            go_wp2
            go_region_held3 (fun W => W.cell? ⟨g, k * 5, none⟩ = some (.int .i64 x.v) ∧ W.cell? ⟨g, k * 5 + 1, none⟩ = some (.string x.c) ∧ W.cell? ⟨g, k * 5 + 2, none⟩ = some (.int .i64 x.i) ∧ W.cell? ⟨g, k * 5 + 3, none⟩ = some (.int .i64 x.s) ∧ W.cell? ⟨g, k * 5 + 4, none⟩ = some (.bool x.d) ∧ W.cell? ⟨w.heap.size, 0, none⟩ = some (.int .i64 e.v) ∧ W.cell? ⟨w.heap.size, 1, none⟩ = some (.string e.c) ∧ W.cell? ⟨w.heap.size, 2, none⟩ = some (.int .i64 e.i) ∧ W.cell? ⟨w.heap.size, 3, none⟩ = some (.int .i64 e.s) ∧ W.cell? ⟨w.heap.size, 4, none⟩ = some (.bool e.d)) (first | exact ⟨x0, x1, x2, x3, x4, y0, y1, y2, y3, y4⟩ | exact HK1.out _ (below_of_drew hb1)) (first | (go_at_call 11; refine (HCM.out _).mono ?_; rintro e' w2 ⟨rfl, hb1⟩))
            have HBW := Lib.hid (HBwr.out.trans ((below_of_drew hb1).mono HBwr.out.size))
            have hezW := ((below_of_drew hb1).block _ hzlr).trans HEZr.out
            clear x0 x1 x2 x3 x4 y0 y1 y2 y3 y4
            clear hb1
            have hgc : ∀ j, j < n * 5 → w2.cell? ⟨g, j, none⟩ = (encE L)[j]? := fun j hj => (World.cell?_of_block (a := ⟨g, j, none⟩) (HBW.out.block g hgl)).trans (HCS.out j (by rw [HLN.out]; exact hj))
            have HSrc := Lib.hid (part_src hgc HLN.out hk).1
            have HLE : Hid ((encE (L.take k)).length = k * 5) := Lib.hid (by rw [encE_length, List.length_take, HLN.out, Nat.min_eq_left hk])
            have hsW := HBW.out.size
            have q1 : (k : Int) ≤ (c : Int) := by omega
            have q2 : (0 : Int) ≤ (k : Int) := by omega
            have q3 : k ≤ c := by omega
            have chk1 : 0 + k ≤ maxLen := by unfold maxLen; omega
            have chk2 : (0 + k) * 48 ≤ 140737488355328 := by omega
            clear hgc
            go_wp2_with (at_builtin; refine wpList_append_opt rfl _ _ 25 rfl w.heap.size 24 i0 _ 5 48 Try.underlying25 hi0 hz0 hz1 hz2 rfl (by decide) _ 0 [] rfl own_none (some ⟨g, 0, none⟩) k c (encE (L.take k)) rfl (fun h => by cases h) HLE.out HSrc.out encE_mem_one chk1 chk2 hsW ?_)
            intro v1 w4 hown4 hg4
            have hown4 : w4.ownsRow w.heap.size 24 5 v1 k (encE (L.take k)) := by simpa using hown4
            have hb4 : Below w2.heap.size w2 w4 := ⟨hg4.os, hg4.tape, hg4.output, hg4.size, fun j hj => hg4.block j hj (by simp [Value.ownBlock])⟩
            have HB4 := Lib.hid (HBW.out.trans (hb4.mono hsW))
            have hez4 := (hb4.block w.heap.size (Array.getElem?_eq_some_iff.1 hezW).1).trans hezW
            obtain ⟨p1, c1, rfl, _, _, _⟩ := own_rd hown4
            have HO4 := Lib.hid hown4
            have HEZ4 := Lib.hid hez4
            have hzl4 : w.heap.size < w4.heap.size := (Array.getElem?_eq_some_iff.1 hez4).1
            have hgl4 : g < w4.heap.size := Nat.lt_of_lt_of_le hgl HB4.out.size
            clear hown4 hg4 hb4
            have hxc : ∀ j, j < 5 → w4.cell? ⟨g, k * 5 + j, none⟩ = x.cells[j]? := fun j hj => by
              rw [World.cell?_of_block (a := ⟨g, k * 5 + j, none⟩) (HB4.out.block g hgl), HCS.out _ (by rw [HLN.out]; omega)]
              exact encE_get L k x HX.out j hj
            have HK4 : Hid (∀ W, Below w4.heap.size w4 W → (fun W => W.cell? ⟨g, k * 5, none⟩ = some (.int .i64 x.v) ∧ W.cell? ⟨g, k * 5 + 1, none⟩ = some (.string x.c) ∧ W.cell? ⟨g, k * 5 + 2, none⟩ = some (.int .i64 x.i) ∧ W.cell? ⟨g, k * 5 + 3, none⟩ = some (.int .i64 x.s) ∧ W.cell? ⟨g, k * 5 + 4, none⟩ = some (.bool x.d) ∧ W.cell? ⟨w.heap.size, 0, none⟩ = some (.int .i64 e.v) ∧ W.cell? ⟨w.heap.size, 1, none⟩ = some (.string e.c) ∧ W.cell? ⟨w.heap.size, 2, none⟩ = some (.int .i64 e.i) ∧ W.cell? ⟨w.heap.size, 3, none⟩ = some (.int .i64 e.s) ∧ W.cell? ⟨w.heap.size, 4, none⟩ = some (.bool e.d)) W) := Lib.hid (fun W hW => by
              have q := hW.block g hgl4
              have q2 := eBlk_cells ((hW.block _ hzl4).trans HEZ4.out)
              exact ⟨(World.cell?_of_block q).trans (hxc 0 (by decide)), (World.cell?_of_block q).trans (hxc 1 (by decide)), (World.cell?_of_block q).trans (hxc 2 (by decide)), (World.cell?_of_block q).trans (hxc 3 (by decide)), (World.cell?_of_block q).trans (hxc 4 (by decide)), q2⟩)
            obtain ⟨x0, x1, x2, x3, x4, y0, y1, y2, y3, y4⟩ := HK4.out w4 (Below.refl _ _)
            clear hxc
            have hkn1 : ((k : Int) == (n : Int)) = false := by simp; omega
            have hkn2 : (k == n) = false := by simp; omega
            have hkn3 : ¬ ((k : Int) = (n : Int)) := by omega
            have hkn4 : ¬ (k = n) := by omega
            go_wp2
            go_region_held3 (fun W => W.cell? ⟨g, k * 5, none⟩ = some (.int .i64 x.v) ∧ W.cell? ⟨g, k * 5 + 1, none⟩ = some (.string x.c) ∧ W.cell? ⟨g, k * 5 + 2, none⟩ = some (.int .i64 x.i) ∧ W.cell? ⟨g, k * 5 + 3, none⟩ = some (.int .i64 x.s) ∧ W.cell? ⟨g, k * 5 + 4, none⟩ = some (.bool x.d) ∧ W.cell? ⟨w.heap.size, 0, none⟩ = some (.int .i64 e.v) ∧ W.cell? ⟨w.heap.size, 1, none⟩ = some (.string e.c) ∧ W.cell? ⟨w.heap.size, 2, none⟩ = some (.int .i64 e.i) ∧ W.cell? ⟨w.heap.size, 3, none⟩ = some (.int .i64 e.s) ∧ W.cell? ⟨w.heap.size, 4, none⟩ = some (.bool e.d)) (first | exact ⟨x0, x1, x2, x3, x4, y0, y1, y2, y3, y4⟩ | exact HK4.out _ (below_of_drew hb5)) (first | (go_at_call 11; refine (HCM.out _).mono ?_; rintro e' w5 ⟨rfl, hb5⟩))
            have HB45 := Lib.hid (below_of_drew hb5)
            clear hb5
            have HB5 := Lib.hid (HB4.out.trans (HB45.out.mono HB4.out.size))
            have HEZ5 := Lib.hid ((HB45.out.block _ hzl4).trans HEZ4.out)
            have HO5 := Lib.hid (own_belowAll HO4.out HB45.out)
            clear x0 x1 x2 x3 x4 y0 y1 y2 y3 y4
            obtain ⟨x0, x1, x2, x3, x4, y0, y1, y2, y3, y4⟩ := HK4.out w5 HB45.out
            go_wp2
            go_quiet (fail)
            obtain ⟨W6, hW6⟩ : ∃ WZ : World, w5.drewN nq = WZ := ⟨_, rfl⟩
            rw [hW6]
            have HDW6 := Lib.hid (show Below w5.heap.size w5 W6 by rw [← hW6]; exact drewN_below _ _ _)
            clear hW6
            clear x0 x1 x2 x3 x4 y0 y1 y2 y3 y4
            obtain ⟨x0, x1, x2, x3, x4, y0, y1, y2, y3, y4⟩ := HK4.out W6 (HB45.out.trans (HDW6.out.mono HB45.out.size))
            go_wp2
            go_quiet (fail)
            obtain ⟨W8, hW8⟩ : ∃ WZ : World, W6.drewN nq = WZ := ⟨_, rfl⟩
            rw [hW8]
            have HDW8 := Lib.hid (show Below W6.heap.size W6 W8 by rw [← hW8]; exact drewN_below _ _ _)
            clear hW8
            have hB8 := HB5.out.trans ((HDW6.out.trans (HDW8.out.mono HDW6.out.size)).mono HB5.out.size)
            go_wp2
            go_ret2
            refine ⟨hB8, _, _, rfl, ?_⟩
            rw [HRR.out, HLN.out]
            have := own_belowAll HV.out hB8
            rw [HLN.out] at this
            exact this
        · have hah : ahead L e = k := ahead_eq HZ.out (by rw [HLN.out]; exact hk) (fun y hy => by rw [HX.out] at hy; cases hy; exact eless_asymm hlx)
          have HRR : Hid (rput L e = L.take k ++ [e] ++ L.drop k) := Lib.hid (by rw [← hah]; exact rput_ins (fun z hz => by rw [hah, HX.out] at hz; cases hz; exact fun h => eless_not_eat hlx (eat_symm h)))
          rw [cmpE_gt hlx] at CC
          have HCM := Lib.hid CC
          clear CC hlx hah
          go_wp2
          go_region_held3 (fun W => W.cell? ⟨g, k * 5, none⟩ = some (.int .i64 x.v) ∧ W.cell? ⟨g, k * 5 + 1, none⟩ = some (.string x.c) ∧ W.cell? ⟨g, k * 5 + 2, none⟩ = some (.int .i64 x.i) ∧ W.cell? ⟨g, k * 5 + 3, none⟩ = some (.int .i64 x.s) ∧ W.cell? ⟨g, k * 5 + 4, none⟩ = some (.bool x.d) ∧ W.cell? ⟨w.heap.size, 0, none⟩ = some (.int .i64 e.v) ∧ W.cell? ⟨w.heap.size, 1, none⟩ = some (.string e.c) ∧ W.cell? ⟨w.heap.size, 2, none⟩ = some (.int .i64 e.i) ∧ W.cell? ⟨w.heap.size, 3, none⟩ = some (.int .i64 e.s) ∧ W.cell? ⟨w.heap.size, 4, none⟩ = some (.bool e.d)) (first | exact ⟨x0, x1, x2, x3, x4, y0, y1, y2, y3, y4⟩ | exact HK1.out _ (below_of_drew hb1)) (first | (go_at_call 11; refine (HCM.out _).mono ?_; rintro e' w2 ⟨rfl, hb1⟩))
          have HBW := Lib.hid (HBwr.out.trans ((below_of_drew hb1).mono HBwr.out.size))
          have hezW := ((below_of_drew hb1).block _ hzlr).trans HEZr.out
          clear x0 x1 x2 x3 x4 y0 y1 y2 y3 y4
          clear hb1
          have hgc : ∀ j, j < n * 5 → w2.cell? ⟨g, j, none⟩ = (encE L)[j]? := fun j hj => (World.cell?_of_block (a := ⟨g, j, none⟩) (HBW.out.block g hgl)).trans (HCS.out j (by rw [HLN.out]; exact hj))
          have HSrc := Lib.hid (part_src hgc HLN.out hk).1
          have HLE : Hid ((encE (L.take k)).length = k * 5) := Lib.hid (by rw [encE_length, List.length_take, HLN.out, Nat.min_eq_left hk])
          have hsW := HBW.out.size
          have q1 : (k : Int) ≤ (c : Int) := by omega
          have q2 : (0 : Int) ≤ (k : Int) := by omega
          have q3 : k ≤ c := by omega
          have chk1 : 0 + k ≤ maxLen := by unfold maxLen; omega
          have chk2 : (0 + k) * 48 ≤ 140737488355328 := by omega
          clear hgc
          go_wp2_with (at_builtin; refine wpList_append_opt rfl _ _ 25 rfl w.heap.size 24 i0 _ 5 48 Try.underlying25 hi0 hz0 hz1 hz2 rfl (by decide) _ 0 [] rfl own_none (some ⟨g, 0, none⟩) k c (encE (L.take k)) rfl (fun h => by cases h) HLE.out HSrc.out encE_mem_one chk1 chk2 hsW ?_)
          intro v1 w4 hown4 hg4
          have hown4 : w4.ownsRow w.heap.size 24 5 v1 k (encE (L.take k)) := by simpa using hown4
          have hb4 : Below w2.heap.size w2 w4 := ⟨hg4.os, hg4.tape, hg4.output, hg4.size, fun j hj => hg4.block j hj (by simp [Value.ownBlock])⟩
          have HB4 := Lib.hid (HBW.out.trans (hb4.mono hsW))
          have hez4 := (hb4.block w.heap.size (Array.getElem?_eq_some_iff.1 hezW).1).trans hezW
          obtain ⟨p1, c1, rfl, _, _, _⟩ := own_rd hown4
          have HO4 := Lib.hid hown4
          have HEZ4 := Lib.hid hez4
          have hzl4 : w.heap.size < w4.heap.size := (Array.getElem?_eq_some_iff.1 hez4).1
          have hgl4 : g < w4.heap.size := Nat.lt_of_lt_of_le hgl HB4.out.size
          clear hown4 hg4 hb4
          have hxc : ∀ j, j < 5 → w4.cell? ⟨g, k * 5 + j, none⟩ = x.cells[j]? := fun j hj => by
            rw [World.cell?_of_block (a := ⟨g, k * 5 + j, none⟩) (HB4.out.block g hgl), HCS.out _ (by rw [HLN.out]; omega)]
            exact encE_get L k x HX.out j hj
          have HK4 : Hid (∀ W, Below w4.heap.size w4 W → (fun W => W.cell? ⟨g, k * 5, none⟩ = some (.int .i64 x.v) ∧ W.cell? ⟨g, k * 5 + 1, none⟩ = some (.string x.c) ∧ W.cell? ⟨g, k * 5 + 2, none⟩ = some (.int .i64 x.i) ∧ W.cell? ⟨g, k * 5 + 3, none⟩ = some (.int .i64 x.s) ∧ W.cell? ⟨g, k * 5 + 4, none⟩ = some (.bool x.d) ∧ W.cell? ⟨w.heap.size, 0, none⟩ = some (.int .i64 e.v) ∧ W.cell? ⟨w.heap.size, 1, none⟩ = some (.string e.c) ∧ W.cell? ⟨w.heap.size, 2, none⟩ = some (.int .i64 e.i) ∧ W.cell? ⟨w.heap.size, 3, none⟩ = some (.int .i64 e.s) ∧ W.cell? ⟨w.heap.size, 4, none⟩ = some (.bool e.d)) W) := Lib.hid (fun W hW => by
            have q := hW.block g hgl4
            have q2 := eBlk_cells ((hW.block _ hzl4).trans HEZ4.out)
            exact ⟨(World.cell?_of_block q).trans (hxc 0 (by decide)), (World.cell?_of_block q).trans (hxc 1 (by decide)), (World.cell?_of_block q).trans (hxc 2 (by decide)), (World.cell?_of_block q).trans (hxc 3 (by decide)), (World.cell?_of_block q).trans (hxc 4 (by decide)), q2⟩)
          obtain ⟨x0, x1, x2, x3, x4, y0, y1, y2, y3, y4⟩ := HK4.out w4 (Below.refl _ _)
          clear hxc
          have hkn1 : ((k : Int) == (n : Int)) = false := by simp; omega
          have hkn2 : (k == n) = false := by simp; omega
          have hkn3 : ¬ ((k : Int) = (n : Int)) := by omega
          have hkn4 : ¬ (k = n) := by omega
          go_wp2
          go_region_held3 (fun W => W.cell? ⟨g, k * 5, none⟩ = some (.int .i64 x.v) ∧ W.cell? ⟨g, k * 5 + 1, none⟩ = some (.string x.c) ∧ W.cell? ⟨g, k * 5 + 2, none⟩ = some (.int .i64 x.i) ∧ W.cell? ⟨g, k * 5 + 3, none⟩ = some (.int .i64 x.s) ∧ W.cell? ⟨g, k * 5 + 4, none⟩ = some (.bool x.d) ∧ W.cell? ⟨w.heap.size, 0, none⟩ = some (.int .i64 e.v) ∧ W.cell? ⟨w.heap.size, 1, none⟩ = some (.string e.c) ∧ W.cell? ⟨w.heap.size, 2, none⟩ = some (.int .i64 e.i) ∧ W.cell? ⟨w.heap.size, 3, none⟩ = some (.int .i64 e.s) ∧ W.cell? ⟨w.heap.size, 4, none⟩ = some (.bool e.d)) (first | exact ⟨x0, x1, x2, x3, x4, y0, y1, y2, y3, y4⟩ | exact HK4.out _ (below_of_drew hb5)) (first | (go_at_call 11; refine (HCM.out _).mono ?_; rintro e' w5 ⟨rfl, hb5⟩))
          have HB45 := Lib.hid (below_of_drew hb5)
          clear hb5
          have HB5 := Lib.hid (HB4.out.trans (HB45.out.mono HB4.out.size))
          have HEZ5 := Lib.hid ((HB45.out.block _ hzl4).trans HEZ4.out)
          have HO5 := Lib.hid (own_belowAll HO4.out HB45.out)
          clear x0 x1 x2 x3 x4 y0 y1 y2 y3 y4
          obtain ⟨x0, x1, x2, x3, x4, y0, y1, y2, y3, y4⟩ := HK4.out w5 HB45.out
          have HBX := HB5
          have HO1 := HO5
          have hva := HO1.out.alloc (.cells #[.int .i64 e.v, .string e.c, .int .i64 e.i, .int .i64 e.s, .bool e.d] 24)
          have hnews := World.news_of_block (cs := #[.int .i64 e.v, .string e.c, .int .i64 e.i, .int .i64 e.s, .bool e.d]) (t := 24) (fr := (0, 0)) (heap_alloc_new w5 (.cells #[.int .i64 e.v, .string e.c, .int .i64 e.i, .int .i64 e.s, .bool e.d] 24))
          have chk5 : k + 1 ≤ maxLen := by unfold maxLen; omega
          have chk6 : (k + 1) * 48 ≤ 140737488355328 := by omega
          have hsz1 := HBX.out.size
          have chk7 : w.heap.size ≤ (w5.alloc (.cells #[.int .i64 e.v, .string e.c, .int .i64 e.i, .int .i64 e.s, .bool e.d] 24)).heap.size := by simp; omega
          go_wp2_with (at_builtin; refine wpList_append_lies _ rfl _ _ _ rfl w.heap.size 24 i0 _ 5 48 Try.underlying25 hi0 hz0 hz1 hz2 rfl (by decide) (.slice p1 k c1) k _ rfl hva ⟨w5.heap.size, 0, none⟩ 1 1 e.cells rfl rfl hnews chk8 (by decide) chk5 chk6 chk7 (w5.heap.size + 1) (by simp) ?_)
          intro g2 cap2 w7 hown7 hgrow7 hat7 hlt7
          have hb7 : Below w.heap.size w5 w7 := ⟨hgrow7.os, hgrow7.tape, hgrow7.output, by have := hgrow7.size; simp at this; omega, fun j hj => (hgrow7.block j (by simp; omega) (fun e' => by have := (HO1.out.lt j e'.symm).1; omega)).trans (Below.heap_alloc _ _ _ (by omega))⟩
          have HB7 := Lib.hid (HBX.out.trans hb7)
          have hs7 := HB7.out.size
          have HO7 := Lib.hid hown7
          have hlo7 : g2 ≥ w.heap.size := (hown7.lt g2 rfl).1
          have hcap7 := own_cap hown7
          clear hown7 hgrow7 hat7 hlt7 hva hnews hb7
          have HW7 : ∀ j, j < n * 5 → w7.cell? ⟨g, j, none⟩ = (encE L)[j]? := fun j hj => (World.cell?_of_block (a := ⟨g, j, none⟩) (HB7.out.block g hgl)).trans (HCS.out j (by rw [HLN.out]; exact hj))
          have HSrc2 := Lib.hid (part_src HW7 HLN.out (k := k) (by omega)).2
          have HLE2 : Hid ((encE (L.drop (k))).length = (n - (k)) * 5) := Lib.hid (by rw [encE_length, List.length_drop, HLN.out])
          have chkA : k + 1 + (n - (k)) ≤ maxLen := by unfold maxLen; omega
          have chkB : (k + 1 + (n - (k))) * 48 ≤ 140737488355328 := by omega
          have hkc2 : ¬ (c ≤ k) := by omega
          have hkc3 : ¬ (c = k) := by omega
          clear HW7
          go_wp2_with (at_builtin; refine wpList_append_opt rfl _ _ 25 rfl w.heap.size 24 i0 _ 5 48 Try.underlying25 hi0 hz0 hz1 hz2 rfl (by decide) _ (k + 1) _ rfl HO7.out (some ⟨g, (k) * 5, none⟩) (n - (k)) _ (encE (L.drop (k))) rfl (fun h => by cases h) HLE2.out HSrc2.out encE_mem_one chkA chkB hs7 ?_)
          intro v8 w8 hown8 hg8
          have HF : Hid (∀ b, RPutPost w base L e (.returned (.tuple #[v8, .bool b])) w8) := Lib.hid (fun b => rput_fin (k := k) (k2 := k) HLN.out (by omega) (by omega) HRR.out hbw (HB7.out.trans (⟨hg8.os, hg8.tape, hg8.output, hg8.size, fun j hj => hg8.block j (by omega) (fun e' => by have : g2 = j := (Option.some.inj e').symm; omega)⟩ : Below w.heap.size w7 w8)) rfl (by first | exact hown8 | (rw [← List.append_assoc]; exact hown8)))
          clear hown8 hg8
          go_wp2
          go_ret2
          exact HF.out _
      · obtain rfl : k = n := by omega
        have hah : ahead L e = k := ahead_eq HZ.out (by rw [HLN.out]; exact hk) (fun y hy => by
          have := (List.getElem?_eq_some_iff.1 hy).1
          rw [HLN.out] at this
          omega)
        have HRR : Hid (rput L e = L.take k ++ [e] ++ L.drop k) := Lib.hid (by
          rw [← hah]
          exact rput_ins (fun z hz => by have := (List.getElem?_eq_some_iff.1 hz).1; rw [HLN.out, hah] at this; omega))
        clear hah
        go_wp2
        go_quiet (fail)
        obtain ⟨W1, hW1⟩ : ∃ WZ : World, wr.drewN nq = WZ := ⟨_, rfl⟩
        rw [hW1]
        have HDW1 := Lib.hid (show Below wr.heap.size wr W1 by rw [← hW1]; exact drewN_below _ _ _)
        clear hW1
        have HBW := Lib.hid (HBwr.out.trans (HDW1.out.mono HBwr.out.size))
        have hezW := (HDW1.out.block _ hzlr).trans HEZr.out
        have hgc : ∀ j, j < k * 5 → W1.cell? ⟨g, j, none⟩ = (encE L)[j]? := fun j hj => (World.cell?_of_block (a := ⟨g, j, none⟩) (HBW.out.block g hgl)).trans (HCS.out j (by rw [HLN.out]; exact hj))
        have HSrc := Lib.hid (part_src hgc HLN.out hk).1
        have HLE : Hid ((encE (L.take k)).length = k * 5) := Lib.hid (by rw [encE_length, List.length_take, HLN.out, Nat.min_eq_left hk])
        have hsW := HBW.out.size
        have q1 : (k : Int) ≤ (c : Int) := by omega
        have q2 : (0 : Int) ≤ (k : Int) := by omega
        have q3 : k ≤ c := by omega
        have chk1 : 0 + k ≤ maxLen := by unfold maxLen; omega
        have chk2 : (0 + k) * 48 ≤ 140737488355328 := by omega
        clear hgc
        go_wp2_with (at_builtin; refine wpList_append_opt rfl _ _ 25 rfl w.heap.size 24 i0 _ 5 48 Try.underlying25 hi0 hz0 hz1 hz2 rfl (by decide) _ 0 [] rfl own_none (some ⟨g, 0, none⟩) k c (encE (L.take k)) rfl (fun h => by cases h) HLE.out HSrc.out encE_mem_one chk1 chk2 hsW ?_)
        intro v1 w4 hown4 hg4
        have hown4 : w4.ownsRow w.heap.size 24 5 v1 k (encE (L.take k)) := by simpa using hown4
        have hb4 : Below W1.heap.size W1 w4 := ⟨hg4.os, hg4.tape, hg4.output, hg4.size, fun j hj => hg4.block j hj (by simp [Value.ownBlock])⟩
        have HB4 := Lib.hid (HBW.out.trans (hb4.mono hsW))
        have hez4 := (hb4.block w.heap.size (Array.getElem?_eq_some_iff.1 hezW).1).trans hezW
        obtain ⟨p1, c1, rfl, _, _, _⟩ := own_rd hown4
        have HO4 := Lib.hid hown4
        have HEZ4 := Lib.hid hez4
        have hzl4 : w.heap.size < w4.heap.size := (Array.getElem?_eq_some_iff.1 hez4).1
        have hgl4 : g < w4.heap.size := Nat.lt_of_lt_of_le hgl HB4.out.size
        clear hown4 hg4 hb4
        go_wp2
        go_quiet (fail)
        obtain ⟨W5, hW5⟩ : ∃ WZ : World, w4.drewN nq = WZ := ⟨_, rfl⟩
        rw [hW5]
        have HDW5 := Lib.hid (show Below w4.heap.size w4 W5 by rw [← hW5]; exact drewN_below _ _ _)
        clear hW5
        have HBX := Lib.hid (HB4.out.trans (HDW5.out.mono HB4.out.size))
        have HO1 := Lib.hid (own_belowAll HO4.out HDW5.out)
        obtain ⟨u0, u1, u2, u3, u4⟩ := eBlk_cells ((HDW5.out.block _ hzl4).trans HEZ4.out)
        have hva := HO1.out.alloc (.cells #[.int .i64 e.v, .string e.c, .int .i64 e.i, .int .i64 e.s, .bool e.d] 24)
        have hnews := World.news_of_block (cs := #[.int .i64 e.v, .string e.c, .int .i64 e.i, .int .i64 e.s, .bool e.d]) (t := 24) (fr := (0, 0)) (heap_alloc_new W5 (.cells #[.int .i64 e.v, .string e.c, .int .i64 e.i, .int .i64 e.s, .bool e.d] 24))
        have chk5 : k + 1 ≤ maxLen := by unfold maxLen; omega
        have chk6 : (k + 1) * 48 ≤ 140737488355328 := by omega
        have hsz1 := HBX.out.size
        have chk7 : w.heap.size ≤ (W5.alloc (.cells #[.int .i64 e.v, .string e.c, .int .i64 e.i, .int .i64 e.s, .bool e.d] 24)).heap.size := by simp; omega
        go_wp2_with (at_builtin; refine wpList_append_lies _ rfl _ _ _ rfl w.heap.size 24 i0 _ 5 48 Try.underlying25 hi0 hz0 hz1 hz2 rfl (by decide) (.slice p1 k c1) k _ rfl hva ⟨W5.heap.size, 0, none⟩ 1 1 e.cells rfl rfl hnews chk8 (by decide) chk5 chk6 chk7 (W5.heap.size + 1) (by simp) ?_)
        intro g2 cap2 w7 hown7 hgrow7 hat7 hlt7
        have hb7 : Below w.heap.size W5 w7 := ⟨hgrow7.os, hgrow7.tape, hgrow7.output, by have := hgrow7.size; simp at this; omega, fun j hj => (hgrow7.block j (by simp; omega) (fun e' => by have := (HO1.out.lt j e'.symm).1; omega)).trans (Below.heap_alloc _ _ _ (by omega))⟩
        have HB7 := Lib.hid (HBX.out.trans hb7)
        have hs7 := HB7.out.size
        have HO7 := Lib.hid hown7
        have hlo7 : g2 ≥ w.heap.size := (hown7.lt g2 rfl).1
        have hcap7 := own_cap hown7
        clear hown7 hgrow7 hat7 hlt7 hva hnews hb7
        have HF : Hid (∀ b, RPutPost w base L e (.returned (.tuple #[.slice (some ⟨g2, 0, none⟩) (k + 1) cap2, .bool b])) w7) := Lib.hid (fun b => rput_fin (k := k) (k2 := k) (m := k + 1) HLN.out (by omega) (by omega) HRR.out hbw HB7.out (by omega) (by rw [List.drop_eq_nil_of_le (by rw [HLN.out]; omega), encE_nil, List.append_nil]; exact HO7.out))
        by_cases hkc : c = k
        · subst hkc
          go_wp2
          go_ret2
          exact HF.out _
        · have hkc2 : ¬ (c ≤ k) := by omega
          have hkc3 : ¬ (c = k) := by omega
          go_wp2
          go_ret2
          exact HF.out _
end Go.Proofs.Ytahdaccmokjgpaa
