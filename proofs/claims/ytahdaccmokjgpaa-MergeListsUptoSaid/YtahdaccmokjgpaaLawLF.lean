/-
  WALK: entries of which no two have one place and one number (the law's own fresh).
-/
import Derived.Test.YtahdaccmokjgpaaLawLP
import Derived.StillTailTactics
namespace Go.Proofs.Ytahdaccmokjgpaa
open Go.RowKit ArgK
set_option linter.unusedVariables false

/-- Has one of them its place and number? -/
def tw (out : List Ent) (x : Ent) : Bool := out.any (fun y => decide (y.s = x.s) && decide (eat y x))

def freshF : List Ent → List Ent → List Ent
  | out, [] => out
  | out, x :: l => if out.length < 60 then (if tw out x then freshF out l else freshF (out ++ [x]) l) else out

theorem tw_snoc (out : List Ent) (y x : Ent) : tw (out ++ [y]) x = (tw out x || (decide (y.s = x.s) && decide (eat y x))) := by
  unfold tw
  rw [List.any_append]
  simp

theorem freshF_full {out l : List Ent} (h : ¬ out.length < 60) : freshF out l = out := by
  cases l with
  | nil => rfl
  | cons x l => rw [freshF, if_neg h]

/-- What fresh leaves. -/
def FreshPost (w : World) (R : List Ent) (e : Ending) (w' : World) : Prop := ∃ v, e = .returned v ∧ Below w.heap.size w w' ∧ w'.ownsRow w.heap.size 24 5 v R.length (encE R)

/-- At the head of each round. -/
def FrRel (w : World) (all R : List Ent) (k : Nat) (ov : Value) (wr : World) : Prop :=
  ∃ out, k ≤ all.length ∧ out.length ≤ 60 ∧ wr.ownsRow w.heap.size 24 5 ov out.length (encE out) ∧ freshF out (all.drop k) = R ∧ Below w.heap.size w wr

theorem take_getE {L : List Ent} {k : Nat} {x : Ent} (h : L[k]? = some x) : L.take (k + 1) = L.take k ++ [x] := by
  rw [List.take_add_one, h]
  rfl

set_option maxRecDepth 100000 in
set_option maxHeartbeats 2000000 in
theorem fresh_calls {w : World} {v : Value} {all : List Ent} (hv : ESl w v all) (hn : all.length ≤ 4398046511104) :
    Calls Try.prog 26 #[v] w (FreshPost w (freshF [] all)) := by
  obtain ⟨i0, hi0, hz0, hz1, hz2⟩ := info_parts entinfo
  obtain ⟨p, c, rfl, hp⟩ := hv
  obtain ⟨n, hln⟩ : ∃ n, all.length = n := ⟨_, rfl⟩
  have HLN := Lib.hid hln
  have HP := Lib.hid hp
  obtain ⟨R, hR⟩ : ∃ R, freshF [] all = R := ⟨_, rfl⟩
  rw [hR]
  have H0 : Hid (FrRel w all R 0 (.slice none 0 0) w) := Lib.hid ⟨[], Nat.zero_le _, by simp, own_none, hR, Below.refl _ _⟩
  rw [hln] at hn ⊢
  clear hln hp hR
  go_enter Try.func26, Try.ntmps26
  go_wp2
  go_loopw [3, 4] (fun ov i wr => ∃ k : Nat, i = .int .i64 k ∧ FrRel w all R k ov wr) (fun _ i _ => n - (intOf i).toNat)
  case atStart => exact ⟨0, rfl, H0.out⟩
  case round =>
    obtain ⟨ov, rfl⟩ : ∃ ov : Value, ov = u3 := ⟨_, rfl⟩
    obtain ⟨k, rfl, out, hk, ho, hrow, hF, hbl⟩ := hrel
    obtain ⟨wo, rfl⟩ : ∃ wo : World, wo = wr := ⟨_, rfl⟩
    rw [HLN.out] at hk
    obtain ⟨po, co, rfl, _, _, hor⟩ := own_rd hrow
    have HEnd : Hid (freshF out (all.drop k) = out → ∀ W, Below wo.heap.size wo W → FreshPost w R (.returned (.slice po out.length co)) W) := Lib.hid (fun h W hW => ⟨_, rfl, hbl.trans (hW.mono hbl.size), by rw [← hF, h]; exact own_belowAll hrow hW⟩)
    obtain ⟨m, hm⟩ : ∃ m, out.length = m := ⟨_, rfl⟩
    by_cases hlt : k < n
    · by_cases h60 : m < 60
      · obtain ⟨x, hx⟩ : ∃ x, all[k]? = some x := ⟨_, List.getElem?_eq_getElem (by rw [HLN.out]; exact hlt)⟩
        have hd : all.drop k = x :: all.drop (k + 1) := by
          rw [List.drop_eq_getElem_cons (by rw [HLN.out]; exact hlt)]
          have := (List.getElem?_eq_some_iff.1 hx).2
          rw [this]
        obtain ⟨a, rfl, hc⟩ := HP.out k x hx
        have fx := Five.of hc
        have lx0 := fx.lt
        have HFX := Lib.hid fx
        have HRow := Lib.hid hrow
        have HOR := Lib.hid hor
        have HBL := Lib.hid hbl
        have HM := Lib.hid hm
        have hab : (a.add (k * 5)).block < w.heap.size := lx0
        have HFr : Hid (FrRel w all R (k + 1) (.slice po out.length co) wo → True) := Lib.hid (fun _ => trivial)
        have HSkip : Hid (tw out x = true → ∀ W, Below wo.heap.size wo W → FrRel w all R (k + 1) (.slice po m co) W) := Lib.hid (fun ht W hW => ⟨out, by rw [HLN.out]; omega, ho, by rw [hm]; have := own_belowAll hrow hW; rw [hm] at this; exact this, by rw [← hF, hd, freshF, if_pos (by rw [hm]; exact h60), if_pos ht], hbl.trans (hW.mono hbl.size)⟩)
        have HAdd : Hid (tw out x = false → ∀ W v', W.ownsRow w.heap.size 24 5 v' (m + 1) (encE out ++ x.cells) → Below w.heap.size w W → FrRel w all R (k + 1) v' W) := Lib.hid (fun ht W v' hW hB => ⟨out ++ [x], by rw [HLN.out]; omega, by rw [List.length_append, List.length_singleton, hm]; omega, by rw [List.length_append, List.length_singleton, hm, encE_snoc]; exact hW, by rw [← hF, hd, freshF, if_pos (by rw [hm]; exact h60), if_neg (by simp [ht])], hB⟩)
        have h60d : decide ((m : Int) < 60) = true := by simp; omega
        have i0' : (0 : Int) ≤ (k : Int) := by omega
        have i1' : (k : Int) < (n : Int) := by omega
        rw [hm]
        clear hc fx hrow hor hF hbl ho hd hx HEnd
        go_wp2
        go_loopw [5, 6] (fun tb ji wr => ∃ j : Nat, j ≤ m ∧ ji = .int .i64 j ∧ tb = .bool (tw (out.take j) x) ∧ Below wo.heap.size wo wr) (fun _ ji _ => m - (intOf ji).toNat)
        case atStart => exact ⟨0, Nat.zero_le _, rfl, by simp [tw], Below.refl _ _⟩
        case round =>
          obtain ⟨j, hj, rfl, rfl, hbi⟩ := hrel
          have hsw := HBL.out.size
          by_cases hjm : j < m
          · obtain ⟨y, hy⟩ : ∃ y, out[j]? = some y := ⟨_, List.getElem?_eq_getElem (by rw [HM.out]; exact hjm)⟩
            obtain ⟨g, rfl, _, hgl, hgc, _⟩ := HOR.out (by rw [HM.out]; omega)
            have hyc : ∀ q, q < 5 → wr.cell? ⟨g, j * 5 + q, none⟩ = y.cells[q]? := fun q hq => by
              rw [World.cell?_of_block (a := ⟨g, j * 5 + q, none⟩) (hbi.block g hgl), hgc _ (by rw [HM.out]; omega)]
              exact encE_get out j y hy q hq
            have hfx := (HFX.out.below HBL.out hab).below hbi (Nat.lt_of_lt_of_le hab hsw)
            have HKeep : Hid (∀ W, Below wr.heap.size wr W → W.cell? ⟨g, j * 5, none⟩ = some (.int .i64 y.v) ∧ W.cell? ⟨g, j * 5 + 1, none⟩ = some (.string y.c) ∧ W.cell? ⟨g, j * 5 + 2, none⟩ = some (.int .i64 y.i) ∧ W.cell? ⟨g, j * 5 + 3, none⟩ = some (.int .i64 y.s) ∧ W.cell? ⟨g, j * 5 + 4, none⟩ = some (.bool y.d) ∧ W.cell? (a.add (k * 5)) = some (.int .i64 x.v) ∧ W.cell? ⟨(a.add (k * 5)).block, (a.add (k * 5)).off + 1, none⟩ = some (.string x.c) ∧ W.cell? ⟨(a.add (k * 5)).block, (a.add (k * 5)).off + 2, none⟩ = some (.int .i64 x.i) ∧ W.cell? ⟨(a.add (k * 5)).block, (a.add (k * 5)).off + 3, none⟩ = some (.int .i64 x.s) ∧ W.cell? ⟨(a.add (k * 5)).block, (a.add (k * 5)).off + 4, none⟩ = some (.bool x.d)) := Lib.hid (fun W hW => by
              have q := hW.block g (cell_lt (hyc 0 (by decide)))
              exact ⟨(World.cell?_of_block q).trans (hyc 0 (by decide)), (World.cell?_of_block q).trans (hyc 1 (by decide)), (World.cell?_of_block q).trans (hyc 2 (by decide)), (World.cell?_of_block q).trans (hyc 3 (by decide)), (World.cell?_of_block q).trans (hyc 4 (by decide)), hfx.below hW hfx.lt⟩)
            obtain ⟨y0, y1, y2, y3, y4, x0, x1, x2, x3, x4⟩ := HKeep.out wr (Below.refl _ _)
            have HCA : Hid (∀ W : World, Calls Try.prog 42 #[y.val, x.val] W fun e' w' => e' = .returned (.bool (decide (eat y x))) ∧ Below W.heap.size W w') := Lib.hid (fun W => at_calls y x W)
            unfold Ent.val at HCA
            have htk : tw (out.take (j + 1)) x = (tw (out.take j) x || (decide (y.s = x.s) && decide (eat y x))) := by rw [take_getE hy, tw_snoc]
            have HTK := Lib.hid htk
            have j0' : (0 : Int) ≤ (j : Int) := by omega
            have j1' : (j : Int) < (m : Int) := by omega
            have HBI := Lib.hid hbi
            clear hyc hgc hfx htk hbi hy
            obtain ⟨b, hb⟩ : ∃ b, tw (out.take j) x = b := ⟨_, rfl⟩
            rw [hb] at HTK ⊢
            clear hb
            cases b with
            | true =>
              go_wp2
              go_quiet (fail)
              go_wp2
              go_roundw
              case rel => exact ⟨j + 1, by omega, by go_num, by rw [HTK.out]; rfl, HBI.out.trans ((drewN_below _ _ _).mono HBI.out.size)⟩
              case measure => simp [intOf]; omega
            | false =>
              by_cases hs : y.s = x.s
              · have hsb : (y.s == x.s) = true := by simp [hs]
                rw [decide_eq_true hs] at HTK
                clear hs
                go_wp2
                go_region_held3 (fun W => W.cell? ⟨g, j * 5, none⟩ = some (.int .i64 y.v) ∧ W.cell? ⟨g, j * 5 + 1, none⟩ = some (.string y.c) ∧ W.cell? ⟨g, j * 5 + 2, none⟩ = some (.int .i64 y.i) ∧ W.cell? ⟨g, j * 5 + 3, none⟩ = some (.int .i64 y.s) ∧ W.cell? ⟨g, j * 5 + 4, none⟩ = some (.bool y.d) ∧ W.cell? (a.add (k * 5)) = some (.int .i64 x.v) ∧ W.cell? ⟨(a.add (k * 5)).block, (a.add (k * 5)).off + 1, none⟩ = some (.string x.c) ∧ W.cell? ⟨(a.add (k * 5)).block, (a.add (k * 5)).off + 2, none⟩ = some (.int .i64 x.i) ∧ W.cell? ⟨(a.add (k * 5)).block, (a.add (k * 5)).off + 3, none⟩ = some (.int .i64 x.s) ∧ W.cell? ⟨(a.add (k * 5)).block, (a.add (k * 5)).off + 4, none⟩ = some (.bool x.d)) (first | exact ⟨y0, y1, y2, y3, y4, x0, x1, x2, x3, x4⟩ | exact HKeep.out _ (below_of_drew hb1)) (first | (go_at_call 42; refine (HCA.out _).mono ?_; rintro e' w2 ⟨rfl, hb1⟩))
                have HB2 : Hid (Below wo.heap.size wo w2) := Lib.hid (HBI.out.trans ((below_of_drew hb1).mono HBI.out.size))
                clear hb1
                go_wp2
                go_roundw
                case rel => exact ⟨j + 1, by omega, by go_num, by rw [HTK.out]; rfl, HB2.out⟩
                case measure => simp [intOf]; omega
              · have hsb : (y.s == x.s) = false := by simp [hs]
                rw [decide_eq_false hs] at HTK
                clear hs
                go_wp2
                go_quiet (fail)
                go_wp2
                go_roundw
                case rel => exact ⟨j + 1, by omega, by go_num, by rw [HTK.out]; rfl, HBI.out.trans ((drewN_below _ _ _).mono HBI.out.size)⟩
                case measure => simp [intOf]; omega
          · obtain rfl : j = m := by omega
            have htk : out.take j = out := List.take_of_length_le (Nat.le_of_eq HM.out)
            rw [htk]
            have HBI := Lib.hid hbi
            have hsz2 := hbi.size
            have hfx := (HFX.out.below HBL.out hab).below hbi (Nat.lt_of_lt_of_le hab hsw)
            obtain ⟨x0, x1, x2, x3, x4⟩ := hfx
            have hlx := cell_lt x0
            clear htk hbi
            obtain ⟨b, hb⟩ : ∃ b, tw out x = b := ⟨_, rfl⟩
            rw [hb] at HSkip HAdd ⊢
            clear hb
            cases b with
            | true =>
              have HS2 := Lib.hid (HSkip.out rfl wr HBI.out)
              go_wp2
              go_roundw
              case rel => exact ⟨k + 1, by go_num, HS2.out⟩
              case measure => simp [intOf]; omega
            | false =>
              have HA2 := Lib.hid (HAdd.out rfl)
              have hva := (own_belowAll HRow.out HBI.out).alloc (.cells #[.int .i64 x.v, .string x.c, .int .i64 x.i, .int .i64 x.s, .bool x.d] 24)
              rw [HM.out] at hva
              have hnews := World.news_of_block (cs := #[.int .i64 x.v, .string x.c, .int .i64 x.i, .int .i64 x.s, .bool x.d]) (t := 24) (fr := (0, 0)) (heap_alloc_new wr (.cells #[.int .i64 x.v, .string x.c, .int .i64 x.i, .int .i64 x.s, .bool x.d] 24))
              have hlo : ∀ g', (Value.slice po j co).ownBlock = some g' → w.heap.size ≤ g' := fun g' hg' => by
                have h1 := HRow.out
                rw [HM.out] at h1
                exact (h1.lt g' hg').1
              have HLO := Lib.hid hlo
              have chk1 : j + 1 ≤ maxLen := by unfold maxLen; omega
              have chk2 : (j + 1) * 48 ≤ 140737488355328 := by omega
              have chk3 : w.heap.size ≤ (wr.alloc (.cells #[.int .i64 x.v, .string x.c, .int .i64 x.i, .int .i64 x.s, .bool x.d] 24)).heap.size := by simp; omega
              have chk4 : ∀ u ∈ x.cells, u.oneCell' = true := by simp [Value.oneCell', Ent.cells]
              clear hlo
              go_wp2_with (at_builtin; refine wpList_append_lies _ rfl _ _ _ rfl w.heap.size 24 i0 _ 5 48 Try.underlying25 hi0 hz0 hz1 hz2 rfl (by decide) (.slice po j co) j _ rfl hva ⟨wr.heap.size, 0, none⟩ 1 1 x.cells rfl rfl hnews chk4 (by decide) chk1 chk2 chk3 (wr.heap.size + 1) (by simp) ?_)
              intro g2 cap2 w5 hown5 hgrow5 hat5 hlt5
              have hb5 : Below w.heap.size wr w5 := ⟨hgrow5.os, hgrow5.tape, hgrow5.output, by have := hgrow5.size; simp at this; omega, fun q hq => (hgrow5.block q (by simp; omega) (fun e' => by have := HLO.out q e'.symm; omega)).trans (Below.heap_alloc _ _ _ (by omega))⟩
              have HRel := Lib.hid (HA2.out w5 _ hown5 ((HBL.out.trans (HBI.out.mono hsw)).trans hb5))
              clear hown5 hgrow5 hat5 hlt5 hb5 hva hnews
              go_wp2
              go_roundw
              case rel => exact ⟨k + 1, by go_num, HRel.out⟩
              case measure => simp [intOf]; omega
      · have HE := Lib.hid (HEnd.out (freshF_full (by rw [hm]; exact h60)))
        have h60d : decide ((m : Int) < 60) = false := by simp; omega
        have h60e : ¬ ((m : Int) < 60) := by omega
        rw [hm] at HE ⊢
        clear hrow hor hF hbl ho hm HEnd
        go_wp2
        go_ret
        exact HE.out _ (Below.refl _ _)
    · have HE := Lib.hid (HEnd.out (by rw [List.drop_eq_nil_of_le (by rw [HLN.out]; omega)]; rfl))
      rw [hm] at HE ⊢
      clear hrow hor hF hbl ho hm HEnd
      go_wp2
      go_ret
      exact HE.out _ (Below.refl _ _)
end Go.Proofs.Ytahdaccmokjgpaa
