/-
  WALK: kept: are the twins as they were made, the marks behind them?
-/
import Derived.Test.YtahdaccmokjgpaaTwn
namespace Go.Proofs.Ytahdaccmokjgpaa
open Go.RowKit ArgK
set_option linter.unusedVariables false

theorem own_el {W : World} {base n g c : Nat} {L : List Ent} (h : W.ownsRow base 24 5 (.slice (some ⟨g, 0, none⟩) n c) n (encE L)) {B : Nat} (hB : g < B) : EL W B (some ⟨g, 0, none⟩) L := fun i x hx => by
  obtain ⟨x0, x1, x2, x3, x4⟩ := own_fiveE h hx
  have ha : (⟨g, 0, none⟩ : Addr).add (i * 5) = ⟨g, i * 5, none⟩ := by unfold Addr.add; split <;> simp_all
  refine ⟨_, rfl, hB, ?_⟩
  rw [ha]
  exact ⟨x0, x1, x2, x3, x4⟩
theorem EL.front {W : World} {B : Nat} {p : Option Addr} {z y : List Ent} (h : EL W B p (z ++ y)) : EL W B p z := fun i x hx => h i x (by rw [List.getElem?_append_left (List.getElem?_eq_some_iff.1 hx).1]; exact hx)

theorem TwIs.row {w : World} {B gT capT k : Nat} {zz : List (List Ent)} {L : Nat → Value} (h : TwIs w B k zz (.slice (some ⟨gT, 0, none⟩) k capT) L) {j : Nat} {z : List Ent} (hz : zz[j]? = some z) (hk : j < k) :
    ∃ g c, w.cell? ⟨gT, j, none⟩ = some (.slice (some ⟨g, 0, none⟩) z.length c) ∧ L j = .slice (some ⟨g, 0, none⟩) (z.length + 64) c ∧ z.length + 64 ≤ c ∧ c ≤ maxLen ∧ g < w.heap.size ∧ w.ownsRow B 24 5 (.slice (some ⟨g, 0, none⟩) (z.length + 64) c) (z.length + 64) (encE (z ++ List.replicate 64 (markI j))) := by
  obtain ⟨h1, h2, h3⟩ := h
  have hj := (List.getElem?_eq_some_iff.1 hz).1
  have hgD : zz.getD j [] = z := by rw [List.getD_eq_getElem?_getD, hz]; rfl
  have hr := h2 j hk
  have e1 : twN zz j = z.length + 64 := by unfold twN; rw [if_pos hj, hgD]
  have e2 : twZ zz j = z ++ List.replicate 64 (markI j) := by unfold twZ; rw [if_pos hj, hgD]
  have e3 : twC zz j = z.length := by unfold twC; rw [if_pos hj, hgD]
  simp only [e1, e2] at hr
  obtain ⟨p, c, e, hc1, hc2, hp⟩ := own_rd hr
  obtain ⟨g, rfl, _, hgl, _⟩ := hp (by omega)
  refine ⟨g, c, ?_, e, hc1, hc2, hgl, e ▸ hr⟩
  rw [h1.cellAt j (by omega)]
  simp [hk, e, e3, cutV]
theorem TwIs.mark {w : World} {B gT capT k : Nat} {zz : List (List Ent)} {L : Nat → Value} (h : TwIs w B k zz (.slice (some ⟨gT, 0, none⟩) k capT) L) {j : Nat} (hj : zz.length ≤ j) (hk : j < k) :
    ∃ g c, w.cell? ⟨gT, j, none⟩ = some (.slice (some ⟨g, 0, none⟩) 1 c) ∧ g < w.heap.size ∧ w.ownsRow B 24 5 (.slice (some ⟨g, 0, none⟩) 1 c) 1 (encE [mark9]) := by
  obtain ⟨h1, h2, h3⟩ := h
  have hj' : ¬ j < zz.length := by omega
  have hr := h2 j hk
  have e1 : twN zz j = 1 := by unfold twN; rw [if_neg hj']
  have e2 : twZ zz j = [mark9] := by unfold twZ; rw [if_neg hj']
  have e3 : twC zz j = 1 := by unfold twC; rw [if_neg hj']
  simp only [e1, e2] at hr
  obtain ⟨p, c, e, hc1, hc2, hp⟩ := own_rd hr
  obtain ⟨g, rfl, _, hgl, _⟩ := hp (by omega)
  refine ⟨g, c, ?_, hgl, e ▸ hr⟩
  rw [h1.cellAt j (by omega)]
  simp [hk, e, e3, cutV]
theorem TwIs.below {w w' : World} {B k : Nat} {zz : List (List Ent)} {l : Value} {L : Nat → Value} (h : TwIs w B k zz l L) (hb : Below w.heap.size w w') : TwIs w' B k zz l L := ListsD.below h hb
/-- The twin is a readable list of lists. -/
theorem TwIs.lls {w : World} {B gT capT k : Nat} {zz : List (List Ent)} {L : Nat → Value} (h : TwIs w B k zz (.slice (some ⟨gT, 0, none⟩) k capT) L) (hk : zz.length ≤ k) : LLs w w.heap.size (some ⟨gT, 0, none⟩) zz := by
  intro i z hz
  have hi := (List.getElem?_eq_some_iff.1 hz).1
  obtain ⟨g, c, h1, _, h3, _, h5, h6⟩ := h.row hz (by omega)
  have ha : (⟨gT, 0, none⟩ : Addr).add i = ⟨gT, i, none⟩ := by unfold Addr.add; split <;> simp_all
  exact ⟨⟨gT, 0, none⟩, _, c, rfl, (show gT < _ from cell_lt (p := ⟨gT, i, none⟩) h1), by rw [ha]; exact h1, by omega, (own_el h6 h5).front⟩

set_option maxRecDepth 100000 in
set_option maxHeartbeats 4000000 in
theorem kept_calls (gT capT : Nat) (p : Option Addr) (cap B : Nat) (zz : List (List Ent)) (L : Nat → Value) (hfb : zz.flatten.length + zz.length ≤ 1048576) (w : World) (hT : TwIs w B (zz.length + 64) zz (.slice (some ⟨gT, 0, none⟩) (zz.length + 64) capT) L) (h1 : LLs w w.heap.size p zz) :
    Calls Try.prog 23 #[.slice (some ⟨gT, 0, none⟩) zz.length capT, .slice p zz.length cap] w fun e w' => e = .returned (.bool true) ∧ Below w.heap.size w w' := by
  obtain ⟨m, hm⟩ : ∃ m, zz.length = m := ⟨_, rfl⟩
  have hzl : ∀ (b : Nat) (z : List Ent), zz[b]? = some z → z.length ≤ 1048576 := fun b z hz => by
    have h2 := flat_take_part hz
    omega
  have hrow := fun j z hz => hT.row (j := j) (z := z) hz (by have := (List.getElem?_eq_some_iff.1 hz).1; omega)
  have hmk := fun j (hj : j < 64) => hT.mark (j := zz.length + j) (by omega) (by omega)
  obtain ⟨_, _, e, hc1, hc2, _⟩ := own_rd hT.1
  cases e
  rw [hm] at hfb hc1 hmk ⊢
  have HM := Lib.hid hm
  have H1 := Lib.hid h1
  have HZl := Lib.hid hzl
  have HRow := Lib.hid hrow
  have HMk := Lib.hid hmk
  have hm1 : m ≤ 1048576 := by omega
  clear h1 hm hzl hT hrow hmk hfb
  go_enter Try.func23, Try.ntmps23
  go_wp2
  go_loopw [5] (fun i ws => ∃ b : Nat, b ≤ m ∧ i = .int .i64 b ∧ Below w.heap.size w ws) (fun i _ => m - (intOf i).toNat)
  case atStart => exact ⟨0, Nat.zero_le _, rfl, Below.refl _ _⟩
  case round =>
    obtain ⟨b, hb, rfl, hG⟩ := hrel
    rename World => wo
    by_cases hbt : b < m
    · have hbz : b < zz.length := by rw [HM.out]; exact hbt
      obtain ⟨z, hz⟩ : ∃ z, zz[b]? = some z := ⟨_, List.getElem?_eq_getElem hbz⟩
      have hzn := HZl.out b z hz
      obtain ⟨pa, q, c, hpa, hpb, hu0, hlc, hq0⟩ := H1.out b z hz
      obtain rfl := hpa
      obtain ⟨g, cg, ht0, _, hg1, hg2, hgl, hgH⟩ := HRow.out b z hz
      have HU : Hid (∀ W, Below w.heap.size w W → W.cell? (pa.add b) = some (.slice q z.length c)) := Lib.hid (fun W hW => (World.cell?_of_block (hW.block _ (by rw [add_blockE]; exact hpb))).trans hu0)
      have HTc : Hid (∀ W, Below w.heap.size w W → W.cell? ⟨gT, b, none⟩ = some (.slice (some ⟨g, 0, none⟩) z.length cg)) := Lib.hid (fun W hW => (hW.cell (p := ⟨gT, b, none⟩) (cell_lt ht0)).trans ht0)
      have HGH := Lib.hid hgH
      have HCS : Hid (∀ W, Below w.heap.size w W → Calls Try.prog 14 #[.slice (some ⟨g, 0, none⟩) z.length cg, .slice q z.length c] W fun e w' => e = .returned (.bool true) ∧ Below W.heap.size W w') := Lib.hid (fun W hW => sameE_true (.slice (some ⟨g, 0, none⟩) z.length cg) (.slice q z.length c) z (by omega) W (((own_el (own_belowAll hgH hW) (Nat.lt_of_lt_of_le hgl hW.size)).front).esl cg) ((hq0.below hW (Nat.le_refl _)).esl c))
      have HG0 := Lib.hid hG
      have j0 : (0 : Int) ≤ (b : Int) := by omega
      have j1 : (b : Int) < (m : Int) := by omega
      have t0 := HTc.out _ hG
      have u0 := HU.out _ hG
      clear hu0 ht0 hgH hq0 hz hG
      go_wp2
      go_region_held3 (fun W => W.cell? ⟨gT, b, none⟩ = some (.slice (some ⟨g, 0, none⟩) z.length cg) ∧ W.cell? (pa.add b) = some (.slice q z.length c)) (first | exact ⟨t0, u0⟩ | exact ⟨HTc.out _ (HG0.out.trans ((below_of_drew hb1).mono HG0.out.size)), HU.out _ (HG0.out.trans ((below_of_drew hb1).mono HG0.out.size))⟩) (first | (go_at_call 14; refine (HCS.out _ HG0.out.drew).mono ?_; rintro e' w2 ⟨rfl, hb1⟩))
      have HG2 := Lib.hid (HG0.out.trans ((below_of_drew hb1).mono HG0.out.size))
      have t2 := HTc.out _ HG2.out
      have k1 : (z.length : Int) + 64 ≤ (cg : Int) := by omega
      have k2 : (0 : Int) ≤ (z.length : Int) := by omega
      have k3 : (z.length : Int) ≤ (z.length : Int) + 64 := by omega
      have k4 : z.length + 64 - z.length = 64 := by omega
      have hwk : IntKind.i64.wrap (1000 + (b : Int)) = 1000 + (b : Int) := by rw [IntKind.wrap_i64]; omega
      have CM := fun W => mark_calls (1000 + (b : Int)) (by omega) (by omega) W
      unfold markE Ent.val at CM
      have HCM := Lib.hid CM
      clear hb1 t0 u0 CM
      go_wp2
      try rw [k4]
      go_loopw [9] (fun j ws => ∃ e : Nat, e ≤ 64 ∧ j = .int .i64 e ∧ Below w.heap.size w ws) (fun j _ => 64 - (intOf j).toNat)
      case atStart => exact ⟨0, Nat.zero_le _, rfl, HG2.out⟩
      case round =>
        obtain ⟨e, he, rfl, hG3⟩ := hrel
        by_cases het : e < 64
        · have HMc : Hid (∀ W, Below w.heap.size w W → W.cell? ⟨g, z.length * 5 + e * 5, none⟩ = some (.int .i64 (-(1000 + (b : Int)))) ∧ W.cell? ⟨g, z.length * 5 + e * 5 + 1, none⟩ = some (.string ⟨#[109, 97, 114, 107]⟩) ∧ W.cell? ⟨g, z.length * 5 + e * 5 + 2, none⟩ = some (.int .i64 (-(1000 + (b : Int)))) ∧ W.cell? ⟨g, z.length * 5 + e * 5 + 3, none⟩ = some (.int .i64 (-(1000 + (b : Int)))) ∧ W.cell? ⟨g, z.length * 5 + e * 5 + 4, none⟩ = some (.bool false)) := Lib.hid (fun W hW => by
            have h9 := own_fiveE (own_belowAll HGH.out hW) (j := z.length + e) (x := markI b) (by rw [List.getElem?_append_right (by omega), List.getElem?_replicate]; simp; omega)
            rw [Nat.add_mul] at h9
            exact h9)
          have HG3 := Lib.hid hG3
          obtain ⟨x0, x1, x2, x3, x4⟩ := HMc.out _ hG3
          have b0 : (0 : Int) ≤ (e : Int) := by omega
          have b1 : (e : Int) < 64 := by omega
          clear hG3
          go_wp2
          go_region_held3 (fun W => W.cell? ⟨g, z.length * 5 + e * 5, none⟩ = some (.int .i64 (-(1000 + (b : Int)))) ∧ W.cell? ⟨g, z.length * 5 + e * 5 + 1, none⟩ = some (.string ⟨#[109, 97, 114, 107]⟩) ∧ W.cell? ⟨g, z.length * 5 + e * 5 + 2, none⟩ = some (.int .i64 (-(1000 + (b : Int)))) ∧ W.cell? ⟨g, z.length * 5 + e * 5 + 3, none⟩ = some (.int .i64 (-(1000 + (b : Int)))) ∧ W.cell? ⟨g, z.length * 5 + e * 5 + 4, none⟩ = some (.bool false)) (first | exact ⟨x0, x1, x2, x3, x4⟩ | exact HMc.out _ (HG3.out.trans ((below_of_drew hb1).mono HG3.out.size))) (first | (go_at_call 12; refine (HCM.out _).mono ?_; rintro e' w3 ⟨rfl, hb1⟩))
          have HG4 := Lib.hid (HG3.out.trans ((below_of_drew hb1).mono HG3.out.size))
          clear hb1
          go_wp2
          go_roundw
          case rel => exact ⟨e + 1, by omega, by go_num, HG4.out⟩
          case measure => simp [intOf]; omega
        · obtain rfl : e = 64 := by omega
          go_wp2
          go_roundw
          case rel => exact ⟨b + 1, by omega, by go_num, hG3⟩
          case measure => simp [intOf]; omega
    · obtain rfl : b = m := by omega
      have k1 : (b : Int) + 64 ≤ (capT : Int) := by omega
      have k2 : (0 : Int) ≤ (b : Int) := by omega
      have k3 : (b : Int) ≤ (b : Int) + 64 := by omega
      have k4 : b + 64 - b = 64 := by omega
      have CM := fun W => mark_calls 999 (by decide) (by decide) W
      unfold markE Ent.val at CM
      have HCM := Lib.hid CM
      clear CM
      go_wp2
      try rw [k4]
      go_loopw [11] (fun j ws => ∃ e : Nat, e ≤ 64 ∧ j = .int .i64 e ∧ Below w.heap.size w ws) (fun j _ => 64 - (intOf j).toNat)
      case atStart => exact ⟨0, Nat.zero_le _, rfl, hG⟩
      case round =>
        obtain ⟨e, he, rfl, hG3⟩ := hrel
        by_cases het : e < 64
        · obtain ⟨g, cg, ht0, hgl, hgH⟩ := HMk.out e het
          have HMc : Hid (∀ W, Below w.heap.size w W → W.cell? ⟨gT, b + e, none⟩ = some (.slice (some ⟨g, 0, none⟩) 1 cg) ∧ W.cell? ⟨g, 0, none⟩ = some (.int .i64 (-999)) ∧ W.cell? ⟨g, 1, none⟩ = some (.string ⟨#[109, 97, 114, 107]⟩) ∧ W.cell? ⟨g, 2, none⟩ = some (.int .i64 (-999)) ∧ W.cell? ⟨g, 3, none⟩ = some (.int .i64 (-999)) ∧ W.cell? ⟨g, 4, none⟩ = some (.bool false)) := Lib.hid (fun W hW => by
            obtain ⟨y0, y1, y2, y3, y4⟩ := own_fiveE (own_belowAll hgH hW) (j := 0) (x := mark9) rfl
            simp only [Nat.zero_mul, Nat.zero_add] at y0 y1 y2 y3 y4
            exact ⟨(hW.cell (p := ⟨gT, b + e, none⟩) (cell_lt ht0)).trans ht0, y0, y1, y2, y3, y4⟩)
          have HG3 := Lib.hid hG3
          obtain ⟨t0, x0, x1, x2, x3, x4⟩ := HMc.out _ hG3
          have b0 : (0 : Int) ≤ (e : Int) := by omega
          have b1 : (e : Int) < 64 := by omega
          clear ht0 hgH hG3
          go_wp2
          go_region_held3 (fun W => W.cell? ⟨gT, b + e, none⟩ = some (.slice (some ⟨g, 0, none⟩) 1 cg) ∧ W.cell? ⟨g, 0, none⟩ = some (.int .i64 (-999)) ∧ W.cell? ⟨g, 1, none⟩ = some (.string ⟨#[109, 97, 114, 107]⟩) ∧ W.cell? ⟨g, 2, none⟩ = some (.int .i64 (-999)) ∧ W.cell? ⟨g, 3, none⟩ = some (.int .i64 (-999)) ∧ W.cell? ⟨g, 4, none⟩ = some (.bool false)) (first | exact ⟨t0, x0, x1, x2, x3, x4⟩ | exact HMc.out _ (HG3.out.trans ((below_of_drew hb1).mono HG3.out.size))) (first | (go_at_call 12; refine (HCM.out _).mono ?_; rintro e' w3 ⟨rfl, hb1⟩))
          have HG4 := Lib.hid (HG3.out.trans ((below_of_drew hb1).mono HG3.out.size))
          clear hb1
          go_wp2
          go_roundw
          case rel => exact ⟨e + 1, by omega, by go_num, HG4.out⟩
          case measure => simp [intOf]; omega
        · obtain rfl : e = 64 := by omega
          go_wp2
          go_ret
          exact ⟨rfl, hG3⟩
end Go.Proofs.Ytahdaccmokjgpaa
