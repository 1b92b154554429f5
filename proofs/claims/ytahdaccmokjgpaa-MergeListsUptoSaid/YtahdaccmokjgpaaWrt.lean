/-
  WALK: written: what stands in one list of lists is written over the twins, which have the same lengths.
-/
import Derived.Test.YtahdaccmokjgpaaKpt
namespace Go.Proofs.Ytahdaccmokjgpaa
open Go.RowKit ArgK
set_option linter.unusedVariables false

/-- The twins with any contents of these lengths. -/
def TwX (w : World) (B k : Nat) (zz : List (List Ent)) (l : Value) (L : Nat → Value) (Z : Nat → List Ent) : Prop :=
  ListsD w B 25 24 5 k l (fun j => cutV (twC zz j) (L j)) L (twN zz) (fun j => encE (Z j))

def midZ (zz zn : List (List Ent)) (b e : Nat) : Nat → List Ent := fun j => if j < b then twZ zn j else if j = b then (twZ zn j).take e ++ (twZ zz j).drop e else twZ zz j

def rowsS (n : Nat) (L : Nat → Value) : List (Option Nat) := (List.range n).map (fun j => (L j).ownBlock)

theorem rowsS_mem {n j : Nat} {L : Nat → Value} (h : j < n) : (L j).ownBlock ∈ rowsS n L := List.mem_map.2 ⟨j, by simpa using h, rfl⟩

theorem midZ_zero (zz zn : List (List Ent)) : midZ zz zn 0 0 = twZ zz := by
  funext j; unfold midZ; by_cases h : j = 0 <;> simp [h]
section
variable {zz zn : List (List Ent)} (hsh : zz.map List.length = zn.map List.length)
include hsh
theorem shape_len : zz.length = zn.length := by have := congrArg List.length hsh; simpa using this
theorem shape_row (j : Nat) : (zz.getD j []).length = (zn.getD j []).length := by
  have h := congrArg (fun l => l[j]?) hsh
  simp only [List.getElem?_map] at h
  rw [List.getD_eq_getElem?_getD, List.getD_eq_getElem?_getD]
  cases h1 : zz[j]? <;> cases h2 : zn[j]? <;> simp_all
theorem shape_twC : twC zz = twC zn := by
  funext j; unfold twC; rw [shape_row hsh j, shape_len hsh]
theorem shape_twN : twN zz = twN zn := by
  funext j; unfold twN; rw [shape_row hsh j, shape_len hsh]
theorem midZ_step {b e : Nat} {z' : List Ent} {x : Ent} (hz : zn[b]? = some z') (hx : z'[e]? = some x) :
    (fun i => if i = b then (midZ zz zn b e b).set e x else midZ zz zn b e i) = midZ zz zn b (e + 1) := by
  have hb := (List.getElem?_eq_some_iff.1 hz).1
  have he := (List.getElem?_eq_some_iff.1 hx).1
  have hgD : zn.getD b [] = z' := by rw [List.getD_eq_getElem?_getD, hz]; rfl
  have hrow := shape_row hsh b
  have hlen := shape_len hsh
  have e2 : twZ zn b = z' ++ List.replicate 64 (markI b) := by unfold twZ; rw [if_pos hb, hgD]
  have e3 : e < (twZ zz b).length := by unfold twZ; rw [if_pos (by omega), List.length_append, hrow, hgD]; omega
  have e4 : (twZ zn b)[e]? = some x := by rw [e2, List.getElem?_append_left he]; exact hx
  have e5 := (List.getElem?_eq_some_iff.1 e4).1
  funext i
  by_cases hi : i = b
  · subst hi
    simp only [midZ, Nat.lt_irrefl, if_false, if_true]
    apply List.ext_getElem?
    intro m
    rcases Nat.lt_trichotomy m e with h | h | h
    · rw [List.getElem?_set_ne (by omega), List.getElem?_append_left (by rw [List.length_take]; omega), List.getElem?_append_left (by rw [List.length_take]; omega), List.getElem?_take_of_lt h, List.getElem?_take_of_lt (by omega)]
    · subst h
      rw [List.getElem?_set_self (by rw [List.length_append, List.length_take, List.length_drop]; omega), List.getElem?_append_left (by rw [List.length_take]; omega), List.getElem?_take_of_lt (by omega), e4]
    · rw [List.getElem?_set_ne (by omega), List.getElem?_append_right (by rw [List.length_take]; omega), List.getElem?_append_right (by rw [List.length_take]; omega), List.getElem?_drop, List.getElem?_drop, List.length_take, List.length_take]
      congr 1
      omega
  · simp only [hi, if_false, midZ]
theorem midZ_next {b : Nat} {z' : List Ent} (hz : zn[b]? = some z') : midZ zz zn b z'.length = midZ zz zn (b + 1) 0 := by
  have hb := (List.getElem?_eq_some_iff.1 hz).1
  have hgD : zn.getD b [] = z' := by rw [List.getD_eq_getElem?_getD, hz]; rfl
  have hrow := shape_row hsh b
  have hlen := shape_len hsh
  rw [hgD] at hrow
  have e2 : twZ zn b = z' ++ List.replicate 64 (markI b) := by unfold twZ; rw [if_pos hb, hgD]
  have e3 : twZ zz b = zz.getD b [] ++ List.replicate 64 (markI b) := by unfold twZ; rw [if_pos (by omega)]
  funext i
  unfold midZ
  by_cases hi : i < b
  · simp [hi, show i < b + 1 by omega]
  · by_cases hi2 : i = b
    · subst hi2
      rw [if_neg (Nat.lt_irrefl _), if_pos rfl, if_pos (Nat.lt_succ_self _), e2, e3, List.take_left' rfl, List.drop_left' hrow]
    · by_cases hi3 : i = b + 1
      · subst hi3
        rw [if_neg (by omega), if_neg (by omega), if_neg (by omega), if_pos rfl]
        rfl
      · simp [hi, hi2, hi3, show ¬ i < b + 1 by omega]
theorem midZ_end : midZ zz zn zz.length 0 = twZ zn := by
  have hlen := shape_len hsh
  funext i
  unfold midZ
  by_cases hi : i < zz.length
  · simp [hi]
  · have h5 : twZ zz i = twZ zn i := by unfold twZ; rw [if_neg hi, if_neg (by omega)]
    by_cases hi2 : i = zz.length
    · subst hi2
      simpa using h5
    · simp [hi, hi2, h5]
end

theorem own_setF {w : World} {base : Nat} {e : TypeId} {size : Nat} {v : Value} {n : Nat} {xs : List Value} (h : w.ownsRow base e size v n xs) {g j : Nat} (hp : v.ownBlock ≠ some g) (u0 u1 u2 u3 u4 : Value) : (((((w.setCell ⟨g, j * 5, none⟩ u0).setCell ⟨g, j * 5 + 1, none⟩ u1).setCell ⟨g, j * 5 + 2, none⟩ u2).setCell ⟨g, j * 5 + 3, none⟩ u3).setCell ⟨g, j * 5 + 4, none⟩ u4).ownsRow base e size v n xs :=
  own_setCell (own_setCell (own_setCell (own_setCell (own_setCell h (p := ⟨g, j * 5, none⟩) hp u0) (p := ⟨g, j * 5 + 1, none⟩) hp u1) (p := ⟨g, j * 5 + 2, none⟩) hp u2) (p := ⟨g, j * 5 + 3, none⟩) hp u3) (p := ⟨g, j * 5 + 4, none⟩) hp u4
theorem TwX.set {w : World} {B k : Nat} {zz : List (List Ent)} {l : Value} {L : Nat → Value} {Z : Nat → List Ent} (h : TwX w B k zz l L Z) {j g c : Nat} (hj : j < k) (hL : L j = .slice (some ⟨g, 0, none⟩) (twN zz j) c) {e : Nat} (he : e < twN zz j) (x : Ent) :
    TwX (((((w.setCell ⟨g, e * 5, none⟩ (.int .i64 x.v)).setCell ⟨g, e * 5 + 1, none⟩ (.string x.c)).setCell ⟨g, e * 5 + 2, none⟩ (.int .i64 x.i)).setCell ⟨g, e * 5 + 3, none⟩ (.int .i64 x.s)).setCell ⟨g, e * 5 + 4, none⟩ (.bool x.d)) B k zz l L (fun i => if i = j then (Z j).set e x else Z i) := by
  obtain ⟨h1, h2, h3⟩ := h
  have hr := h2 j hj
  refine ⟨own_setF h1 (fun he => own_ne h1 hr (by decide) g he (by rw [hL]; rfl)) _ _ _ _ _, fun i hi => ?_, h3⟩
  by_cases hij : i = j
  · subst hij
    simp only [if_true]
    rw [hL] at hr ⊢
    exact own_setE hr he x
  · simp only [hij, if_false]
    exact own_setF (h2 i hi) (fun e => h3 i j hi hj hij g e (by rw [hL]; rfl)) _ _ _ _ _
theorem Fr.setE {a W : World} {S : List (Option Nat)} (h : Fr a W S) {g e : Nat} (hp : some g ∈ S) (u0 u1 u2 u3 u4 : Value) : Fr a (((((W.setCell ⟨g, e * 5, none⟩ u0).setCell ⟨g, e * 5 + 1, none⟩ u1).setCell ⟨g, e * 5 + 2, none⟩ u2).setCell ⟨g, e * 5 + 3, none⟩ u3).setCell ⟨g, e * 5 + 4, none⟩ u4) S :=
  ((((h.setCell (p := ⟨g, e * 5, none⟩) (fun _ => hp) u0).setCell (p := ⟨g, e * 5 + 1, none⟩) (fun _ => hp) u1).setCell (p := ⟨g, e * 5 + 2, none⟩) (fun _ => hp) u2).setCell (p := ⟨g, e * 5 + 3, none⟩) (fun _ => hp) u3).setCell (p := ⟨g, e * 5 + 4, none⟩) (fun _ => hp) u4

set_option maxRecDepth 100000 in
set_option maxHeartbeats 4000000 in
theorem written_calls (gT capT : Nat) (p : Option Addr) (cap B : Nat) (zz zn : List (List Ent)) (L : Nat → Value) (hsh : zz.map List.length = zn.map List.length) (hfb : zz.flatten.length + zz.length ≤ 1048576) (w : World) (hT : TwIs w B (zz.length + 64) zz (.slice (some ⟨gT, 0, none⟩) (zz.length + 64) capT) L)
    (hF : ∀ W, Fr w W (rowsS zz.length L) → LLs W W.heap.size p zn) :
    Calls Try.prog 21 #[.slice (some ⟨gT, 0, none⟩) zz.length capT, .slice p zn.length cap] w fun e w' => e = .returned (.tuple #[]) ∧ Fr w w' (rowsS zz.length L) ∧ w'.heap.size = w.heap.size ∧ TwIs w' B (zz.length + 64) zn (.slice (some ⟨gT, 0, none⟩) (zz.length + 64) capT) L := by
  obtain ⟨m, hm⟩ : ∃ m, zz.length = m := ⟨_, rfl⟩
  have hlen := shape_len hsh
  have hzl : ∀ (b : Nat) (z : List Ent), zz[b]? = some z → z.length ≤ 1048576 := fun b z hz => by
    have h2 := flat_take_part hz
    omega
  have hrow := fun j z hz => hT.row (j := j) (z := z) hz (by have := (List.getElem?_eq_some_iff.1 hz).1; omega)
  obtain ⟨_, _, e, hc1, hc2, _⟩ := own_rd hT.1
  cases e
  have hgne := fun j (hj : j < zz.length + 64) g (hg : (L j).ownBlock = some g) => own_ne hT.1 (hT.2.1 j hj) (by decide) gT rfl
  have hT0 : Fr w w (rowsS m L) ∧ w.heap.size = w.heap.size ∧ TwX w B (m + 64) zz (.slice (some ⟨gT, 0, none⟩) (m + 64) capT) L (midZ zz zn 0 0) := ⟨Fr.refl _ _, rfl, by rw [midZ_zero, ← hm]; exact hT⟩
  rw [← hlen]
  rw [hm] at hfb hF hc1 ⊢
  have HM := Lib.hid hm
  have HF := Lib.hid hF
  have HZl := Lib.hid hzl
  have HRow := Lib.hid hrow
  have HGne := Lib.hid hgne
  have HT0 := Lib.hid hT0
  have HSh := Lib.hid hsh
  have hm1 : m ≤ 1048576 := by omega
  clear hF hm hzl hT hrow hgne hfb hT0 hsh
  go_enter Try.func21, Try.ntmps21
  go_wp2
  go_loopw [4] (fun i ws => ∃ b : Nat, b ≤ m ∧ i = .int .i64 b ∧ Hid (Fr w ws (rowsS m L) ∧ ws.heap.size = w.heap.size ∧ TwX ws B (m + 64) zz (.slice (some ⟨gT, 0, none⟩) (m + 64) capT) L (midZ zz zn b 0))) (fun i _ => m - (intOf i).toNat)
  case atStart => exact ⟨0, Nat.zero_le _, rfl, Lib.hid ⟨HT0.out.1, rfl, HT0.out.2.2⟩⟩
  case round =>
    obtain ⟨b, hb, rfl, HG⟩ := hrel
    by_cases hbt : b < m
    · have hbz : b < zz.length := by rw [HM.out]; exact hbt
      obtain ⟨z, hz⟩ : ∃ z, zz[b]? = some z := ⟨_, List.getElem?_eq_getElem hbz⟩
      obtain ⟨z', hz'⟩ : ∃ z, zn[b]? = some z := ⟨_, List.getElem?_eq_getElem (by rw [← shape_len HSh.out]; exact hbz)⟩
      have hzn := HZl.out b z hz
      have hzz : z.length = z'.length := by
        have := shape_row HSh.out b
        rw [List.getD_eq_getElem?_getD, List.getD_eq_getElem?_getD, hz, hz'] at this
        exact this
      obtain ⟨g, cg, ht0, hLb, hg1, hg2, hgl, hgH⟩ := HRow.out b z hz
      have htN : twN zz b = z.length + 64 := by unfold twN; rw [if_pos hbz, List.getD_eq_getElem?_getD, hz]; rfl
      have hgS : some g ∈ rowsS m L := by have := rowsS_mem (L := L) hbt; rw [hLb] at this; exact this
      have hgT : gT ≠ g := fun e => HGne.out b (by rw [HM.out]; omega) g (by rw [hLb]; rfl) (by rw [hLb, e]; rfl)
      have HS1 := Lib.hid (And.intro hz (And.intro hz' (And.intro htN (And.intro hLb hgS))))
      have HZZ := Lib.hid hzz
      obtain ⟨n, hn⟩ : ∃ n, z.length = n := ⟨_, rfl⟩
      have HTc : Hid (∀ W, Fr w W (rowsS m L) → W.cell? ⟨gT, b, none⟩ = some (.slice (some ⟨g, 0, none⟩) n cg)) := Lib.hid (fun W hW => by
        rw [← hn]
        exact (World.cell?_of_block (a := ⟨gT, b, none⟩) (hW.2.2.2.2 gT (cell_lt (p := ⟨gT, b, none⟩) ht0) (fun e => by
          obtain ⟨j, hj, he⟩ := List.mem_map.1 e
          exact HGne.out j (by rw [HM.out]; have := List.mem_range.1 hj; omega) gT he he))).trans ht0)
      have HN := Lib.hid hn
      rw [hn] at hzn hg1
      have j0 : (0 : Int) ≤ (b : Int) := by omega
      have j1 : (b : Int) < (m : Int) := by omega
      clear hz hz' htN hLb hgS ht0 hgH hn hzz
      go_wp2
      go_loopw [5] (fun j ws => ∃ e : Nat, e ≤ n ∧ j = .int .i64 e ∧ Hid (Fr w ws (rowsS m L) ∧ ws.heap.size = w.heap.size ∧ TwX ws B (m + 64) zz (.slice (some ⟨gT, 0, none⟩) (m + 64) capT) L (midZ zz zn b e))) (fun j _ => n - (intOf j).toNat)
      case atStart => exact ⟨0, Nat.zero_le _, rfl, HG⟩
      case round =>
        obtain ⟨e, he, rfl, HG3⟩ := hrel
        have t0 := HTc.out _ HG3.out.1
        by_cases het : e < n
        · obtain ⟨x, hx⟩ : ∃ x, z'[e]? = some x := ⟨_, List.getElem?_eq_getElem (by rw [← HZZ.out, HN.out]; exact het)⟩
          obtain ⟨pa, q, c, hpa, hpb, hu0, hlc, hq0⟩ := HF.out _ HG3.out.1 b z' HS1.out.2.1
          obtain rfl := hpa
          obtain ⟨aq, rfl, haq, y0, y1, y2, y3, y4⟩ := hq0 e x hx
          have b0 : (0 : Int) ≤ (e : Int) := by omega
          have b1 : (e : Int) < (n : Int) := by omega
          rw [← HZZ.out, HN.out] at hu0
          have hfz := ((HG3.out.2.2.2.1 b (by omega)))
          simp only [HS1.out.2.2.2.1, HS1.out.2.2.1, HN.out] at hfz
          have hlz := own_lenE hfz
          obtain ⟨x0, hx0⟩ : ∃ x0, (midZ zz zn b e b)[e]? = some x0 := ⟨_, List.getElem?_eq_getElem (by omega)⟩
          have HFz : Hid (wr.drew.ownsRow B 24 5 (.slice (some ⟨g, 0, none⟩) (n + 64) cg) (n + 64) (encE (midZ zz zn b e b))) := Lib.hid hfz.drew
          have HX0 := Lib.hid hx0
          have HX := Lib.hid hx
          clear hfz hx hq0 hx0 hlz
          go_wp2
          go_still_tail 13, (by kernel_rfl)
          change wpList _ _ _ _ _ wr.drew
          have HFr : Hid (Fr w wr.drew (rowsS m L)) := Lib.hid HG3.out.1.drew
          have HTw : Hid (TwX wr.drew B (m + 64) zz (.slice (some ⟨gT, 0, none⟩) (m + 64) capT) L (midZ zz zn b e)) := Lib.hid HG3.out.2.2
          have HSz : Hid (wr.drew.heap.size = w.heap.size) := Lib.hid HG3.out.2.1
          generalize wr.drew = w2 at HFz HFr HTw HSz ⊢
          obtain ⟨q0, q1, q2, q3, q4⟩ := own_fiveE HFz.out HX0.out
          have hf0 := HFz.out.frozenAt (e * 5)
          have hf1 := HFz.out.frozenAt (e * 5 + 1)
          have hf2 := HFz.out.frozenAt (e * 5 + 2)
          have hf3 := HFz.out.frozenAt (e * 5 + 3)
          have hf4 := HFz.out.frozenAt (e * 5 + 4)
          clear y0 y1 y2 y3 y4 hu0 t0
          go_wp2
          go_roundw
          case rel => exact ⟨e + 1, by omega, by go_num, Lib.hid ⟨HFr.out.setE HS1.out.2.2.2.2 _ _ _ _ _, by simpa using HSz.out, by
            have h9 := TwX.set HTw.out (j := b) (by omega) (by rw [HS1.out.2.2.1]; exact HS1.out.2.2.2.1) (e := e) (by rw [HS1.out.2.2.1, HN.out]; omega) x
            rw [midZ_step HSh.out HS1.out.2.1 HX.out] at h9
            exact h9⟩⟩
          case measure => simp [intOf]; omega
        · obtain rfl : e = n := by omega
          have hE := HG3.out.2.2
          rw [← HN.out, HZZ.out, midZ_next HSh.out HS1.out.2.1] at hE
          have HE := Lib.hid hE
          clear hE
          go_wp2
          go_roundw
          case rel => exact ⟨b + 1, by omega, by go_num, Lib.hid ⟨HG3.out.1, HG3.out.2.1, HE.out⟩⟩
          case measure => simp [intOf]; omega
    · obtain rfl : b = m := by omega
      have hE := HG.out.2.2
      rw [← HM.out, midZ_end HSh.out] at hE
      have HE := Lib.hid hE
      clear hE
      go_wp2
      go_end0
      exact ⟨rfl, HG.out.1, HG.out.2.1, (by have h := HE.out; rw [HM.out] at h; unfold TwX at h; rw [shape_twC HSh.out, shape_twN HSh.out] at h; exact h)⟩
end Go.Proofs.Ytahdaccmokjgpaa
