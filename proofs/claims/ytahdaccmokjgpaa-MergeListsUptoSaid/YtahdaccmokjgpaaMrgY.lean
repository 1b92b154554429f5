/-
  PLAIN LAW of a merger over lists that rise: it tells the last word of each place, in order.
-/
import Derived.Test.YtahdaccmokjgpaaMrgU
namespace Go.Proofs.Ytahdaccmokjgpaa
open Go.RowKit ArgK
set_option linter.unusedVariables false

/-- Those that stand at a place, by their lists. -/
theorem group_mem {lists : List (List Ent)} {u : Nat → Nat} {q : Ent} {x : Hdv} : x ∈ atPlace q (stands (stU lists u (fun _ => false)).F) ↔ x.n < lists.length ∧ cur lists u x.n = some x.e ∧ eat q x.e := by
  unfold atPlace
  rw [List.mem_filter, stU_stands]
  simp
  constructor
  · rintro ⟨⟨a, b⟩, c⟩; exact ⟨a, b, c⟩
  · rintro ⟨a, b, c⟩; exact ⟨⟨a, b⟩, c⟩

theorem mem_lx_cur {lists : List (List Ent)} {u : Nat → Nat} {i : Nat} {h : Ent} (hc : cur lists u i = some h) : h ∈ lx lists i := List.mem_of_getElem? (cur_some hc).2

theorem tk_sub {lists : List (List Ent)} {u : Nat → Nat} {i : Nat} {x : Ent} (h : x ∈ tk lists u i) : x ∈ lx lists i := List.mem_of_mem_take h

/-- An entry of a list was taken, stands, or stands behind what stands. -/
theorem lx_where {lists : List (List Ent)} {u : Nat → Nat} {i : Nat} {y : Ent} (hr : rises (lx lists i)) (hu : 1 ≤ u i) (hy : y ∈ lx lists i) : y ∈ tk lists u i ∨ ∃ h, cur lists u i = some h ∧ (h = y ∨ eless h y) := by
  obtain ⟨t, ht⟩ := List.getElem?_of_mem hy
  rcases Nat.lt_or_ge t (u i - 1) with h | h
  · left
    unfold tk
    have : ((lx lists i).take (u i - 1))[t]? = some y := by rw [List.getElem?_take_of_lt h]; exact ht
    exact List.mem_of_getElem? this
  · right
    have htl := (List.getElem?_eq_some_iff.1 ht).1
    obtain ⟨z, hz⟩ : ∃ z, (lx lists i)[u i - 1]? = some z := ⟨_, List.getElem?_eq_getElem (by omega)⟩
    refine ⟨z, by unfold cur; rw [if_neg (by omega)]; exact hz, ?_⟩
    by_cases he : t = u i - 1
    · left
      rw [← he, ht] at hz
      cases hz
      rfl
    · right
      exact rises_lt hr t (u i - 1) z y (by omega) hz ht

/-- A step. -/
theorem UInv.step {lists : List (List Ent)} {u : Nat → Nat} {words : List Ent} (hr : ∀ i, i < lists.length → rises (lx lists i)) (h : UInv lists u words) :
    ((stU lists u (fun _ => false)).step = (stU lists u (fun _ => false), zeroE, false) ∧ (∀ i, i < lists.length → tk lists u i = lx lists i)) ∨
    ((stU lists u (fun _ => false)).step.1.bad = 51 ∧ (stU lists u (fun _ => false)).step.2 = (zeroE, false) ∧ Twice lists) ∨
    (∃ (u' : Nat → Nat) (b : Ent), (stU lists u (fun _ => false)).step = (stU lists u' (fun _ => false), b, true) ∧ UInv lists u' (words ++ [b]) ∧ (∀ i x, i < lists.length → x ∈ tk lists u' i → ¬ eless b x)) := by
  cases hl : leastE (stands (stU lists u (fun _ => false)).F) with
  | none =>
    left
    refine ⟨step_none hl, fun i hi => ?_⟩
    have hs := leastE_none hl
    have hc : cur lists u i = none := by
      cases hc : cur lists u i with
      | none => rfl
      | some e =>
        have : (⟨e, i⟩ : Hdv) ∈ stands (stU lists u (fun _ => false)).F := stU_stands.2 ⟨hi, rfl, hc⟩
        rw [hs] at this
        simp at this
    unfold cur at hc
    rw [if_neg (by have := h.one i hi; omega)] at hc
    exact List.take_of_length_le (List.getElem?_eq_none_iff.1 hc)
  | some q =>
    right
    obtain ⟨⟨z, hz, hzq⟩, hmin⟩ := leastE_some hl
    have hzg : z ∈ atPlace q (stands (stU lists u (fun _ => false)).F) := group_mem.2 ⟨(stU_stands.1 hz).1, (stU_stands.1 hz).2.2, by rw [hzq]; exact eat_refl _⟩
    obtain ⟨l, hgl⟩ : ∃ l, atPlace q (stands (stU lists u (fun _ => false)).F) = l := ⟨_, rfl⟩
    have hlm : ∀ x, x ∈ l ↔ x.n < lists.length ∧ cur lists u x.n = some x.e ∧ eat q x.e := fun x => by rw [← hgl]; exact group_mem
    have hnd : (l.map Hdv.n).Nodup := by rw [← hgl]; exact atPlace_nodup q _
    have hqmin : ∀ i e, i < lists.length → cur lists u i = some e → ¬ eless e q := fun i e hi hc => hmin ⟨e, i⟩ (stU_stands.2 ⟨hi, rfl, hc⟩)
    cases hw : wordOf (atPlace q (stands (stU lists u (fun _ => false)).F)) with
    | none =>
      left
      rw [step_twice hl hw]
      refine ⟨rfl, rfl, ?_⟩
      have hnn := wordOf_none hw (fun e => by rw [e] at hzg; simp at hzg)
      rw [hgl] at hnn
      have : ∃ x ∈ l, ∃ y ∈ l, x.n ≠ y.n ∧ x.e.s = y.e.s := by
        refine Classical.byContradiction (fun hno => hnn ?_)
        rw [List.nodup_iff_pairwise_ne, List.pairwise_map]
        rw [List.nodup_iff_pairwise_ne, List.pairwise_map] at hnd
        exact hnd.imp_of_mem (fun {x y} hx hy hne he => hno ⟨x, hx, y, hy, hne, he⟩)
      obtain ⟨x, hx, y, hy, hne, hs⟩ := this
      obtain ⟨x1, x2, x3⟩ := (hlm x).1 hx
      obtain ⟨y1, y2, y3⟩ := (hlm y).1 hy
      exact ⟨x.n, y.n, x.e, y.e, x1, y1, hne, mem_lx_cur x2, mem_lx_cur y2, eat_trans (eat_symm x3) y3, hs⟩
    | some b =>
      right
      obtain ⟨⟨xb, hxb, hxbe⟩, hbmax, hsn⟩ := wordOf_some hw
      rw [hgl] at hxb hbmax hsn
      obtain ⟨b1, b2, b3⟩ := (hlm xb).1 hxb
      rw [hxbe] at b2 b3
      have hM : ({ stU lists u (fun _ => false) with F := offPlace q (stU lists u (fun _ => false)).F } : Mst).asks (l.map Hdv.n) = stU lists (bumpL u (l.map Hdv.n)) (fun _ => false) := by
        rw [off_stU]
        show (stU lists u (fun i => match cur lists u i with | none => false | some h => decide (eat q h))).asks (l.map Hdv.n) = _
        rw [asks_stU _ _ _ hnd (fun i hi => by obtain ⟨x, hx, rfl⟩ := List.mem_map.1 hi; exact ((hlm x).1 hx).1) hr]
        unfold stU
        simp only [Mst.mk.injEq, and_true, true_and]
        apply List.map_congr_left
        intro i hi
        have hin : i < lists.length := by simpa using hi
        have hP : (if i ∈ l.map Hdv.n then false else (match cur lists u i with | none => false | some h => decide (eat q h))) = false := by
          by_cases hil : i ∈ l.map Hdv.n
          · exact if_pos hil
          · rw [if_neg hil]
            have key : ∀ o, cur lists u i = o → (match o with | none => false | some h => decide (eat q h)) = false := by
              intro o ho
              cases o with
              | none => rfl
              | some h =>
                have : ¬ eat q h := fun hq => hil (List.mem_map.2 ⟨⟨h, i⟩, (hlm _).2 ⟨hin, ho, hq⟩, rfl⟩)
                simp [this]
            exact key _ rfl
        simp only [hP]
      have hgi : ∀ i, i ∈ l.map Hdv.n → i < lists.length ∧ ∃ g, cur lists u i = some g ∧ eat q g := fun i hi => by
        obtain ⟨x, hx, rfl⟩ := List.mem_map.1 hi
        obtain ⟨q1, q2, q3⟩ := (hlm x).1 hx
        exact ⟨q1, x.e, q2, q3⟩
      have htk : ∀ i x, x ∈ tk lists (bumpL u (l.map Hdv.n)) i → x ∈ tk lists u i ∨ (i ∈ l.map Hdv.n ∧ cur lists u i = some x ∧ eat q x) := fun i x hx => by
        by_cases hi : i ∈ l.map Hdv.n
        · obtain ⟨_, g, hg, hgq⟩ := hgi i hi
          rw [tk_bump hg hi, List.mem_append, List.mem_singleton] at hx
          rcases hx with hx | rfl
          · exact .inl hx
          · exact .inr ⟨hi, hg, hgq⟩
        · rw [tk_far hi] at hx
          exact .inl hx
      have htk2 : ∀ i x, x ∈ tk lists u i → x ∈ tk lists (bumpL u (l.map Hdv.n)) i := fun i x hx => by
        by_cases hi : i ∈ l.map Hdv.n
        · obtain ⟨_, g, hg, _⟩ := hgi i hi
          rw [tk_bump hg hi]
          exact List.mem_append_left _ hx
        · rw [tk_far hi]
          exact hx
      have hbl : LastW lists b := by
        intro j y hj hy hby
        rcases lx_where (hr j hj) (h.one j hj) hy with h1 | ⟨g, hg, h1⟩
        · exact absurd (eat_symm hby) (eless_not_eat (h.lt j y xb.n b hj h1 b1 b2))
        · have hqy : eat q y := eat_trans b3 hby
          rcases h1 with rfl | h1
          · have := hbmax ⟨g, j⟩ ((hlm _).2 ⟨hj, hg, hqy⟩)
            exact this
          · exact absurd (eless_eat h1 (eat_symm hqy)) (hqmin j g hj hg)
      have hlow : ∀ i x, i < lists.length → x ∈ tk lists (bumpL u (l.map Hdv.n)) i → ¬ eless b x := fun i x hi hx hlt => by
        rcases htk i x hx with h1 | ⟨_, h1, h2⟩
        · exact eless_asymm hlt (h.lt i x xb.n b hi h1 b1 b2)
        · exact eless_not_eat hlt (eat_trans (eat_symm b3) h2)
      refine ⟨bumpL u (l.map Hdv.n), b, ?_, ⟨fun i hi => ?_, ?_, fun e => ?_, ?_, ?_⟩, hlow⟩
      · rw [step_some hl hw, hgl, hM]
        rfl
      · have := h.one i hi
        unfold bumpL
        split <;> omega
      · rw [List.pairwise_append]
        refine ⟨h.ord, by simp, fun x hx y hy => ?_⟩
        simp only [List.mem_singleton] at hy
        subst hy
        obtain ⟨⟨i, hi, hxi⟩, _⟩ := (h.mem x).1 hx
        exact h.lt i x xb.n y hi hxi b1 b2
      · rw [List.mem_append, List.mem_singleton]
        constructor
        · rintro (he | rfl)
          · obtain ⟨⟨i, hi, hxi⟩, h2⟩ := (h.mem e).1 he
            exact ⟨⟨i, hi, htk2 i e hxi⟩, h2⟩
          · refine ⟨⟨xb.n, b1, ?_⟩, hbl⟩
            rw [tk_bump b2 (List.mem_map_of_mem (f := Hdv.n) hxb)]
            simp
        · rintro ⟨⟨i, hi, hxi⟩, h2⟩
          rcases htk i e hxi with h1 | ⟨h3, h4, h5⟩
          · exact .inl ((h.mem e).2 ⟨⟨i, hi, h1⟩, h2⟩)
          · right
            have g1 : (⟨e, i⟩ : Hdv) ∈ l := (hlm _).2 ⟨hi, h4, h5⟩
            have s1 : e.s ≤ b.s := hbmax ⟨e, i⟩ g1
            have s2 : b.s ≤ e.s := h2 xb.n b b1 (mem_lx_cur b2) (eat_trans (eat_symm h5) b3)
            have s3 : e.s = b.s := by omega
            have : (⟨e, i⟩ : Hdv) = xb := by
              refine Classical.byContradiction (fun hne => ?_)
              rw [List.nodup_iff_pairwise_ne, List.pairwise_map] at hsn
              obtain ⟨p1, hp1, hq1⟩ := List.getElem_of_mem g1
              obtain ⟨p2, hp2, hq2⟩ := List.getElem_of_mem hxb
              have hne2 : p1 ≠ p2 := fun e' => hne (by subst e'; rw [← hq1, hq2])
              rcases Nat.lt_or_gt_of_ne hne2 with hlt | hlt
              · have := List.pairwise_iff_getElem.1 hsn p1 p2 hp1 hp2 hlt
                rw [hq1, hq2, hxbe] at this
                exact this s3
              · have := List.pairwise_iff_getElem.1 hsn p2 p1 hp2 hp1 hlt
                rw [hq1, hq2, hxbe] at this
                exact this s3.symm
            rw [← hxbe, ← this]
      · intro i x j g hi hx hj hg
        by_cases hjl : j ∈ l.map Hdv.n
        · obtain ⟨_, g0, hg0, hq0⟩ := hgi j hjl
          have hgg := cur_bump (hr j hj) hg0 hjl hg
          rcases htk i x hx with h1 | ⟨_, _, h2⟩
          · exact eless_trans (h.lt i x j g0 hi h1 hj hg0) hgg
          · exact eat_eless (eat_trans (eat_symm h2) hq0) hgg
        · rw [cur_far hjl] at hg
          rcases htk i x hx with h1 | ⟨_, _, h2⟩
          · exact h.lt i x j g hi h1 hj hg
          · rcases eless_or q g with k | k | k
            · exact eat_eless (eat_symm h2) k
            · exact absurd (List.mem_map.2 ⟨⟨g, j⟩, (hlm _).2 ⟨hj, hg, k⟩, rfl⟩) hjl
            · exact absurd k (hqmin j g hj hg)
      · intro i j x y hi hj hij hx hy hxy
        rcases htk i x hx with h1 | ⟨h2, h3, h4⟩
        · rcases htk j y hy with k1 | ⟨k2, k3, k4⟩
          · exact h.ne i j x y hi hj hij h1 k1 hxy
          · exact absurd hxy (eless_not_eat (h.lt i x j y hi h1 hj k3))
        · rcases htk j y hy with k1 | ⟨k2, k3, k4⟩
          · exact absurd (eat_symm hxy) (eless_not_eat (h.lt j y i x hj k1 hi h3))
          · intro hs
            have g1 : (⟨x, i⟩ : Hdv) ∈ l := (hlm _).2 ⟨hi, h3, h4⟩
            have g2 : (⟨y, j⟩ : Hdv) ∈ l := (hlm _).2 ⟨hj, k3, k4⟩
            rw [List.nodup_iff_pairwise_ne, List.pairwise_map] at hsn
            obtain ⟨p1, hp1, hq1⟩ := List.getElem_of_mem g1
            obtain ⟨p2, hp2, hq2⟩ := List.getElem_of_mem g2
            have hne2 : p1 ≠ p2 := fun e' => hij (by
              subst e'
              rw [hq1] at hq2
              exact congrArg Hdv.n hq2)
            rcases Nat.lt_or_gt_of_ne hne2 with hlt | hlt
            · have := List.pairwise_iff_getElem.1 hsn p1 p2 hp1 hp2 hlt
              rw [hq1, hq2] at this
              exact this hs
            · have := List.pairwise_iff_getElem.1 hsn p2 p1 hp2 hp1 hlt
              rw [hq1, hq2] at this
              exact this hs.symm
end Go.Proofs.Ytahdaccmokjgpaa
