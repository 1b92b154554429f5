/-
  PLAIN LAWS: all pairs of a map in the order of their hits.
-/
import Derived.Test.YtmfanldekjkbiaaDoorHistP
namespace Go.Proofs.YtmfanldekjkbiaaDoor
open Go.RowKit
set_option linter.unusedVariables false

theorem near_all {r : Int} {V : List Hv} (h : ∀ x ∈ V, x.d ≤ r) : nearT r V = allH V := by
  unfold nearT
  rw [List.filter_eq_self.2 (fun x hx => by unfold near; simpa using h x hx)]

theorem nearT_filter (r : Int) (V : List Hv) : nearT r V = (allH V).filter (near r) := allH_filter r V

theorem hits_nodup {L : List Pv} (hn : (L.map (·.i)).Nodup) (q : ByteArray) : (L.map (hitOf q)).Nodup := by
  refine List.Pairwise.of_map (fun h : Hv => h.i) (fun a b (h : a.i ≠ b.i) e => h (by rw [e])) ?_
  rw [List.map_map]
  exact hn

theorem allT_perm {L : List Pv} (hn : (L.map (·.i)).Nodup) (q : ByteArray) : (allH (L.map (hitOf q))).Perm (L.map (hitOf q)) :=
  (List.perm_ext_iff_of_nodup (ris_nodup (allH_ris _)) (hits_nodup hn q)).2 (fun x => allH_mem _ x)

theorem near_cut {r : Int} {T : List Hv} (hT : Ris T) {n : Nat} (h1 : ∀ x ∈ T.take n, x.d ≤ r) (h2 : ∀ x, T[n]? = some x → r < x.d) : T.filter (near r) = T.take n := by
  have e : T = T.take n ++ T.drop n := (List.take_append_drop n T).symm
  have hd : (T.drop n).filter (near r) = [] := by
    rw [List.filter_eq_nil_iff]
    intro x hx
    unfold near
    simp only [decide_eq_true_eq]
    cases hdn : T.drop n with
    | nil => rw [hdn] at hx; cases hx
    | cons y R =>
      have hy : T[n]? = some y := by
        have := congrArg (fun l => l[0]?) hdn
        simpa using this
      have hry := h2 y hy
      rw [hdn] at hx
      rcases List.mem_cons.1 hx with rfl | hx
      · omega
      · have hp : Ris (T.drop n) := List.Pairwise.sublist (List.drop_sublist n T) hT
        rw [hdn] at hp
        have := hless_d ((List.pairwise_cons.1 hp).1 x hx)
        omega
  calc T.filter (near r) = (T.take n ++ T.drop n).filter (near r) := by rw [← e]
    _ = (T.take n).filter (near r) ++ (T.drop n).filter (near r) := List.filter_append ..
    _ = T.take n := by rw [hd, List.append_nil, List.filter_eq_self.2 (fun x hx => by unfold near; simpa using h1 x hx)]

theorem ris_next {T : List Hv} (hT : Ris T) {j : Nat} {y x : Hv} (hy : T[j]? = some y) (hx : T[j + 1]? = some x) : hless y x := by
  obtain ⟨h1, e1⟩ := List.getElem?_eq_some_iff.1 hy
  obtain ⟨h2, e2⟩ := List.getElem?_eq_some_iff.1 hx
  have := List.pairwise_iff_getElem.1 hT j (j + 1) h1 h2 (by omega)
  rw [e1, e2] at this
  exact this

theorem looks_next {L : List Pv} (hn : (L.map (·.i)).Nodup) (q : ByteArray) {j : Nat} {y x : Hv} (hy : (allH (L.map (hitOf q)))[j]? = some y) (hx : (allH (L.map (hitOf q)))[j + 1]? = some x) : y.d < x.d ∨ (y.d = x.d ∧ y.i < x.i) := by
  have hl := ris_next (allH_ris _) hy hx
  obtain ⟨a, ha, rfl⟩ := List.mem_map.1 ((allH_mem _ _).1 (List.mem_of_getElem? hy))
  obtain ⟨b, hb, rfl⟩ := List.mem_map.1 ((allH_mem _ _).1 (List.mem_of_getElem? hx))
  have hne : (hitOf q a).i ≠ (hitOf q b).i := fun e => by
    obtain rfl := same_pair hn ha hb e
    exact hless_irrefl _ hl
  rcases hl with h | ⟨h1, h | ⟨h, _⟩⟩
  · exact .inl h
  · exact .inr ⟨h1, h⟩
  · exact absurd h hne

theorem looks_get {W : Nat} {L : List Pv} (hn : (L.map (·.i)).Nodup) (hF : FitP W L) {q : ByteArray} {x : Hv} (hx : x ∈ L.map (hitOf q)) : getCode L x.i = 0 ∧ codeAt L x.i = x.c ∧ x.d = (dB q x.c : Nat) ∧ x.c.size = W / 8 ∧ (Lit.int .i64 x.i).wf = true := by
  obtain ⟨p, hp, rfl⟩ := List.mem_map.1 hx
  have hb := hF p hp
  refine ⟨?_, codeAt_mem hn hp, rfl, hb.2.2, WalkArith.wf_i64 (by simp only [hitOf]; omega)⟩
  unfold getCode
  have hh : hasId L (hitOf q p).i = true := hasId_iff.2 ⟨p, hp, rfl⟩
  rw [if_neg (by simp [hitOf, hb]), if_pos hh]

theorem cntD_cons (V : List Hv) (h : Hv) (d : Nat) : cntD (h :: V) d = cntD V d + if h.d = (d : Int) then 1 else 0 := by
  unfold cntD
  rw [List.filter_cons]
  by_cases e : h.d = (d : Int)
  · simp [e]
  · simp [e]

theorem cntV_drop {N : Nat} {T : List Hv} {k d : Nat} {x : Hv} (hx : T[k]? = some x) (hd : x.d = (d : Int)) (hN : d < N) : (cntV N (T.drop k)).set d (.int .i64 ((cntD (T.drop k) d : Nat) - 1 : Int)) = cntV N (T.drop (k + 1)) ∧ 1 ≤ cntD (T.drop k) d := by
  obtain ⟨hk, e⟩ := List.getElem?_eq_some_iff.1 hx
  have hdr : T.drop k = x :: T.drop (k + 1) := by rw [List.drop_eq_getElem_cons hk, e]
  rw [hdr]
  refine ⟨List.ext_getElem? fun j => ?_, by rw [cntD_cons, if_pos hd]; omega⟩
  rw [List.getElem?_set, cntV_length]
  by_cases hj : j < N
  · rw [cntV_get hj, cntV_get hj]
    by_cases e : d = j
    · subst e
      rw [cntD_cons, if_pos hd]
      simp [hj]
    · have : ¬ (x.d = (j : Int)) := by omega
      rw [if_neg e, cntD_cons _ _ j, if_neg this]
      simp
  · have e : d ≠ j := by omega
    rw [if_neg e, List.getElem?_eq_none (by rw [cntV_length]; omega), List.getElem?_eq_none (by rw [cntV_length]; omega)]

theorem HL.front13 {w : World} {p : Option Addr} {z : List Hv} (h : HL w p z) (n : Nat) : HL w p (z.take n) := fun i x hx => h i x (by
  rw [List.getElem?_take] at hx
  split at hx
  · exact hx
  · cases hx)

/-- A count that goes. -/
def kN (k : Int) : Nat := if k < 0 ∨ 4096 < k then 3 else k.toNat

theorem kN_le (k : Int) : kN k ≤ 4096 := by unfold kN; split <;> omega

/-- A radius that goes. -/
def rN3 (W : Nat) (r : Int) : Int := if r < 0 ∨ (W : Int) < r then 3 else r

theorem rN3_bd {W : Nat} (hW : 64 ≤ W) (r : Int) : 0 ≤ rN3 W r ∧ rN3 W r ≤ W := by
  unfold rN3
  split <;> omega
end Go.Proofs.YtmfanldekjkbiaaDoor
