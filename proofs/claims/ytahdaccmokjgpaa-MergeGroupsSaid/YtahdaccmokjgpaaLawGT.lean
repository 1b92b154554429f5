/-
  WALK: lists turned round (the law's own turned).
-/
import Derived.Test.YtahdaccmokjgpaaLawGP
namespace Go.Proofs.Ytahdaccmokjgpaa
open Go.RowKit ArgK
set_option linter.unusedVariables false

/-- Lists in memory: their row is of one base, they themselves of another. -/
def DL2 (B B' : Nat) (lv : Value) (lists : List (List Ent)) (wr : World) : Prop :=
  ∃ vs : List Value, wr.ownsRow B 25 1 lv lists.length vs ∧ ∀ (i : Nat) (v : Value) (L : List Ent), vs[i]? = some v → lists[i]? = some L → wr.ownsRow B' 24 5 v L.length (encE L)

theorem DL2.dl {B B' : Nat} {lv : Value} {lists : List (List Ent)} {w : World} (h : DL2 B B' lv lists w) (hb : B' ≤ B) : DL B' lv lists w := by
  obtain ⟨vs, h1, h2⟩ := h
  exact ⟨vs, own_le h1 hb, h2⟩

theorem DL2.grow {B B' : Nat} {lv lv' v : Value} {lists : List (List Ent)} {L : List Ent} {w wa w' : World} {vs : List Value} (h1 : w.ownsRow B 25 1 lv lists.length vs) (h2 : ∀ (i : Nat) (v : Value) (L : List Ent), vs[i]? = some v → lists[i]? = some L → w.ownsRow B' 24 5 v L.length (encE L)) (hv : wa.ownsRow B' 24 5 v L.length (encE L)) (ha : Below w.heap.size w wa)
    (hg : wa.grownBy w' lv.ownBlock) (hown : w'.ownsRow B 25 1 lv' (lists.length + 1) (vs ++ [v])) : DL2 B B' lv' (lists ++ [L]) w' := by
  have hl := DL.vs_length h1
  have hne : ∀ {u : Value} {K : List Ent}, wa.ownsRow B' 24 5 u K.length (encE K) → w'.ownsRow B' 24 5 u K.length (encE K) := fun {u K} hu => by
    refine ⟨hu.1, ?_⟩
    rcases hu.2 with hn | ⟨g, cap, cur, rfl, hb, hgg, rest⟩
    · exact .inl hn
    · refine .inr ⟨g, cap, cur, rfl, hb, (hg.block g (Array.getElem?_eq_some_iff.1 hgg).1 (fun e => ?_)).trans hgg, rest⟩
      exact own_ne hu (own_belowAll h1 ha) (by decide) g rfl e.symm
  refine ⟨vs ++ [v], by rw [List.length_append, List.length_singleton]; exact hown, fun i u K hu hK => ?_⟩
  rcases Nat.lt_or_ge i vs.length with hi | hi
  · rw [List.getElem?_append_left hi] at hu
    rw [List.getElem?_append_left (by omega)] at hK
    exact hne (own_belowAll (h2 i u K hu hK) ha)
  · rw [List.getElem?_append_right hi] at hu
    rw [List.getElem?_append_right (by omega)] at hK
    have h0 : i - vs.length = 0 := by
      have := (List.getElem?_eq_some_iff.1 hu).1
      simp at this
      omega
    rw [h0] at hu
    rw [show i - lists.length = 0 by omega] at hK
    simp at hu hK
    subst hu hK
    exact hne hv

/-- At the head of each round. -/
def TuRel (w : World) (B : Nat) (lists : List (List Ent)) (k : Nat) (ov : Value) (wr : World) : Prop :=
  k ≤ lists.length ∧ DL2 w.heap.size B ov (lists.drop k).reverse wr ∧ Below w.heap.size w wr

/-- What turned leaves. -/
def TuPost (w : World) (B : Nat) (lists : List (List Ent)) (e : Ending) (w' : World) : Prop := ∃ p c, e = .returned (.slice p lists.length c) ∧ Below w.heap.size w w' ∧ DL B (.slice p lists.length c) lists.reverse w'

theorem drop_rev {lists : List (List Ent)} {k : Nat} {L : List Ent} (h : lists[k]? = some L) : (lists.drop k).reverse = (lists.drop (k + 1)).reverse ++ [L] := by
  obtain ⟨hk, e⟩ := List.getElem?_eq_some_iff.1 h
  rw [List.drop_eq_getElem_cons hk, List.reverse_cons, e]

set_option maxRecDepth 100000 in
set_option maxHeartbeats 2000000 in
theorem turned_calls {w : World} {B : Nat} {p : Option Addr} {n c : Nat} {lists : List (List Ent)} (hD : DL B (.slice p n c) lists w) (hB : B ≤ w.heap.size) (hn : lists.length = n) (hm : n ≤ 61) :
    Calls Try.prog 29 #[.slice p n c] w (TuPost w B lists) := by
  obtain ⟨i0, hi0, hz0, hz1, hz2⟩ := info_parts (show (Try.prog.info? 25).map (fun i => (i.zero, i.size, i.bytes)) = some (some (.slice none 0 0), 1, 24) by kernel_rfl)
  obtain ⟨vs, hw1, hw2⟩ := hD
  rw [hn] at hw1
  have HN := Lib.hid hn
  have HV := Lib.hid hw1
  have HV2 := Lib.hid hw2
  have HB := Lib.hid hB
  have H0 : Hid (TuRel w B lists n (.slice none 0 0) w) := Lib.hid ⟨by omega, ⟨[], by rw [List.drop_eq_nil_of_le (by omega)]; exact own_none, fun i v L h => by simp at h⟩, Below.refl _ _⟩
  have hwn : IntKind.i64.wrap ((n : Int) - 1) = (n : Int) - 1 := by rw [IntKind.wrap_i64]; omega
  clear hn hw1 hw2 hB
  go_enter Try.func29, Try.ntmps29
  go_wp2
  go_loopw [3, 4] (fun ov i wr => ∃ k : Nat, k ≤ n ∧ i = .int .i64 ((k : Int) - 1) ∧ TuRel w B lists k ov wr) (fun _ i _ => (intOf i + 1).toNat)
  case atStart => exact ⟨n, Nat.le_refl _, rfl, H0.out⟩
  case round =>
    obtain ⟨ov, rfl⟩ : ∃ ov : Value, ov = u3 := ⟨_, rfl⟩
    obtain ⟨k1, hk1, rfl, hR⟩ := hrel
    obtain ⟨wo, rfl⟩ : ∃ wo : World, wo = wr := ⟨_, rfl⟩
    obtain ⟨_, hD2, hbl⟩ := hR
    by_cases h0 : 0 < k1
    · obtain ⟨k, rfl⟩ : ∃ k, k1 = k + 1 := ⟨k1 - 1, by omega⟩
      obtain ⟨lp, lc, rfl⟩ : ∃ lp lc, ov = .slice lp (n - (k + 1)) lc := by
        obtain ⟨us, h1, _⟩ := hD2
        obtain ⟨lp, lc, e, _⟩ := own_rd h1
        exact ⟨lp, lc, by rw [e]; simp [HN.out]⟩
      have hV := own_belowAll HV.out hbl
      obtain ⟨g, rfl, _, hgl, hgc, _⟩ := (own_rd hV |> fun ⟨p, c, e, _, _, hr⟩ => by
        simp only [Value.slice.injEq] at e
        obtain ⟨rfl, _, _⟩ := e
        exact hr (by omega) : ∃ g, p = some ⟨g, 0, none⟩ ∧ _ ∧ g < wo.heap.size ∧ (∀ j, j < n * 1 → wo.cell? ⟨g, j, none⟩ = vs[j]?) ∧ ∀ j, wo.frozen? ⟨g, j, none⟩ = false)
      obtain ⟨L, hL⟩ : ∃ L, lists[k]? = some L := ⟨_, List.getElem?_eq_getElem (by rw [HN.out]; omega)⟩
      obtain ⟨u, hu⟩ : ∃ u, vs[k]? = some u := ⟨_, List.getElem?_eq_getElem (by have := HV.out.1; omega)⟩
      have hcl : wo.cell? ⟨g, k, none⟩ = some u := (hgc k (by omega)).trans hu
      have ho := own_belowAll (HV2.out k u L hu hL) hbl
      obtain ⟨pu, cu, rfl, _⟩ := own_rd ho
      have hln : (lists.drop (k + 1)).reverse.length = n - (k + 1) := by simp [HN.out]
      obtain ⟨us, h1, h2⟩ := hD2
      have hG := fun (lv : Value) (w' : World) => DL2.grow (lv' := lv) (w' := w') (L := L) h1 h2 (wa := wo.alloc (.cells #[.slice pu L.length cu] 25)) (ho.alloc _) ((Below.refl _ _).alloc (Nat.le_refl _) _)
      rw [hln] at h1
      obtain ⟨r, hr⟩ : ∃ r, n - (k + 1) = r := ⟨_, rfl⟩
      rw [hr] at h1
      have HH1 := Lib.hid h1
      have HG := Lib.hid hG
      have HLn := Lib.hid hln
      have HL := Lib.hid hL
      have HBL := Lib.hid hbl
      have HR := Lib.hid hr
      have hr60 : r ≤ 61 := by omega
      rw [hr]
      have hs := hbl.size
      have chk1 : w.heap.size ≤ (wo.alloc (.cells #[.slice pu L.length cu] 25)).heap.size := by simp; omega
      have chk2 : r + 1 ≤ maxLen := by unfold maxLen; omega
      have chk3 : (r + 1) * 24 ≤ 140737488355328 := by omega
      have q0 : (0 : Int) ≤ ((k + 1 : Nat) : Int) - 1 := by omega
      have q1 : ((k + 1 : Nat) : Int) - 1 < (n : Int) := by omega
      have q2 : (((k + 1 : Nat) : Int) - 1).toNat = k := by omega
      clear hV hgc hu ho hG h1 h2 hL hbl hr hln hs
      go_wp2_with (at_builtin; refine wpList_append_own _ rfl _ _ 43 rfl w.heap.size 25 i0 (.slice none 0 0) 1 24 Try.underlying43 hi0 hz0 hz1 hz2 rfl (by decide) (.slice lp r lc) r _ rfl (HH1.out.alloc _) ⟨wo.heap.size, 0, none⟩ 1 1 [.slice pu L.length cu] rfl rfl (World.news_of_block (heap_alloc_new wo _)) (by simp [Value.oneCell']) chk2 chk3 chk1 ?_)
      intro lv3 w3 hown3 hgrow3 _
      have HNx : Hid (TuRel w B lists k lv3 w3) := Lib.hid (by
        refine ⟨by rw [HN.out]; omega, ?_, (HBL.out.alloc HBL.out.size _).grown hgrow3 chk1 (fun b hb => (HH1.out.lt b hb).1)⟩
        rw [drop_rev HL.out]
        have hg := HG.out lv3 w3
        rw [HLn.out, HR.out] at hg
        exact hg hgrow3 hown3)
      clear hown3 hgrow3 chk1 chk2 chk3
      go_wp2
      go_roundw
      case rel => exact ⟨k, by omega, by go_num, HNx.out⟩
      case measure => first | (simp [intOf]; done) | (simp [intOf]; omega)
    · obtain rfl : k1 = 0 := by omega
      have hP : Hid (TuPost w B lists (.returned ov) wo) := Lib.hid (by
        obtain ⟨us, h1, h2⟩ := hD2
        rw [List.drop_zero] at h1 h2
        obtain ⟨lp, lc, rfl, _⟩ := own_rd h1
        rw [List.length_reverse] at *
        exact ⟨lp, lc, rfl, hbl, us, by rw [List.length_reverse]; exact own_le h1 HB.out, h2⟩)
      clear hD2 hbl
      go_wp2
      go_ret
      exact hP.out
end Go.Proofs.Ytahdaccmokjgpaa
