/-
  FOR PlainAnyWay: the pairs from the last to the first, the updates that put them; a copy from which all is taken; rows of updates and of numbers that a call owns.
-/
import Derived.Test.YtmfanldekjkbiaaDoorAnyP
import Derived.Test.YtmfanldekjkbiaaDoorSameQ
import Derived.Test.YtmfanldekjkbiaaDoorBegunP
import Derived.Test.YtmfanldekjkbiaaDoorTriP
import Derived.Test.YtmfanldekjkbiaaDoorKit
namespace Go.Proofs.YtmfanldekjkbiaaDoor
open Go.RowKit
set_option linter.unusedVariables false

def encU (L : List Uv) : List Value := L.flatMap Uv.cells

theorem encU_cons (x : Uv) (L : List Uv) : encU (x :: L) = x.cells ++ encU L := rfl

theorem encU_snoc (L : List Uv) (x : Uv) : encU (L ++ [x]) = encU L ++ x.cells := by simp [encU]

theorem encU_length (L : List Uv) : (encU L).length = L.length * 4 := by
  induction L with
  | nil => rfl
  | cons x L ih => rw [encU_cons, List.length_append, ih, List.length_cons]; simp [Uv.cells]; omega

theorem encU_get : ∀ (L : List Uv) (j : Nat) (x : Uv), L[j]? = some x → ∀ k, k < 4 → (encU L)[j * 4 + k]? = x.cells[k]?
  | [], _, _, h, _, _ => by simp at h
  | y :: L, 0, x, h, k, hk => by
    simp at h; subst h
    rw [encU_cons, Nat.zero_mul, Nat.zero_add, List.getElem?_append_left (by simp [Uv.cells]; omega)]
  | y :: L, j + 1, x, h, k, hk => by
    rw [encU_cons, show (j + 1) * 4 + k = (j * 4 + k) + y.cells.length by simp [Uv.cells]; omega, List.getElem?_append_right (Nat.le_add_left _ _), Nat.add_sub_cancel]
    exact encU_get L j x (by simpa using h) k hk

theorem own_lenU {w : World} {base : Nat} {e : TypeId} {v : Value} {m : Nat} {F : List Uv} (h : w.ownsRow base e 4 v m (encU F)) : F.length = m := by
  have hl := h.1
  rw [encU_length] at hl
  exact Nat.eq_of_mul_eq_mul_right (by decide) hl

theorem UL.of_own {w : World} {base : Nat} {e : TypeId} {p : Option Addr} {m c : Nat} {F : List Uv} (h : w.ownsRow base e 4 (.slice p m c) m (encU F)) : UL w p F := by
  intro i x hx
  have hi := (List.getElem?_eq_some_iff.1 hx).1
  have hn := own_lenU h
  obtain ⟨p', c', e1, _, _, hr⟩ := own_rd h
  cases e1
  obtain ⟨g, rfl, _, _, _, _⟩ := hr (by omega)
  have hg := encU_get F i x hx
  refine ⟨_, rfl, ?_, ?_, ?_, ?_⟩
  · rw [add_zeroH, h.cellAt (i * 4) (by omega)]; exact hg 0 (by decide)
  · rw [add_zeroH]
    show w.cell? ⟨g, i * 4 + 1, none⟩ = _
    rw [h.cellAt (i * 4 + 1) (by omega)]; exact hg 1 (by decide)
  · rw [add_zeroH]
    show w.cell? ⟨g, i * 4 + 2, none⟩ = _
    rw [h.cellAt (i * 4 + 2) (by omega)]; exact hg 2 (by decide)
  · rw [add_zeroH]
    show w.cell? ⟨g, i * 4 + 3, none⟩ = _
    rw [h.cellAt (i * 4 + 3) (by omega)]; exact hg 3 (by decide)

/-- A row of counts is a readable row of numbers. -/
theorem IL.of_cnt {w : World} {base : Nat} {e : TypeId} {g N c : Nat} {V : List Hv} (h : w.ownsRow base e 1 (.slice (some ⟨g, 0, none⟩) N c) N (cntV N V)) : IL w (some ⟨g, 0, none⟩) ((List.range N).map fun d => ((cntD V d : Nat) : Int)) := by
  intro i d hd
  refine ⟨_, rfl, ?_⟩
  have hi : i < N := by
    have := (List.getElem?_eq_some_iff.1 hd).1
    simpa using this
  rw [add_zeroH, h.cellAt i (by omega), cntV_get hi]
  simp [hi] at hd
  rw [← hd]

theorem upsOf_snoc (R : List Pv) (x : Pv) : upsOf (R ++ [x]) = upsOf R ++ [⟨(R.length : Int) + 1, 1, x.i, x.c⟩] := by
  unfold upsOf
  rw [List.length_append, List.length_singleton, List.range_succ, List.map_append]
  congr 1
  · refine List.map_congr_left fun j hj => ?_
    have hj' : j < R.length := List.mem_range.1 hj
    simp only [List.getD_eq_getElem?_getD, List.getElem?_append_left hj']
  · simp [List.getD_eq_getElem?_getD]

theorem upsOf_good {W : Nat} {R : List Pv} (hW : W ≤ 1024) (hF : FitP W R) (hl : R.length ≤ 80) : ∀ x ∈ upsOf R, GoodU x := by
  intro x hx
  obtain ⟨j, hj, rfl⟩ := List.mem_map.1 hx
  have hj' : j < R.length := List.mem_range.1 hj
  have hm : R.getD j default ∈ R := by rw [List.getD_eq_getElem?_getD, List.getElem?_eq_getElem hj']; exact List.getElem_mem _
  obtain ⟨h1, h2, h3⟩ := hF _ hm
  refine ⟨WalkArith.wf_i64 ?_, (by decide : (Lit.int .i64 1).wf = true), WalkArith.wf_i64 ?_, by show (R.getD j default).c.size ≤ _; omega⟩
  · show _ ≤ (j : Int) + 1 ∧ (j : Int) + 1 ≤ _; omega
  · show _ ≤ (R.getD j default).i ∧ (R.getD j default).i ≤ _; omega

/-- What is left behind the first j of T. -/
def Rest (T : List Pv) (j : Nat) (Lj : List Pv) : Prop := ∀ p ∈ Lj, p ∈ T.drop j

theorem Rest.step {W : Nat} {T Lj : List Pv} {j : Nat} {x : Pv} (h : Rest T j Lj) (hx : T[j]? = some x) (hF : FitP W T) : Rest T (j + 1) (if getCode Lj x.i = 0 then lessId Lj x.i else Lj) := by
  obtain ⟨hj, e⟩ := List.getElem?_eq_some_iff.1 hx
  have hd : T.drop j = x :: T.drop (j + 1) := by rw [List.drop_eq_getElem_cons hj, e]
  obtain ⟨b1, b2, _⟩ := hF x (List.mem_of_getElem? hx)
  intro p hp
  have hpi : p ∈ Lj ∧ p.i ≠ x.i := by
    split at hp
    · unfold lessId at hp
      obtain ⟨h1, h2⟩ := List.mem_filter.1 hp
      exact ⟨h1, by simpa using h2⟩
    · rename_i hc
      refine ⟨hp, fun e2 => hc ?_⟩
      unfold getCode
      rw [if_neg (by simp [b1, b2]), if_pos (hasId_iff.2 ⟨p, hp, e2⟩)]
  have := h p hpi.1
  rw [hd] at this
  rcases List.mem_cons.1 this with e3 | h3
  · rw [e3] at hpi; exact absurd rfl hpi.2
  · exact h3

theorem Rest.done {T Lj : List Pv} {n : Nat} (h : Rest T n Lj) (hn : T.length ≤ n) : Lj = [] := by
  cases Lj with
  | nil => rfl
  | cons p L =>
    have := h p (by simp)
    rw [List.drop_of_length_le hn] at this
    cases this

theorem rev_drop {T : List Pv} {l : Nat} {x : Pv} (h : T[l]? = some x) : (T.drop l).reverse = (T.drop (l + 1)).reverse ++ [x] := by
  obtain ⟨hj, e⟩ := List.getElem?_eq_some_iff.1 h
  rw [List.drop_eq_getElem_cons hj, e, List.reverse_cons]

theorem insCode_first {W : Nat} {c : ByteArray} (hc : c.size = W / 8) : insCode W [] ⟨1, c⟩ = 0 := by
  unfold insCode
  rw [if_neg (by simp), if_neg (by simp [hc]), if_neg (by simp [hasId]), if_neg (by simp)]

theorem updinfo : (Tryd.prog.info? 51).map (fun i => (i.zero, i.size, i.bytes)) = some (some (.agg #[.int .i64 0, .int .i64 0, .int .i64 0, .string ⟨#[]⟩]), 4, 40) := by kernel_rfl

theorem sameH14 {p1 p2 : Option Addr} {c1 c2 n : Nat} {T : List Hv} (hn : T.length = n) (hb : n ≤ 4096) (w : World) (h1 : HL w p1 T) (h2 : HL w p2 T) :
    Calls Tryd.prog 16 #[.slice p1 n c1, .slice p2 n c2] w fun x w' => x = .returned (.bool true) ∧ Gr w w' := by
  subst hn
  exact same13_calls p1 p2 c1 c2 T (by omega) w h1 h2

/-- The updates that put all these pairs, played upon nothing. -/
theorem plays_all {W : Nat} {R : List Pv} (hF : FitP W R) (hn : (R.map (·.i)).Nodup) (hl : R.length ≤ 80) {w w' : World} {mb pb : Nat} {e : Ending} (h : PlaysPost w mb pb W 0 [] (upsOf R) e w') :
    e = .returned (.tuple #[.int .i64 (R.length : Nat), .int .i64 0]) ∧ MapIs w' mb pb W (R.length : Nat) R ∧ FrP w w' (MapB mb pb) := by
  obtain ⟨a, x, rfl, ha, hW, hc, hM, hf⟩ := h
  rw [upsOf_length] at ha hc
  obtain ⟨g1, g2⟩ := ups_go hF hn hl a ha
  rcases hc with ⟨rfl, rfl⟩ | ⟨h1, h2, h3⟩
  · rw [g1, List.take_length] at hM
    exact ⟨rfl, by simpa using hM, hf⟩
  · have := (ups_go hF hn hl R.length (Nat.le_refl _)).2 a h1
    rw [← h2] at this
    exact absurd this h3

theorem topk_same {X : World} {mb pb W : Nat} {S : Int} {M L : List Pv} (h : MapIs X mb pb W S M) (hp : M.Perm L) (hW : W ≤ 1024) (q : ByteArray) (hq : q.size = W / 8) (k : Nat) (hk : k ≤ 4096) (hT : OnesTab X) (hL : L.length ≤ 80) {TK : List Hv} {tk : Nat} (hTK : firstT k (L.map (hitOf q)) = TK) (htk : TK.length = tk) :
    Calls Tryd.prog 13 #[.pointer (some ⟨mb, 0, none⟩), .string q, .int .i64 (k : Int)] X fun e w' => ∃ (p : Option Addr) (c : Nat), e = .returned (.tuple #[.slice p tk c, .int .i64 0]) ∧ HL w' p TK ∧ Below X.heap.size X w' := by
  refine (topk_ok h hW q hq k hk hT (by rw [hp.length_eq]; omega)).mono ?_
  rintro e w' ⟨v, rfl, hr, hb⟩
  rw [firstT_perm (hp.map _), hTK] at hr
  rw [htk] at hr
  obtain ⟨p, c, rfl, _⟩ := own_rd hr
  exact ⟨p, c, rfl, HL.of_own hr, hb⟩

theorem hist_same {X : World} {mb pb W N : Nat} {S : Int} {M L : List Pv} (h : MapIs X mb pb W S M) (hp : M.Perm L) (hW : W ≤ 1024) (h8 : W % 8 = 0) (q : ByteArray) (hq : q.size = W / 8) (hT : OnesTab X) (hL : L.length ≤ 80) (hN : W + 1 = N) :
    Calls Tryd.prog 14 #[.pointer (some ⟨mb, 0, none⟩), .string q] X fun e w' => ∃ (p : Option Addr) (c : Nat), e = .returned (.tuple #[.slice p N c, .int .i64 0]) ∧ IL w' p ((List.range N).map fun d => ((cntD (L.map (hitOf q)) d : Nat) : Int)) ∧ Below X.heap.size X w' := by
  subst hN
  refine (hist_ok h hW h8 q hq hT (by rw [hp.length_eq]; omega)).mono ?_
  rintro e w' ⟨gn, rfl, hr, hb⟩
  rw [cntV_perm (hp.map _)] at hr
  exact ⟨_, _, rfl, IL.of_cnt hr, hb⟩

theorem pairs_same {X : World} {mb pb W ln : Nat} {S : Int} {M T : List Pv} (h : MapIs X mb pb W S M) (hp : M.Perm T) (hT : RisP T) (hl : T.length = ln) (hL : ln ≤ 80) :
    Calls Tryd.prog 18 #[.pointer (some ⟨mb, 0, none⟩)] X fun e w' => ∃ (p : Option Addr) (c : Nat), e = .returned (.slice p ln c) ∧ PL w' p T ∧ Below X.heap.size X w' := by
  have hM : M.length = ln := by rw [hp.length_eq, hl]
  refine (pairs_calls h (by rw [hM]; omega)).mono ?_
  rintro e w' ⟨v, T2, rfl, hr, h1, h2, hb⟩
  obtain rfl := risP_perm h2 hT (h1.trans hp)
  rw [hM] at hr
  obtain ⟨p, c, rfl, _⟩ := own_rd hr
  exact ⟨p, c, rfl, PL.of_own hr, hb⟩

theorem row_IL {w : World} {v : Value} {z : List Int} (h : XKit.IsRow w v z) : ∃ (p : Option Addr) (c : Nat), v = .slice p z.length c ∧ IL w p z ∧ (∀ n ∈ z, (Lit.int .i64 n).wf = true) ∧ z.length ≤ 17592186044416 := by
  obtain ⟨h1, h2, h3⟩ := h
  rcases h3 with ⟨rfl, rfl⟩ | ⟨a, cap, rfl, _, _, hc⟩
  · exact ⟨none, 0, rfl, fun i d hd => by simp at hd, h2, by simp⟩
  · refine ⟨some a, cap, rfl, fun i d hd => ⟨a, rfl, ?_⟩, h2, by omega⟩
    obtain ⟨hi, e⟩ := List.getElem?_eq_some_iff.1 hd
    rw [hc i hi, List.getD_eq_getElem?_getD, hd]
    rfl

theorem fitP_perm {W : Nat} {T L : List Pv} (h : T.Perm L) (hF : FitP W L) : FitP W T := fun p hp => hF p (h.mem_iff.1 hp)

theorem nodup_perm {T L : List Pv} (h : T.Perm L) (hn : (L.map (·.i)).Nodup) : (T.map (·.i)).Nodup := (h.map _).nodup_iff.2 hn

theorem goodP_fit {W : Nat} {p : Pv} (hW : W ≤ 1024) (h : 0 ≤ p.i ∧ p.i ≤ 281474976710656 ∧ p.c.size = W / 8) : GoodP p :=
  ⟨WalkArith.wf_i64 (by omega), by omega⟩

theorem lessId_le (L : List Pv) (i : Int) : (if getCode L i = 0 then lessId L i else L).length ≤ L.length := by
  split
  · exact List.length_filter_le _ _
  · exact Nat.le_refl _
end Go.Proofs.YtmfanldekjkbiaaDoor
