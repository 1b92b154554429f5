/-
  WALK: texts one behind the other: how many go into each block (the document's Filled).
-/
import Derived.Test.YtihgjihdmlomaaaDoorBmA
namespace Go.Proofs.YtihgjihdmlomaaaDoor
open Go.RowKit ArgK
set_option linter.unusedVariables false

theorem intinfoM : (Tryd.prog.info? 3).map (fun i => (i.zero, i.size, i.bytes)) = some (some (.int .i64 0), 1, 8) := by kernel_rfl

theorem drop_consA {α : Type} {L : List α} {k : Nat} {x : α} (h : L[k]? = some x) : L.drop k = x :: L.drop (k + 1) := by
  obtain ⟨hk, e⟩ := List.getElem?_eq_some_iff.1 h
  rw [List.drop_eq_getElem_cons hk, e]

/-- Behind k items: how many each block has, and the room that is left. -/
def FillSt {α : Type} (sz : α → Nat) (l : List α) (k : Nat) (outs : List Nat) (r : Nat) : Prop :=
  r ≤ 4096 ∧ outs.length ≤ k ∧ (∀ c ∈ outs, c ≤ k) ∧ ((k = 0 ∧ outs = [] ∧ r = 0) ∨ ∃ gs cur u, cur ≠ [] ∧ grp sz l = gs ++ grpGo sz (l.drop k) cur u ∧ u ≤ 4096 ∧ r = 4096 - u ∧ outs = gs.map List.length ++ [cur.length])

theorem FillSt.start {α : Type} (sz : α → Nat) (l : List α) : FillSt sz l 0 [] 0 := ⟨by omega, Nat.le_refl _, fun c hc => by simp at hc, .inl ⟨rfl, rfl, rfl⟩⟩

theorem FillSt.fresh {α : Type} {sz : α → Nat} {l : List α} {k : Nat} {outs : List Nat} {r : Nat} (h : FillSt sz l k outs r) {x : α} (hx : l[k]? = some x) (h4 : sz x ≤ 4096) (hr : r < sz x) : FillSt sz l (k + 1) (outs ++ [1]) (4096 - sz x) := by
  obtain ⟨h1, h2, h3, h⟩ := h
  refine ⟨by omega, by simp; omega, fun c hc => ?_, .inr ?_⟩
  · rcases List.mem_append.1 hc with hc | hc
    · have := h3 c hc; omega
    · simp at hc; omega
  rcases h with ⟨rfl, rfl, rfl⟩ | ⟨gs, cur, u, hne, hg, hu, rfl, rfl⟩
  · refine ⟨[], [x], sz x, by simp, ?_, h4, rfl, rfl⟩
    have e := drop_consA hx
    rw [List.drop_zero] at e
    unfold grp
    rw [List.nil_append]
    conv => lhs; rw [e, grpGo, if_neg (by omega)]
    rw [List.nil_append, Nat.zero_add, Nat.zero_add]
  · refine ⟨gs ++ [cur], [x], sz x, by simp, ?_, h4, rfl, by simp⟩
    rw [hg, drop_consA hx, grpGo, if_pos (by omega)]
    simp

theorem FillSt.more {α : Type} {sz : α → Nat} {l : List α} {k : Nat} {outs : List Nat} {r : Nat} (h : FillSt sz l k outs r) {x : α} (hx : l[k]? = some x) (h0 : 0 < sz x) (hr : sz x ≤ r) : ∃ o c, outs = o ++ [c] ∧ FillSt sz l (k + 1) (o ++ [c + 1]) (r - sz x) := by
  obtain ⟨h1, h2, h3, h⟩ := h
  rcases h with ⟨rfl, rfl, rfl⟩ | ⟨gs, cur, u, hne, hg, hu, rfl, rfl⟩
  · omega
  · refine ⟨_, _, rfl, by omega, by simp at h2 ⊢; omega, fun c hc => ?_, .inr ⟨gs, cur ++ [x], u + sz x, by simp, ?_, by omega, by omega, by simp⟩⟩
    · rcases List.mem_append.1 hc with hc | hc
      · have := h3 c (List.mem_append_left _ hc); omega
      · simp at hc
        have := h3 cur.length (by simp)
        omega
    · rw [hg, drop_consA hx, grpGo, if_neg (by omega)]

theorem FillSt.whole {α : Type} {sz : α → Nat} {l : List α} {k : Nat} {outs : List Nat} {r : Nat} (h : FillSt sz l k outs r) (hk : k = l.length) : outs = (grp sz l).map List.length := by
  obtain ⟨h1, h2, h3, h⟩ := h
  rcases h with ⟨h0, rfl, rfl⟩ | ⟨gs, cur, u, hne, hg, hu, rfl, rfl⟩
  · obtain rfl : l = [] := List.length_eq_zero_iff.1 (by omega)
    rfl
  · rw [hg, List.drop_eq_nil_of_le (by omega), grpGo]
    cases cur with
    | nil => exact absurd rfl hne
    | cons y cur => simp

/-- A readable list of texts that lies below block B. -/
def SL (w : World) (B : Nat) (p : Option Addr) (L : List ByteArray) : Prop := ∀ i x, L[i]? = some x → ∃ a : Addr, p = some a ∧ a.block < B ∧ w.cell? (a.add i) = some (.string x)

theorem SL.below {w w' : World} {B B' : Nat} {p : Option Addr} {L : List ByteArray} (h : SL w B p L) (hb : Below B' w w') (hB : B ≤ B') : SL w' B p L := fun i x hx => by
  obtain ⟨a, e, ha, hc⟩ := h i x hx
  exact ⟨a, e, ha, by rw [hb.cell (by rw [add_blockE]; omega)]; exact hc⟩

def natV (l : List Nat) : List Value := l.map (fun (k : Nat) => Value.int .i64 (k : Int))
theorem natV_length (l : List Nat) : (natV l).length = l.length := by simp [natV]
theorem natV_append (a b : List Nat) : natV (a ++ b) = natV a ++ natV b := by simp [natV]
theorem natV_get {l : List Nat} {k c : Nat} (h : l[k]? = some c) : (natV l)[k]? = some (.int .i64 (c : Int)) := by simp [natV, h]
theorem natV_last (o : List Nat) (c d : Nat) : (natV (o ++ [c])).set o.length (.int .i64 (d : Int)) = natV (o ++ [d]) := by
  simp [natV]

/-- At the head of each round. -/
def FlRel (w : World) (L : List ByteArray) (n k : Nat) (ov rv : Value) (wr : World) : Prop :=
  k ≤ n ∧ ∃ (outs : List Nat) (r m : Nat), outs.length = m ∧ m ≤ k ∧ r ≤ 4096 ∧ FillSt ByteArray.size L k outs r ∧ rv = .int .i64 (r : Int) ∧ wr.ownsRow w.heap.size 3 1 ov m (natV outs) ∧ Below w.heap.size w wr

set_option maxRecDepth 100000 in
set_option maxHeartbeats 2000000 in
theorem Filled_calls (p : Option Addr) (n c : Nat) (L : List ByteArray) (hn : L.length = n) (hm : n ≤ 2097152) (hs : ∀ x ∈ L, 0 < x.size ∧ x.size ≤ 4096) (w : World) (hE : SL w w.heap.size p L) :
    Calls Tryd.prog 39 #[.slice p n c] w fun e w' => ∃ v m, e = .returned v ∧ ((grp ByteArray.size L).map List.length).length = m ∧ m ≤ n ∧ w'.ownsRow w.heap.size 3 1 v m (natV ((grp ByteArray.size L).map List.length)) ∧ Below w.heap.size w w' := by
  obtain ⟨i0, hi, hz0, hz1, hz2⟩ := info_parts intinfoM
  have HN := Lib.hid hn
  have HE := Lib.hid hE
  have HS := Lib.hid hs
  have H0 : Hid (FlRel w L n 0 (.slice none 0 0) (.int .i64 ((0 : Nat) : Int)) w) := Lib.hid ⟨Nat.zero_le _, [], 0, 0, rfl, Nat.le_refl _, by omega, FillSt.start _ _, rfl, World.ownsRow_nil _ _ _ _, Below.refl _ _⟩
  clear hn hE hs
  go_enter Tryd.func39, Tryd.ntmps39
  go_wp2
  go_loopw [3, 4, 5] (fun ov rv i wr => ∃ k : Nat, i = .int .i64 k ∧ FlRel w L n k ov rv wr) (fun _ _ i _ => n - (intOf i).toNat)
  case atStart => exact ⟨0, rfl, H0.out⟩
  case round =>
    obtain ⟨k, rfl, hk, outs, r, m, hom, hmk, hr4, hst, rfl, hown, hbl⟩ := hrel
    have hbs := hbl.size
    by_cases hlt : k < n
    · obtain ⟨x, hx⟩ : ∃ x, L[k]? = some x := ⟨_, List.getElem?_eq_getElem (by rw [HN.out]; exact hlt)⟩
      obtain ⟨hx0, hx4⟩ := HS.out x (List.mem_of_getElem? hx)
      obtain ⟨a, rfl, haB, hc0⟩ := HE.out k x hx
      have hwb : IntKind.i64.wrap ((4096 : Int) - (x.size : Int)) = ((4096 - x.size : Nat) : Int) := by rw [IntKind.wrap_i64]; omega
      have HC0 := Lib.hid hc0
      have hxo := (hbl.cell (by rw [add_blockE]; exact haB)).trans hc0
      have i0' : (0 : Int) ≤ (k : Int) := by omega
      have i1' : (k : Int) < (n : Int) := by omega
      have HX := Lib.hid hx
      have HSt := Lib.hid hst
      clear hx hst hc0
      obtain ⟨pp, cp, rfl, hcp1, hcp2, hpp⟩ := own_rd hown
      by_cases hfl : r < x.size
      · have hfi : (r : Int) < (x.size : Int) := by omega
        have HNx := Lib.hid (HSt.out.fresh HX.out hx4 hfl)
        have HV : Hid ((natV outs ++ [Value.int .i64 0]).set m (.int .i64 1) = natV (outs ++ [1])) := Lib.hid (by
          have := natV_last outs 0 1
          rw [natV_append, hom] at this
          exact this)
        clear hfl hpp
        go_upto_region 10 with (at_builtin; go_loud (refine wpList_append_lies _ rfl _ _ 47 rfl w.heap.size 3 i0 (.int .i64 0) 1 8 Tryd.underlying47 hi hz0 hz1 hz2 rfl (by decide) _ m _ rfl (World.ownsRow.alloc (h := hown) _) ⟨wr.heap.size, 0, none⟩ 1 1 [.int .i64 0] rfl rfl (World.news_of_block (heap_alloc_new wr _)) (by simp [Value.oneCell']) (by decide) (by unfold maxLen <;> omega) (by omega) (by have := hbl.size; simp <;> omega) _ rfl ?_; intro g capn y1 hown' hgrow hat hlt2; generalize hm1 : m + 1 = m1 at hown' ⊢; have hbn : Below w.heap.size w y1 := (Below.alloc hbl hbl.size _).grown hgrow (by have := hbl.size; simp <;> omega) (fun g hg => (hown.lt g hg).1); have cm : y1.cell? ⟨g, m, none⟩ = some (.int .i64 0) := (hown'.cellAt m (by omega)).trans (by rw [List.getElem?_append_right (by rw [natV_length]; omega), natV_length, hom] <;> simp); have fm := hown'.frozenAt m; have xm := (hbn.cell (by rw [add_blockE]; exact haB)).trans HC0.out; have w1 : IntKind.i64.wrap ((m1 : Int) - 1) = (m : Int) := (by rw [IntKind.wrap_i64]; omega); have g0 : (0 : Int) ≤ (m : Int) := (by omega); have g1 : (m : Int) < (m1 : Int) := (by omega)))
        have hst2 := (hown'.stored m (.int .i64 1)).1
        rw [HV.out] at hst2
        have hb2 : Below w.heap.size w (y1.setCell ⟨g, m, none⟩ (.int .i64 1)) := hbn.grown (hown'.stored m (.int .i64 1)).2 hbn.size (fun k hk => by cases hk; exact (hown'.lt g rfl).1)
        generalize y1.setCell ⟨g, m, none⟩ (.int .i64 1) = y2 at hst2 hb2 ⊢
        clear hown' hgrow hat cm fm xm w1 hown
        have xm := (hb2.cell (by rw [add_blockE]; exact haB)).trans HC0.out
        have HO2 := Lib.hid hst2
        have HB2 := Lib.hid hb2
        go_wp2
        go_roundw
        case rel => exact ⟨k + 1, by go_num, by omega, outs ++ [1], 4096 - x.size, m1, by simp; omega, by omega, by omega, HNx.out, rfl, HO2.out, HB2.out⟩
        case measure => simp [intOf]; omega
      · have hfi : ¬ ((r : Int) < (x.size : Int)) := by omega
        obtain ⟨o, c1, rfl, hmo⟩ := HSt.out.more HX.out hx0 (by omega)
        obtain ⟨q, hq⟩ : ∃ q, o.length = q := ⟨_, rfl⟩
        have hm1 : m = q + 1 := by rw [← hom, ← hq]; simp
        have hc1 : c1 ≤ k := HSt.out.2.2.1 c1 (by simp)
        have HNx := Lib.hid hmo
        obtain ⟨g, rfl, hgB, hgl, hgc, hgf⟩ := hpp (by omega)
        have HV : Hid ((natV (o ++ [c1])).set q (.int .i64 ((c1 : Int) + 1)) = natV (o ++ [c1 + 1])) := Lib.hid (by
          have := natV_last o c1 (c1 + 1)
          rw [hq] at this
          rw [← this]
          congr 2)
        have cm : wr.cell? ⟨g, q, none⟩ = some (.int .i64 (c1 : Int)) := (hgc q (by omega)).trans (natV_get (by rw [← hq]; simp))
        have fm := hgf q
        have w1 : IntKind.i64.wrap ((m : Int) - 1) = (q : Int) := by rw [IntKind.wrap_i64]; omega
        have w2 : IntKind.i64.wrap ((c1 : Int) + 1) = (c1 : Int) + 1 := by rw [IntKind.wrap_i64]; omega
        have w3 : IntKind.i64.wrap ((r : Int) - (x.size : Int)) = ((r - x.size : Nat) : Int) := by rw [IntKind.wrap_i64]; omega
        have g0 : (0 : Int) ≤ (q : Int) := by omega
        have g1 : (q : Int) < (m : Int) := by omega
        have hst2 := (hown.stored q (.int .i64 ((c1 : Int) + 1))).1
        rw [HV.out] at hst2
        have hb2 : Below w.heap.size w (wr.setCell ⟨g, q, none⟩ (.int .i64 ((c1 : Int) + 1))) := hbl.grown (hown.stored q (.int .i64 ((c1 : Int) + 1))).2 hbl.size (fun k hk => by cases hk; exact hgB)
        have HO2 := Lib.hid hst2
        have HB2 := Lib.hid hb2
        have hol : o.length + 1 = m := by omega
        clear hst2 hb2 hown hgc hgf hpp hmo hom hq hm1
        go_upto_region 10 with fail
        generalize wr.setCell ⟨g, q, none⟩ (.int .i64 ((c1 : Int) + 1)) = y2 at HO2 HB2 ⊢
        have xm := (HB2.out.cell (by rw [add_blockE]; exact haB)).trans HC0.out
        clear cm fm w1 w2 hxo
        go_wp2
        go_roundw
        case rel => exact ⟨k + 1, by go_num, by omega, o ++ [c1 + 1], r - x.size, m, by simp; omega, by omega, by omega, HNx.out, rfl, HO2.out, HB2.out⟩
        case measure => simp [intOf]; omega
    · obtain rfl : k = n := by omega
      have hw := hst.whole (by rw [HN.out])
      subst hw
      have HEnd := Lib.hid (And.intro hom (And.intro hmk (And.intro hown hbl)))
      clear hst hown hbl hom
      go_wp2
      go_ret
      exact ⟨_, _, rfl, HEnd.out.1, HEnd.out.2.1, HEnd.out.2.2.1, HEnd.out.2.2.2⟩
end Go.Proofs.YtihgjihdmlomaaaDoor
