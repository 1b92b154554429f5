/-
  WALK: texts one behind the other: how many go into each block (the document's Filled).
  WALK: texts of a list, joined (the document's joined).
  WALK: how many entries each block has (the document's Sizes).
  A slice of bytes that a conversion laid: it is read, and appended to in place while there is room.
  The document's Build, as plain Lean: blocks and rows of the index by their places.
-/
import Derived.Test.YtihgjihdmlomaaaDoorJBmA
import Derived.Test.YtihgjihdmlomaaaDoorJA
import Derived.Test.YtihgjihdmlomaaaDoorJB
import Derived.Deep.AppendSrc
import Derived.Deep.MidRow
import Derived.Lib.AppendStr
import Derived.Lib.UnsafeStr
namespace Go.Proofs.YtihgjihdmlomaaaDoor
open Go.RowKit ArgK
set_option linter.unusedVariables false

theorem intinfoM : (Tryd.prog.info? 3).map (fun i => (i.zero, i.size, i.bytes)) = some (some (.int .i64 0), 1, 8) := by kernel_rfl

theorem drop_consA {α : Type} {L : List α} {k : Nat} {x : α} (h : L[k]? = some x) : L.drop k = x :: L.drop (k + 1) := by
  obtain ⟨hk, e⟩ := List.getElem?_eq_some_iff.1 h
  rw [List.drop_eq_getElem_cons hk, e]

/-- Behind k items: how many each block has, and the room that is left. -/
def FillSt {α : Type} (sz : α → Nat) (l : List α) (k : Nat) (outs : List Nat) (r : Nat) : Prop :=
  r ≤ 4096 ∧ outs.length ≤ k ∧ (∀ c ∈ outs, c ≤ k) ∧ ((k = 0 ∧ outs = [] ∧ r = 0) ∨ ∃ gs cur u, cur ≠ [] ∧ grp sz l = gs ++ grpGo sz (l.drop k) cur u ∧ u ≤ 4096 ∧ r = 4096 - u ∧ outs = gs.map List.length ++ [cur.length])

theorem FillSt.start {α : Type} (sz : α → Nat) (l : List α) : FillSt sz l 0 [] 0 := ⟨by omega, Nat.le_refl _, fun c hc => by simp at hc, .inl ⟨rfl, rfl, rfl⟩⟩

theorem FillSt.fresh {α : Type} {sz : α → Nat} {l : List α} {k : Nat} {outs : List Nat} {r : Nat} (h : FillSt sz l k outs r) {x : α} (hx : l[k]? = some x) (h4 : sz x ≤ 4096) (hr : r < sz x) : FillSt sz l (k + 1) (outs ++ [1]) (4096 - sz x) := by
  obtain ⟨h1, h2, h3, h⟩ := h
  refine ⟨by omega, by simp; omega, fun c hc => ?_, .inr ?_⟩
  · rcases List.mem_append.1 hc with hc | hc
    · have := h3 c hc; omega
    · simp at hc; omega
  rcases h with ⟨rfl, rfl, rfl⟩ | ⟨gs, cur, u, hne, hg, hu, rfl, rfl⟩
  · refine ⟨[], [x], sz x, by simp, ?_, h4, rfl, rfl⟩
    have e := drop_consA hx
    rw [List.drop_zero] at e
    unfold grp
    rw [List.nil_append]
    conv => lhs; rw [e, grpGo, if_neg (by omega)]
    rw [List.nil_append, Nat.zero_add, Nat.zero_add]
  · refine ⟨gs ++ [cur], [x], sz x, by simp, ?_, h4, rfl, by simp⟩
    rw [hg, drop_consA hx, grpGo, if_pos (by omega)]
    simp

theorem FillSt.more {α : Type} {sz : α → Nat} {l : List α} {k : Nat} {outs : List Nat} {r : Nat} (h : FillSt sz l k outs r) {x : α} (hx : l[k]? = some x) (h0 : 0 < sz x) (hr : sz x ≤ r) : ∃ o c, outs = o ++ [c] ∧ FillSt sz l (k + 1) (o ++ [c + 1]) (r - sz x) := by
  obtain ⟨h1, h2, h3, h⟩ := h
  rcases h with ⟨rfl, rfl, rfl⟩ | ⟨gs, cur, u, hne, hg, hu, rfl, rfl⟩
  · omega
  · refine ⟨_, _, rfl, by omega, by simp at h2 ⊢; omega, fun c hc => ?_, .inr ⟨gs, cur ++ [x], u + sz x, by simp, ?_, by omega, by omega, by simp⟩⟩
    · rcases List.mem_append.1 hc with hc | hc
      · have := h3 c (List.mem_append_left _ hc); omega
      · simp at hc
        have := h3 cur.length (by simp)
        omega
    · rw [hg, drop_consA hx, grpGo, if_neg (by omega)]

theorem FillSt.whole {α : Type} {sz : α → Nat} {l : List α} {k : Nat} {outs : List Nat} {r : Nat} (h : FillSt sz l k outs r) (hk : k = l.length) : outs = (grp sz l).map List.length := by
  obtain ⟨h1, h2, h3, h⟩ := h
  rcases h with ⟨h0, rfl, rfl⟩ | ⟨gs, cur, u, hne, hg, hu, rfl, rfl⟩
  · obtain rfl : l = [] := List.length_eq_zero_iff.1 (by omega)
    rfl
  · rw [hg, List.drop_eq_nil_of_le (by omega), grpGo]
    cases cur with
    | nil => exact absurd rfl hne
    | cons y cur => simp

/-- A readable list of texts that lies below block B. -/
def SL (w : World) (B : Nat) (p : Option Addr) (L : List ByteArray) : Prop := ∀ i x, L[i]? = some x → ∃ a : Addr, p = some a ∧ a.block < B ∧ w.cell? (a.add i) = some (.string x)

theorem SL.below {w w' : World} {B B' : Nat} {p : Option Addr} {L : List ByteArray} (h : SL w B p L) (hb : Below B' w w') (hB : B ≤ B') : SL w' B p L := fun i x hx => by
  obtain ⟨a, e, ha, hc⟩ := h i x hx
  exact ⟨a, e, ha, by rw [hb.cell (by rw [add_blockE]; omega)]; exact hc⟩

def natV (l : List Nat) : List Value := l.map (fun (k : Nat) => Value.int .i64 (k : Int))
theorem natV_length (l : List Nat) : (natV l).length = l.length := by simp [natV]
theorem natV_append (a b : List Nat) : natV (a ++ b) = natV a ++ natV b := by simp [natV]
theorem natV_get {l : List Nat} {k c : Nat} (h : l[k]? = some c) : (natV l)[k]? = some (.int .i64 (c : Int)) := by simp [natV, h]
theorem natV_last (o : List Nat) (c d : Nat) : (natV (o ++ [c])).set o.length (.int .i64 (d : Int)) = natV (o ++ [d]) := by
  simp [natV]

/-- At the head of each round. -/
def FlRel (w : World) (L : List ByteArray) (n k : Nat) (ov rv : Value) (wr : World) : Prop :=
  k ≤ n ∧ ∃ (outs : List Nat) (r m : Nat), outs.length = m ∧ m ≤ k ∧ r ≤ 4096 ∧ FillSt ByteArray.size L k outs r ∧ rv = .int .i64 (r : Int) ∧ wr.ownsRow w.heap.size 3 1 ov m (natV outs) ∧ Below w.heap.size w wr

set_option maxRecDepth 100000 in
set_option maxHeartbeats 2000000 in
theorem Filled_calls (p : Option Addr) (n c : Nat) (L : List ByteArray) (hn : L.length = n) (hm : n ≤ 2097152) (hs : ∀ x ∈ L, 0 < x.size ∧ x.size ≤ 4096) (w : World) (hE : SL w w.heap.size p L) :
    Calls Tryd.prog 39 #[.slice p n c] w fun e w' => ∃ v m, e = .returned v ∧ ((grp ByteArray.size L).map List.length).length = m ∧ m ≤ n ∧ w'.ownsRow w.heap.size 3 1 v m (natV ((grp ByteArray.size L).map List.length)) ∧ Below w.heap.size w w' := by
  obtain ⟨i0, hi, hz0, hz1, hz2⟩ := info_parts intinfoM
  have HN := Lib.hid hn
  have HE := Lib.hid hE
  have HS := Lib.hid hs
  have H0 : Hid (FlRel w L n 0 (.slice none 0 0) (.int .i64 ((0 : Nat) : Int)) w) := Lib.hid ⟨Nat.zero_le _, [], 0, 0, rfl, Nat.le_refl _, by omega, FillSt.start _ _, rfl, World.ownsRow_nil _ _ _ _, Below.refl _ _⟩
  clear hn hE hs
  go_enter Tryd.func39, Tryd.ntmps39
  go_wp2
  go_loopw [3, 4, 5] (fun ov rv i wr => ∃ k : Nat, i = .int .i64 k ∧ FlRel w L n k ov rv wr) (fun _ _ i _ => n - (intOf i).toNat)
  case atStart => exact ⟨0, rfl, H0.out⟩
  case round =>
    obtain ⟨k, rfl, hk, outs, r, m, hom, hmk, hr4, hst, rfl, hown, hbl⟩ := hrel
    have hbs := hbl.size
    by_cases hlt : k < n
    · obtain ⟨x, hx⟩ : ∃ x, L[k]? = some x := ⟨_, List.getElem?_eq_getElem (by rw [HN.out]; exact hlt)⟩
      obtain ⟨hx0, hx4⟩ := HS.out x (List.mem_of_getElem? hx)
      obtain ⟨a, rfl, haB, hc0⟩ := HE.out k x hx
      have hwb : IntKind.i64.wrap ((4096 : Int) - (x.size : Int)) = ((4096 - x.size : Nat) : Int) := by rw [IntKind.wrap_i64]; omega
      have HC0 := Lib.hid hc0
      have hxo := (hbl.cell (by rw [add_blockE]; exact haB)).trans hc0
      have i0' : (0 : Int) ≤ (k : Int) := by omega
      have i1' : (k : Int) < (n : Int) := by omega
      have HX := Lib.hid hx
      have HSt := Lib.hid hst
      clear hx hst hc0
      obtain ⟨pp, cp, rfl, hcp1, hcp2, hpp⟩ := own_rd hown
      by_cases hfl : r < x.size
      · have hfi : (r : Int) < (x.size : Int) := by omega
        have HNx := Lib.hid (HSt.out.fresh HX.out hx4 hfl)
        have HV : Hid ((natV outs ++ [Value.int .i64 0]).set m (.int .i64 1) = natV (outs ++ [1])) := Lib.hid (by
          have := natV_last outs 0 1
          rw [natV_append, hom] at this
          exact this)
        clear hfl hpp
        go_upto_region 10 with (at_builtin; go_loud (refine wpList_append_lies _ rfl _ _ 47 rfl w.heap.size 3 i0 (.int .i64 0) 1 8 Tryd.underlying47 hi hz0 hz1 hz2 rfl (by decide) _ m _ rfl (World.ownsRow.alloc (h := hown) _) ⟨wr.heap.size, 0, none⟩ 1 1 [.int .i64 0] rfl rfl (World.news_of_block (heap_alloc_new wr _)) (by simp [Value.oneCell']) (by decide) (by unfold maxLen <;> omega) (by omega) (by have := hbl.size; simp <;> omega) _ rfl ?_; intro g capn y1 hown' hgrow hat hlt2; generalize hm1 : m + 1 = m1 at hown' ⊢; have hbn : Below w.heap.size w y1 := (Below.alloc hbl hbl.size _).grown hgrow (by have := hbl.size; simp <;> omega) (fun g hg => (hown.lt g hg).1); have cm : y1.cell? ⟨g, m, none⟩ = some (.int .i64 0) := (hown'.cellAt m (by omega)).trans (by rw [List.getElem?_append_right (by rw [natV_length]; omega), natV_length, hom] <;> simp); have fm := hown'.frozenAt m; have xm := (hbn.cell (by rw [add_blockE]; exact haB)).trans HC0.out; have w1 : IntKind.i64.wrap ((m1 : Int) - 1) = (m : Int) := (by rw [IntKind.wrap_i64]; omega); have g0 : (0 : Int) ≤ (m : Int) := (by omega); have g1 : (m : Int) < (m1 : Int) := (by omega)))
        have hst2 := (hown'.stored m (.int .i64 1)).1
        rw [HV.out] at hst2
        have hb2 : Below w.heap.size w (y1.setCell ⟨g, m, none⟩ (.int .i64 1)) := hbn.grown (hown'.stored m (.int .i64 1)).2 hbn.size (fun k hk => by cases hk; exact (hown'.lt g rfl).1)
        generalize y1.setCell ⟨g, m, none⟩ (.int .i64 1) = y2 at hst2 hb2 ⊢
        clear hown' hgrow hat cm fm xm w1 hown
        have xm := (hb2.cell (by rw [add_blockE]; exact haB)).trans HC0.out
        have HO2 := Lib.hid hst2
        have HB2 := Lib.hid hb2
        go_wp2
        go_roundw
        case rel => exact ⟨k + 1, by go_num, by omega, outs ++ [1], 4096 - x.size, m1, by simp; omega, by omega, by omega, HNx.out, rfl, HO2.out, HB2.out⟩
        case measure => simp [intOf]; omega
      · have hfi : ¬ ((r : Int) < (x.size : Int)) := by omega
        obtain ⟨o, c1, rfl, hmo⟩ := HSt.out.more HX.out hx0 (by omega)
        obtain ⟨q, hq⟩ : ∃ q, o.length = q := ⟨_, rfl⟩
        have hm1 : m = q + 1 := by rw [← hom, ← hq]; simp
        have hc1 : c1 ≤ k := HSt.out.2.2.1 c1 (by simp)
        have HNx := Lib.hid hmo
        obtain ⟨g, rfl, hgB, hgl, hgc, hgf⟩ := hpp (by omega)
        have HV : Hid ((natV (o ++ [c1])).set q (.int .i64 ((c1 : Int) + 1)) = natV (o ++ [c1 + 1])) := Lib.hid (by
          have := natV_last o c1 (c1 + 1)
          rw [hq] at this
          rw [← this]
          congr 2)
        have cm : wr.cell? ⟨g, q, none⟩ = some (.int .i64 (c1 : Int)) := (hgc q (by omega)).trans (natV_get (by rw [← hq]; simp))
        have fm := hgf q
        have w1 : IntKind.i64.wrap ((m : Int) - 1) = (q : Int) := by rw [IntKind.wrap_i64]; omega
        have w2 : IntKind.i64.wrap ((c1 : Int) + 1) = (c1 : Int) + 1 := by rw [IntKind.wrap_i64]; omega
        have w3 : IntKind.i64.wrap ((r : Int) - (x.size : Int)) = ((r - x.size : Nat) : Int) := by rw [IntKind.wrap_i64]; omega
        have g0 : (0 : Int) ≤ (q : Int) := by omega
        have g1 : (q : Int) < (m : Int) := by omega
        have hst2 := (hown.stored q (.int .i64 ((c1 : Int) + 1))).1
        rw [HV.out] at hst2
        have hb2 : Below w.heap.size w (wr.setCell ⟨g, q, none⟩ (.int .i64 ((c1 : Int) + 1))) := hbl.grown (hown.stored q (.int .i64 ((c1 : Int) + 1))).2 hbl.size (fun k hk => by cases hk; exact hgB)
        have HO2 := Lib.hid hst2
        have HB2 := Lib.hid hb2
        have hol : o.length + 1 = m := by omega
        clear hst2 hb2 hown hgc hgf hpp hmo hom hq hm1
        go_upto_region 10 with fail
        generalize wr.setCell ⟨g, q, none⟩ (.int .i64 ((c1 : Int) + 1)) = y2 at HO2 HB2 ⊢
        have xm := (HB2.out.cell (by rw [add_blockE]; exact haB)).trans HC0.out
        clear cm fm w1 w2 hxo
        go_wp2
        go_roundw
        case rel => exact ⟨k + 1, by go_num, by omega, o ++ [c1 + 1], r - x.size, m, by simp; omega, by omega, by omega, HNx.out, rfl, HO2.out, HB2.out⟩
        case measure => simp [intOf]; omega
    · obtain rfl : k = n := by omega
      have hw := hst.whole (by rw [HN.out])
      subst hw
      have HEnd := Lib.hid (And.intro hom (And.intro hmk (And.intro hown hbl)))
      clear hst hown hbl hom
      go_wp2
      go_ret
      exact ⟨_, _, rfl, HEnd.out.1, HEnd.out.2.1, HEnd.out.2.2.1, HEnd.out.2.2.2⟩
end Go.Proofs.YtihgjihdmlomaaaDoor

namespace Go.Proofs.YtihgjihdmlomaaaDoor
open Go.RowKit ArgK
set_option linter.unusedVariables false

/-- t of the texts from f on, joined. -/
def jn (L : List ByteArray) (f t : Nat) : List UInt8 := ((L.drop f).take t).flatMap (fun s => s.data.toList)
theorem jn_zero (L : List ByteArray) (f : Nat) : jn L f 0 = [] := rfl
theorem jn_succ {L : List ByteArray} {f t : Nat} {x : ByteArray} (h : L[f + t]? = some x) : jn L f (t + 1) = jn L f t ++ x.data.toList := by
  unfold jn
  rw [List.take_add_one, List.getElem?_drop, h]
  simp
theorem jn_len {L : List ByteArray} {f : Nat} (hs : ∀ x ∈ L, x.size ≤ 4096) : ∀ t, (jn L f t).length ≤ t * 4096
  | 0 => by simp [jn_zero]
  | t + 1 => by
    have ih := jn_len hs (f := f) t
    rcases h : L[f + t]? with _ | x
    · have e : jn L f (t + 1) = jn L f t := by
        unfold jn
        rw [List.take_add_one, List.getElem?_drop, h]
        simp
      rw [e]
      exact Nat.le_trans ih (Nat.mul_le_mul_right _ (Nat.le_succ _))
    · rw [jn_succ h, List.length_append]
      have := hs x (List.mem_of_getElem? h)
      have e : x.data.toList.length = x.size := rfl
      rw [e, Nat.succ_mul]
      exact Nat.add_le_add ih this

theorem u8infoM : (Tryd.prog.info? 5).map (fun i => (i.zero, i.size, i.bytes)) = some (some (.int .u8 0), 1, 1) := by kernel_rfl

/-- At the head of each round. -/
def JnRel (w : World) (L : List ByteArray) (f q t : Nat) (bv : Value) (wr : World) : Prop :=
  t ≤ q ∧ wr.ownsRow w.heap.size 5 1 bv (jn L f t).length (Lib.byteCells (jn L f t)) ∧ Below w.heap.size w wr

set_option maxRecDepth 100000 in
set_option maxHeartbeats 2000000 in
theorem joined_calls (p : Option Addr) (n c f q : Nat) (L : List ByteArray) (hn : L.length = n) (hm : n ≤ 2097152) (hfq : f + q ≤ n) (hs : ∀ x ∈ L, x.size ≤ 4096) (w : World) (hE : SL w w.heap.size p L) :
    Calls Tryd.prog 42 #[.slice p n c, .int .i64 (f : Int), .int .i64 (q : Int)] w fun e w' => e = .returned (.string ⟨(jn L f q).toArray⟩) ∧ Below w.heap.size w w' := by
  obtain ⟨i0, hi, hz0, hz1, hz2⟩ := info_parts u8infoM
  have HN := Lib.hid hn
  have HE := Lib.hid hE
  have HS := Lib.hid hs
  have H0 : Hid (JnRel w L f q 0 (.slice none 0 0) w) := Lib.hid ⟨Nat.zero_le _, World.ownsRow_nil _ _ _ _, Below.refl _ _⟩
  obtain ⟨M, hM⟩ : ∃ M, f + q = M := ⟨_, rfl⟩
  have hlim : IntKind.i64.wrap ((f : Int) + (q : Int)) = (M : Int) := by rw [IntKind.wrap_i64]; omega
  clear hn hE hs
  go_enter Tryd.func42, Tryd.ntmps42
  go_wp2
  go_loopw [7, 8] (fun bv i wr => ∃ t : Nat, i = .int .i64 ((f + t : Nat) : Int) ∧ JnRel w L f q t bv wr) (fun _ i _ => M - (intOf i).toNat)
  case atStart => exact ⟨0, by simp, H0.out⟩
  case round =>
    obtain ⟨t, rfl, ht, hown, hbl⟩ := hrel
    obtain ⟨k, hk⟩ : ∃ k, f + t = k := ⟨_, rfl⟩
    have hlen := jn_len HS.out (f := f) t
    rw [hk]
    obtain ⟨l, hl⟩ : ∃ l, jn L f t = l := ⟨_, rfl⟩
    rw [hl] at hown hlen
    by_cases hlt : t < q
    · obtain ⟨x, hx⟩ : ∃ x, L[f + t]? = some x := ⟨_, List.getElem?_eq_getElem (by rw [HN.out]; omega)⟩
      have hx4 := HS.out x (List.mem_of_getElem? hx)
      have HJ : Hid (jn L f (t + 1) = l ++ x.data.toList) := Lib.hid (by rw [jn_succ hx, hl])
      rw [hk] at hx
      obtain ⟨a, rfl, haB, hc0⟩ := HE.out k x hx
      have hxo := (hbl.cell (by rw [add_blockE]; exact haB)).trans hc0
      have i0' : (0 : Int) ≤ (k : Int) := by omega
      have i1' : (k : Int) < (n : Int) := by omega
      have hi2 : (k : Int) < (M : Int) := by omega
      have hkk : f + (t + 1) = k + 1 := by omega
      have hbs := hbl.size
      have htq : t + 1 ≤ q := hlt
      have hln : (l ++ x.data.toList).length = l.length + x.size := by rw [List.length_append]; rfl
      clear hx hc0 hl
      go_wp2_with (at_builtin; refine Lib.wpList_append_own_string _ rfl _ _ 53 9 rfl w.heap.size 5 i0 Tryd.underlying53 Tryd.underlying9 hi hz0 hz1 hz2 _ _ _ rfl hown x rfl ?c3 ?c4 ?c5 ?_)
      case c3 => unfold maxLen; omega
      case c4 => omega
      case c5 => exact hbs
      intro v' w2 hown' hgrow _
      have hb2 : Below w.heap.size w w2 := hbl.grown hgrow hbs (fun g hg => (hown.lt g hg).1)
      have hown2 : w2.ownsRow w.heap.size 5 1 v' (l ++ x.data.toList).length (Lib.byteCells (l ++ x.data.toList)) := by
        rw [hln, Lib.byteCells_append]
        exact hown'
      have HR : Hid (JnRel w L f q (t + 1) v' w2) := Lib.hid ⟨htq, by rw [HJ.out]; exact hown2, hb2⟩
      clear hown' hown2 hgrow hb2 hown
      go_wp2
      go_roundw
      case rel => exact ⟨t + 1, by rw [hkk]; go_num, HR.out⟩
      case measure => simp [intOf]; omega
    · obtain rfl : t = q := by omega
      have hi2 : ¬ ((k : Int) < (M : Int)) := by omega
      have hi3 : ¬ (k < M) := by omega
      have hi4 : M ≤ k := by omega
      have hown8 : wr.ownsRow w.heap.size 5 1 _ l.length (l.map by8) := hown
      have hs := own_toStr (P := Tryd.prog) 53 9 5 Tryd.underlying53 Tryd.underlying5 Tryd.underlying9 hown8
      have HL := Lib.hid hl
      clear hown hown8 hl
      generalize hLS : (⟨l.toArray⟩ : ByteArray) = LS at hs
      have HEnd : Hid (Below w.heap.size w wr ∧ (⟨(jn L f t).toArray⟩ : ByteArray) = LS) := Lib.hid ⟨hbl, by rw [HL.out]; exact hLS⟩
      clear hLS
      go_wp2
      go_ret
      exact ⟨by rw [HEnd.out.2]; rfl, HEnd.out.1⟩
end Go.Proofs.YtihgjihdmlomaaaDoor

namespace Go.Proofs.YtihgjihdmlomaaaDoor
open Go.RowKit ArgK
set_option linter.unusedVariables false

theorem strinfoM : (Tryd.prog.info? 9).map (fun i => (i.zero, i.size, i.bytes)) = some (some (.string ⟨#[]⟩), 1, 16) := by kernel_rfl

/-- The entries' texts. -/
def txt (list : List Ent) : List ByteArray := list.map (fun e => (⟨(writtenB e).toArray⟩ : ByteArray))
def strV (l : List ByteArray) : List Value := l.map Value.string

theorem txt_length (list : List Ent) : (txt list).length = list.length := by simp [txt]
theorem txt_get {list : List Ent} {k : Nat} {x : Ent} (h : list[k]? = some x) : (txt list)[k]? = some ⟨(writtenB x).toArray⟩ := by simp [txt, h]
theorem take_snocA {α : Type} {L : List α} {k : Nat} {x : α} (h : L[k]? = some x) : L.take (k + 1) = L.take k ++ [x] := by
  rw [List.take_add_one, h]
  rfl
theorem strV_snoc {L : List ByteArray} {k : Nat} {x : ByteArray} (h : L[k]? = some x) : strV (L.take (k + 1)) = strV (L.take k) ++ [.string x] := by
  rw [take_snocA h]
  simp [strV]
theorem txt_size (x : Ent) : ByteArray.size ⟨(writtenB x).toArray⟩ = szE x := rfl
theorem txt_ok {list : List Ent} (h : ∀ e ∈ list, Good e) : ∀ s ∈ txt list, 0 < s.size ∧ s.size ≤ 4096 := fun s hs => by
  obtain ⟨e, he, rfl⟩ := List.mem_map.1 hs
  exact szE_ok h e he
theorem txt_grp (list : List Ent) : (grp ByteArray.size (txt list)).map List.length = (groups list).map List.length := by
  unfold txt groups
  rw [grp_map, List.map_map]
  exact List.map_congr_left (fun g _ => by simp)

theorem sl_own {W : World} {base n : Nat} {p : Option Addr} {c : Nat} {L : List ByteArray} (h : W.ownsRow base 9 1 (.slice p n c) n (strV L)) (hn : L.length = n) : SL W W.heap.size p L := fun i x hx => by
  have hi := (List.getElem?_eq_some_iff.1 hx).1
  obtain ⟨q, cap, e, _, _, hr⟩ := own_rd h
  cases e
  obtain ⟨g, rfl, _, hg, hcell, _⟩ := hr (by omega)
  exact ⟨_, rfl, hg, by rw [add0, hcell i (by omega)]; simp [strV, hx]⟩

/-- At the head of each round over the entries. -/
def TxRel (w : World) (B : Nat) (list : List Ent) (n k : Nat) (tv : Value) (wr : World) : Prop :=
  k ≤ n ∧ wr.ownsRow B 9 1 tv k (strV ((txt list).take k)) ∧ Below B w wr

set_option maxRecDepth 100000 in
set_option maxHeartbeats 2000000 in
theorem Sizes_calls (p : Option Addr) (n c : Nat) (list : List Ent) (hn : list.length = n) (hm : n ≤ 2097152) (hg : ∀ e ∈ list, Good e) (w : World) (hE : EL w w.heap.size p list) :
    Calls Tryd.prog 49 #[.slice p n c] w fun e w' => ∃ v m, e = .returned v ∧ ((groups list).map List.length).length = m ∧ m ≤ n ∧ w'.ownsRow w.heap.size 3 1 v m (natV ((groups list).map List.length)) ∧ Below w.heap.size w w' := by
  obtain ⟨i0, hi, hz0, hz1, hz2⟩ := info_parts strinfoM
  have HN := Lib.hid hn
  have HE := Lib.hid hE
  have HG := Lib.hid hg
  have H0 : Hid (TxRel w w.heap.size list n 0 (.slice none 0 0) w) := Lib.hid ⟨Nat.zero_le _, World.ownsRow_nil _ _ _ _, Below.refl _ _⟩
  clear hn hE hg
  go_enter Tryd.func49, Tryd.ntmps49
  go_wp2
  go_loopw [3, 4] (fun tv i wr => ∃ k : Nat, i = .int .i64 k ∧ TxRel w w.heap.size list n k tv wr) (fun _ i _ => n - (intOf i).toNat)
  case atStart => exact ⟨0, rfl, H0.out⟩
  case round =>
    obtain ⟨k, rfl, hk, hown, hbl⟩ := hrel
    have hbs := hbl.size
    by_cases hlt : k < n
    · obtain ⟨x, hx⟩ : ∃ x, list[k]? = some x := ⟨_, List.getElem?_eq_getElem (by rw [HN.out]; exact hlt)⟩
      have hgx := HG.out x (List.mem_of_getElem? hx)
      obtain ⟨a, rfl, haB, h5⟩ := HE.out k x hx
      have h5o := h5.below hbl (by rw [add_blockE]; exact haB)
      have CW := bytes_calls x hgx.1 hgx.2.1 (by have := hgx.2.2; omega)
      have hst := strV_snoc (txt_get hx)
      obtain ⟨S, hS⟩ : ∃ S, (⟨(writtenB x).toArray⟩ : ByteArray) = S := ⟨_, rfl⟩
      rw [hS] at hst
      simp only [hS] at CW
      have HC := Lib.hid CW
      unfold Ent.val at HC
      have HSt := Lib.hid hst
      obtain ⟨x0, x1, x2, x3, x4⟩ := h5o
      have i0' : (0 : Int) ≤ (k : Int) := by omega
      have i1' : (k : Int) < (n : Int) := by omega
      clear CW hS hst h5 hx
      go_wp2_with fail
      refine (HC.out _).mono ?_
      rintro e w1 ⟨rfl, hb1⟩
      have hown1 := own_belowAll hown hb1
      have hbl1 : Below w.heap.size w w1 := hbl.trans (hb1.mono hbs)
      have hbs1 := hbl1.size
      obtain ⟨pp, cp, rfl, hcp1, hcp2, hpp⟩ := own_rd hown1
      clear hown hbl hb1 hpp x0 x1 x2 x3 x4
      go_wp2_with (at_builtin; refine wpList_append_lies _ rfl _ _ 70 rfl w.heap.size 9 i0 (.string ⟨#[]⟩) 1 16 Tryd.underlying70 hi hz0 hz1 hz2 rfl (by decide) _ k _ rfl (World.ownsRow.alloc (h := hown1) _) ⟨w1.heap.size, 0, none⟩ 1 1 [.string S] rfl rfl (World.news_of_block (heap_alloc_new w1 _)) (by simp [Value.oneCell']) (by decide) (by unfold maxLen <;> omega) (by omega) (by have := hbl1.size; simp <;> omega) _ rfl ?_; intro g capn y1 hown' hgrow hat hlt2)
      have hbn : Below w.heap.size w y1 := (Below.alloc hbl1 hbl1.size _).grown hgrow (by have := hbl1.size; simp <;> omega) (fun g hg => (hown1.lt g hg).1)
      have HR : Hid (TxRel w w.heap.size list n (k + 1) (.slice (some ⟨g, 0, none⟩) (k + 1) capn) y1) := Lib.hid ⟨hlt, by rw [HSt.out]; exact hown', hbn⟩
      clear hown' hgrow hbn hown1 hbl1
      go_wp2
      go_roundw
      case rel => exact ⟨k + 1, by go_num, HR.out⟩
      case measure => simp [intOf]; omega
    · obtain rfl : k = n := by omega
      rw [List.take_of_length_le (by rw [txt_length, HN.out]; exact Nat.le_refl _)] at hown
      obtain ⟨pp, cp, rfl, hcp1, hcp2, hpp⟩ := own_rd hown
      have CF := Filled_calls pp k cp (txt list) (by rw [txt_length, HN.out]) hm (txt_ok HG.out) wr (sl_own hown (by rw [txt_length, HN.out]))
      have HCF := Lib.hid CF
      have HBL := Lib.hid hbl
      clear CF hown hbl hpp
      go_wp2_with fail
      refine HCF.out.mono ?_
      rintro e w2 ⟨v, m, rfl, h1, h2, h3, h4⟩
      rw [txt_grp] at h1 h3
      have HEnd := Lib.hid (And.intro h1 (And.intro h2 (And.intro (own_le h3 hbs) (HBL.out.trans (h4.mono hbs)))))
      clear h1 h2 h3 h4
      go_wp2
      go_ret
      exact ⟨_, _, rfl, HEnd.out.1, HEnd.out.2.1, HEnd.out.2.2.1, HEnd.out.2.2.2⟩
end Go.Proofs.YtihgjihdmlomaaaDoor

namespace Go.Proofs.YtihgjihdmlomaaaDoor
open Go.RowKit
set_option linter.unusedVariables false

/-- The bytes l, in block g, with room up to cap. -/
structure Rb (W : World) (v : Value) (l : List UInt8) (g cap : Nat) : Prop where
  val : v = .slice (some ⟨g, 0, none⟩) l.length cap
  le : l.length ≤ cap
  max : cap ≤ maxLen
  lt : g < W.heap.size
  holds : ∀ j, j < l.length → W.cell? ⟨g, j, none⟩ = (l.map by8)[j]?
  spare : ∀ j, j < cap → (W.cell? ⟨g, j, none⟩).isSome = true ∧ W.frozen? ⟨g, j, none⟩ = false

theorem Rb.keep {W W' : World} {v : Value} {l : List UInt8} {g cap : Nat} (h : Rb W v l g cap) (e : W'.heap[g]? = W.heap[g]?) (hs : W.heap.size ≤ W'.heap.size) : Rb W' v l g cap :=
  ⟨h.val, h.le, h.max, Nat.lt_of_lt_of_le h.lt hs, fun j hj => (World.cell?_of_block (a := ⟨g, j, none⟩) e).trans (h.holds j hj), fun j hj => ⟨by rw [World.cell?_of_block (a := ⟨g, j, none⟩) e]; exact (h.spare j hj).1, (World.frozen?_of_block (a := ⟨g, j, none⟩) e).trans (h.spare j hj).2⟩⟩

theorem Rb.below {W W' : World} {v : Value} {l : List UInt8} {g cap : Nat} (h : Rb W v l g cap) (hb : Below W.heap.size W W') : Rb W' v l g cap := h.keep (hb.block g h.lt) hb.size

theorem grown_setCells (g : Nat) : ∀ (vs : List Value) (o : Nat) (w : World), w.grownBy (w.setCells g o vs) (some g)
  | [], _, w => grown_refl w _
  | v :: r, o, w => by
    rw [World.setCells]
    exact grown_trans (grown_set (grown_refl w (some g)) o v) (grown_setCells g r (o + 1) _)

/-- []byte(s). -/
theorem Rb.of_string (w : World) (t : TypeId) (s : ByteArray) (hs : s.size ≤ maxLen) (cap : Nat) (hc : s.size ≤ cap) (hm : cap ≤ maxLen) :
    Rb (w.drew.alloc (.cells (bytesRow s cap) t ((bytesRow s cap).size, (bytesRow s cap).size + 1))) (.slice (some ⟨w.heap.size, 0, none⟩) s.size cap) s.data.toList w.heap.size cap := by
  have hsz : (bytesRow s cap).size = cap := by
    have e : s.data.size = s.size := rfl
    simp only [bytesRow, Array.size_append, Array.size_map, Array.size_replicate]
    omega
  have hb : (w.drew.alloc (.cells (bytesRow s cap) t ((bytesRow s cap).size, (bytesRow s cap).size + 1))).heap[w.heap.size]? = some (.cells (bytesRow s cap) t (cap, cap + 1)) := by
    have := heap_alloc_new w.drew (.cells (bytesRow s cap) t ((bytesRow s cap).size, (bytesRow s cap).size + 1))
    rw [hsz] at this ⊢
    exact this
  refine ⟨rfl, hc, hm, ?_, fun j hj => ?_, fun j hj => ⟨?_, ?_⟩⟩
  · exact (Array.getElem?_eq_some_iff.1 hb).1
  · rw [cell_of_row _ _ j _ _ _ hb]
    have hi' : j < s.data.size := by simpa using hj
    unfold bytesRow
    rw [Array.getElem?_append_left (by simpa using hi')]
    simp
    rfl
  · rw [cell_of_row _ _ j _ _ _ hb, Array.getElem?_eq_getElem (by omega)]
    rfl
  · simp only [World.frozen?, hb, Bool.and_eq_false_iff, decide_eq_false_iff_not]
    left
    omega

theorem src_cells (s : ByteArray) : byteCells s = s.data.toList.map by8 := rfl

/-- append(b, s...): in place or in a new block. -/
theorem run_append_rb {P : Program} (w : World) (t u ty e : TypeId) (i : TypeInfo) (ht : P.underlying t = some (.slice e)) (hu : P.underlying u = some .string) (hi : P.info? e = some i) (hz : i.zero = some (.int .u8 0)) (h1 : i.size = 1) (hb : i.bytes = 1)
    {v : Value} {l : List UInt8} {g cap : Nat} (h : Rb w v l g cap) (s : ByteArray) (hlen : l.length + s.size ≤ 140737488355328) :
    ∃ v' w' g' cap', (Builtin.append_ #[t, u] ty #[v, .string s]).run P w = .ok v' w' ∧ Rb w' v' (l ++ s.data.toList) g' cap' ∧ w.grownBy w' (some g) ∧ (g' = g ∨ g' = w.heap.size) := by
  have hv := h.val
  subst hv
  have hsl : s.data.toList.length = s.size := rfl
  have hal : (l ++ s.data.toList).length = l.length + s.size := by rw [List.length_append, hsl]
  by_cases hroom : l.length + s.size ≤ cap
  · have hS : Src P i.size u (.string s) s.size (byteCells s) w := by rw [h1]; exact Src.ofString w hu s
    have hnl : (byteCells s).length = s.size := by rw [src_cells, List.length_map, hsl]
    have hr := run_append_room_src (P := P) w t u ty e i ht hi g 0 l.length cap (.string s) s.size (byteCells s) hS hroom (fun j hj => (h.spare _ (by rw [h1]; omega)).1) (fun j hj => (h.spare _ (by rw [h1]; omega)).2)
    rw [h1, Nat.zero_add, Nat.mul_one] at hr
    refine ⟨_, _, g, cap, hr, ⟨by rw [hal], by rw [hal]; exact hroom, h.max, ?_, fun j hj => ?_, fun j hj => ⟨?_, ?_⟩⟩, grown_setCells g _ _ w, .inl rfl⟩
    · exact Nat.lt_of_lt_of_le h.lt (grown_setCells g _ _ w).size
    · rw [hal] at hj
      by_cases hjl : j < l.length
      · rw [World.cell?_setCells_out g _ _ w ⟨g, j, none⟩ (fun _ _ => .inl hjl), h.holds j hjl, List.map_append, List.getElem?_append_left (by simpa using hjl)]
      · have hin := World.cell?_setCells_in g (byteCells s) l.length w (fun q hq => (h.spare _ (by omega)).1) (j - l.length) (by omega)
        rw [show l.length + (j - l.length) = j by omega] at hin
        rw [hin, List.map_append, List.getElem?_append_right (by simp; omega), List.length_map, ← src_cells]
        exact (List.getElem?_eq_getElem (by omega)).symm
    · exact World.isSome_setCells g _ _ w _ (h.spare j hj).1
    · rw [World.frozen?_setCells]
      exact (h.spare j hj).2
  · have hr := Lib.run_append_grow_string (P := P) w t u ty e i (.int .u8 0) ht hu hi hz ⟨g, 0, none⟩ l.length cap (l.map by8) (by rw [h1]; simp) (fun j u hu => by
      have hj : j < l.length := by
        have := (List.getElem?_eq_some_iff.1 hu).1
        simpa using this
      rw [add0, h.holds j hj]
      exact hu) s (by omega) (by omega) (by rw [hb]; exact growslice_fits (by omega) (by omega))
    have hge := grownCap_ge w (l.length + s.size) cap e
    have hmx := grownCap_le_maxLen w (l.length + s.size) cap e (by unfold maxLen; omega)
    obtain ⟨c', hc'⟩ : ∃ c', grownCap w (l.length + s.size) cap e = c' := ⟨_, rfl⟩
    rw [hc'] at hr hge hmx
    have hz1 : (Value.int IntKind.u8 0).cells.size = 1 := rfl
    obtain ⟨C, hC⟩ : ∃ C, (l.map by8).toArray ++ (Lib.strCells s).toArray ++ Builtin.zeroCells (Value.int IntKind.u8 0).cells (c' - (l.length + s.size)) = C := ⟨_, rfl⟩
    have hCs : C.size = c' := by
      rw [← hC]
      simp only [Array.size_append, List.size_toArray, size_zeroCells, hz1, List.length_map, Lib.strCells_length]
      omega
    have hCg : ∀ j, j < l.length + s.size → C[j]? = ((l ++ s.data.toList).map by8)[j]? := fun j hj => by
      rw [← hC, Array.getElem?_append_left (by simp only [Array.size_append, List.size_toArray, List.length_map, Lib.strCells_length]; exact hj), List.append_toArray, List.getElem?_toArray, List.map_append]
      rfl
    rw [hC] at hr
    have hnew : (w.drew.alloc (.cells C e)).heap[w.heap.size]? = some (.cells C e (0, 0)) := heap_alloc_new w.drew (.cells C e)
    refine ⟨_, _, w.heap.size, c', hr, ⟨by rw [hal], by rw [hal]; exact hge, hmx, ?_, fun j hj => ?_, fun j hj => ⟨?_, ?_⟩⟩, ⟨rfl, rfl, rfl, by simp, fun k hk _ => Below.heap_alloc w.drew _ k hk⟩, .inr rfl⟩
    · simp
    · rw [hal] at hj
      rw [cell_of_row _ _ j _ _ _ hnew]
      exact hCg j hj
    · rw [cell_of_row _ _ j _ _ _ hnew, Array.getElem?_eq_getElem (by omega)]
      rfl
    · exact frozen_of_row _ _ j _ _ hnew
end Go.Proofs.YtihgjihdmlomaaaDoor

namespace Go.Proofs.YtihgjihdmlomaaaDoor
open Go.RowKit ArgK
set_option linter.unusedVariables false

/-- Where group k begins. -/
def aK {α : Type} (gs : List (List α)) (k : Nat) : Nat := (gs.take k).flatten.length
theorem aK_zero {α : Type} (gs : List (List α)) : aK gs 0 = 0 := rfl
theorem aK_succ {α : Type} {gs : List (List α)} {k : Nat} {g : List α} (h : gs[k]? = some g) : aK gs (k + 1) = aK gs k + g.length := by
  unfold aK
  rw [take_snocA h]
  simp
theorem aK_drop {α : Type} {gs : List (List α)} {l : List α} {k : Nat} {g : List α} (hf : gs.flatten = l) (h : gs[k]? = some g) : l.drop (aK gs k) = g ++ (gs.drop (k + 1)).flatten := by
  have e : l = (gs.take k).flatten ++ (gs.drop k).flatten := by rw [← List.flatten_append, List.take_append_drop, hf]
  rw [drop_consA h, List.flatten_cons] at e
  rw [e]
  unfold aK
  exact List.drop_left
theorem aK_le {α : Type} {gs : List (List α)} {l : List α} {k : Nat} {g : List α} (hf : gs.flatten = l) (h : gs[k]? = some g) : aK gs k + g.length ≤ l.length := by
  have e : l = (gs.take (k + 1)).flatten ++ (gs.drop (k + 1)).flatten := by rw [← List.flatten_append, List.take_append_drop, hf]
  have e2 := congrArg List.length e
  rw [List.length_append] at e2
  have := aK_succ h
  unfold aK at *
  omega
theorem jn_at {α : Type} (f : α → List UInt8) {gs : List (List α)} {l : List α} {k : Nat} {g : List α} (hf : gs.flatten = l) (h : gs[k]? = some g) : jn (l.map (fun x => (⟨(f x).toArray⟩ : ByteArray))) (aK gs k) g.length = g.flatMap f := by
  unfold jn
  rw [← List.map_drop, aK_drop hf h, List.map_append, List.take_append_of_le_length (by simp), List.take_of_length_le (by simp), List.flatMap_map]
theorem first_at {α : Type} {gs : List (List α)} {l : List α} {k : Nat} {g : List α} (d : α) (hf : gs.flatten = l) (h : gs[k]? = some g) (hg : g ≠ []) : l[aK gs k]? = some (g.headD d) := by
  have e := aK_drop hf h
  cases g with
  | nil => exact absurd rfl hg
  | cons y g =>
    have := congrArg (fun q => q[0]?) e
    simpa using this

/-- A line of the index, as a text. -/
def lnTxt (x : Ln) : ByteArray := ⟨(lineB x).toArray⟩
theorem lnTxt_size (x : Ln) : (lnTxt x).size = szL x := rfl

/-- The file with k blocks. -/
def stK (h : Hd) (list : List Ent) (k : Nat) : BSt := ((groups list).take k).foldl putBlock (headSt h list)
theorem stK_zero (h : Hd) (list : List Ent) : stK h list 0 = headSt h list := rfl
theorem stK_succ {h : Hd} {list : List Ent} {k : Nat} {g : List Ent} (hg : (groups list)[k]? = some g) : stK h list (k + 1) = putBlock (stK h list k) g := by
  unfold stK
  rw [take_snocA hg, List.foldl_append]
  rfl
theorem stK_all {h : Hd} {list : List Ent} {k : Nat} (hk : k = (groups list).length) : stK h list k = blocksSt h list := by
  unfold stK blocksSt
  rw [List.take_of_length_le (by omega)]

theorem ln_grp (lines : List Ln) : (grp ByteArray.size (lines.map lnTxt)).map List.length = (grp szL lines).map List.length := by
  rw [grp_map, List.map_map]
  exact List.map_congr_left (fun g _ => by simp)

/-- The index with k rows. -/
def rwK (lines : List Ln) (k : Nat) : List UInt8 := ((grp szL lines).take k).flatMap (fun r => frameB 6 (r.flatMap lineB))
theorem rwK_succ {lines : List Ln} {k : Nat} {r : List Ln} (hr : (grp szL lines)[k]? = some r) : rwK lines (k + 1) = rwK lines k ++ frameB 6 (r.flatMap lineB) := by
  unfold rwK
  rw [take_snocA hr, List.flatMap_append]
  simp
theorem rwK_all {lines : List Ln} {k : Nat} (hk : k = (grp szL lines).length) : rwK lines k = rowsB lines := by
  unfold rwK rowsB
  rw [List.take_of_length_le (by omega)]

section
variable {P : Program} (w : World)
/-- append(b, s...) at an operation: in place or in a new block. -/
theorem wpList_append_rb {ops : Array Oper} {rest : List Oper} {o : Oper} {a : Act} {Q : Exit → Act → World → Prop} (hgd : o.guard = none) (sl x : Operand) (t u : TypeId)
    (ho : o.op = .call { callee := .builtin .append, args := #[sl, x], argTypes := #[t, u] })
    (e : TypeId) (i : TypeInfo) (ht : P.underlying t = some (.slice e)) (hu : P.underlying u = some .string) (hi : P.info? e = some i) (hz : i.zero = some (.int .u8 0)) (h1 : i.size = 1) (hb : i.bytes = 1)
    {v : Value} {l : List UInt8} {g cap : Nat} (hv : a.eval sl = v) (h : Rb w v l g cap) (s : ByteArray) (hx : a.eval x = .string s) (hlen : l.length + s.size ≤ 140737488355328)
    (hK : ∀ v' w' g' cap', Rb w' v' (l ++ s.data.toList) g' cap' → w.grownBy w' (some g) → (g' = g ∨ g' = w.heap.size) → wpList P ops Q rest (a.put o.dst v') w') : wpList P ops Q (o :: rest) a w := by
  refine wpList_plain hgd fun K hK' => ?_
  obtain ⟨v', w', g', cap', hrun, h2, h3, h4⟩ := run_append_rb (P := P) w t u o.type e i ht hu hi hz h1 hb h s hlen
  unfold Oper.wp
  simp [execOp, ho, resolve, invoke, builtin, hv, hx, hrun, Result.andThen]
  exact hK' _ _ (hK v' w' g' cap' h2 h3 h4)

end
end Go.Proofs.YtihgjihdmlomaaaDoor
