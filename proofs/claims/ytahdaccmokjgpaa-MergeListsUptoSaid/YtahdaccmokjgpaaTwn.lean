/-
  WALK: twins: the lists once more, in new memory, with marks behind them.
-/
import Derived.Test.YtahdaccmokjgpaaMvd
namespace Go.Proofs.Ytahdaccmokjgpaa
open Go.RowKit ArgK
set_option linter.unusedVariables false

/-- A LIST OF LISTS of which the outer cells D are cut versions of the rows L. -/
def ListsD (w : World) (B : Nat) (tl te : TypeId) (sz k : Nat) (l : Value) (D L : Nat → Value) (N : Nat → Nat) (X : Nat → List Value) : Prop :=
  w.ownsRow B tl 1 l k ((List.range k).map D) ∧ (∀ j, j < k → w.ownsRow B te sz (L j) (N j) (X j)) ∧ ApartL k L

theorem ListsD.none_ (w : World) (B : Nat) (tl te : TypeId) (sz : Nat) (D L : Nat → Value) (N : Nat → Nat) (X : Nat → List Value) : ListsD w B tl te sz 0 (.slice none 0 0) D L N X :=
  ⟨World.ownsRow_nil _ _ _ _, fun j hj => absurd hj (Nat.not_lt_zero _), fun i j hi => absurd hi (Nat.not_lt_zero _)⟩

section
variable {w w' : World} {B : Nat} {tl te : TypeId} {sz k : Nat} {l va vd : Value} {D L : Nat → Value} {N : Nat → Nat} {X : Nat → List Value}

theorem ListsD.below (h : ListsD w B tl te sz k l D L N X) (hb : Below w.heap.size w w') : ListsD w' B tl te sz k l D L N X :=
  ⟨own_belowAll h.1 hb, fun j hj => own_belowAll (h.2.1 j hj) hb, h.2.2⟩

theorem ListsD.step (h : ListsD w B tl te sz k l D L N X) (hv : w.ownsRow B te sz va (N k) (X k)) (hnew : ∀ b, va.ownBlock = some b → ∀ j, j < k → (L j).ownBlock ≠ some b) (hte : tl ≠ te) (o : Obj) {g cap : Nat}
    (hown : w'.ownsRow B tl 1 (.slice (some ⟨g, 0, none⟩) (k + 1) cap) (k + 1) ((List.range k).map D ++ [vd])) (hlies : Lies (w.alloc o) w' l k g cap) :
    ListsD w' B tl te sz (k + 1) (.slice (some ⟨g, 0, none⟩) (k + 1) cap) (fun j => if j = k then vd else D j) (fun j => if j = k then va else L j) N X := by
  obtain ⟨h1, h2, h3⟩ := h
  refine ⟨by rw [rows_snoc]; exact hown, fun j hj => ?_, fun i j hi hj hij b hb hb2 => ?_⟩
  · have hr : w.ownsRow B te sz (if j = k then va else L j) (N j) (X j) := by
      by_cases e : j = k
      · subst e; simpa using hv
      · simp only [if_neg e]; exact h2 j (by omega)
    exact hlies.own (hr.alloc o) (fun b hb e => own_ne h1 hr hte b e hb)
  · by_cases e1 : i = k
    · by_cases e2 : j = k
      · omega
      · simp only [if_pos e1] at hb
        simp only [if_neg e2] at hb2
        exact hnew b hb j (by omega) hb2
    · simp only [if_neg e1] at hb
      by_cases e2 : j = k
      · simp only [if_pos e2] at hb2
        exact hnew b hb2 i (by omega) hb
      · simp only [if_neg e2] at hb2
        exact h3 i j (by omega) (by omega) hij b hb hb2

theorem ListsD.fresh (h : ListsD w B tl te sz k l D L N X) {H : Nat} (hH : w.heap.size ≤ H) (hv : ∀ b, va.ownBlock = some b → H ≤ b) : ∀ b, va.ownBlock = some b → ∀ j, j < k → (L j).ownBlock ≠ some b := fun b hb j hj e => by
  have := ((h.2.1 j hj).lt b e).2
  have := hv b hb
  omega
end

def markI (i : Int) : Ent := markE (1000 + i)

def mark9 : Ent := markE 999

/-- A slice's first n. -/
def cutV (n : Nat) : Value → Value
  | .slice p _ c => .slice p n c
  | v => v

/-- Length of row j of the twin, and its hits: m lists (of the lengths of zz, the hits z j), 64 marks. -/
def twN (zz : List (List Ent)) (j : Nat) : Nat := if j < zz.length then (zz.getD j []).length + 64 else 1

def twZ (zz : List (List Ent)) (j : Nat) : List Ent := if j < zz.length then zz.getD j [] ++ List.replicate 64 (markI j) else [mark9]

def twC (zz : List (List Ent)) (j : Nat) : Nat := if j < zz.length then (zz.getD j []).length else 1

/-- The twin with k rows made. -/
def TwIs (w : World) (B : Nat) (k : Nat) (zz : List (List Ent)) (l : Value) (L : Nat → Value) : Prop :=
  ListsD w B 25 24 5 k l (fun j => cutV (twC zz j) (L j)) L (twN zz) (fun j => encE (twZ zz j))
theorem TwIs.step {w w' : World} {B k : Nat} {zz : List (List Ent)} {l va vd : Value} {L : Nat → Value} (h : TwIs w B k zz l L) (hv : w.ownsRow B 24 5 va (twN zz k) (encE (twZ zz k))) (hnew : ∀ b, va.ownBlock = some b → ∀ j, j < k → (L j).ownBlock ≠ some b)
    (hvd : vd = cutV (twC zz k) va) (o : Obj) {g cap : Nat}
    (hown : w'.ownsRow B 25 1 (.slice (some ⟨g, 0, none⟩) (k + 1) cap) (k + 1) ((List.range k).map (fun j => cutV (twC zz j) (L j)) ++ [vd])) (hlies : Lies (w.alloc o) w' l k g cap) :
    TwIs w' B (k + 1) zz (.slice (some ⟨g, 0, none⟩) (k + 1) cap) (fun j => if j = k then va else L j) := by
  have := ListsD.step h hv hnew (by decide) o hown hlies
  unfold TwIs
  rw [show (fun j => cutV (twC zz j) (if j = k then va else L j)) = (fun j => if j = k then vd else cutV (twC zz j) (L j)) from by
    funext j
    by_cases e : j = k
    · subst e; simp [hvd]
    · simp [e]]
  exact this

/-- A list with c marks behind it, in new memory. -/
def TwIn (w : World) (i : Nat) (z : List Ent) (c : Nat) (v : Value) (wr : World) : Prop :=
  wr.ownsRow w.heap.size 24 5 v (z.length + c) (encE (z ++ List.replicate c (markI i))) ∧ Below w.heap.size w wr

theorem twin_next {i c : Nat} {z : List Ent} : z ++ List.replicate (c + 1) (markI i) = (z ++ List.replicate c (markI i)) ++ [markI i] := by
  rw [List.append_assoc, List.replicate_succ']

set_option maxRecDepth 100000 in
set_option maxHeartbeats 4000000 in
theorem twins_calls (p : Option Addr) (cap : Nat) (zz : List (List Ent)) (hfb : zz.flatten.length + zz.length ≤ 1048576) (w : World) (h1 : LLs w w.heap.size p zz) (hnil : NilOk w p zz) :
    Calls Try.prog 18 #[.slice p zz.length cap] w fun e w' => ∃ g cap' L, e = .returned (.slice (some ⟨g, 0, none⟩) zz.length cap') ∧ Below w.heap.size w w' ∧
      TwIs w' w.heap.size (zz.length + 64) zz (.slice (some ⟨g, 0, none⟩) (zz.length + 64) cap') L := by
  obtain ⟨m, hm⟩ : ∃ m, zz.length = m := ⟨_, rfl⟩
  have hzl : ∀ (b : Nat) (z : List Ent), zz[b]? = some z → z.length ≤ 1048576 := fun b z hz => by
    have h2 := flat_take_part hz
    omega
  rw [hm] at hfb ⊢
  have HM := Lib.hid hm
  have HNil := Lib.hid hnil
  have H1 := Lib.hid h1
  have HZl := Lib.hid hzl
  clear h1 hm hzl hnil
  obtain ⟨i0, hi, hz0, hz1, hz2⟩ := info_parts entinfo
  obtain ⟨i1, hj, hy0, hy1, hy2⟩ := info_parts entsinfoM
  have hm1 : m ≤ 1048576 := by omega
  clear hfb
  go_enter Try.func18, Try.ntmps18
  go_wp2
  go_loopw [3, 4] (fun l i ws => ∃ (b : Nat) (L : Nat → Value) (lv : Value), b ≤ m ∧ i = .int .i64 b ∧ lv = l ∧ Below w.heap.size w ws ∧ Hid (TwIs ws w.heap.size b zz l L)) (fun _ i _ => m - (intOf i).toNat)
  case atStart => exact ⟨0, fun _ => undef, _, Nat.zero_le _, rfl, rfl, Below.refl _ _, Lib.hid (ListsD.none_ _ _ _ _ _ _ _ _ _)⟩
  case round =>
    obtain ⟨b, L, lv, hb, rfl, rfl, hbl, HH⟩ := hrel
    obtain ⟨wo, rfl⟩ : ∃ wo : World, wo = wr := ⟨_, rfl⟩
    by_cases hbt : b < m
    · have hbz : b < zz.length := by rw [HM.out]; exact hbt
      obtain ⟨z, hz⟩ : ∃ z, zz[b]? = some z := ⟨_, List.getElem?_eq_getElem hbz⟩
      have hzn := HZl.out b z hz
      obtain ⟨pa, q, c, hpa, hpb, hu0, hlc, hq0⟩ := H1.out b z hz
      obtain rfl := hpa
      have hu := (World.cell?_of_block (hbl.block _ (by rw [add_blockE]; exact hpb))).trans hu0
      have hqn : q = none → z.length = 0 ∧ c = 0 := fun h => HNil.out b z pa c hz rfl (by rw [← h]; exact hu0)
      have hlE : (encE z).length = z.length * 5 := encE_length z
      have hgD : zz.getD b [] = z := by rw [List.getD_eq_getElem?_getD, hz]; rfl
      have j0 : (0 : Int) ≤ (b : Int) := by omega
      have j1 : (b : Int) < (m : Int) := by omega
      have HGD := Lib.hid hgD
      have HBZ := Lib.hid hbz
      have HU := Lib.hid hu
      have HBl := Lib.hid hbl
      have hsz := hbl.size
      have hSrc := (hq0.below hbl (Nat.le_refl _)).news
      clear hgD hq0 hbl hz hbz hu0
      go_wp2_with (at_builtin; refine wpList_append_opt rfl _ _ 25 rfl wo.heap.size 24 i0 _ 5 48 Try.underlying25 hi hz0 hz1 hz2 rfl (by decide) (.slice none 0 0) 0 [] rfl ⟨rfl, .inl ⟨rfl, rfl⟩⟩ q z.length c (encE z) rfl hqn hlE hSrc encE_mem_one (by unfold maxLen; omega) (by omega) (Nat.le_refl _) ?_; intro v1 w1 hown1 hgrow1)
      have HI : Hid (TwIn wo b z 0 v1 w1) := Lib.hid (by
        refine ⟨by simpa using hown1, (Below.refl wo.heap.size wo).grown hgrow1 (Nat.le_refl _) (fun k hk => by cases hk)⟩)
      clear hown1 hgrow1 hSrc hqn
      go_wp2
      go_loopw [5, 6] (fun v j ws => ∃ (c : Nat) (lv' : Value), c ≤ 64 ∧ j = .int .i64 c ∧ lv' = v ∧ TwIn wo b z c lv' ws) (fun _ j _ => 64 - (intOf j).toNat)
      case atStart => exact ⟨0, _, Nat.zero_le _, rfl, rfl, HI.out⟩
      case round =>
        obtain ⟨e, v', he, rfl, rfl, hv, hbw⟩ := hrel
        obtain ⟨wi, rfl⟩ : ∃ wo : World, wo = wr := ⟨_, rfl⟩
        by_cases het : e < 64
        · have b0 : (0 : Int) ≤ (e : Int) := by omega
          have b1 : (e : Int) < 64 := by omega
          have hwk : IntKind.i64.wrap (1000 + (b : Int)) = 1000 + (b : Int) := by rw [IntKind.wrap_i64]; omega
          have CM := mark_calls (1000 + (b : Int)) (by omega) (by omega) wi
          unfold markE Ent.val at CM
          have HCM := Lib.hid CM
          have HV0 := Lib.hid hv
          have HBW0 := Lib.hid hbw
          clear CM hv hbw
          go_wp2_with fail
          refine HCM.out.mono ?_
          rintro e' wj ⟨rfl, hbj⟩
          have hv := own_belowAll HV0.out hbj
          have hbw := HBW0.out.trans (hbj.mono HBW0.out.size)
          clear hbj
          obtain ⟨wi, rfl⟩ : ∃ wo : World, wo = wj := ⟨_, rfl⟩
          have hva := hv.alloc (.cells #[.int .i64 (-(1000 + (b : Int))), .string ⟨#[109, 97, 114, 107]⟩, .int .i64 (-(1000 + (b : Int))), .int .i64 (-(1000 + (b : Int))), .bool false] 24)
          have hnews := World.news_of_block (cs := #[.int .i64 (-(1000 + (b : Int))), .string ⟨#[109, 97, 114, 107]⟩, .int .i64 (-(1000 + (b : Int))), .int .i64 (-(1000 + (b : Int))), .bool false]) (t := 24) (fr := (0, 0)) (heap_alloc_new wi (.cells #[.int .i64 (-(1000 + (b : Int))), .string ⟨#[109, 97, 114, 107]⟩, .int .i64 (-(1000 + (b : Int))), .int .i64 (-(1000 + (b : Int))), .bool false] 24))
          have hsw := hbw.size
          have HBW := Lib.hid (hbw.trans ((Below.refl wi.heap.size wi).alloc (Nat.le_refl _) (.cells #[.int .i64 (-(1000 + (b : Int))), .string ⟨#[109, 97, 114, 107]⟩, .int .i64 (-(1000 + (b : Int))), .int .i64 (-(1000 + (b : Int))), .bool false] 24) |>.mono hsw))
          have HGO := Lib.hid (fun g (hg : v'.ownBlock = some g) => (hv.lt g hg).1)
          clear hbw
          go_wp2_with (at_builtin; refine wpList_append_two _ rfl _ _ 25 rfl wo.heap.size 24 i0 _ 5 48 Try.underlying25 hi hz0 hz1 hz2 rfl (by decide) v' (z.length + e) _ rfl hva ⟨wi.heap.size, 0, none⟩ 1 1 (markI b).cells rfl rfl hnews (by simp [Value.oneCell', Ent.cells]) (by decide) (by unfold maxLen; omega) (by omega) (by simp; omega) ?_; intro g' capn y3 hown' hold hlies hlt2)
          have HM2 : Hid (TwIn wo b z (e + 1) (.slice (some ⟨g', 0, none⟩) (z.length + e + 1) capn) y3) := Lib.hid (by
            refine ⟨?_, hlies.below HBW.out (by simp; omega) (fun q hq => HGO.out q hq)⟩
            rw [twin_next, encE_snoc]
            exact hown')
          clear hown' hold hlies hlt2 hva hnews
          go_wp2
          go_roundw
          case rel => exact ⟨e + 1, _, by omega, by go_num, rfl, HM2.out⟩
          case measure => simp [intOf]; omega
        · obtain rfl : e = 64 := by omega
          have hu := (hbw.cell (cell_lt HU.out)).trans HU.out
          obtain ⟨pv, cv, rfl, hcv1, hcv2, hpv⟩ := own_rd hv
          obtain ⟨gv, rfl, _⟩ := hpv (by omega)
          have hl2 := ListsD.below HH.out hbw
          have hnew := ListsD.fresh HH.out (va := .slice (some ⟨gv, 0, none⟩) (z.length + 64) cv) (H := wo.heap.size) (Nat.le_refl _) (fun b hb => (hv.lt b hb).1)
          have hb2' := HBl.out.trans (hbw.mono hsz)
          have hz2 := hbw.size
          have hraB := own_le (base' := w.heap.size) hv hsz
          have HR := Lib.hid (And.intro hl2 (And.intro hraB hnew))
          have hlr := hl2.1
          have e1 : twN zz b = z.length + 64 := by unfold twN; rw [if_pos HBZ.out, HGD.out]
          have e2 : twZ zz b = z ++ List.replicate 64 (markI b) := by unfold twZ; rw [if_pos HBZ.out, HGD.out]
          have e3 : twC zz b = z.length := by unfold twC; rw [if_pos HBZ.out, HGD.out]
          have HE1 := Lib.hid e1
          have HE2 := Lib.hid e2
          have HE3 := Lib.hid e3
          have k1 : (z.length : Int) ≤ (cv : Int) := by omega
          have k2 : (0 : Int) ≤ (z.length : Int) := by omega
          clear hv hl2 hnew hbw hraB e1 e2 e3 hcv2
          go_wp2_with (at_builtin; refine wpList_append_two _ rfl _ _ 43 rfl w.heap.size 25 i1 (.slice none 0 0) 1 24 Try.underlying43 hj hy0 hy1 hy2 rfl (by decide) lv b _ rfl (hlr.alloc _) ⟨wi.heap.size, 0, none⟩ 1 1 [.slice (some ⟨gv, 0, none⟩) z.length cv] rfl rfl (World.news_of_block (heap_alloc_new wi _)) (by simp [Value.oneCell']) (by decide) (by unfold maxLen; omega) (by omega) (by simp; omega) ?_; intro g' capn y3 hown' hold hlies hlt2)
          have hln := TwIs.step HR.out.1 (by rw [HE1.out, HE2.out]; exact HR.out.2.1) HR.out.2.2 (by rw [HE3.out]; rfl) _ hown' hlies
          have hbn : Below w.heap.size w y3 := hlies.below (hb2'.alloc (by omega) _) (by simp; omega) (fun b hb => (hlr.lt b hb).1)
          have HLN := Lib.hid hln
          have HBN := Lib.hid hbn
          clear hln hbn hown' hold hlies hlt2
          go_wp2
          go_roundw
          case rel => exact ⟨b + 1, _, _, by omega, by go_num, rfl, HBN.out, Lib.hid HLN.out⟩
          case measure => simp [intOf]; omega
    · obtain rfl : b = m := by omega
      have HBl := Lib.hid hbl
      have hsz := hbl.size
      clear hbl
      go_wp2
      go_loopw [3, 7] (fun l i ws => ∃ (c : Nat) (L : Nat → Value) (lv' : Value), c ≤ 64 ∧ i = .int .i64 c ∧ lv' = l ∧ Below w.heap.size w ws ∧ Hid (TwIs ws w.heap.size (b + c) zz l L)) (fun _ i _ => 64 - (intOf i).toNat)
      case atStart => exact ⟨0, L, _, Nat.zero_le _, rfl, rfl, HBl.out, HH⟩
      case round =>
        obtain ⟨e, L2, lv', he, rfl, rfl, hbw, HH2⟩ := hrel
        obtain ⟨wi, rfl⟩ : ∃ wo : World, wo = wr := ⟨_, rfl⟩
        by_cases het : e < 64
        · have b0 : (0 : Int) ≤ (e : Int) := by omega
          have b1 : (e : Int) < 64 := by omega
          have CM := mark_calls 999 (by decide) (by decide) wi
          unfold markE Ent.val at CM
          have HCM := Lib.hid CM
          have HBW0 := Lib.hid hbw
          have HH20 := HH2
          clear CM hbw HH2
          go_wp2_with fail
          refine HCM.out.mono ?_
          rintro e' wj ⟨rfl, hbj⟩
          have hbw := HBW0.out.trans (hbj.mono HBW0.out.size)
          have HH2 := Lib.hid (ListsD.below HH20.out hbj)
          clear hbj
          obtain ⟨wi, rfl⟩ : ∃ wo : World, wo = wj := ⟨_, rfl⟩
          have hsw := hbw.size
          have hv : (wi.alloc (.cells #[.int .i64 (-999), .string ⟨#[109, 97, 114, 107]⟩, .int .i64 (-999), .int .i64 (-999), .bool false] 24)).ownsRow wi.heap.size 24 5 (.slice (some ⟨wi.heap.size, 0, none⟩) 1 1) 1 (encE [mark9]) :=
            ⟨rfl, .inr ⟨wi.heap.size, 1, _, rfl, Nat.le_refl _, World.alloc_heap_new wi _, Nat.le_refl _, by decide, rfl, rfl⟩⟩
          have hbe := (Below.refl wi.heap.size wi).alloc (Nat.le_refl _) (.cells #[.int .i64 (-999), .string ⟨#[109, 97, 114, 107]⟩, .int .i64 (-999), .int .i64 (-999), .bool false] 24)
          have hl2 := ListsD.below HH2.out hbe
          have hnew := ListsD.fresh HH2.out (va := .slice (some ⟨wi.heap.size, 0, none⟩) 1 1) (H := wi.heap.size) (Nat.le_refl _) (fun b hb => (hv.lt b hb).1)
          have hb2' := hbw.trans (hbe.mono hsw)
          have hraB := own_le (base' := w.heap.size) hv hsw
          have e0 : ¬ b + e < zz.length := by rw [HM.out]; omega
          have e1 : twN zz (b + e) = 1 := by unfold twN; rw [if_neg e0]
          have e2 : twZ zz (b + e) = [mark9] := by unfold twZ; rw [if_neg e0]
          have e3 : twC zz (b + e) = 1 := by unfold twC; rw [if_neg e0]
          have HR := Lib.hid (And.intro hl2 (And.intro hraB hnew))
          have hlr := hl2.1
          have HE1 := Lib.hid e1
          have HE2 := Lib.hid e2
          have HE3 := Lib.hid e3
          have HBW := Lib.hid hb2'
          have hnews := World.news_of_block (cs := #[.slice (some ⟨wi.heap.size, 0, none⟩) 1 1]) (t := 25) (fr := (0, 0)) (heap_alloc_new (wi.alloc (.cells #[.int .i64 (-999), .string ⟨#[109, 97, 114, 107]⟩, .int .i64 (-999), .int .i64 (-999), .bool false] 24)) (.cells #[.slice (some ⟨wi.heap.size, 0, none⟩) 1 1] 25))
          rw [show (wi.alloc (.cells #[.int .i64 (-999), .string ⟨#[109, 97, 114, 107]⟩, .int .i64 (-999), .int .i64 (-999), .bool false] 24)).heap.size = wi.heap.size + 1 by simp] at hnews
          clear hv hl2 hnew hbw hraB e1 e2 e3 hbe e0 hb2'
          go_wp2_with (at_builtin; refine wpList_append_two _ rfl _ _ 43 rfl w.heap.size 25 i1 (.slice none 0 0) 1 24 Try.underlying43 hj hy0 hy1 hy2 rfl (by decide) lv' (b + e) _ rfl (hlr.alloc _) ⟨wi.heap.size + 1, 0, none⟩ 1 1 [.slice (some ⟨wi.heap.size, 0, none⟩) 1 1] rfl rfl hnews (by simp [Value.oneCell']) (by decide) (by unfold maxLen; omega) (by omega) (by simp; omega) ?_; intro g' capn y3 hown' hold hlies hlt2)
          have hln := TwIs.step HR.out.1 (by rw [HE1.out, HE2.out]; exact HR.out.2.1) HR.out.2.2 (by rw [HE3.out]; rfl) _ hown' hlies
          have hbn : Below w.heap.size w y3 := hlies.below (HBW.out.alloc (by simp; omega) _) (by simp; omega) (fun b hb => (hlr.lt b hb).1)
          have HLN := Lib.hid hln
          have HBN := Lib.hid hbn
          clear hln hbn hown' hold hlies hlt2 hnews
          go_wp2
          go_roundw
          case rel => exact ⟨e + 1, _, _, by omega, by go_num, rfl, HBN.out, Lib.hid HLN.out⟩
          case measure => simp [intOf]; omega
        · obtain rfl : e = 64 := by omega
          have hrow := HH2.out.1
          obtain ⟨pv, cv, rfl, hcv1, hcv2, hpv⟩ := own_rd hrow
          obtain ⟨gv, rfl, _⟩ := hpv (by omega)
          have HBW := Lib.hid hbw
          have k1 : (b : Int) ≤ (cv : Int) := by omega
          have k2 : (0 : Int) ≤ (b : Int) := by omega
          clear hbw hrow hpv
          go_wp2
          go_ret
          exact ⟨gv, cv, L2, rfl, HBW.out, HH2.out⟩
end Go.Proofs.Ytahdaccmokjgpaa
