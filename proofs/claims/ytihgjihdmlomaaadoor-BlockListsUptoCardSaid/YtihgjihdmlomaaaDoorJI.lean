/-
  WALKS: the first block for a place (sort.Search, the closure, blocks).
  WALK: sort.Search at a file's blocks.
  WALK: the blocks from the first one for a place on (blocks): where they begin.
-/
import Derived.Test.YtihgjihdmlomaaaDoorJBrD
namespace Go.Proofs.YtihgjihdmlomaaaDoor
open Go.RowKit ArgK
set_option linter.unusedVariables false

/-- A line's seven cells. -/
theorem line_cells {W : World} {base g n c : Nat} {ls : List Ln} (h : W.ownsRow base 134 7 (.slice (some ⟨g, 0, none⟩) n c) n (encL ls)) {i : Nat} {x : Ln} (hx : ls[i]? = some x) :
    W.cell? ⟨g, i * 7, none⟩ = some (.int .i64 x.first.v) ∧ W.cell? ⟨g, i * 7 + 1, none⟩ = some (.string x.first.c) ∧ W.cell? ⟨g, i * 7 + 2, none⟩ = some (.int .i64 x.first.i) ∧ W.cell? ⟨g, i * 7 + 3, none⟩ = some (.int .i64 x.first.s) ∧ W.cell? ⟨g, i * 7 + 4, none⟩ = some (.bool x.first.d) ∧ W.cell? ⟨g, i * 7 + 5, none⟩ = some (.int .i64 x.count) ∧ W.cell? ⟨g, i * 7 + 6, none⟩ = some (.int .i64 x.pos) := by
  have hn := h.1
  rw [encL_length] at hn
  have hi := (List.getElem?_eq_some_iff.1 hx).1
  have hg := encL_get ls i x hx
  refine ⟨?_, ?_, ?_, ?_, ?_, ?_, ?_⟩
  · rw [h.cellAt _ (by omega)]; exact hg 0 (by decide)
  · rw [h.cellAt _ (by omega)]; exact hg 1 (by decide)
  · rw [h.cellAt _ (by omega)]; exact hg 2 (by decide)
  · rw [h.cellAt _ (by omega)]; exact hg 3 (by decide)
  · rw [h.cellAt _ (by omega)]; exact hg 4 (by decide)
  · rw [h.cellAt _ (by omega)]; exact hg 5 (by decide)
  · rw [h.cellAt _ (by omega)]; exact hg 6 (by decide)

/-- Does a block begin behind a place? -/
def behindB (from_ : Ent) (x : Ln) : Bool := decide (0 < cmpE x.first from_)

set_option maxRecDepth 100000 in
set_option maxHeartbeats 2000000 in
theorem behind_calls (base fb b2 b3 : Nat) (h : Hd) (l : List Ent) (r : Int) (from_ : Ent) (i : Nat) (x : Ln) (hx : (linesB h l)[i]? = some x) (W : World) (hF : FileAt W base fb h l r)
    (h2 : W.heap[b2]? = some (.cells #[.pointer (some ⟨fb, 0, none⟩)] 36 (0, 0))) (h3 : W.heap[b3]? = some (.cells #[.int .i64 from_.v, .string from_.c, .int .i64 from_.i, .int .i64 from_.s, .bool from_.d] 33 (0, 0))) :
    Calls Tryd.prog 75 #[.int .i64 i, .pointer (some ⟨b2, 0, none⟩), .pointer (some ⟨b3, 0, none⟩)] W fun e w' => e = .returned (.bool (behindB from_ x)) ∧ Below W.heap.size W w' := by
  obtain ⟨lp, lc, q, c, hfb, hown, hlin, hbs⟩ := hF
  obtain ⟨n, hn⟩ : ∃ n, (linesB h l).length = n := ⟨_, rfl⟩
  rw [hn] at hfb hlin
  have hin : i < n := by rw [← hn]; exact (List.getElem?_eq_some_iff.1 hx).1
  obtain ⟨q', c', e', _, _, hq⟩ := own_rd hlin
  simp only [Value.slice.injEq] at e'
  obtain ⟨rfl, _, rfl⟩ := e'
  obtain ⟨g, rfl, _, hgl, hgc, _⟩ := hq (by omega)
  obtain ⟨y0, y1, y2, y3, y4, y5, y6⟩ := line_cells hlin hx
  obtain ⟨x7, _⟩ := arr_cell hfb (k := 7) rfl
  obtain ⟨x2, _⟩ := arr_cell h2 (k := 0) rfl
  obtain ⟨z0, z1, z2, z3, z4⟩ := cells5 h3
  have CC := Lib.hid (fun W => Compare_calls x.first from_ W)
  unfold Ent.val at CC
  obtain ⟨cc, hcc⟩ : ∃ cc, cmpE x.first from_ = cc := ⟨_, rfl⟩
  have HB : Hid (behindB from_ x = decide (0 < cc)) := Lib.hid (by unfold behindB; rw [hcc])
  rw [hcc] at CC
  have HK : Hid (∀ W', Below W.heap.size W W' → W'.cell? ⟨b2, 0, none⟩ = some (.pointer (some ⟨fb, 0, none⟩)) ∧ W'.cell? ⟨fb, 7, none⟩ = some (.slice (some ⟨g, 0, none⟩) n c) ∧ W'.cell? ⟨g, i * 7, none⟩ = some (.int .i64 x.first.v) ∧ W'.cell? ⟨g, i * 7 + 1, none⟩ = some (.string x.first.c) ∧ W'.cell? ⟨g, i * 7 + 2, none⟩ = some (.int .i64 x.first.i) ∧ W'.cell? ⟨g, i * 7 + 3, none⟩ = some (.int .i64 x.first.s) ∧ W'.cell? ⟨g, i * 7 + 4, none⟩ = some (.bool x.first.d) ∧ W'.cell? ⟨b3, 0, none⟩ = some (.int .i64 from_.v) ∧ W'.cell? ⟨b3, 1, none⟩ = some (.string from_.c) ∧ W'.cell? ⟨b3, 2, none⟩ = some (.int .i64 from_.i) ∧ W'.cell? ⟨b3, 3, none⟩ = some (.int .i64 from_.s) ∧ W'.cell? ⟨b3, 4, none⟩ = some (.bool from_.d)) := Lib.hid (fun W' hW =>
    ⟨(hW.cell (p := ⟨b2, 0, none⟩) (Array.getElem?_eq_some_iff.1 h2).1).trans x2, (hW.cell (p := ⟨fb, 7, none⟩) (Array.getElem?_eq_some_iff.1 hfb).1).trans x7, (hW.cell (p := ⟨g, i * 7, none⟩) hgl).trans y0, (hW.cell (p := ⟨g, i * 7 + 1, none⟩) hgl).trans y1, (hW.cell (p := ⟨g, i * 7 + 2, none⟩) hgl).trans y2, (hW.cell (p := ⟨g, i * 7 + 3, none⟩) hgl).trans y3, (hW.cell (p := ⟨g, i * 7 + 4, none⟩) hgl).trans y4,
     (hW.cell (p := ⟨b3, 0, none⟩) (Array.getElem?_eq_some_iff.1 h3).1).trans z0, (hW.cell (p := ⟨b3, 1, none⟩) (Array.getElem?_eq_some_iff.1 h3).1).trans z1, (hW.cell (p := ⟨b3, 2, none⟩) (Array.getElem?_eq_some_iff.1 h3).1).trans z2, (hW.cell (p := ⟨b3, 3, none⟩) (Array.getElem?_eq_some_iff.1 h3).1).trans z3, (hW.cell (p := ⟨b3, 4, none⟩) (Array.getElem?_eq_some_iff.1 h3).1).trans z4⟩)
  have i0' : (0 : Int) ≤ (i : Int) := by omega
  have i1' : (i : Int) < (n : Int) := by omega
  rw [HB.out]
  clear hcc hn hfb hlin hown hgc hq hx h2 h3 y5 y6
  go_enter Tryd.func75, Tryd.ntmps75
  go_wp2
  go_region_held3 (fun W' => W'.cell? ⟨b2, 0, none⟩ = some (.pointer (some ⟨fb, 0, none⟩)) ∧ W'.cell? ⟨fb, 7, none⟩ = some (.slice (some ⟨g, 0, none⟩) n c) ∧ W'.cell? ⟨g, i * 7, none⟩ = some (.int .i64 x.first.v) ∧ W'.cell? ⟨g, i * 7 + 1, none⟩ = some (.string x.first.c) ∧ W'.cell? ⟨g, i * 7 + 2, none⟩ = some (.int .i64 x.first.i) ∧ W'.cell? ⟨g, i * 7 + 3, none⟩ = some (.int .i64 x.first.s) ∧ W'.cell? ⟨g, i * 7 + 4, none⟩ = some (.bool x.first.d) ∧ W'.cell? ⟨b3, 0, none⟩ = some (.int .i64 from_.v) ∧ W'.cell? ⟨b3, 1, none⟩ = some (.string from_.c) ∧ W'.cell? ⟨b3, 2, none⟩ = some (.int .i64 from_.i) ∧ W'.cell? ⟨b3, 3, none⟩ = some (.int .i64 from_.s) ∧ W'.cell? ⟨b3, 4, none⟩ = some (.bool from_.d)) (first | exact ⟨x2, x7, y0, y1, y2, y3, y4, z0, z1, z2, z3, z4⟩ | exact HK.out _ (below_of hb1)) (first | (go_at_call 33; refine (CC.out _).mono ?_; rintro e w1 ⟨rfl, hb1⟩))
  have HB1 := Lib.hid (below_of hb1)
  clear hb1
  go_wp2
  go_ret
  exact ⟨rfl, HB1.out⟩
end Go.Proofs.YtihgjihdmlomaaaDoor

namespace Go.Proofs.YtihgjihdmlomaaaDoor
open Go.RowKit ArgK
set_option linter.unusedVariables false

/-- The blocks from s on begin behind the place, those ahead of s do not. -/
def Parted (p : Nat → Bool) (n s : Nat) : Prop := s ≤ n ∧ (∀ k, k < s → p k = false) ∧ (∀ k, s ≤ k → k < n → p k = true)

set_option maxRecDepth 100000 in
set_option maxHeartbeats 2000000 in
theorem search_calls (n b2 b3 : Nat) (hn : n ≤ 1000000000) (p : Nat → Bool) (hm : ∀ i j, i ≤ j → j < n → p i = true → p j = true) (w : World)
    (hC : ∀ i, i < n → ∀ W, Below w.heap.size w W → Calls Tryd.prog 75 #[.int .i64 i, .pointer (some ⟨b2, 0, none⟩), .pointer (some ⟨b3, 0, none⟩)] W fun e w' => e = .returned (.bool (p i)) ∧ Below W.heap.size W w') :
    Calls Tryd.prog 76 #[.int .i64 n, .func (.func 75) #[] #[.pointer (some ⟨b2, 0, none⟩), .pointer (some ⟨b3, 0, none⟩)]] w fun e w' => Below w.heap.size w w' ∧ ∃ s : Nat, e = .returned (.int .i64 s) ∧ Parted p n s := by
  have HC := Lib.hid hC
  have HM := Lib.hid hm
  clear hC hm
  go_enter Tryd.func76, Tryd.ntmps76
  go_wp2
  go_loopw [5, 6] (fun iv jv wr => ∃ i j : Nat, iv = .int .i64 i ∧ jv = .int .i64 j ∧ i ≤ j ∧ j ≤ n ∧ (∀ k, k < i → p k = false) ∧ (∀ k, j ≤ k → k < n → p k = true) ∧ Below w.heap.size w wr) (fun iv jv _ => (intOf jv).toNat - (intOf iv).toNat)
  case atStart => exact ⟨0, n, rfl, rfl, Nat.zero_le _, Nat.le_refl _, fun k hk => absurd hk (Nat.not_lt_zero _), fun k h1 h2 => absurd h2 (by omega), Below.refl _ _⟩
  case round =>
    obtain ⟨i, j, rfl, rfl, hij, hjn, hlo, hhi, hbl⟩ := hrel
    by_cases hlt : i < j
    · obtain ⟨m, hm⟩ : ∃ m, (i + j) / 2 = m := ⟨_, rfl⟩
      have hmi : i ≤ m := by omega
      have hmj : m < j := by omega
      have C := HC.out m (by omega) wr hbl
      have HC1 := Lib.hid C
      have hw1 : IntKind.i64.wrap ((i : Int) + (j : Int)) = (i : Int) + (j : Int) := by rw [IntKind.wrap_i64]; omega
      have hw2 : IntKind.u64.wrap ((i : Int) + (j : Int)) = (i : Int) + (j : Int) := by rw [IntKind.wrap_u64]; omega
      have hw3 : ((i : Int) + (j : Int)) / 2 = (m : Int) := by omega
      have hw4 : IntKind.u64.wrap (m : Int) = (m : Int) := by rw [IntKind.wrap_u64]; omega
      have hw5 : IntKind.i64.wrap (m : Int) = (m : Int) := by rw [IntKind.wrap_i64]; omega
      clear C hm
      go_wp2_with fail
      refine HC1.out.mono ?_
      rintro e w1 ⟨rfl, hb1⟩
      have hbl1 := hbl.trans (hb1.mono hbl.size)
      rcases hpm : p m with _ | _
      · have hlo2 : ∀ k, k < m + 1 → p k = false := fun k hk => by
          rcases hpk : p k with _ | _
          · rfl
          · have := HM.out k m (by omega) (by omega) hpk
            rw [hpm] at this
            cases this
        have hR := Lib.hid (And.intro hlo2 (And.intro hhi hbl1))
        clear hpm hlo hlo2 hhi hb1 hbl1 hbl
        go_wp2
        go_roundw
        case rel => exact ⟨m + 1, j, by go_num, rfl, by omega, hjn, hR.out.1, hR.out.2.1, hR.out.2.2⟩
        case measure => simp [intOf]; omega
      · have hhi2 : ∀ k, m ≤ k → k < n → p k = true := fun k h1 h2 => HM.out m k h1 h2 hpm
        have hR := Lib.hid (And.intro hlo (And.intro hhi2 hbl1))
        clear hpm hlo hhi2 hhi hb1 hbl1 hbl
        go_wp2
        go_roundw
        case rel => exact ⟨i, m, rfl, rfl, hmi, by omega, hR.out.1, hR.out.2.1, hR.out.2.2⟩
        case measure => simp [intOf]; omega
    · obtain rfl : i = j := by omega
      have HEnd : Hid (Parted p n i) := Lib.hid ⟨hjn, hlo, hhi⟩
      go_wp2
      go_ret
      exact ⟨hbl, i, rfl, HEnd.out⟩
end Go.Proofs.YtihgjihdmlomaaaDoor

namespace Go.Proofs.YtihgjihdmlomaaaDoor
open Go.RowKit ArgK
set_option linter.unusedVariables false

/-- How many entries stand ahead of block i. -/
def offL (ls : List Ln) (i : Nat) : Nat := ((ls.take i).map Ln.count).sum
theorem offL_succ {ls : List Ln} {i : Nat} {x : Ln} (h : ls[i]? = some x) : offL ls (i + 1) = offL ls i + x.count := by
  unfold offL
  rw [List.take_add_one, h, List.map_append, List.sum_append]
  simp
theorem offL_le (ls : List Ln) (i : Nat) : offL ls i ≤ (ls.map Ln.count).sum := by
  unfold offL
  conv => rhs; rw [← List.take_append_drop i ls, List.map_append, List.sum_append]
  exact Nat.le_add_right _ _
/-- Does block i begin behind a place? -/
def behindI (from_ : Ent) (ls : List Ln) (i : Nat) : Bool := match ls[i]? with | some x => behindB from_ x | none => true

def BlkPost (w : World) (fb : Nat) (ls : List Ln) (from_ : Ent) (e : Ending) (w' : World) : Prop :=
  ∃ b6 b2 b7 s, e = .returned (.func (.func 77) #[] #[.pointer (some ⟨b6, 0, none⟩), .pointer (some ⟨b2, 0, none⟩), .pointer (some ⟨b7, 0, none⟩)]) ∧ Parted (behindI from_ ls) ls.length s ∧
    w'.heap[b6]? = some (.cells #[.int .i64 ((s - 1 : Nat) : Int)] 3 (0, 0)) ∧ w'.heap[b2]? = some (.cells #[.pointer (some ⟨fb, 0, none⟩)] 36 (0, 0)) ∧ w'.heap[b7]? = some (.cells #[.int .i64 ((offL ls (s - 1) : Nat) : Int)] 3 (0, 0)) ∧
    w.heap.size ≤ b6 ∧ w.heap.size ≤ b2 ∧ w.heap.size ≤ b7 ∧ b6 ≠ b7 ∧ b2 ≠ b7 ∧ b2 ≠ b6 ∧ Below w.heap.size w w'

theorem FileAt.below {W W' : World} {base fb : Nat} {h : Hd} {l : List Ent} {r : Int} (hF : FileAt W base fb h l r) (hb : Below W.heap.size W W') : FileAt W' base fb h l r := by
  obtain ⟨lp, lc, q, c, h1, h2, h3, h4⟩ := hF
  exact ⟨lp, lc, q, c, (hb.block fb (Array.getElem?_eq_some_iff.1 h1).1).trans h1, own_belowAll h2 hb, own_belowAll h3 hb, h4⟩

/-- At the head of each round. -/
def BlRel (w : World) (fb b2 b6 b7 : Nat) (ls : List Ln) (f k : Nat) (wr : World) : Prop :=
  k ≤ f ∧ wr.heap[b6]? = some (.cells #[.int .i64 (f : Int)] 3 (0, 0)) ∧ wr.heap[b2]? = some (.cells #[.pointer (some ⟨fb, 0, none⟩)] 36 (0, 0)) ∧ wr.heap[b7]? = some (.cells #[.int .i64 ((offL ls k : Nat) : Int)] 3 (0, 0)) ∧ Below w.heap.size w wr

set_option maxRecDepth 100000 in
set_option maxHeartbeats 2000000 in
theorem fblocks_calls (base fb : Nat) (h : Hd) (l : List Ent) (r : Int) (from_ : Ent) (w : World) (hF : FileAt w base fb h l r) (hn : (linesB h l).length ≤ 2097152) (hsum : ((linesB h l).map Ln.count).sum ≤ 2097152)
    (hmono : ∀ i j, i ≤ j → j < (linesB h l).length → behindI from_ (linesB h l) i = true → behindI from_ (linesB h l) j = true) :
    Calls Tryd.prog 51 #[.pointer (some ⟨fb, 0, none⟩), from_.val] w (BlkPost w fb (linesB h l) from_) := by
  have hF0 := hF
  obtain ⟨lp, lc, q, c, hfb, hown, hlin, hbs⟩ := hF0
  obtain ⟨ls, hls⟩ : ∃ ls, linesB h l = ls := ⟨_, rfl⟩
  have CB := fun b2 b3 i x hx W hW h2 h3 => behind_calls base fb b2 b3 h l r from_ i x hx W hW h2 h3
  rw [hls] at hn hsum hmono CB hfb hlin ⊢
  obtain ⟨n, hnl⟩ : ∃ n, ls.length = n := ⟨_, rfl⟩
  rw [hnl] at hn hmono hfb hlin
  have hfl := (Array.getElem?_eq_some_iff.1 hfb).1
  have h1 := World.alloc_heap_new w (.cells #[.pointer (some ⟨fb, 0, none⟩)] 36)
  have h2 := World.alloc_heap_new (w.alloc (.cells #[.pointer (some ⟨fb, 0, none⟩)] 36)) (.cells #[.int .i64 from_.v, .string from_.c, .int .i64 from_.i, .int .i64 from_.s, .bool from_.d] 33)
  have hb2 : Below w.heap.size w ((w.alloc (.cells #[.pointer (some ⟨fb, 0, none⟩)] 36)).alloc (.cells #[.int .i64 from_.v, .string from_.c, .int .i64 from_.i, .int .i64 from_.s, .bool from_.d] 33)) := ((Below.refl _ w).alloc (Nat.le_refl _) _).alloc (by simp) _
  have h1' := (Below.heap_alloc (w.alloc (.cells #[.pointer (some ⟨fb, 0, none⟩)] 36)) (.cells #[.int .i64 from_.v, .string from_.c, .int .i64 from_.i, .int .i64 from_.s, .bool from_.d] 33) w.heap.size (by simp)).trans h1
  have hsz : ((w.alloc (.cells #[.pointer (some ⟨fb, 0, none⟩)] 36)).alloc (.cells #[.int .i64 from_.v, .string from_.c, .int .i64 from_.i, .int .i64 from_.s, .bool from_.d] 33)).heap.size = w.heap.size + 1 + 1 := by simp
  rw [World.size_alloc] at h2
  unfold Ent.val
  go_enter Tryd.func51, Tryd.ntmps51
  go_upto_region 2 with fail
  generalize (w.alloc (.cells #[.pointer (some ⟨fb, 0, none⟩)] 36)).alloc (.cells #[.int .i64 from_.v, .string from_.c, .int .i64 from_.i, .int .i64 from_.s, .bool from_.d] 33) = w0 at *
  have hF0 := hF.below hb2
  have CS := search_calls n w.heap.size (w.heap.size + 1) (by omega) (behindI from_ ls) hmono w0 (fun i hi W hW => by
    obtain ⟨x, hx⟩ : ∃ x, ls[i]? = some x := ⟨_, List.getElem?_eq_getElem (by omega)⟩
    have hb : behindI from_ ls i = behindB from_ x := by unfold behindI; rw [hx]
    rw [hb]
    have hlt : w.heap.size + 1 < w0.heap.size := by omega
    exact CB _ _ i x hx W (hF0.below hW) ((hW.block _ (by omega)).trans h1') ((hW.block _ hlt).trans h2))
  have HCS := Lib.hid CS
  obtain ⟨x0, _⟩ := arr_cell h1' (k := 0) rfl
  obtain ⟨x7, _⟩ := arr_cell ((hb2.block fb hfl).trans hfb) (k := 7) rfl
  have HFb := Lib.hid hfb
  have HLin := Lib.hid hlin
  have HB2 := Lib.hid hb2
  have H1 := Lib.hid h1'
  have HNL := Lib.hid hnl
  clear CS CB hF hfb hown hlin h1 h2 h1' hmono hb2 hF0 hls hnl
  go_wp2_with fail
  refine HCS.out.mono ?_
  rintro e w1 ⟨hb1, s, rfl, hpt⟩
  have hsn := hpt.1
  have hs1 := hb1.size
  obtain ⟨f, hf⟩ : ∃ f, s - 1 = f := ⟨_, rfl⟩
  have hw1 : IntKind.i64.wrap ((s : Int) - 1) = (s : Int) - 1 := by rw [IntKind.wrap_i64]; omega
  by_cases hs2 : 1 < s
  · have hc1 : (0 : Int) < (s : Int) - 1 := by omega
    have hc2 : (1 : Int) < (s : Int) := by omega
    have hfe : (s : Int) - 1 = (f : Int) := by omega
    obtain ⟨q', c', e', hnc, _, hq⟩ := own_rd HLin.out
    simp only [Value.slice.injEq] at e'
    obtain ⟨rfl, _, rfl⟩ := e'
    obtain ⟨g, rfl, _, hgl, _, _⟩ := hq (by omega)
    have hfc : (f : Int) ≤ (c : Int) := by omega
    have hfc2 : f ≤ c := by omega
    have hfc3 : (0 : Int) ≤ (f : Int) := by omega
    clear hq
    clear x7 x0
    go_upto_region 4 with fail
    obtain ⟨w2, hw2, hsz2⟩ : ∃ w2, (w1.alloc (.cells #[.int .i64 (f : Int)] 3)).alloc (.cells #[.int .i64 0] 3) = w2 ∧ w2.heap.size = w1.heap.size + 1 + 1 := ⟨_, rfl, by simp⟩
    have k6 := World.alloc_heap_new w1 (.cells #[.int .i64 (f : Int)] 3)
    have k7 := World.alloc_heap_new (w1.alloc (.cells #[.int .i64 (f : Int)] 3)) (.cells #[.int .i64 0] 3)
    have k6' := (Below.heap_alloc (w1.alloc (.cells #[.int .i64 (f : Int)] 3)) (.cells #[.int .i64 0] 3) w1.heap.size (by simp)).trans k6
    rw [World.size_alloc] at k7
    have hb12 : Below w1.heap.size w1 ((w1.alloc (.cells #[.int .i64 (f : Int)] 3)).alloc (.cells #[.int .i64 0] 3)) := ((Below.refl _ w1).alloc (Nat.le_refl _) _).alloc (by simp) _
    rw [hw2] at k6' k7 hb12
    have hb02 := hb1.trans (hb12.mono hs1)
    have HP : Hid (Parted (behindI from_ ls) n s) := Lib.hid hpt
    have hsw := HB2.out.size
    have hbl2 := HB2.out.trans (hb02.mono hsw)
    have h12 := (hb02.block w.heap.size (by omega)).trans H1.out
    have H0 : Hid (BlRel w fb w.heap.size w1.heap.size (w1.heap.size + 1) ls f 0 w2) := Lib.hid ⟨Nat.zero_le _, k6', h12, k7, hbl2⟩
    have HFb2 := Lib.hid ((hbl2.block fb hfl).trans HFb.out)
    have HLin2 := Lib.hid (own_belowAll HLin.out hbl2)
    clear hpt
    rw [hw2]
    obtain ⟨x0, _⟩ := arr_cell h12 (k := 0) rfl
    obtain ⟨x6, _⟩ := arr_cell k6' (k := 0) rfl
    obtain ⟨x7, _⟩ := arr_cell HFb2.out (k := 7) rfl
    clear hw2 k6 k7 k6' hb12 hb02 hbl2 h12 hb1
    go_quiet (fail)
    clear x0 x6 x7
    have H3 : Hid (BlRel w fb w.heap.size w1.heap.size (w1.heap.size + 1) ls f 0 (w2.drewN nq)) := Lib.hid ⟨H0.out.1, H0.out.2.1, H0.out.2.2.1, H0.out.2.2.2.1, below_drewN H0.out.2.2.2.2 _⟩
    go_wp2
    go_loopw [27] (fun iv wr => ∃ k : Nat, iv = .int .i64 k ∧ BlRel w fb w.heap.size w1.heap.size (w1.heap.size + 1) ls f k wr) (fun iv _ => f - (intOf iv).toNat)
    case atStart => exact ⟨0, rfl, H3.out⟩
    case round =>
      obtain ⟨k, rfl, hk, k6, k2, k7, hbl⟩ := hrel
      by_cases hlt : k < f
      · obtain ⟨x, hx⟩ : ∃ x, ls[k]? = some x := ⟨_, List.getElem?_eq_getElem (by rw [HNL.out]; omega)⟩
        have hlin := own_belowAll HLin.out hbl
        obtain ⟨y0, y1, y2, y3, y4, y5, y6⟩ := line_cells hlin hx
        have i0' : (0 : Int) ≤ (k : Int) := by omega
        have i1' : (k : Int) < (f : Int) := by omega
        have hos := offL_succ hx
        have hol := offL_le ls (k + 1)
        obtain ⟨O, hO⟩ : ∃ O, offL ls k = O := ⟨_, rfl⟩
        rw [hO] at k7 hos
        have hwO : IntKind.i64.wrap ((O : Int) + (x.count : Int)) = (O : Int) + (x.count : Int) := by rw [IntKind.wrap_i64]; omega
        have hs1w := hbl.size
        have hbA : Below wr.heap.size wr (wr.alloc (.cells #[.int .i64 x.first.v, .string x.first.c, .int .i64 x.first.i, .int .i64 x.first.s, .bool x.first.d, .int .i64 x.count, .int .i64 x.pos] 134)) := (Below.refl _ wr).alloc (Nat.le_refl _) _
        have l7 := (Array.getElem?_eq_some_iff.1 k7).1
        have k7' := (hbA.block _ l7).trans k7
        have l6 := (Array.getElem?_eq_some_iff.1 k6).1
        obtain ⟨z7, f7⟩ := arr_cell k7' (k := 0) rfl
        have hset := arr_set k7' (k := 0) (.int .i64 ((O : Int) + (x.count : Int)))
        have hset2 := arr_set k7 (k := 0) (.int .i64 ((O : Int) + (x.count : Int)))
        have hsz2 : (wr.setCell ⟨w1.heap.size + 1, 0, none⟩ (.int .i64 ((O : Int) + (x.count : Int)))).heap.size = wr.heap.size := by simp [World.setCell]
        have HR : Hid (BlRel w fb w.heap.size w1.heap.size (w1.heap.size + 1) ls f (k + 1) ((wr.setCell ⟨w1.heap.size + 1, 0, none⟩ (.int .i64 ((O : Int) + (x.count : Int)))).alloc (.cells #[.int .i64 x.first.v, .string x.first.c, .int .i64 x.first.i, .int .i64 x.first.s, .bool x.first.d, .int .i64 x.count, .int .i64 x.pos] 134))) := Lib.hid (by
          refine ⟨hlt, (Below.heap_alloc _ _ _ (by rw [hsz2]; exact l6)).trans ((Below.heap_setCell _ ⟨w1.heap.size + 1, 0, none⟩ _ w1.heap.size (show w1.heap.size ≠ w1.heap.size + 1 by omega)).trans k6), (Below.heap_alloc _ _ _ (by rw [hsz2]; omega)).trans ((Below.heap_setCell _ ⟨w1.heap.size + 1, 0, none⟩ _ w.heap.size (show w.heap.size ≠ w1.heap.size + 1 by omega)).trans k2), ?_, (hbl.setCell (p := ⟨w1.heap.size + 1, 0, none⟩) (show w.heap.size ≤ w1.heap.size + 1 by omega) _).alloc (by rw [hsz2]; omega) _⟩
          rw [hos, Int.natCast_add]
          exact (Below.heap_alloc _ _ _ (by rw [hsz2]; exact l7)).trans hset2)
        have ne7 : ¬ (wr.heap.size = w1.heap.size + 1) := by omega
        clear k6 k2 k7 hbA k7' hset hset2 hsz2 hlin hbl hx hO hos
        go_wp2
        go_roundw
        case rel => exact ⟨k + 1, by go_num, HR.out⟩
        case measure => simp [intOf]; omega
      · obtain rfl : k = f := by omega
        have HEnd : Hid (BlkPost w fb ls from_ (.returned (.func (.func 77) #[] #[.pointer (some ⟨w1.heap.size, 0, none⟩), .pointer (some ⟨w.heap.size, 0, none⟩), .pointer (some ⟨w1.heap.size + 1, 0, none⟩)])) wr) := Lib.hid (by
          refine ⟨_, _, _, s, rfl, by rw [HNL.out]; exact HP.out, by rw [hf]; exact k6, k2, by rw [hf]; exact k7, by omega, Nat.le_refl _, by omega, by omega, by omega, by omega, hbl⟩)
        clear k6 k2 k7 hbl
        go_wp2
        go_ret
        exact HEnd.out
  · have hc1 : ¬ (0 : Int) < (s : Int) - 1 := by omega
    have hc2 : ¬ (1 : Int) < (s : Int) := by omega
    obtain rfl : f = 0 := by omega
    clear x7 x0
    go_upto_region 4 with fail
    obtain ⟨q', c', e', hnc, _, hq⟩ := own_rd HLin.out
    simp only [Value.slice.injEq] at e'
    obtain ⟨rfl, _, rfl⟩ := e'
    have hfc : (0 : Int) ≤ (c : Int) := by omega
    obtain ⟨w2, hw2, hsz2⟩ : ∃ w2, (w1.alloc (.cells #[.int .i64 0] 3)).alloc (.cells #[.int .i64 0] 3) = w2 ∧ w2.heap.size = w1.heap.size + 1 + 1 := ⟨_, rfl, by simp⟩
    have k6 := World.alloc_heap_new w1 (.cells #[.int .i64 0] 3)
    have k7 := World.alloc_heap_new (w1.alloc (.cells #[.int .i64 0] 3)) (.cells #[.int .i64 0] 3)
    have k6' := (Below.heap_alloc (w1.alloc (.cells #[.int .i64 0] 3)) (.cells #[.int .i64 0] 3) w1.heap.size (by simp)).trans k6
    rw [World.size_alloc] at k7
    have hb12 : Below w1.heap.size w1 ((w1.alloc (.cells #[.int .i64 0] 3)).alloc (.cells #[.int .i64 0] 3)) := ((Below.refl _ w1).alloc (Nat.le_refl _) _).alloc (by simp) _
    rw [hw2] at k6' k7 hb12
    have hb02 := hb1.trans (hb12.mono hs1)
    have HP : Hid (Parted (behindI from_ ls) n s) := Lib.hid hpt
    have hsw := HB2.out.size
    have hbl2 := HB2.out.trans (hb02.mono hsw)
    have h12 := (hb02.block w.heap.size (by omega)).trans H1.out
    have H0 : Hid (BlRel w fb w.heap.size w1.heap.size (w1.heap.size + 1) ls 0 0 w2) := Lib.hid ⟨Nat.zero_le _, k6', h12, k7, hbl2⟩
    have HFb2 := Lib.hid ((hbl2.block fb hfl).trans HFb.out)
    have HLin2 := Lib.hid (own_belowAll HLin.out hbl2)
    clear hpt
    rw [hw2]
    obtain ⟨x0, _⟩ := arr_cell h12 (k := 0) rfl
    obtain ⟨x6, _⟩ := arr_cell k6' (k := 0) rfl
    obtain ⟨x7, _⟩ := arr_cell HFb2.out (k := 7) rfl
    clear hw2 k6 k7 k6' hb12 hb02 hbl2 h12 hb1
    cases q with
    | none =>
      go_quiet (fail)
      clear x0 x6 x7
      have H3 : Hid (BlRel w fb w.heap.size w1.heap.size (w1.heap.size + 1) ls 0 0 (w2.drewN nq)) := Lib.hid ⟨H0.out.1, H0.out.2.1, H0.out.2.2.1, H0.out.2.2.2.1, below_drewN H0.out.2.2.2.2 _⟩
      go_wp2
      go_loopw [27] (fun iv wr => ∃ k : Nat, iv = .int .i64 k ∧ BlRel w fb w.heap.size w1.heap.size (w1.heap.size + 1) ls 0 k wr) (fun iv _ => 0 - (intOf iv).toNat)
      case atStart => exact ⟨0, rfl, H3.out⟩
      case round =>
        obtain ⟨k, rfl, hk, k6, k2, k7, hbl⟩ := hrel
        by_cases hlt : k < 0
        · exact absurd hlt (Nat.not_lt_zero _)
        · obtain rfl : k = 0 := by omega
          have HEnd : Hid (BlkPost w fb ls from_ (.returned (.func (.func 77) #[] #[.pointer (some ⟨w1.heap.size, 0, none⟩), .pointer (some ⟨w.heap.size, 0, none⟩), .pointer (some ⟨w1.heap.size + 1, 0, none⟩)])) wr) := Lib.hid (by
            refine ⟨_, _, _, s, rfl, by rw [HNL.out]; exact HP.out, by rw [hf]; exact k6, k2, by rw [hf]; exact k7, by omega, Nat.le_refl _, by omega, by omega, by omega, by omega, hbl⟩)
          clear k6 k2 k7 hbl
          go_wp2
          go_ret
          exact HEnd.out
    | some qa =>
      go_quiet (fail)
      clear x0 x6 x7
      have H3 : Hid (BlRel w fb w.heap.size w1.heap.size (w1.heap.size + 1) ls 0 0 (w2.drewN nq)) := Lib.hid ⟨H0.out.1, H0.out.2.1, H0.out.2.2.1, H0.out.2.2.2.1, below_drewN H0.out.2.2.2.2 _⟩
      go_wp2
      go_loopw [27] (fun iv wr => ∃ k : Nat, iv = .int .i64 k ∧ BlRel w fb w.heap.size w1.heap.size (w1.heap.size + 1) ls 0 k wr) (fun iv _ => 0 - (intOf iv).toNat)
      case atStart => exact ⟨0, rfl, H3.out⟩
      case round =>
        obtain ⟨k, rfl, hk, k6, k2, k7, hbl⟩ := hrel
        by_cases hlt : k < 0
        · exact absurd hlt (Nat.not_lt_zero _)
        · obtain rfl : k = 0 := by omega
          have HEnd : Hid (BlkPost w fb ls from_ (.returned (.func (.func 77) #[] #[.pointer (some ⟨w1.heap.size, 0, none⟩), .pointer (some ⟨w.heap.size, 0, none⟩), .pointer (some ⟨w1.heap.size + 1, 0, none⟩)])) wr) := Lib.hid (by
            refine ⟨_, _, _, s, rfl, by rw [HNL.out]; exact HP.out, by rw [hf]; exact k6, k2, by rw [hf]; exact k7, by omega, Nat.le_refl _, by omega, by omega, by omega, by omega, hbl⟩)
          clear k6 k2 k7 hbl
          go_wp2
          go_ret
          exact HEnd.out
end Go.Proofs.YtihgjihdmlomaaaDoor
