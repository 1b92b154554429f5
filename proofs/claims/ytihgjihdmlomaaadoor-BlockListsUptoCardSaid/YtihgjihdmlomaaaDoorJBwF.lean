/-
  WALK: the document's file in memory: its head, its count, its list, and where a search begins.
-/
import Derived.Test.YtihgjihdmlomaaaDoorJBwP
import Derived.Test.YtihgjihdmlomaaaDoorJBuA
namespace Go.Proofs.YtihgjihdmlomaaaDoor
open Go.RowKit ArgK
set_option linter.unusedVariables false

/-- The document's file in memory. -/
def RFileAt (W : World) (base fb : Nat) (h : Hd) (l : List Ent) (r : Int) : Prop :=
  ∃ lp lc q c, W.heap[fb]? = some (.cells #[.int .i64 h.w, .int .i64 h.t, .int .i64 h.b, .int .i64 h.lo, .int .i64 h.hi, .int .i64 h.n, .slice lp l.length lc, .slice q (groups l).length c, .int .i64 r] 94 (0, 0)) ∧
    W.ownsRow base 33 5 (.slice lp l.length lc) l.length (encE l) ∧ W.ownsRow base 3 1 (.slice q (groups l).length c) (groups l).length (natV ((groups l).map List.length)) ∧ base ≤ fb

theorem RFileAt.below {W W' : World} {base fb : Nat} {h : Hd} {l : List Ent} {r : Int} (hF : RFileAt W base fb h l r) (hb : Below W.heap.size W W') : RFileAt W' base fb h l r := by
  obtain ⟨lp, lc, q, c, h1, h2, h3, h4⟩ := hF
  exact ⟨lp, lc, q, c, (hb.block _ (Array.getElem?_eq_some_iff.1 h1).1).trans h1, own_belowAll h2 hb, own_belowAll h3 hb, h4⟩
theorem RFileAt.lt {W : World} {base fb : Nat} {h : Hd} {l : List Ent} {r : Int} (hF : RFileAt W base fb h l r) : fb < W.heap.size := by
  obtain ⟨lp, lc, q, c, h1, _⟩ := hF
  exact (Array.getElem?_eq_some_iff.1 h1).1

/-- The cells of the document's file. -/
def rbC (h : Hd) (lp : Option Addr) (n lc : Nat) (q : Option Addr) (N c : Nat) (r : Int) : Obj := .cells #[.int .i64 h.w, .int .i64 h.t, .int .i64 h.b, .int .i64 h.lo, .int .i64 h.hi, .int .i64 h.n, .slice lp n lc, .slice q N c, .int .i64 r] 94 (0, 0)

/-- The rows of the document's file, where a call began. -/
structure RRows (w : World) (base fb : Nat) (l : List Ent) (lp : Option Addr) (lc : Nat) (q : Option Addr) (c : Nat) : Prop where
  own : w.ownsRow base 33 5 (.slice lp l.length lc) l.length (encE l)
  siz : w.ownsRow base 3 1 (.slice q (groups l).length c) (groups l).length (natV ((groups l).map List.length))
  le : base ≤ fb
  ne1 : (Value.slice lp l.length lc).ownBlock ≠ some fb
  ne2 : (Value.slice q (groups l).length c).ownBlock ≠ some fb

theorem RFileAt.rows {w : World} {base fb : Nat} {h : Hd} {l : List Ent} {r : Int} (hF : RFileAt w base fb h l r) : ∃ lp lc q c, w.heap[fb]? = some (rbC h lp l.length lc q (groups l).length c r) ∧ RRows w base fb l lp lc q c := by
  obtain ⟨lp, lc, q, c, h1, h2, h3, h4⟩ := hF
  exact ⟨lp, lc, q, c, h1, h2, h3, h4, own_type_ne h2 h1 (by decide), own_type_ne h3 h1 (by decide)⟩
theorem RRows.file {w W : World} {base fb : Nat} {h : Hd} {l : List Ent} {lp : Option Addr} {lc : Nat} {q : Option Addr} {c : Nat} {r : Int} (hR : RRows w base fb l lp lc q c) (hg : w.grownBy W (some fb)) (hf : W.heap[fb]? = some (rbC h lp l.length lc q (groups l).length c r)) : RFileAt W base fb h l r :=
  ⟨lp, lc, q, c, hf, own_grown hR.own hg (fun k hk e => hR.ne1 (by rw [hk, e])), own_grown hR.siz hg (fun k hk e => hR.ne2 (by rw [hk, e])), hR.le⟩
theorem RRows.grown {w W : World} {base fb : Nat} {l : List Ent} {lp : Option Addr} {lc : Nat} {q : Option Addr} {c : Nat} (hR : RRows w base fb l lp lc q c) (hg : w.grownBy W (some fb)) : RRows W base fb l lp lc q c :=
  ⟨own_grown hR.own hg (fun k hk e => hR.ne1 (by rw [hk, e])), own_grown hR.siz hg (fun k hk e => hR.ne2 (by rw [hk, e])), hR.le, hR.ne1, hR.ne2⟩

/-- What grows above, or turns the one block, turns that block alone. -/
theorem grown_then {w A B : World} {fb : Nat} {row : Option Nat} (h : w.grownBy A (some fb)) (k : A.grownBy B row) (hr : ∀ b, row = some b → w.heap.size ≤ b ∨ b = fb) : w.grownBy B (some fb) := by
  refine ⟨k.os.trans h.os, k.tape.trans h.tape, k.output.trans h.output, Nat.le_trans h.size k.size, fun b hb hne => ?_⟩
  refine (k.block b (Nat.lt_of_lt_of_le hb h.size) (fun e => ?_)).trans (h.block b hb hne)
  rcases hr b e.symm with h1 | h1
  · omega
  · exact hne (by rw [h1])
theorem below_grown {w A : World} (fb : Nat) (h : Below w.heap.size w A) : w.grownBy A (some fb) := ⟨h.os, h.tape, h.output, h.size, fun k hk _ => h.block k hk⟩
theorem rgrown_below {w A B : World} {fb : Nat} (h : w.grownBy A (some fb)) (k : Below A.heap.size A B) : w.grownBy B (some fb) := grown_then h (row := none) ⟨k.os, k.tape, k.output, k.size, fun b hb _ => k.block b hb⟩ (fun b e => by cases e)

/-- Where group k stands in memory: its first entry, its length. -/
theorem grpAt {h : Hd} {l : List Ent} (hgd : ∀ e ∈ l, Good e) (en : Ent) {k : Nat} (hk : k < (groups l).length) : ∃ g x, (groups l)[k]? = some g ∧ l[aK (groups l) k]? = some x ∧ g ≠ [] ∧ 0 < g.length ∧ aK (groups l) (k + 1) = aK (groups l) k + g.length ∧ aK (groups l) k + g.length ≤ l.length ∧
    behindI en (linesB h l) k = decide (eless en x) ∧ (natV ((groups l).map List.length))[k]? = some (.int .i64 (g.length : Int)) ∧ (∀ i, i < g.length → l[aK (groups l) k + i]? = g[i]?) := by
  obtain ⟨g, hg⟩ : ∃ g, (groups l)[k]? = some g := ⟨_, List.getElem?_eq_getElem hk⟩
  obtain ⟨h1, _, _⟩ := group_good hgd (List.mem_of_getElem? hg)
  have hp : 0 < g.length := List.length_pos_iff.2 h1
  refine ⟨g, g.headD zE, hg, first_at zE (groups_flat l) hg h1, h1, hp, aK_succ hg, aK_le (groups_flat l) hg, ?_, by simp [natV, hg], fun i hi => ?_⟩
  · obtain ⟨x, hx⟩ : ∃ x, (linesB h l)[k]? = some x := ⟨_, List.getElem?_eq_getElem (by rw [linesB_length]; exact hk)⟩
    obtain ⟨g', hg', hf, _⟩ := linesB_at hx
    obtain rfl : g = g' := Option.some.inj (hg.symm.trans hg')
    unfold behindI behindB
    rw [hx]
    simp only
    rw [hf]
    exact decide_eq_decide.2 cmpE_pos
  · have hd := aK_drop (groups_flat l) hg
    rw [← List.getElem?_drop, hd, List.getElem?_append_left hi]

theorem parted_lt {p : Nat → Bool} {n s k : Nat} (h : Parted p n s) (hk : k < n) : p k = decide (s ≤ k) := by
  by_cases hs : s ≤ k
  · rw [h.2.2 k hs hk]; simp [hs]
  · rw [h.2.1 k (by omega)]; simp [hs]
theorem parted_eq {p : Nat → Bool} {n s t : Nat} (h : Parted p n s) (k : Parted p n t) : s = t := by
  rcases Nat.lt_trichotomy s t with h1 | h1 | h1
  · have a := h.2.2 s (Nat.le_refl _) (by have := k.1; omega)
    have b := k.2.1 s h1
    rw [a] at b; cases b
  · exact h1
  · have a := k.2.2 t (Nat.le_refl _) (by have := h.1; omega)
    have b := h.2.1 t h1
    rw [a] at b; cases b
theorem parted_of {p : Nat → Bool} : ∀ (n : Nat), (∀ i j, i ≤ j → j < n → p i = true → p j = true) → ∃ s, Parted p n s
  | 0, _ => ⟨0, Nat.le_refl _, fun k hk => by omega, fun k _ hk => by omega⟩
  | n + 1, hm => by
    obtain ⟨s, h1, h2, h3⟩ := parted_of n (fun i j a b c => hm i j a (by omega) c)
    by_cases hs : s < n
    · exact ⟨s, by omega, h2, fun k a b => hm s k a b (h3 s (Nat.le_refl _) hs)⟩
    · obtain rfl : s = n := by omega
      cases hp : p s with
      | true => exact ⟨s, by omega, h2, fun k a b => by
          have e : k = s := by omega
          rw [e]; exact hp⟩
      | false => exact ⟨s + 1, Nat.le_refl _, fun k a => by
          by_cases hk : k < s
          · exact h2 k hk
          · have e : k = s := by omega
            rw [e]; exact hp, fun k a b => by omega⟩

theorem RFileAt.cells {w : World} {base fb : Nat} {h : Hd} {l : List Ent} {r : Int} (hF : RFileAt w base fb h l r) :
    ∃ lv, w.ownsRow base 33 5 lv l.length (encE l) ∧ w.cell? ⟨fb, 0, none⟩ = some (.int .i64 h.w) ∧ w.cell? ⟨fb, 1, none⟩ = some (.int .i64 h.t) ∧ w.cell? ⟨fb, 2, none⟩ = some (.int .i64 h.b) ∧ w.cell? ⟨fb, 3, none⟩ = some (.int .i64 h.lo) ∧ w.cell? ⟨fb, 4, none⟩ = some (.int .i64 h.hi) ∧ w.cell? ⟨fb, 5, none⟩ = some (.int .i64 h.n) ∧
      w.cell? ⟨fb, 6, none⟩ = some lv ∧ w.cell? ⟨fb, 8, none⟩ = some (.int .i64 r) := by
  obtain ⟨lp, lc, q, c, h1, h2, _, _⟩ := hF
  exact ⟨_, h2, (arr_cell h1 (k := 0) rfl).1, (arr_cell h1 (k := 1) rfl).1, (arr_cell h1 (k := 2) rfl).1, (arr_cell h1 (k := 3) rfl).1, (arr_cell h1 (k := 4) rfl).1, (arr_cell h1 (k := 5) rfl).1, (arr_cell h1 (k := 6) rfl).1, (arr_cell h1 (k := 8) rfl).1⟩

theorem RReads_calls (base fb : Nat) (h : Hd) (l : List Ent) (r : Int) (w : World) (hF : RFileAt w base fb h l r) :
    Calls Tryd.prog 19 #[.pointer (some ⟨fb, 0, none⟩)] w fun e w' => e = .returned (.int .i64 r) ∧ w' = w := by
  obtain ⟨lv, _, _, _, _, _, _, _, _, c8⟩ := hF.cells
  clear hF
  go_enter Tryd.func19, Tryd.ntmps19
  go_wp2
  go_ret
  exact ⟨rfl, rfl⟩

theorem RHead_calls (base fb : Nat) (h : Hd) (l : List Ent) (r : Int) (w : World) (hF : RFileAt w base fb h l r) :
    Calls Tryd.prog 30 #[.pointer (some ⟨fb, 0, none⟩)] w fun e w' => e = .returned h.val ∧ Below w.heap.size w w' := by
  obtain ⟨lv, _, c0, c1, c2, c3, c4, c5, _, _⟩ := hF.cells
  have hfb := hF.lt
  clear hF
  have hn : ¬ (w.heap.size = fb) := by omega
  unfold Hd.val
  go_enter Tryd.func30, Tryd.ntmps30
  go_wp2
  refine bodyPost_ret (v := .agg #[.int .i64 h.w, .int .i64 h.t, .int .i64 h.b, .int .i64 h.lo, .int .i64 h.hi, .int .i64 h.n]) ?_ rfl ⟨rfl, (Below.refl _ w).alloc (Nat.le_refl _) _⟩
  rw [results_cell1 rfl]
  go_simp

theorem own_none {w : World} {base : Nat} {e : TypeId} {size n c : Nat} {q : Option Addr} {xs : List Value} (h : w.ownsRow base e size (.slice q n c) n xs) (hq : q = none) : n = 0 ∧ c = 0 := by
  subst hq
  rcases h.2 with ⟨hv, _⟩ | ⟨g, cap, cur, hv, _⟩
  · cases hv; exact ⟨rfl, rfl⟩
  · cases hv

set_option maxRecDepth 100000 in
set_option maxHeartbeats 1000000 in
theorem RAll_calls (base fb : Nat) (h : Hd) (l : List Ent) (r : Int) (w : World) (hF : RFileAt w base fb h l r) (hl : l.length ≤ 2097152) :
    Calls Tryd.prog 25 #[.pointer (some ⟨fb, 0, none⟩)] w fun e w' => ∃ v, e = .returned v ∧ w'.ownsRow w.heap.size 33 5 v l.length (encE l) ∧ Below w.heap.size w w' := by
  obtain ⟨i0, hi, hz0, hz1, hz2⟩ := info_parts entinfo6
  obtain ⟨lv, ho, _, _, _, _, _, _, c6, _⟩ := hF.cells
  obtain ⟨p, c, rfl, _, _, _⟩ := own_rd ho
  have HNews := Lib.hid (el_own ho rfl).news
  have HP := Lib.hid (fun e => own_none ho e)
  obtain ⟨n, hn⟩ : ∃ n, l.length = n := ⟨_, rfl⟩
  rw [hn] at c6 HP hl ⊢
  have HL : Hid ((encE l).length = n * 5) := Lib.hid (by rw [encE_length, hn])
  clear hF ho
  go_enter Tryd.func25, Tryd.ntmps25
  go_wp2_with (at_builtin; refine wpList_append_opt rfl _ _ 24 rfl w.heap.size 33 i0 _ 5 48 Tryd.underlying24 hi hz0 hz1 hz2 rfl (by decide) (.slice none 0 0) 0 [] rfl (World.ownsRow_nil _ _ _ _) p n c (encE l) rfl HP.out HL.out HNews.out encE_mem1 (by unfold maxLen; omega) (by omega) (Nat.le_refl _) ?_)
  intro v1 w1 hown1 hg1
  have hb1 : Below w.heap.size w w1 := ⟨hg1.os, hg1.tape, hg1.output, hg1.size, fun k hk => hg1.block k hk (by simp [Value.ownBlock])⟩
  have hown1 : w1.ownsRow w.heap.size 33 5 v1 n (encE l) := by simpa using hown1
  have HB1 := Lib.hid hb1
  have HO1 := Lib.hid hown1
  clear hown1 hg1 hb1
  go_wp2
  go_ret
  exact ⟨v1, rfl, HO1.out, HB1.out⟩

/-- At the head of each round of begin. -/
def BeRel (w : World) (en : Ent) (s N : Nat) (A : Nat → Nat) (k : Nat) (bv fv av : Value) (wr : World) : Prop :=
  k ≤ N ∧ bv = .int .i64 ((min s k - 1 : Nat) : Int) ∧ fv = .int .i64 ((A (min s k - 1) : Nat) : Int) ∧ av = .int .i64 ((A k : Nat) : Int) ∧ Below w.heap.size w wr ∧ wr.heap[w.heap.size]? = some (.cells #[.int .i64 en.v, .string en.c, .int .i64 en.i, .int .i64 en.s, .bool en.d] 33 (0, 0))

set_option maxRecDepth 100000 in
set_option maxHeartbeats 4000000 in
theorem begin_calls (base fb : Nat) (h : Hd) (l : List Ent) (r : Int) (en : Ent) (s : Nat) (w : World) (hF : RFileAt w base fb h l r) (hgo : goesR h l = 0) (hp : Parted (behindI en (linesB h l)) (linesB h l).length s) :
    Calls Tryd.prog 53 #[.pointer (some ⟨fb, 0, none⟩), en.val] w fun e w' =>
      e = .returned (.tuple #[.int .i64 ((s - 1 : Nat) : Int), .int .i64 ((aK (groups l) (s - 1) : Nat) : Int)]) ∧ Below w.heap.size w w' := by
  obtain ⟨hh, hl, hgd⟩ := goesR_good hgo
  have hlen := linesB_length h l
  rw [hlen] at hp
  have hle := groups_le hgd
  have hG := Lib.hid (fun k hk => grpAt (h := h) hgd en (k := k) hk)
  obtain ⟨lp, lc, q, c, hfc, hR⟩ := hF.rows
  have HRo := Lib.hid hR.own
  have HRs := Lib.hid hR.siz
  obtain ⟨n, hn⟩ : ∃ n, l.length = n := ⟨_, rfl⟩
  obtain ⟨N, hN⟩ : ∃ N, (groups l).length = N := ⟨_, rfl⟩
  obtain ⟨A, hA⟩ : ∃ A : Nat → Nat, aK (groups l) = A := ⟨_, rfl⟩
  have hA0 : A 0 = 0 := by rw [← hA]; rfl
  rw [hn, hN] at hle
  rw [hN] at hp HRs hfc hG
  rw [hn] at HRo hfc hl hG
  rw [hA] at hG ⊢
  have HF := Lib.hid hfc
  have HPt := Lib.hid hp
  have hfb : fb < w.heap.size := hF.lt
  have hsN := hp.1
  have H0 : Hid (BeRel w en s N A 0 (.int .i64 0) (.int .i64 0) (.int .i64 0) (w.alloc (.cells #[.int .i64 en.v, .string en.c, .int .i64 en.i, .int .i64 en.s, .bool en.d] 33))) := Lib.hid ⟨Nat.zero_le _, by simp, by simp [hA0], by simp [hA0], (Below.refl _ w).alloc (Nat.le_refl _) _, World.alloc_heap_new _ _⟩
  clear hF hR hfc hp
  unfold Ent.val
  go_enter Tryd.func53, Tryd.ntmps53
  go_wp2
  go_loopw [6, 7, 8, 9] (fun bv fv av kv wr => ∃ k : Nat, kv = .int .i64 k ∧ BeRel w en s N A k bv fv av wr) (fun _ _ _ kv _ => N - (intOf kv).toNat)
  case atStart => exact ⟨0, rfl, H0.out⟩
  case round =>
    obtain ⟨k, rfl, hk, rfl, rfl, rfl, hB, hbx⟩ := hrel
    have hfr := (hB.block _ hfb).trans HF.out
    have hsz := own_belowAll HRs.out hB
    have hen := own_belowAll HRo.out hB
    unfold rbC at hfr
    obtain ⟨x6, _⟩ := arr_cell hfr (k := 6) (v := .slice lp n lc) rfl
    obtain ⟨x7, _⟩ := arr_cell hfr (k := 7) (v := .slice q N c) rfl
    have HB := Lib.hid hB
    have HBx := Lib.hid hbx
    have hws := hB.size
    by_cases hlt : k < N
    · obtain ⟨g, x, hg, hx, hgne, hgp, hA1, hAl, hbi, hnv, _⟩ := hG.out k hlt
      have hpl := parted_lt HPt.out hlt
      rw [hbi] at hpl
      obtain ⟨g2, rfl, _, hg2⟩ := own_some hsz (by omega)
      obtain ⟨g1, rfl, _, hg1⟩ := own_some hen (by omega)
      have y0 : wr.cell? ⟨g2, k, none⟩ = some (.int .i64 (g.length : Int)) := by rw [hsz.cellAt k (by omega)]; exact hnv
      obtain ⟨e0, e1, e2, e3, e4⟩ := own_fiveE hen hx
      obtain ⟨b0, b1, b2, b3, b4⟩ := cells5 hbx
      have hbw := (Array.getElem?_eq_some_iff.1 hbx).1
      have HK : Hid (∀ W, Below wr.heap.size wr W → (fun W => W.cell? ⟨fb, 6, none⟩ = some (.slice (some ⟨g1, 0, none⟩) n lc) ∧ W.cell? ⟨w.heap.size, 0, none⟩ = some (.int .i64 en.v) ∧ W.cell? ⟨w.heap.size, 1, none⟩ = some (.string en.c) ∧ W.cell? ⟨w.heap.size, 2, none⟩ = some (.int .i64 en.i) ∧ W.cell? ⟨w.heap.size, 3, none⟩ = some (.int .i64 en.s) ∧ W.cell? ⟨w.heap.size, 4, none⟩ = some (.bool en.d) ∧ W.cell? ⟨g1, A k * 5, none⟩ = some (.int .i64 x.v) ∧ W.cell? ⟨g1, A k * 5 + 1, none⟩ = some (.string x.c) ∧ W.cell? ⟨g1, A k * 5 + 2, none⟩ = some (.int .i64 x.i) ∧ W.cell? ⟨g1, A k * 5 + 3, none⟩ = some (.int .i64 x.s) ∧ W.cell? ⟨g1, A k * 5 + 4, none⟩ = some (.bool x.d)) W) := Lib.hid (fun W hW => by
        obtain ⟨e0, e1, e2, e3, e4⟩ := own_fiveE (own_belowAll hen hW) hx
        obtain ⟨b0, b1, b2, b3, b4⟩ := cells5 ((hW.block _ hbw).trans hbx)
        obtain ⟨x6, _⟩ := arr_cell ((hW.block _ (by omega)).trans hfr) (k := 6) (v := .slice (some ⟨g1, 0, none⟩) n lc) rfl
        exact ⟨x6, b0, b1, b2, b3, b4, e0, e1, e2, e3, e4⟩)
      have HS : Hid (∀ W, Below wr.heap.size wr W → W.cell? ⟨fb, 7, none⟩ = some (.slice (some ⟨g2, 0, none⟩) N c) ∧ W.cell? ⟨g2, k, none⟩ = some (.int .i64 (g.length : Int))) := Lib.hid (fun W hW => by
        refine ⟨(arr_cell ((hW.block _ (by omega)).trans hfr) (k := 7) (v := .slice (some ⟨g2, 0, none⟩) N c) rfl).1, ?_⟩
        rw [(own_belowAll hsz hW).cellAt k (by omega)]; exact hnv)
      have hwA : IntKind.i64.wrap ((A k : Int) + (g.length : Int)) = (A (k + 1) : Int) := by rw [IntKind.wrap_i64]; omega
      have i0 : (0 : Int) ≤ (A k : Int) := by omega
      have i1 : (A k : Int) < (n : Int) := by omega
      have j0 : (0 : Int) ≤ (k : Int) := by omega
      have j1 : (k : Int) < (N : Int) := by omega
      have CC := fun W => Less_calls en x W
      unfold Ent.val at CC
      cases hle2 : decide (eless en x) with
      | true =>
        rw [hle2] at hpl CC
        have hsk : s ≤ k := by simpa using hpl.symm
        have HCC := Lib.hid CC
        have HNx : Hid (∀ W, Below wr.heap.size wr W → BeRel w en s N A (k + 1) (.int .i64 ((min s k - 1 : Nat) : Int)) (.int .i64 ((A (min s k - 1) : Nat) : Int)) (.int .i64 ((A k : Int) + (g.length : Int))) W) := Lib.hid (fun W hW =>
          ⟨hlt, by rw [show min s (k + 1) = min s k by omega], by rw [show min s (k + 1) = min s k by omega], by rw [hA1, Int.natCast_add], HB.out.trans (hW.mono HB.out.size), (hW.block _ hbw).trans HBx.out⟩)
        generalize min s k - 1 = mk at HNx ⊢
        clear hfr hsz hen hB hbx CC hpl hbi hnv hx hg hle2
        go_wp2
        go_region_held3 (fun W => W.cell? ⟨fb, 6, none⟩ = some (.slice (some ⟨g1, 0, none⟩) n lc) ∧ W.cell? ⟨w.heap.size, 0, none⟩ = some (.int .i64 en.v) ∧ W.cell? ⟨w.heap.size, 1, none⟩ = some (.string en.c) ∧ W.cell? ⟨w.heap.size, 2, none⟩ = some (.int .i64 en.i) ∧ W.cell? ⟨w.heap.size, 3, none⟩ = some (.int .i64 en.s) ∧ W.cell? ⟨w.heap.size, 4, none⟩ = some (.bool en.d) ∧ W.cell? ⟨g1, A k * 5, none⟩ = some (.int .i64 x.v) ∧ W.cell? ⟨g1, A k * 5 + 1, none⟩ = some (.string x.c) ∧ W.cell? ⟨g1, A k * 5 + 2, none⟩ = some (.int .i64 x.i) ∧ W.cell? ⟨g1, A k * 5 + 3, none⟩ = some (.int .i64 x.s) ∧ W.cell? ⟨g1, A k * 5 + 4, none⟩ = some (.bool x.d)) (first | exact ⟨x6, b0, b1, b2, b3, b4, e0, e1, e2, e3, e4⟩ | exact HK.out _ (below_of hc1)) (first | (go_at_call 54; refine (HCC.out _).mono ?_; rintro e w3 ⟨rfl, hc1⟩))
        have HR3 := Lib.hid (HNx.out _ (below_of hc1))
        obtain ⟨z7, z8⟩ := HS.out _ (below_of hc1)
        clear hc1
        go_wp2
        go_roundw
        case rel => exact ⟨k + 1, by go_num, HR3.out⟩
        case measure => simp [intOf]; omega
      | false =>
        rw [hle2] at hpl CC
        have hsk : k < s := by simpa using hpl.symm
        have HCC := Lib.hid CC
        have HNx : Hid (∀ W, Below wr.heap.size wr W → BeRel w en s N A (k + 1) (.int .i64 (k : Int)) (.int .i64 ((A k : Nat) : Int)) (.int .i64 ((A k : Int) + (g.length : Int))) W) := Lib.hid (fun W hW =>
          ⟨hlt, by rw [show min s (k + 1) - 1 = k by omega], by rw [show min s (k + 1) - 1 = k by omega], by rw [hA1, Int.natCast_add], HB.out.trans (hW.mono HB.out.size), (hW.block _ hbw).trans HBx.out⟩)
        generalize min s k - 1 = mk
        clear hfr hsz hen hB hbx CC hpl hbi hnv hx hg hle2
        go_wp2
        go_region_held3 (fun W => W.cell? ⟨fb, 6, none⟩ = some (.slice (some ⟨g1, 0, none⟩) n lc) ∧ W.cell? ⟨w.heap.size, 0, none⟩ = some (.int .i64 en.v) ∧ W.cell? ⟨w.heap.size, 1, none⟩ = some (.string en.c) ∧ W.cell? ⟨w.heap.size, 2, none⟩ = some (.int .i64 en.i) ∧ W.cell? ⟨w.heap.size, 3, none⟩ = some (.int .i64 en.s) ∧ W.cell? ⟨w.heap.size, 4, none⟩ = some (.bool en.d) ∧ W.cell? ⟨g1, A k * 5, none⟩ = some (.int .i64 x.v) ∧ W.cell? ⟨g1, A k * 5 + 1, none⟩ = some (.string x.c) ∧ W.cell? ⟨g1, A k * 5 + 2, none⟩ = some (.int .i64 x.i) ∧ W.cell? ⟨g1, A k * 5 + 3, none⟩ = some (.int .i64 x.s) ∧ W.cell? ⟨g1, A k * 5 + 4, none⟩ = some (.bool x.d)) (first | exact ⟨x6, b0, b1, b2, b3, b4, e0, e1, e2, e3, e4⟩ | exact HK.out _ (below_of hc1)) (first | (go_at_call 54; refine (HCC.out _).mono ?_; rintro e w3 ⟨rfl, hc1⟩))
        have HR3 := Lib.hid (HNx.out _ (below_of hc1))
        obtain ⟨z7, z8⟩ := HS.out _ (below_of hc1)
        clear hc1
        go_wp2
        go_roundw
        case rel => exact ⟨k + 1, by go_num, HR3.out⟩
        case measure => simp [intOf]; omega
    · obtain rfl : k = N := by omega
      have hk1 : ¬ ((k : Int) < (k : Int)) := by omega
      have hmn : min s k = s := by omega
      rw [hmn]
      clear hfr hsz hen hB hbx
      go_wp2
      go_ret2
      exact ⟨rfl, HB.out⟩
end Go.Proofs.YtihgjihdmlomaaaDoor
