/-
  THE LAW of a range over a file's blocks: the loop's own invariant, carried through the iterator's stores.
  MEMORY: what a loop over a file's blocks holds, and how it is borne by the iterator's steps.
-/
import Derived.Test.YtihgjihdmlomaaaDoorJBsD
import Derived.Maps.AppendAt
namespace Go.Proofs.YtihgjihdmlomaaaDoor
open Go.RowKit ArgK Go.Shelf
set_option linter.unusedVariables false

/-- How the body of a round may be left: off its end, or by the break id. -/
def bodyEnd (D id : Nat) (I2 Ix : World → Prop) (W : World) : Exit → Act → World → Prop
  | .normal, _, W' => KeepsFrom D W W' ∧ I2 W'
  | .exit k, _, W' => k = id ∧ KeepsFrom D W W' ∧ Ix W'
  | .ret, _, _ => False
  | .goto _, _, _ => False
  | .panic _, _, _ => False
  | .outgrown, _, _ => False

/-- The loop's record. -/
def recL (fn : FuncId) (tmps : Array Value) (pt : Tmp) (assign body : Code) (D : Nat) (st : LoopState) (pe : Option Code) : Loop := { state := st, pending := pe, fn, tmps := tmps, params := #[pt], assign, body, defers := D }

set_option maxHeartbeats 1000000 in
theorem range_law (base fb b6 b2 b7 first : Nat) (h : Hd) (l : List Ent) (lp : Option Addr) (gg lc r0 N : Nat) (hlp : 0 < N → lp = some ⟨gg, 0, none⟩) (hN : (linesB h l).length = N) (hN2 : N ≤ 2097152) (hsum : ((linesB h l).map Ln.count).sum = l.length) (hl2 : l.length ≤ 2097152) (hlc : l.length ≤ lc) (hcp : ∀ x ∈ linesB h l, 0 < x.count) (hr0 : r0 ≤ 4611686018427387904)
    {g : Operand} {pt : Tmp} {assign body : Code} {Q : Exit → Act → World → Prop} {a : Act} {w : World}
    (hg : a.eval g = .func (.func 77) #[] #[.pointer (some ⟨b6, 0, none⟩), .pointer (some ⟨b2, 0, none⟩), .pointer (some ⟨b7, 0, none⟩)])
    (I I1 I2 Ix : Nat → World → Prop) (id : Nat) (hB : Bears base fb b6 b2 b7 first h l lp lc r0 N I I1 I2)
    (oI : OwnFrom w.heap.size I) (oI1 : OwnFrom w.heap.size I1) (oI2 : OwnFrom w.heap.size I2) (oIx : OwnFrom w.heap.size Ix)
    (hfb : fb < w.heap.size) (hb7 : b7 < w.heap.size) (h0 : I first w) (a₁ : Value → Act)
    (hassign : ∀ (L : Nat) (x : Value) (W : World) (K : Act → World → Prop), K (a₁ x) W → assign.wpIn (Fence.wide.inRound L) 3 Tryd.prog (Exit.then K (fun _ _ _ => False)) { tmps := ((#[pt] : Array Tmp).zip #[x]).foldl (fun t (p, v) => t.setIfInBounds p v) a.tmps, defers := [] } W)
    (hbody : ∀ (L i : Nat) (W : World), I1 i W → i < N → body.wpIn (Fence.wide.inRound L) 3 Tryd.prog (bodyEnd w.heap.size id (I2 i) (Ix i) W) (a₁ (blkV gg lc (linesB h l) i)) W)
    (hdone : ∀ (D i : Nat) (W : World), w.heap.size ≤ D → N ≤ i → I i W → W.heap[D]? = some (.deferred (some [])) → Q .normal { a with defers := { target := .collected D, args := #[] } :: a.defers } W)
    (hstop : ∀ (D i : Nat) (W : World), w.heap.size ≤ D → i < N → Ix i W → W.heap[D]? = some (.deferred (some [])) → (Code.exit id).wpIn Fence.wide 5 Tryd.prog Q { a with defers := { target := .collected D, args := #[] } :: a.defers } W) :
    (Code.rangeFunc g #[pt] assign body).wp Tryd.prog Q a w := by
  refine (wpIn_wide (n := 5)).1 (wpIn_rangeFunc ?_)
  intro fn hfn
  obtain ⟨D, hD⟩ : ∃ D, w.heap.size = D := ⟨_, rfl⟩
  obtain ⟨W1, hW1⟩ : ∃ W1, (w.alloc (.deferred (some []))).alloc (.loop (recL fn a.tmps pt assign body D .ready none)) = W1 := ⟨_, rfl⟩
  have hL1 : W1.heap[D + 1]? = some (.loop (recL fn a.tmps pt assign body D .ready none)) := by
    rw [← hW1, ← hD]
    have := World.alloc_heap_new (w.alloc (.deferred (some []))) (.loop (recL fn a.tmps pt assign body w.heap.size .ready none))
    rwa [World.size_alloc] at this
  have hK1 : W1.heap[D]? = some (.deferred (some [])) := by
    rw [← hW1, ← hD]
    exact (Below.heap_alloc _ _ _ (by simp)).trans (World.alloc_heap_new w _)
  have hI1 : I first W1 := by rw [← hW1]; exact oI.alloc _ (oI.alloc _ h0)
  rw [hD] at oI oI1 oI2 oIx hbody hdone hstop hfb hb7
  -- the facts of book-keeping
  let Rd : World → Prop := fun W => W.heap[D + 1]? = some (.loop (recL fn a.tmps pt assign body D .ready none)) ∧ W.heap[D]? = some (.deferred (some []))
  have rset : ∀ (W : World) (b j : Nat) (v : Value), b < D → Rd W → Rd (W.setCell ⟨b, j, none⟩ v) := fun W b j v hb hr => ⟨(Below.heap_setCell W ⟨b, j, none⟩ v (D + 1) (show D + 1 ≠ b by omega)).trans hr.1, (Below.heap_setCell W ⟨b, j, none⟩ v D (show D ≠ b by omega)).trans hr.2⟩
  have hBJ : Bears base fb b6 b2 b7 first h l lp lc r0 N (fun i W => I i W ∧ Rd W) (fun i W => I1 i W ∧ Rd W) (fun i W => I2 i W ∧ Rd W) :=
    { it := fun i W hj => hB.it i W hj.1
      s1 := fun i W n hj hi => ⟨hB.s1 i W n hj.1 hi, rset W fb 8 _ hfb hj.2⟩
      it1 := fun i W hj => hB.it1 i W hj.1
      d1 := fun i W n hj => ⟨hB.d1 i W n hj.1, hj.2⟩
      it2 := fun i W hj => hB.it2 i W hj.1
      s2 := fun i W hj hi => ⟨hB.s2 i W hj.1 hi, rset W b7 0 _ hb7 hj.2⟩ }
  refine ⟨D + 1, [{ target := .collected D, args := #[] }], W1, { target := .fn (.func 77) #[.pointer (some ⟨b6, 0, none⟩), .pointer (some ⟨b2, 0, none⟩), .pointer (some ⟨b7, 0, none⟩)], args := #[.func (.yield (D + 1)) #[] #[]] }, W1, 77,
    #[.func (.yield (D + 1)) #[] #[]] ++ #[.pointer (some ⟨b6, 0, none⟩), .pointer (some ⟨b2, 0, none⟩), .pointer (some ⟨b7, 0, none⟩)], W1, ?_, ?_, ?_, ?_, (fun hd => by cases hd), ?_⟩
  · rw [← hW1, ← hD]
    exact run_enterLoop_outer _ _ _ _ _
  · simp only [resolve, hg]
    simp [go_sem]
  · intro f' hf'
    trivial
  · simp [invoke, go_sem]
  · refine callsIn_wide.2 ?_
    refine (iter_calls base fb b6 b2 b7 first h l lp gg lc r0 N hlp hN hN2 hsum hl2 hlc hcp hr0 (fun i W => I i W ∧ Rd W) (fun i W => I1 i W ∧ Rd W) (fun i W => I2 i W ∧ Rd W)
      (fun i W => Ix i W ∧ W.heap[D + 1]? = some (.loop (recL fn a.tmps pt assign body D .done (some (.exit id)))) ∧ W.heap[D]? = some (.deferred (some []))) hBJ (D + 1) 4 ?_ W1 ⟨hI1, hL1, hK1⟩).mono ?_
    · -- one round
      rintro i W ⟨hi, hl, hk⟩ hlt
      have hDl : D + 1 < W.heap.size := (Array.getElem?_eq_some_iff.1 hl).1
      have hy := run_yield (P := Tryd.prog) (args := #[blkV gg lc (linesB h l) i]) hl rfl
      refine ⟨fn, _, assign, body, hy, roundIn_of_wpIn hfn ?_⟩
      refine hassign (D + 1) (blkV gg lc (linesB h l) i) W _ ?_
      refine ⟨_, run_beginRound hl rfl, ?_⟩
      have hl2 : (W.putObj (D + 1) (.loop (recL fn a.tmps pt assign body D .busy none))).heap[D + 1]? = some (.loop (recL fn a.tmps pt assign body D .busy none)) := World.putObj_heap_same hDl
      have hk2 : (W.putObj (D + 1) (.loop (recL fn a.tmps pt assign body D .busy none))).heap[D]? = some (.deferred (some [])) := (World.putObj_heap_other (by omega)).trans hk
      refine wpIn_mono (hbody _ i _ (oI1.putObj _ hi (by omega) hl rfl) hlt) ?_
      rintro e a3 W3 hp
      cases e with
      | normal =>
        obtain ⟨hk3, hi3⟩ := hp
        have hl3 := hk3.same _ _ (by omega) hl2 rfl
        have hd3 := hk3.same _ _ (Nat.le_refl _) hk2 rfl
        exact ⟨_, _, run_endRound (P := Tryd.prog) none hl3, .inl ⟨rfl, oI2.putObj _ hi3 (by omega) hl3 rfl, World.putObj_heap_same (Array.getElem?_eq_some_iff.1 hl3).1, (World.putObj_heap_other (by omega)).trans hd3⟩⟩
      | exit k =>
        obtain ⟨rfl, hk3, hi3⟩ := hp
        have hl3 := hk3.same _ _ (by omega) hl2 rfl
        have hd3 := hk3.same _ _ (Nat.le_refl _) hk2 rfl
        exact ⟨_, _, run_endRound (P := Tryd.prog) (some (.exit k)) hl3, .inr ⟨rfl, oIx.putObj _ hi3 (by omega) hl3 rfl, World.putObj_heap_same (Array.getElem?_eq_some_iff.1 hl3).1, (World.putObj_heap_other (by omega)).trans hd3⟩⟩
      | ret => exact hp.elim
      | goto t => exact hp.elim
      | panic ch => exact hp.elim
      | outgrown => exact hp.elim
    · -- behind the iterator
      rintro e W2 ⟨⟨v, rfl⟩, (⟨i, hi, hI2, hl, hk⟩ | ⟨i, hi, hI2, hl, hk⟩)⟩
      · exact ⟨none, _, run_endLoop (P := Tryd.prog) hl (by simp [recL]), hdone D i _ (Nat.le_refl _) hi (oI.putObj _ hI2 (by omega) hl rfl) ((World.putObj_heap_other (by omega)).trans hk)⟩
      · exact ⟨some (.exit id), _, run_endLoop (P := Tryd.prog) hl (by simp [recL]), hstop D i _ (Nat.le_refl _) hi (oIx.putObj _ hI2 (by omega) hl rfl) ((World.putObj_heap_other (by omega)).trans hk)⟩
end Go.Proofs.YtihgjihdmlomaaaDoor

namespace Go.Proofs.YtihgjihdmlomaaaDoor
open Go.RowKit ArgK Go.Shelf
set_option linter.unusedVariables false
attribute [local go_sem] Oper.semAt_some

/-- The entries of block i. -/
def blkL (l : List Ent) (ls : List Ln) (i : Nat) : List Ent := (l.drop (offL ls i)).take (offL ls (i + 1) - offL ls i)

/-- Does a block's last entry stand behind the value? -/
def lastB (bl : List Ent) (value : Int) : Bool := match bl.getLast? with | some x => decide (value < x.v) | none => false

/-- What Find tells from block i on, and how many blocks it has read then. -/
def findR (l : List Ent) (ls : List Ln) (value : Int) : Nat → Nat → List Ent → Nat → List Ent × Nat
  | 0, _, out, r => (out, r)
  | f + 1, i, out, r => if lastB (blkL l ls i) value then (out ++ (blkL l ls i).filter (fun x => decide (x.v = value)), r + 1) else findR l ls value f (i + 1) (out ++ (blkL l ls i).filter (fun x => decide (x.v = value))) (r + 1)

theorem own_type_ne {W : World} {base : Nat} {e : TypeId} {size : Nat} {v : Value} {n : Nat} {xs : List Value} (h : W.ownsRow base e size v n xs) {b : Nat} {A : Array Value} {t : TypeId} {fr : Nat × Nat} (hb : W.heap[b]? = some (.cells A t fr)) (hne : e ≠ t) : v.ownBlock ≠ some b := by
  intro hv
  rcases h.2 with ⟨rfl, _⟩ | ⟨g, cap, cur, rfl, _, hg, _⟩
  · cases hv
  · obtain rfl : g = b := Option.some.inj hv
    rw [hg] at hb
    have := Option.some.inj hb
    injection this with _ h2
    exact hne h2

/-- The cells of a file's own block. -/
def fbC (h : Hd) (l : List Ent) (lp : Option Addr) (lc : Nat) (q : Option Addr) (N c : Nat) (r : Int) : Obj := .cells #[.int .i64 h.w, .int .i64 h.t, .int .i64 h.b, .int .i64 h.lo, .int .i64 h.hi, .int .i64 h.n, .slice lp l.length lc, .slice q N c, .int .i64 r] 87 (0, 0)

/-- The file's rows, where the call began. -/
structure FRows (w : World) (base fb : Nat) (h : Hd) (l : List Ent) (lp : Option Addr) (lc : Nat) (q : Option Addr) (c : Nat) : Prop where
  own : w.ownsRow base 33 5 (.slice lp l.length lc) l.length (encE l)
  lin : w.ownsRow base 134 7 (.slice q (linesB h l).length c) (linesB h l).length (encL (linesB h l))
  le : base ≤ fb
  ne1 : (Value.slice lp l.length lc).ownBlock ≠ some fb
  ne2 : (Value.slice q (linesB h l).length c).ownBlock ≠ some fb

theorem FileAt.rows {w : World} {base fb : Nat} {h : Hd} {l : List Ent} {r : Int} (hF : FileAt w base fb h l r) : ∃ lp lc q c, w.heap[fb]? = some (fbC h l lp lc q (linesB h l).length c r) ∧ FRows w base fb h l lp lc q c := by
  obtain ⟨lp, lc, q, c, h1, h2, h3, h4⟩ := hF
  exact ⟨lp, lc, q, c, h1, h2, h3, h4, own_type_ne h2 h1 (by decide), own_type_ne h3 h1 (by decide)⟩
theorem FRows.file {w W : World} {base fb : Nat} {h : Hd} {l : List Ent} {lp : Option Addr} {lc : Nat} {q : Option Addr} {c : Nat} {r : Int} (hR : FRows w base fb h l lp lc q c) (hg : w.grownBy W (some fb)) (hf : W.heap[fb]? = some (fbC h l lp lc q (linesB h l).length c r)) : FileAt W base fb h l r :=
  ⟨lp, lc, q, c, hf, own_grown hR.own hg (fun k hk e => hR.ne1 (by rw [hk, e])), own_grown hR.lin hg (fun k hk e => hR.ne2 (by rw [hk, e])), hR.le⟩

/-- What a loop over the blocks holds: its iterator's cells, its own box of what it has found, a box beside (with its cells), and what it has found. -/
structure FiI (w : World) (D fb b6 b2 b7 first vb ob : Nat) (bx : Array Value) (bt : TypeId) (h : Hd) (l : List Ent) (lp : Option Addr) (lc : Nat) (q : Option Addr) (c N i r : Nat) (Req : List Ent → Prop) (W : World) : Prop where
  lo : first ≤ i
  vb : W.heap[vb]? = some (.cells bx bt (0, 0))
  k6 : W.heap[b6]? = some (.cells #[.int .i64 (first : Int)] 3 (0, 0))
  k2 : W.heap[b2]? = some (.cells #[.pointer (some ⟨fb, 0, none⟩)] 36 (0, 0))
  k7 : W.heap[b7]? = some (.cells #[.int .i64 ((offL (linesB h l) i : Nat) : Int)] 3 (0, 0))
  own8 : W.heap[fb]? = some (fbC h l lp lc q N c (r : Int))
  gr : w.grownBy W (some fb)
  sz : D ≤ W.heap.size
  out : ∃ out v, W.heap[ob]? = some (.cells #[v] 24 (0, 0)) ∧ W.ownsRow D 33 5 v out.length (encE out) ∧ Req out

/-- A step within a round: below D nothing but the loop's own box has turned. -/
structure Cr (D ob : Nat) (W W' : World) : Prop where
  os : W'.os = W.os
  tape : W'.tape = W.tape
  output : W'.output = W.output
  size : W.heap.size ≤ W'.heap.size
  low : ∀ k, k < D → k ≠ ob → W'.heap[k]? = W.heap[k]?
  keeps : KeepsFrom D W W'

theorem Cr.refl (D ob : Nat) (W : World) : Cr D ob W W := ⟨rfl, rfl, rfl, Nat.le_refl _, fun _ _ _ => rfl, KeepsFrom.refl _ _⟩
theorem Cr.trans {D ob : Nat} {A B C : World} (h : Cr D ob A B) (k : Cr D ob B C) : Cr D ob A C :=
  ⟨k.os.trans h.os, k.tape.trans h.tape, k.output.trans h.output, Nat.le_trans h.size k.size, fun j hj hn => (k.low j hj hn).trans (h.low j hj hn), h.keeps.trans k.keeps⟩
theorem Cr.below {D ob : Nat} {W W' : World} (hD : D ≤ W.heap.size) (h : Below W.heap.size W W') : Cr D ob W W' :=
  ⟨h.os, h.tape, h.output, h.size, fun k hk _ => h.block k (by omega), ⟨h.size, fun k o _ hk _ => (h.block k (Array.getElem?_eq_some_iff.1 hk).1).trans hk⟩⟩
theorem Cr.alloc {D ob : Nat} {W : World} (hD : D ≤ W.heap.size) (o : Obj) : Cr D ob W (W.alloc o) := Cr.below hD ((Below.refl _ W).alloc (Nat.le_refl _) o)
theorem Cr.drewN {D ob : Nat} (W : World) (n : Nat) : Cr D ob W (W.drewN n) := ⟨rfl, rfl, rfl, Nat.le_refl _, fun _ _ _ => rfl, ⟨Nat.le_refl _, fun _ _ _ h _ => h⟩⟩
theorem Cr.setO {D ob : Nat} (W : World) (hb : ob < D) (k : Nat) (v : Value) : Cr D ob W (W.setCell ⟨ob, k, none⟩ v) :=
  ⟨rfl, rfl, rfl, by simp [World.setCell], fun j hj hn => Below.heap_setCell W ⟨ob, k, none⟩ v j hn, ⟨by simp [World.setCell], fun j o hj hk _ => (Below.heap_setCell W ⟨ob, k, none⟩ v j (show j ≠ ob by omega)).trans hk⟩⟩
theorem Cr.app {D ob : Nat} {W W' : World} (hD : D ≤ W.heap.size) {e : TypeId} {size : Nat} {v : Value} {n : Nat} {xs : List Value} (hv : W.ownsRow D e size v n xs) (hg : W.grownBy W' v.ownBlock) : Cr D ob W W' := by
  refine ⟨hg.os, hg.tape, hg.output, hg.size, fun k hk _ => hg.block k ?_ (fun e => by have := (hv.lt k e.symm).1; omega), ⟨hg.size, fun k o hk ho hc => (hg.block k (Array.getElem?_eq_some_iff.1 ho).1 (fun e => ?_)).trans ho⟩⟩
  · omega
  · rcases hv.2 with ⟨rfl, _⟩ | ⟨g', cap, cur, rfl, _, hgb, _⟩
    · cases e
    · obtain rfl : k = g' := Option.some.inj e
      rw [hgb] at ho
      cases ho
      cases hc

section
variable {w W : World} {D base fb b6 b2 b7 first vb ob : Nat} {bx : Array Value} {bt : TypeId} {h : Hd} {l : List Ent} {lp : Option Addr} {lc : Nat} {q : Option Addr} {c N i r : Nat} {Req : List Ent → Prop}

theorem FiI.drewN (hI : FiI w D fb b6 b2 b7 first vb ob bx bt h l lp lc q c N i r Req W) (n : Nat) : FiI w D fb b6 b2 b7 first vb ob bx bt h l lp lc q c N i r Req (W.drewN n) :=
  ⟨hI.lo, hI.vb, hI.k6, hI.k2, hI.k7, hI.own8, ⟨hI.gr.os, hI.gr.tape, hI.gr.output, hI.gr.size, hI.gr.block⟩, hI.sz, hI.out⟩

theorem FiI.set8 (hI : FiI w D fb b6 b2 b7 first vb ob bx bt h l lp lc q c N i r Req W) (hne : fb ≠ vb ∧ fb ≠ ob ∧ fb ≠ b6 ∧ fb ≠ b2 ∧ fb ≠ b7) : FiI w D fb b6 b2 b7 first vb ob bx bt h l lp lc q c N i (r + 1) Req (W.setCell ⟨fb, 8, none⟩ (.int .i64 ((r : Int) + 1))) := by
  obtain ⟨n1, n2, n3, n4, n5⟩ := hne
  have hs : ∀ k, k ≠ fb → (W.setCell ⟨fb, 8, none⟩ (.int .i64 ((r : Int) + 1))).heap[k]? = W.heap[k]? := fun k hk => Below.heap_setCell W ⟨fb, 8, none⟩ _ k hk
  obtain ⟨out, v, o1, o2, o3⟩ := hI.out
  exact ⟨hI.lo, (hs _ (Ne.symm n1)).trans hI.vb, (hs _ (Ne.symm n3)).trans hI.k6, (hs _ (Ne.symm n4)).trans hI.k2, (hs _ (Ne.symm n5)).trans hI.k7, arr_set hI.own8 (k := 8) _, grown_set hI.gr 8 _, by simpa [World.setCell] using hI.sz, out, v, (hs _ (Ne.symm n2)).trans o1, own_setCell o2 (p := ⟨fb, 8, none⟩) (own_type_ne o2 hI.own8 (by decide)) _, o3⟩

theorem FiI.set7 (hI : FiI w D fb b6 b2 b7 first vb ob bx bt h l lp lc q c N i r Req W) (hne : b7 ≠ vb ∧ b7 ≠ ob ∧ b7 ≠ b6 ∧ b7 ≠ b2 ∧ b7 ≠ fb) (hw : w.heap.size ≤ b7) : FiI w D fb b6 b2 b7 first vb ob bx bt h l lp lc q c N (i + 1) r Req (W.setCell ⟨b7, 0, none⟩ (.int .i64 ((offL (linesB h l) (i + 1) : Nat) : Int))) := by
  obtain ⟨n1, n2, n3, n4, n5⟩ := hne
  have hs : ∀ k, k ≠ b7 → (W.setCell ⟨b7, 0, none⟩ (.int .i64 ((offL (linesB h l) (i + 1) : Nat) : Int))).heap[k]? = W.heap[k]? := fun k hk => Below.heap_setCell W ⟨b7, 0, none⟩ _ k hk
  obtain ⟨out, v, o1, o2, o3⟩ := hI.out
  exact ⟨Nat.le_succ_of_le hI.lo, (hs _ (Ne.symm n1)).trans hI.vb, (hs _ (Ne.symm n3)).trans hI.k6, (hs _ (Ne.symm n4)).trans hI.k2, arr_set hI.k7 (k := 0) _, (hs _ (Ne.symm n5)).trans hI.own8, ⟨hI.gr.os, hI.gr.tape, hI.gr.output, by simpa [World.setCell] using hI.gr.size, fun k hk hne2 => (hs k (by omega)).trans (hI.gr.block k hk hne2)⟩, by simpa [World.setCell] using hI.sz, out, v, (hs _ (Ne.symm n2)).trans o1, own_setCell o2 (p := ⟨b7, 0, none⟩) (own_type_ne o2 hI.k7 (by decide)) _, o3⟩

theorem FiI.own {W' : World} {row : Option Nat} (hI : FiI w D fb b6 b2 b7 first vb ob bx bt h l lp lc q c N i r Req W) (hD : w.heap.size ≤ D) (hg : W.grownBy W' row) (hr : ∀ k, row = some k → D ≤ k ∧ ∃ o : Obj, W.heap[k]? = some o ∧ o.isCells = false) : FiI w D fb b6 b2 b7 first vb ob bx bt h l lp lc q c N i r Req W' := by
  have hs : ∀ (k : Nat) (A : Array Value) (t : TypeId) (fr : Nat × Nat), W.heap[k]? = some (Obj.cells A t fr) → W'.heap[k]? = some (Obj.cells A t fr) := fun k A t fr hk => (grownBy_keeps_cells hg (fun k e => (hr k e).2) hk rfl).trans hk
  have ho : ∀ bs e sz v n xs, W.ownsRow bs e sz v n xs → W'.ownsRow bs e sz v n xs := fun bs e sz v n xs hv => own_grown hv hg (fun k hk e => by
    obtain ⟨_, o, ho, hc⟩ := hr k e
    rcases hv.2 with ⟨rfl, _⟩ | ⟨g', cap, cur, rfl, _, hgb, _⟩
    · cases hk
    · obtain rfl : g' = k := Option.some.inj hk
      rw [hgb] at ho
      cases ho
      cases hc)
  obtain ⟨out, v, o1, o2, o3⟩ := hI.out
  exact ⟨hI.lo, hs _ _ _ _ hI.vb, hs _ _ _ _ hI.k6, hs _ _ _ _ hI.k2, hs _ _ _ _ hI.k7, hs _ _ _ _ hI.own8,
    ⟨hg.os.trans hI.gr.os, hg.tape.trans hI.gr.tape, hg.output.trans hI.gr.output, Nat.le_trans hI.gr.size hg.size, fun k hk hne => (hg.block k (Nat.lt_of_lt_of_le hk hI.gr.size) (fun e => by have := (hr k e.symm).1; omega)).trans (hI.gr.block k hk hne)⟩,
    Nat.le_trans hI.sz hg.size, out, v, hs _ _ _ _ o1, ho _ _ _ _ _ _ o2, o3⟩

/-- .. carried through a round's own steps. -/
theorem FiI.cr {W' : World} {Req' : List Ent → Prop} (hI : FiI w D fb b6 b2 b7 first vb ob bx bt h l lp lc q c N i r Req W) (hc : Cr D ob W W') (hw : w.heap.size ≤ ob) (hD : w.heap.size ≤ D) (hlt : fb < D ∧ b6 < D ∧ b2 < D ∧ b7 < D ∧ vb < D) (hne : fb ≠ ob ∧ b6 ≠ ob ∧ b2 ≠ ob ∧ b7 ≠ ob ∧ vb ≠ ob)
    (ho : ∃ out v, W'.heap[ob]? = some (.cells #[v] 24 (0, 0)) ∧ W'.ownsRow D 33 5 v out.length (encE out) ∧ Req' out) : FiI w D fb b6 b2 b7 first vb ob bx bt h l lp lc q c N i r Req' W' := by
  obtain ⟨l1, l2, l3, l4, l5⟩ := hlt
  obtain ⟨n1, n2, n3, n4, n5⟩ := hne
  exact ⟨hI.lo, (hc.low _ l5 n5).trans hI.vb, (hc.low _ l2 n2).trans hI.k6, (hc.low _ l3 n3).trans hI.k2, (hc.low _ l4 n4).trans hI.k7, (hc.low _ l1 n1).trans hI.own8,
    ⟨hc.os.trans hI.gr.os, hc.tape.trans hI.gr.tape, hc.output.trans hI.gr.output, Nat.le_trans hI.gr.size hc.size, fun k hk hne2 => (hc.low k (by omega) (by omega)).trans (hI.gr.block k hk hne2)⟩, Nat.le_trans hI.sz hc.size, ho⟩
end
end Go.Proofs.YtihgjihdmlomaaaDoor
