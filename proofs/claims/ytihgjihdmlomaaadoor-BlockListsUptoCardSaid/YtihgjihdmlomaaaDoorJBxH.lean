/-
  WALK: both files' answers once more: the files' own rows stay where they are.
-/
import Derived.Test.YtihgjihdmlomaaaDoorJBwI
import Derived.Test.YtihgjihdmlomaaaDoorJBxG
import Derived.Test.YtihgjihdmlomaaaDoorJBxP
namespace Go.Proofs.YtihgjihdmlomaaaDoor
open Go.RowKit ArgK
set_option linter.unusedVariables false

theorem FileAt.belowX {w w' : World} {base fb : Nat} {h : Hd} {l : List Ent} {r : Int} (hF : FileAt w base fb h l r) (hb : Below w.heap.size w w') : FileX w w' base fb h l r := by
  refine ⟨hF.below hb, fun lp lc q c N r0 e => ?_⟩
  obtain ⟨lp', lc', q', c', h1, _⟩ := hF
  rw [(hb.block _ (Array.getElem?_eq_some_iff.1 h1).1), e]
  rw [h1] at e
  unfold fbC at e ⊢
  simp only [Option.some.injEq, Obj.cells.injEq, Array.mk.injEq, List.cons.injEq, Value.int.injEq] at e
  obtain ⟨⟨_, _, _, _, _, _, _, _, ⟨_, rfl⟩, _⟩, _⟩ := e
  rfl
theorem RFileAt.belowX {w w' : World} {base fb : Nat} {h : Hd} {l : List Ent} {r : Int} (hF : RFileAt w base fb h l r) (hb : Below w.heap.size w w') : RFileX w w' base fb h l r := by
  refine ⟨hF.below hb, fun lp n lc q c N r0 e => ?_⟩
  obtain ⟨lp', lc', q', c', h1, _⟩ := hF
  rw [(hb.block _ (Array.getElem?_eq_some_iff.1 h1).1), e]
  rw [h1] at e
  unfold rbC at e ⊢
  simp only [Option.some.injEq, Obj.cells.injEq, Array.mk.injEq, List.cons.injEq, Value.int.injEq] at e
  obtain ⟨⟨_, _, _, _, _, _, _, _, ⟨_, rfl⟩, _⟩, _⟩ := e
  rfl

theorem PFindX (base fb : Nat) (h : Hd) (l : List Ent) (r0 : Nat) (value : Int) (s : Nat) (w : World) (hF : FileAt w base fb h l (r0 : Nat)) (hgo : goesR h l = 0) (hr0 : r0 ≤ 4611686018427387904) (hp : Parted (behindI (plE value) (linesB h l)) (linesB h l).length s) :
    Calls Tryd.prog 21 #[.pointer (some ⟨fb, 0, none⟩), .int .i64 value] w fun e w' =>
      ∃ v, e = .returned v ∧ w'.ownsRow w.heap.size 33 5 v (findA value (groups l) s r0).1.length (encE (findA value (groups l) s r0).1) ∧ FileX w w' base fb h l ((findA value (groups l) s r0).2 : Nat) ∧ w.grownBy w' (some fb) := by
  obtain ⟨hh, hl, hgd⟩ := goesR_good hgo
  have hs := goesR_sorted hgo
  have hfew := linesB_few h hgd hl
  refine (Find_callsX base fb h l r0 value w hF (by omega) (linesB_sum h l) hl (linesB_pos h hgd) hr0 (behind_mono hs hgd _)).mono ?_
  rintro e w' ⟨s', v, hp', rfl, ho, hf, hg⟩
  obtain rfl := parted_eq hp hp'
  have e1 := findR_G h l value ((linesB h l).length - (s - 1)) (s - 1) [] r0 (by have := hp.1; rw [← linesB_length h l]; omega)
  rw [e1] at ho hf
  exact ⟨v, rfl, ho, hf, hg⟩
theorem PFromX (base fb : Nat) (h : Hd) (l : List Ent) (r0 : Nat) (en : Ent) (most : Int) (hm : most ≤ 9223372036854775807) (s : Nat) (w : World) (hF : FileAt w base fb h l (r0 : Nat)) (hgo : goesR h l = 0) (hr0 : r0 ≤ 4611686018427387904) (hp : Parted (behindI en (linesB h l)) (linesB h l).length s) :
    Calls Tryd.prog 23 #[.pointer (some ⟨fb, 0, none⟩), en.val, .int .i64 most] w fun e w' =>
      ∃ v, e = .returned v ∧ w'.ownsRow w.heap.size 33 5 v (fromA en most (groups l) s r0).1.length (encE (fromA en most (groups l) s r0).1) ∧ FileX w w' base fb h l ((fromA en most (groups l) s r0).2 : Nat) ∧ w.grownBy w' (some fb) := by
  by_cases h1 : most < 1
  · refine (From0_calls fb en most h1 w).mono ?_
    rintro e w' ⟨rfl, hb⟩
    unfold fromA
    rw [if_pos h1]
    exact ⟨_, rfl, World.ownsRow_nil _ _ _ _, hF.belowX hb, below_grown fb hb⟩
  · obtain ⟨M, rfl⟩ : ∃ M : Nat, most = (M : Int) := ⟨most.toNat, by omega⟩
    obtain ⟨hh, hl, hgd⟩ := goesR_good hgo
    have hs := goesR_sorted hgo
    have hfew := linesB_few h hgd hl
    refine (From_callsX base fb h l r0 en M (by omega) (by omega) w hF (by omega) (linesB_sum h l) hl (linesB_pos h hgd) hr0 (behind_mono hs hgd _)).mono ?_
    rintro e w' ⟨s', v, hp', rfl, ho, hf, hg⟩
    obtain rfl := parted_eq hp hp'
    have e1 := fromR_G h l en M ((linesB h l).length - (s - 1)) (s - 1) [] r0 (by have := hp.1; rw [← linesB_length h l]; omega)
    rw [e1] at ho hf
    unfold fromA
    rw [if_neg h1, Int.toNat_natCast]
    exact ⟨v, rfl, ho, hf, hg⟩
theorem RFindX (base fb : Nat) (h : Hd) (l : List Ent) (r0 : Nat) (value : Int) (s : Nat) (w : World) (hF : RFileAt w base fb h l (r0 : Nat)) (hgo : goesR h l = 0) (hr0 : r0 ≤ 4611686018427387904) (hp : Parted (behindI (plE value) (linesB h l)) (linesB h l).length s) :
    Calls Tryd.prog 26 #[.pointer (some ⟨fb, 0, none⟩), .int .i64 value] w fun e w' =>
      ∃ v, e = .returned v ∧ w'.ownsRow w.heap.size 33 5 v (findA value (groups l) s r0).1.length (encE (findA value (groups l) s r0).1) ∧ RFileX w w' base fb h l ((findA value (groups l) s r0).2 : Nat) ∧ w.grownBy w' (some fb) :=
  RFind_callsX base fb h l r0 value s w hF hgo hr0 hp
theorem RFromX (base fb : Nat) (h : Hd) (l : List Ent) (r0 : Nat) (en : Ent) (most : Int) (hm : most ≤ 9223372036854775807) (s : Nat) (w : World) (hF : RFileAt w base fb h l (r0 : Nat)) (hgo : goesR h l = 0) (hr0 : r0 ≤ 4611686018427387904) (hp : Parted (behindI en (linesB h l)) (linesB h l).length s) :
    Calls Tryd.prog 27 #[.pointer (some ⟨fb, 0, none⟩), en.val, .int .i64 most] w fun e w' =>
      ∃ v, e = .returned v ∧ w'.ownsRow w.heap.size 33 5 v (fromA en most (groups l) s r0).1.length (encE (fromA en most (groups l) s r0).1) ∧ RFileX w w' base fb h l ((fromA en most (groups l) s r0).2 : Nat) ∧ w.grownBy w' (some fb) := by
  by_cases h1 : most < 1
  · refine (RFrom0_calls base fb h l r0 en most h1 s w hF hgo hp).mono ?_
    rintro e w' ⟨rfl, hb⟩
    unfold fromA
    rw [if_pos h1]
    exact ⟨_, rfl, World.ownsRow_nil _ _ _ _, hF.belowX hb, below_grown fb hb⟩
  · obtain ⟨M, rfl⟩ : ∃ M : Nat, most = (M : Int) := ⟨most.toNat, by omega⟩
    unfold fromA
    rw [if_neg h1, Int.toNat_natCast]
    exact RFrom_callsX base fb h l r0 en M (by omega) (by omega) s w hF hgo hr0 hp

/-- Both files, all of whose rows lie below block B; each has its own count. -/
structure Ct (W : World) (B b1 f1 b2 f2 : Nat) (h : Hd) (l : List Ent) (rf rd : Nat) : Prop where
  f : FileAt W b1 f1 h l (rf : Nat)
  d : RFileAt W b2 f2 h l (rd : Nat)
  lf : f1 < B ∧ ∃ lp lc q c N r, W.heap[f1]? = some (fbC h l lp lc q N c r) ∧ (∀ g, (Value.slice lp l.length lc).ownBlock = some g → g < B) ∧ (∀ g, (Value.slice q N c).ownBlock = some g → g < B)
  ld : f2 < B ∧ ∃ lp n lc q c N r, W.heap[f2]? = some (rbC h lp n lc q N c r) ∧ (∀ g, (Value.slice lp n lc).ownBlock = some g → g < B) ∧ (∀ g, (Value.slice q N c).ownBlock = some g → g < B)
theorem ne_fd {W : World} {b1 f1 b2 f2 : Nat} {h h' : Hd} {l l' : List Ent} {r r' : Int} (hF : FileAt W b1 f1 h l r) (hD : RFileAt W b2 f2 h' l' r') : f1 ≠ f2 := by
  obtain ⟨lp, lc, q, c, h1, h2, h3, h4⟩ := hF
  obtain ⟨lp', lc', q', c', k1, _, _, _⟩ := hD
  rintro rfl
  rw [h1] at k1
  have := Option.some.inj k1
  injection this with _ h2
  exact absurd h2 (by decide)
theorem Ct.start {W : World} {b1 f1 b2 f2 : Nat} {h : Hd} {l : List Ent} {rf rd : Nat} (hF : FileAt W b1 f1 h l (rf : Nat)) (hD : RFileAt W b2 f2 h l (rd : Nat)) {B : Nat} (hB : W.heap.size ≤ B) : Ct W B b1 f1 b2 f2 h l rf rd := by
  refine ⟨hF, hD, ?_, ?_⟩
  · obtain ⟨lp, lc, q, c, h1, h2, h3, _⟩ := hF
    have := (Array.getElem?_eq_some_iff.1 h1).1
    exact ⟨by omega, lp, lc, q, c, _, _, h1, fun g hg => by have := (h2.lt g hg).2; omega, fun g hg => by have := (h3.lt g hg).2; omega⟩
  · obtain ⟨lp, lc, q, c, h1, h2, h3, _⟩ := hD
    have := (Array.getElem?_eq_some_iff.1 h1).1
    exact ⟨by omega, lp, _, lc, q, c, _, _, h1, fun g hg => by have := (h2.lt g hg).2; omega, fun g hg => by have := (h3.lt g hg).2; omega⟩
variable {W W' : World} {B b1 f1 b2 f2 : Nat} {h : Hd} {l : List Ent} {rf rd : Nat}
theorem Ct.below (c : Ct W B b1 f1 b2 f2 h l rf rd) (hb : Below W.heap.size W W') : Ct W' B b1 f1 b2 f2 h l rf rd := by
  obtain ⟨g1, lp, lc, q, c', N, r, e1, e2, e3⟩ := c.lf
  obtain ⟨g2, lp2, n2, lc2, q2, c2, N2, r2, d1, d2, d3⟩ := c.ld
  exact ⟨c.f.below hb, c.d.below hb, ⟨g1, lp, lc, q, c', N, r, (hb.block _ (Array.getElem?_eq_some_iff.1 e1).1).trans e1, e2, e3⟩, ⟨g2, lp2, n2, lc2, q2, c2, N2, r2, (hb.block _ (Array.getElem?_eq_some_iff.1 d1).1).trans d1, d2, d3⟩⟩
theorem Ct.goF {r' : Nat} (c : Ct W B b1 f1 b2 f2 h l rf rd) (hx : FileX W W' b1 f1 h l (r' : Nat)) (hg : W.grownBy W' (some f1)) : Ct W' B b1 f1 b2 f2 h l r' rd := by
  have hne := ne_fd c.f c.d
  obtain ⟨g1, lp, lc, q, c', N, r, e1, e2, e3⟩ := c.lf
  obtain ⟨g2, lp2, n2, lc2, q2, c2, N2, r2, d1, d2, d3⟩ := c.ld
  exact ⟨hx.1, keep_d c.f c.d hg, ⟨g1, lp, lc, q, c', N, _, hx.2 _ _ _ _ _ _ e1, e2, e3⟩, ⟨g2, lp2, n2, lc2, q2, c2, N2, r2, (hg.block _ (Array.getElem?_eq_some_iff.1 d1).1 (fun e => hne (Option.some.inj e).symm)).trans d1, d2, d3⟩⟩
theorem Ct.goD {r' : Nat} (c : Ct W B b1 f1 b2 f2 h l rf rd) (hx : RFileX W W' b2 f2 h l (r' : Nat)) (hg : W.grownBy W' (some f2)) : Ct W' B b1 f1 b2 f2 h l rf r' := by
  have hne := ne_fd c.f c.d
  obtain ⟨g1, lp, lc, q, c', N, r, e1, e2, e3⟩ := c.lf
  obtain ⟨g2, lp2, n2, lc2, q2, c2, N2, r2, d1, d2, d3⟩ := c.ld
  exact ⟨keep_f c.f c.d hg, hx.1, ⟨g1, lp, lc, q, c', N, r, (hg.block _ (Array.getElem?_eq_some_iff.1 e1).1 (fun e => hne (Option.some.inj e))).trans e1, e2, e3⟩, ⟨g2, lp2, n2, lc2, q2, c2, N2, _, hx.2 _ _ _ _ _ _ _ d1, d2, d3⟩⟩
/-- What is done from block B on leaves both files. -/
theorem Ct.apart (c : Ct W B b1 f1 b2 f2 h l rf rd) (hb : Below B W W') : Ct W' B b1 f1 b2 f2 h l rf rd := by
  obtain ⟨g1, lp, lc, q, c', N, r, e1, e2, e3⟩ := c.lf
  obtain ⟨g2, lp2, n2, lc2, q2, c2, N2, r2, d1, d2, d3⟩ := c.ld
  have E1 := (hb.block f1 g1).trans e1
  have D1 := (hb.block f2 g2).trans d1
  refine ⟨?_, ?_, ⟨g1, lp, lc, q, c', N, r, E1, e2, e3⟩, ⟨g2, lp2, n2, lc2, q2, c2, N2, r2, D1, d2, d3⟩⟩
  · obtain ⟨xp, xc, xq, xd, h1, h2, h3, h4⟩ := c.f
    rw [e1] at h1
    unfold fbC at h1
    simp only [Option.some.injEq, Obj.cells.injEq, Array.mk.injEq, List.cons.injEq, Value.slice.injEq] at h1
    obtain ⟨⟨_, _, _, _, _, _, ⟨rfl, _, rfl⟩, ⟨rfl, rfl, rfl⟩, hr, _⟩, _⟩ := h1
    unfold fbC at E1
    rw [hr] at E1
    exact ⟨_, _, _, _, E1, own_below h2 hb e2, own_below h3 hb e3, h4⟩
  · obtain ⟨xp, xc, xq, xd, h1, h2, h3, h4⟩ := c.d
    rw [d1] at h1
    unfold rbC at h1
    simp only [Option.some.injEq, Obj.cells.injEq, Array.mk.injEq, List.cons.injEq, Value.slice.injEq] at h1
    obtain ⟨⟨_, _, _, _, _, _, ⟨rfl, rfl, rfl⟩, ⟨rfl, rfl, rfl⟩, hr, _⟩, _⟩ := h1
    unfold rbC at D1
    rw [hr] at D1
    exact ⟨_, _, _, _, D1, own_below h2 hb d2, own_below h3 hb d3, h4⟩

/-- The lists that have been answered: each is its caller's, in a block of its own, from block B on. -/
def LsQ (W : World) (B : Nat) (ov : Value) (Vs : List (Value × Nat)) : Prop :=
  W.ownsRow B 24 1 ov Vs.length (Vs.map Prod.fst) ∧ (∀ x ∈ Vs, x.2 ≤ 2097152 ∧ ∃ xs, W.ownsRow B 33 5 x.1 x.2 xs) ∧ Vs.Pairwise (fun a b => ∀ g, a.1.ownBlock = some g → b.1.ownBlock ≠ some g)
theorem LsQ.below {ov : Value} {Vs : List (Value × Nat)} (q : LsQ W B ov Vs) (hb : Below W.heap.size W W') : LsQ W' B ov Vs :=
  ⟨own_belowAll q.1 hb, fun x hx => by obtain ⟨h1, xs, h2⟩ := q.2.1 x hx; exact ⟨h1, xs, own_belowAll h2 hb⟩, q.2.2⟩
theorem LsQ.grown {ov : Value} {Vs : List (Value × Nat)} (q : LsQ W B ov Vs) {fb : Nat} (hg : W.grownBy W' (some fb)) (hf : fb < B) : LsQ W' B ov Vs :=
  ⟨own_grown q.1 hg (fun k hk e => by have := (q.1.lt k hk).1; have := Option.some.inj e; omega), fun x hx => by
    obtain ⟨h1, xs, h2⟩ := q.2.1 x hx
    exact ⟨h1, xs, own_grown h2 hg (fun k hk e => by have := (h2.lt k hk).1; have := Option.some.inj e; omega)⟩, q.2.2⟩
theorem LsQ.lt {ov : Value} {Vs : List (Value × Nat)} (q : LsQ W B ov Vs) : ∀ x ∈ Vs, ∀ g, x.1.ownBlock = some g → g < W.heap.size := fun x hx g hg => by
  obtain ⟨h1, xs, h2⟩ := q.2.1 x hx
  exact (h2.lt g hg).2
/-- Three lists more. -/
theorem LsQ.step {ov ov' : Value} {Vs : List (Value × Nat)} (q : LsQ W B ov Vs) {a b c : Value × Nat} {H : Nat} (hH : ∀ x ∈ Vs, ∀ g, x.1.ownBlock = some g → g < H) (ha : ∀ g, a.1.ownBlock = some g → H ≤ g) (hb : ∀ g, b.1.ownBlock = some g → H ≤ g) (hc : ∀ g, c.1.ownBlock = some g → H ≤ g)
    (hab : ∀ g, a.1.ownBlock = some g → b.1.ownBlock ≠ some g) (hac : ∀ g, a.1.ownBlock = some g → c.1.ownBlock ≠ some g) (hbc : ∀ g, b.1.ownBlock = some g → c.1.ownBlock ≠ some g)
    (la : a.2 ≤ 2097152 ∧ ∃ xs, W.ownsRow B 33 5 a.1 a.2 xs) (lb : b.2 ≤ 2097152 ∧ ∃ xs, W.ownsRow B 33 5 b.1 b.2 xs) (lc : c.2 ≤ 2097152 ∧ ∃ xs, W.ownsRow B 33 5 c.1 c.2 xs) (o : Obj)
    (hown : W'.ownsRow B 24 1 ov' (Vs.length + 3) (Vs.map Prod.fst ++ [a.1, b.1, c.1])) (hg : (W.alloc o).grownBy W' ov.ownBlock) : LsQ W' B ov' (Vs ++ [a, b, c]) := by
  have hkeep : ∀ x : Value × Nat, (x.2 ≤ 2097152 ∧ ∃ xs, W.ownsRow B 33 5 x.1 x.2 xs) → x.2 ≤ 2097152 ∧ ∃ xs, W'.ownsRow B 33 5 x.1 x.2 xs := by
    rintro x ⟨h1, xs, h2⟩
    exact ⟨h1, xs, own_grown (h2.alloc o) hg (fun k hk e => own_ne q.1 h2 (by decide) k e hk)⟩
  refine ⟨by rw [List.length_append, List.map_append]; exact hown, fun x hx => ?_, ?_⟩
  · rcases List.mem_append.1 hx with hx | hx
    · exact hkeep x (q.2.1 x hx)
    · simp only [List.mem_cons, List.not_mem_nil, or_false] at hx
      rcases hx with rfl | rfl | rfl
      · exact hkeep _ la
      · exact hkeep _ lb
      · exact hkeep _ lc
  · refine List.pairwise_append.2 ⟨q.2.2, ?_, fun x hx y hy g hg' e => ?_⟩
    · refine List.Pairwise.cons ?_ (List.Pairwise.cons ?_ (List.Pairwise.cons (fun _ h => by simp at h) List.Pairwise.nil))
      · intro y hy
        simp only [List.mem_cons, List.not_mem_nil, or_false] at hy
        rcases hy with rfl | rfl
        · exact hab
        · exact hac
      · intro y hy
        simp only [List.mem_cons, List.not_mem_nil, or_false] at hy
        subst hy
        exact hbc
    · have h1 := hH x hx g hg'
      simp only [List.mem_cons, List.not_mem_nil, or_false] at hy
      rcases hy with rfl | rfl | rfl
      · have := ha g e; omega
      · have := hb g e; omega
      · have := hc g e; omega
/-- Lists that were answered share nothing. -/
theorem apartQ_calls {ov : Value} {Vs : List (Value × Nat)} (q : LsQ W B ov Vs) (hn : Vs.length ≤ 100) (hB : B ≤ W.heap.size) :
    Calls Tryd.prog 28 #[ov] W fun e w' => e = .returned (.bool true) ∧ Below B W w' := by
  have hmap : (List.range Vs.length).map (fun i => (Vs.getD i (.slice none 0 0, 0)).1) = Vs.map Prod.fst := by
    apply List.ext_getElem
    · simp
    · intro i h1 h2
      simp at h1 h2
      simp [List.getD, h1]
  have hget : ∀ i, i < Vs.length → ∃ x, Vs[i]? = some x ∧ Vs.getD i (.slice none 0 0, 0) = x ∧ x ∈ Vs := fun i hi => by
    obtain ⟨x, hx⟩ : ∃ x, Vs[i]? = some x := ⟨_, List.getElem?_eq_getElem hi⟩
    exact ⟨x, hx, by simp [List.getD, hx], List.mem_of_getElem? hx⟩
  refine apartE_calls ov Vs.length (fun i => (Vs.getD i (.slice none 0 0, 0)).1) (fun i => (Vs.getD i (.slice none 0 0, 0)).2) B hn (fun i hi => ?_) W hB (by rw [hmap]; exact q.1) (fun i hi => ?_) (fun i j hi hj hij b hb e => ?_)
  · obtain ⟨x, _, e, hm⟩ := hget i hi
    simp only [e]
    have := (q.2.1 x hm).1
    omega
  · obtain ⟨x, _, e, hm⟩ := hget i hi
    simp only [e]
    exact (q.2.1 x hm).2
  · obtain ⟨x, hx, ex, _⟩ := hget i hi
    obtain ⟨y, hy, ey, _⟩ := hget j hj
    simp only [ex] at hb
    simp only [ey] at e
    have hp := List.pairwise_iff_getElem.1 q.2.2
    obtain ⟨_, gx⟩ := List.getElem?_eq_some_iff.1 hx
    obtain ⟨_, gy⟩ := List.getElem?_eq_some_iff.1 hy
    rcases Nat.lt_or_gt_of_ne hij with h1 | h1
    · exact hp i j hi hj h1 b (by rw [gx]; exact hb) (by rw [gy]; exact e)
    · exact hp j i hj hi h1 b (by rw [gy]; exact e) (by rw [gx]; exact hb)
end Go.Proofs.YtihgjihdmlomaaaDoor
