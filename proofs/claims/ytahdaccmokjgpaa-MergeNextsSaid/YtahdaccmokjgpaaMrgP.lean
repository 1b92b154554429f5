/-
  A STEP of a merger: laws for its walk.
-/
import Derived.Test.YtahdaccmokjgpaaMrgW
namespace Go.Proofs.Ytahdaccmokjgpaa
open Go.RowKit ArgK
set_option linter.unusedVariables false

theorem Fm.fresh {B : Nat} {T : List TypeId} {X : List (Option Nat)} {a b c : World} {R : Nat} (h : Fm B T X a b) (k : Fr b c [some R]) (hR : a.heap.size ≤ R) : Fm B T X a c :=
  h.trans (Y := [some R]) (Fm.of_fr (B := B) k) (fun x hx hlt => by simp at hx; omega)

/-- A block of another element type is no row's. -/
theorem row_far {w : World} {base : Nat} {e : TypeId} {size : Nat} {v : Value} {n : Nat} {xs : List Value} (h : w.ownsRow base e size v n xs) {R : Nat} {cs : Array Value} {t : TypeId} {fr : Nat × Nat} (hR : w.heap[R]? = some (.cells cs t fr)) (hne : e ≠ t) (g : Nat) (hg : v.ownBlock = some g) : g ≠ R := by
  intro hgR
  rw [← hgR] at hR
  rcases h.2 with ⟨k, _⟩ | ⟨g', c, cur, k, _, k2, _⟩
  · rw [k] at hg; cases hg
  · rw [k] at hg
    have hg2 : g' = g := Option.some.inj hg
    rw [← hg2, k2] at hR
    injection hR with h1
    injection h1 with _ h2
    exact hne h2

theorem eBlk_free {W : World} {b : Nat} {e : Ent} (h : W.heap[b]? = some (eBlk e)) (k : Nat) : W.frozen? ⟨b, k, none⟩ = false := by
  unfold eBlk at h
  simp [World.frozen?, h]

theorem eBlk_cells {W : World} {b : Nat} {e : Ent} (h : W.heap[b]? = some (eBlk e)) : W.cell? ⟨b, 0, none⟩ = some (.int .i64 e.v) ∧ W.cell? ⟨b, 1, none⟩ = some (.string e.c) ∧ W.cell? ⟨b, 2, none⟩ = some (.int .i64 e.i) ∧ W.cell? ⟨b, 3, none⟩ = some (.int .i64 e.s) ∧ W.cell? ⟨b, 4, none⟩ = some (.bool e.d) :=
  ⟨by rw [cell_of_row _ _ 0 _ _ _ h]; rfl, by rw [cell_of_row _ _ 1 _ _ _ h]; rfl, by rw [cell_of_row _ _ 2 _ _ _ h]; rfl, by rw [cell_of_row _ _ 3 _ _ _ h]; rfl, by rw [cell_of_row _ _ 4 _ _ _ h]; rfl⟩

/-- A result's block is written. -/
theorem AskInv.far {w0 : World} {v0 : Value} {B : Nat} {T : List TypeId} {mb hb : Nat} {sv : Value} {fs : List Value} {bottom begun : Bool} {code : Int} {I : World → List Sst → Prop} {m : Mst} {wr W : World} {R : Nat} {cs : Array Value} {fr : Nat × Nat} (hF : FeedLaw B T fs I) (h : AskInv w0 v0 B T mb hb sv fs bottom begun code I m wr) (hR : wr.heap[R]? = some (.cells cs 24 fr)) (h0 : w0.heap.size ≤ R) (hB : B ≤ R) (k : Fr wr W [some R]) : AskInv w0 v0 B T mb hb sv fs bottom begun code I m W := by
  obtain ⟨h1, h2, v, L, h3, h4, h5, h6⟩ := h
  have hkp : Kp B mTypes wr W := ⟨k.1, k.2.1, k.2.2.1, k.2.2.2.1, fun b o ho hx => by
    by_cases hb : b = R
    · subst hb
      rw [hR] at ho
      cases ho
      rcases hx with hx | hx
      · omega
      · exact absurd (by unfold mTypes; simp) (hx _ rfl)
    · exact (k.2.2.2.2 b (Array.getElem?_eq_some_iff.1 ho).1 (by simp; exact hb)).trans ho⟩
  have hmb : mb ≠ R := fun e => by
    have := h1.box
    rw [e, hR] at this
    cases this
  have hhb : hb ≠ R := fun e => by
    have := h3.box
    rw [e, hR] at this
    cases this
  refine ⟨h1.fm (X := [some R]) (T := []) (Fm.of_fr (B := B) k) ⟨by simp, by simp, by simp, by simp, by simp⟩ (by simp; exact hmb) (fun g hg => by simp; exact row_far h1.row hR (by decide) g hg), hF.keep h2 hkp, v, L, ⟨(k.2.2.2.2 hb h3.lt (by simp; exact hhb)).trans h3.box, h3.base, k.own h3.row (fun g hg => by simp; exact row_far h3.row hR (by decide) g hg)⟩, h4, h5, h6.1.fresh k h0, h6.2⟩

/-- What a step leaves. -/
def StepPost (w0 : World) (v0 : Value) (B : Nat) (T : List TypeId) (mb hb : Nat) (sv : Value) (fs : List Value) (bottom : Bool) (I : World → List Sst → Prop) (r : Mst × Ent × Bool) (e : Ending) (w' : World) : Prop :=
  e = .returned (.tuple #[r.2.1.val, .bool r.2.2, .int .i64 r.1.bad]) ∧ AskInv w0 v0 B T mb hb sv fs bottom true 0 I r.1 w'

/-- At the head of each round of a step: heads from k on are still to be asked. -/
def StepRel (w0 : World) (v0 : Value) (B : Nat) (T : List TypeId) (mb hb : Nat) (sv : Value) (fs : List Value) (bottom : Bool) (I : World → List Sst → Prop) (w : World) (b : Ent) (R : Nat) (lv : Value) (out : List Hdv) (M : Mst) (k : Nat) (wr : World) : Prop :=
  ∃ mk : Mst, mk.asks ((out.drop k).map Hdv.n) = M ∧ mk.bad = 0 ∧ MOk fs.length mk ∧ (∀ x ∈ out.drop k, ∃ st : Sst, mk.S[x.n]? = some st ∧ st.last = some x.e ∧ st.used ≤ st.es.length ∧ mk.F[x.n]? = some none) ∧ ((out.drop k).map Hdv.n).Nodup ∧
    MrgIs wr B mb hb sv fs bottom true 0 ∧ I wr mk.S ∧ (∃ v L, PileD wr B hb v L ∧ HeapG abv L ∧ (mk.bad = 0 → L.Perm (stands mk.F)) ∧ NK B T mb hb w0 v0 wr v ∧ ∀ g, lv.ownBlock = some g → v.ownBlock ≠ some g) ∧
    wr.ownsRow (w.heap.size + 1) 100 6 lv out.length (encD out) ∧ wr.heap[w.heap.size]? = some (eBlk zeroE) ∧ (w.heap.size < R ∧ wr.heap[R]? = some (eBlk b)) ∧ w.heap.size < wr.heap.size


theorem StepRel.round {w0 : World} {v0 : Value} {B : Nat} {T : List TypeId} {mb hb : Nat} {sv : Value} {fs : List Value} {bottom : Bool} {I : World → List Sst → Prop} {w : World} {b : Ent} {R : Nat} {lv : Value} {out : List Hdv} {M : Mst} {k : Nat} {wr : World} {x : Hdv} (hF : FeedLaw B T fs I) (hn : fs.length ≤ 1024) (hB : B ≤ w0.heap.size) (hw : w0.heap.size ≤ w.heap.size) (hhb : hb < w.heap.size)
    (h : StepRel w0 v0 B T mb hb sv fs bottom I w b R lv out M k wr) (hx : out[k]? = some x) :
    Calls Try.prog 53 #[.pointer (some ⟨mb, 0, none⟩), .int .i64 x.n, .pointer (some ⟨wr.heap.size, 0, none⟩)] (wr.alloc (hBlk x)) fun e w' => ∃ r, e = .returned (.int .i64 r) ∧ (r = 0 → StepRel w0 v0 B T mb hb sv fs bottom I w b R lv out M (k + 1) w') ∧ (r ≠ 0 → M.bad = r ∧ AskInv w0 v0 B T mb hb sv fs bottom true 0 I M w' ∧ w'.heap[w.heap.size]? = some (eBlk zeroE)) := by
  obtain ⟨mk, h1, h2, h3, h4, h5, h6, h7, ⟨v, L, h8, h9, h10, h11, h12⟩, h13, h14, ⟨hR, h15⟩, h16⟩ := h
  have hkl := (List.getElem?_eq_some_iff.1 hx).1
  have hdrop : out.drop k = x :: out.drop (k + 1) := by
    rw [List.drop_eq_getElem_cons hkl]
    have := (List.getElem?_eq_some_iff.1 hx).2
    rw [this]
  rw [hdrop] at h1 h4 h5
  obtain ⟨st, hs, hl, hu, hf⟩ := h4 x (by simp)
  have hA : AskInv w0 v0 B T mb hb sv fs bottom true 0 I mk wr := ⟨h6, h7, v, L, h8, h9, h10, h11⟩
  have hbl := (Below.refl wr.heap.size wr).alloc (Nat.le_refl _) (hBlk x)
  have h8a : PileD (wr.alloc (hBlk x)) B hb v L := h8.keep (T := []) (Kp.of_below (B := B) hbl) (by simp) (by simp)
  have h6a : MrgIs (wr.alloc (hBlk x)) B mb hb sv fs bottom true 0 := h6.fm (X := []) (T := []) (Fm.of_below (B := B) hbl) ⟨by simp, by simp, by simp, by simp, by simp⟩ (by simp) (by simp)
  have hL : L.length ≤ 1000000 := by
    rw [(h10 h2).length_eq]
    have := stands_length mk.F
    have := h3.lenF
    omega
  have hBw : B ≤ (wr.alloc (hBlk x)).heap.size := by have := h11.1.size; simp; omega
  refine (ask_calls hF h6a h8a h9 (hF.keep h7 (Kp.of_below hbl)) hs hu hn hL hBw (.inr ⟨x.e, wr.heap.size, x.n, hl, rfl, World.alloc_heap_new wr (hBlk x)⟩)).mono ?_
  rintro e w' ⟨rfl, hI, v', L', k1, k2, k3, k4⟩
  have hM' : MrgIs w' B mb hb sv fs bottom true 0 := h6a.keeps h8a hF.tok k4
  have hN' : NK B T mb hb w0 v0 w' v' := (h11.trans (NK.of_below hbl)).trans (NK.of_mk k4)
  have hFk : Fm B T [some hb, v.ownBlock] wr w' := (Fm.of_below hbl).trans k4.1 (fun x hx _ => hx)
  have hszw : wr.heap.size ≤ w'.heap.size := hFk.size
  have hZ : w'.heap[w.heap.size]? = some (eBlk zeroE) := by
    refine hFk.box h14 (.inl hF.tok.e) ?_
    simp only [List.mem_cons, List.not_mem_nil, or_false, Option.some.injEq, not_or]
    exact ⟨by omega, fun e => row_far h8.row h14 (by decide) _ e.symm rfl⟩
  have hZ2 : w'.heap[R]? = some (eBlk b) := by
    refine hFk.box h15 (.inl hF.tok.e) ?_
    simp only [List.mem_cons, List.not_mem_nil, or_false, Option.some.injEq, not_or]
    exact ⟨by omega, fun e => row_far h8.row h15 (by decide) _ e.symm rfl⟩
  have hask := ask_some hs
  have hperm : st.asked.2.1 = 0 → L'.Perm (stands (mk.F.set x.n st.asked.2.2)) := fun _ => by
    cases hxx : st.asked.2.2 with
    | none => rw [set_none_self hf]; rw [hxx] at k3; exact k3.trans (h10 h2)
    | some y => rw [hxx] at k3; exact k3.trans (((h10 h2).cons _).trans (stands_set hf).symm)
  have hI' : I w' (mk.ask x.n).S := by rw [hask]; exact hI
  refine ⟨_, rfl, fun hr => ?_, fun hr => ?_⟩
  · refine ⟨mk.ask x.n, ?_, by rw [hask]; exact hr, h3.ask x.n, fun y hy => ?_, (List.nodup_cons.1 h5).2, hM', hI', ⟨v', L', k1, k2, fun _ => by rw [hask]; exact hperm hr, hN', fun g hg => ?_⟩, hFk.own h13 hF.tok.c (fun g hg => ?_), hZ, ⟨hR, hZ2⟩, by omega⟩
    · rw [← h1, List.map_cons, Mst.asks, if_neg]
      rw [hask]
      simpa using hr
    · have hne : y.n ≠ x.n := fun e => (List.nodup_cons.1 h5).1 (e ▸ List.mem_map_of_mem (f := Hdv.n) hy)
      obtain ⟨st', q1, q2, q3, q4⟩ := h4 y (List.mem_cons_of_mem _ hy)
      exact ⟨st', (ask_far hne).1.trans q1, q2, q3, (ask_far hne).2.trans q4⟩
    · have h17 := (h13.lt g hg).2
      rcases k4.2 with q | q
      · rw [q]; exact h12 g hg
      · intro e
        have := q g e
        simp at this
        omega
    · have h17 := (h13.lt g hg).1
      simp only [List.mem_cons, List.not_mem_nil, or_false, Option.some.injEq, not_or]
      exact ⟨by omega, fun e => h12 g hg e.symm⟩
  · have hMe : M = mk.ask x.n := by
      rw [← h1, List.map_cons, Mst.asks, if_pos]
      rw [hask]
      exact hr
    rw [hMe]
    exact ⟨by rw [hask], ⟨hM', hI', v', L', k1, k2, fun hb2 => absurd (by rw [hask] at hb2; exact hb2) hr, hN'⟩, hZ⟩

theorem StepRel.inv {w0 : World} {v0 : Value} {B : Nat} {T : List TypeId} {mb hb : Nat} {sv : Value} {fs : List Value} {bottom : Bool} {I : World → List Sst → Prop} {w : World} {b : Ent} {R : Nat} {lv : Value} {out : List Hdv} {M : Mst} {k : Nat} {wr : World}
    (h : StepRel w0 v0 B T mb hb sv fs bottom I w b R lv out M k wr) (hk : out.length ≤ k) : M.bad = 0 ∧ AskInv w0 v0 B T mb hb sv fs bottom true 0 I M wr := by
  obtain ⟨mk, h1, h2, h3, h4, h5, h6, h7, ⟨v, L, h8, h9, h10, h11, h12⟩, h13, h14, ⟨hR, h15⟩, h16⟩ := h
  rw [List.drop_eq_nil_of_le hk, List.map_nil, Mst.asks] at h1
  subst h1
  exact ⟨h2, h6, h7, v, L, h8, h9, h10, h11⟩

theorem StepRel.facts {w0 : World} {v0 : Value} {B : Nat} {T : List TypeId} {mb hb : Nat} {sv : Value} {fs : List Value} {bottom : Bool} {I : World → List Sst → Prop} {w : World} {b : Ent} {R : Nat} {lv : Value} {out : List Hdv} {M : Mst} {k : Nat} {wr : World}
    (h : StepRel w0 v0 B T mb hb sv fs bottom I w b R lv out M k wr) : wr.ownsRow (w.heap.size + 1) 100 6 lv out.length (encD out) ∧ wr.heap[w.heap.size]? = some (eBlk zeroE) ∧ w.heap.size < R ∧ wr.heap[R]? = some (eBlk b) ∧ w.heap.size < wr.heap.size := by
  obtain ⟨mk, h1, h2, h3, h4, h5, h6, h7, h8, h13, h14, ⟨hR, h15⟩, h16⟩ := h
  exact ⟨h13, h14, hR, h15, h16⟩

theorem step_none {m : Mst} (h : leastE (stands m.F) = none) : m.step = (m, zeroE, false) := by
  unfold Mst.step
  rw [h]

theorem step_twice {m : Mst} {q : Ent} (h : leastE (stands m.F) = some q) (h2 : wordOf (atPlace q (stands m.F)) = none) : m.step = ({ m with F := offPlace q m.F, bad := 51 }, zeroE, false) := by
  unfold Mst.step
  rw [h]
  simp only [h2]

theorem step_some {m : Mst} {q b : Ent} (h : leastE (stands m.F) = some q) (h2 : wordOf (atPlace q (stands m.F)) = some b) : m.step = if (({ m with F := offPlace q m.F } : Mst).asks ((atPlace q (stands m.F)).map Hdv.n)).bad = 0 then (({ m with F := offPlace q m.F } : Mst).asks ((atPlace q (stands m.F)).map Hdv.n), b, true) else (({ m with F := offPlace q m.F } : Mst).asks ((atPlace q (stands m.F)).map Hdv.n), zeroE, false) := by
  unfold Mst.step
  rw [h]
  simp only [h2]

theorem atPlace_mem {q : Ent} {F : List (Option Ent)} {x : Hdv} (h : x ∈ atPlace q (stands F)) : F[x.n]? = some (some x.e) ∧ eat q x.e := by
  obtain ⟨h1, h2⟩ := List.mem_filter.1 h
  exact ⟨stands_mem.1 h1, by simpa using h2⟩

theorem atPlace_nodup (q : Ent) (F : List (Option Ent)) : ((atPlace q (stands F)).map Hdv.n).Nodup := (stands_nodup F).sublist ((List.filter_sublist).map _)

/-- The state ahead of the asks of a step. -/
theorem StepRel.start {w0 : World} {v0 : Value} {B : Nat} {T : List TypeId} {mb hb : Nat} {sv : Value} {fs : List Value} {bottom : Bool} {I : World → List Sst → Prop} {w : World} {b : Ent} {R : Nat} {lv v : Value} {Lk : List Hdv} {m : Mst} {q : Ent} {wr : World} (hbad : m.bad = 0) (hm : MOk fs.length m)
    (h6 : MrgIs wr B mb hb sv fs bottom true 0) (h7 : I wr m.S) (h8 : PileD wr B hb v Lk) (h9 : HeapG abv Lk) (h10 : Lk.Perm (stands (offPlace q m.F))) (h11 : NK B T mb hb w0 v0 wr v) (h12 : ∀ g, lv.ownBlock = some g → v.ownBlock ≠ some g)
    (h13 : wr.ownsRow (w.heap.size + 1) 100 6 lv (atPlace q (stands m.F)).length (encD (atPlace q (stands m.F)))) (h14 : wr.heap[w.heap.size]? = some (eBlk zeroE)) (hR : w.heap.size < R) (h15 : wr.heap[R]? = some (eBlk b)) (h16 : w.heap.size < wr.heap.size) :
    StepRel w0 v0 B T mb hb sv fs bottom I w b R lv (atPlace q (stands m.F)) (({ m with F := offPlace q m.F } : Mst).asks ((atPlace q (stands m.F)).map Hdv.n)) 0 wr := by
  refine ⟨{ m with F := offPlace q m.F }, rfl, hbad, hm.off q, fun x hx => ?_, by rw [List.drop_zero]; exact atPlace_nodup q m.F, h6, h7, ⟨v, Lk, h8, h9, fun _ => h10, h11, h12⟩, h13, h14, ⟨hR, h15⟩, h16⟩
  rw [List.drop_zero] at hx
  obtain ⟨h1, h2⟩ := atPlace_mem hx
  obtain ⟨st, k1, k2, k3, k4⟩ := hm.std _ _ h1
  exact ⟨st, k1, k2, k3, off_none h1 h2⟩
end Go.Proofs.Ytahdaccmokjgpaa
