/-
  The document's merger in memory. WALK: what a source stands at (its own at).
-/
import Derived.Test.YtahdaccmokjgpaaNxP
import Derived.Test.YtahdaccmokjgpaaFeed
import Derived.RegionTactic
import Derived.BigRegion
import Derived.StillTailTactics
namespace Go.Proofs.Ytahdaccmokjgpaa
open Go.RowKit ArgK
set_option linter.unusedVariables false

-- copied out of XGiven (never import both)
def encK (ks : List Kl) : List Value := ks.flatMap Kl.cells

theorem encK_cons (x : Kl) (ks : List Kl) : encK (x :: ks) = x.cells ++ encK ks := rfl
theorem encK_snoc (ks : List Kl) (x : Kl) : encK (ks ++ [x]) = encK ks ++ x.cells := by unfold encK; rw [List.flatMap_append]; simp
theorem kl_cells_length (x : Kl) : x.cells.length = 5 := rfl
theorem encK_length : ∀ (ks : List Kl), (encK ks).length = ks.length * 5
  | [] => rfl
  | x :: ks => by rw [encK_cons, List.length_append, encK_length ks, kl_cells_length, List.length_cons]; omega
theorem encK_get : ∀ (ks : List Kl) (i : Nat) (x : Kl), ks[i]? = some x → ∀ k, k < 5 → (encK ks)[i * 5 + k]? = x.cells[k]?
  | [], i, x, h => by simp at h
  | y :: ks, 0, x, h => fun k hk => by
    simp at h
    subst h
    rw [encK_cons, List.getElem?_append_left (by rw [kl_cells_length]; omega)]
    congr 1
    omega
  | y :: ks, i + 1, x, h => fun k hk => by
    rw [encK_cons, List.getElem?_append_right (by rw [kl_cells_length]; omega), kl_cells_length, show (i + 1) * 5 + k - 5 = i * 5 + k by omega]
    exact encK_get ks i x (by simpa using h) k hk

theorem encK_set1 : ∀ (ks : List Kl) (i : Nat) (x y : Kl) (k : Nat) (u : Value), ks[i]? = some x → k < 5 → y.cells = x.cells.set k u → (encK ks).set (i * 5 + k) u = encK (ks.set i y)
  | [], i, x, y, k, u, h, _, _ => by simp at h
  | z :: ks, 0, x, y, k, u, h, hk, he => by
    simp at h
    subst h
    rw [List.set_cons_zero, encK_cons, encK_cons, List.set_append_left _ _ (by rw [kl_cells_length]; omega), he]
    congr 2
    omega
  | z :: ks, i + 1, x, y, k, u, h, hk, he => by
    rw [List.set_cons_succ, encK_cons, encK_cons, ← encK_set1 ks i x y k u (by simpa using h) hk he, List.set_append_right _ _ (by rw [kl_cells_length]; omega), kl_cells_length, show (i + 1) * 5 + k - 5 = i * 5 + k by omega]

theorem encK_len {w : World} {base n : Nat} {e : TypeId} {v : Value} {ks : List Kl} (h : w.ownsRow base e 5 v n (encK ks)) : ks.length = n := by
  have hl := h.1
  rw [encK_length] at hl
  exact Nat.eq_of_mul_eq_mul_right (by decide) hl

/-- A list's source, as the document's. -/
def Kl.rl (x : Kl) : Rl := ⟨⟨x.es, x.fin, x.mute, x.u3.toNat⟩, x.dn⟩

/-- The document's merger in memory. -/
structure RmAt (w : World) (B rb : Nat) (p : Option Addr) (n c : Nat) (bottom : Bool) (ks : List Kl) (begun : Bool) (bad : Int) : Prop where
  box : w.heap[rb]? = some (.cells #[.slice p n c, .bool bottom, .bool begun, .int .i64 bad] 78 (0, 0))
  base : B ≤ rb
  row : w.ownsRow B 35 5 (.slice p n c) n (encK ks)
  ents : ∀ x ∈ ks, EL w B x.q x.es ∧ x.es.length ≤ 4398046511104 ∧ ∃ u : Nat, x.u3 = u

def rT : List TypeId := [78, 35]

theorem RmAt.len {w : World} {B rb : Nat} {p : Option Addr} {n c : Nat} {bottom : Bool} {ks : List Kl} {begun : Bool} {bad : Int} (h : RmAt w B rb p n c bottom ks begun bad) : ks.length = n := encK_len h.row

theorem RmAt.lt {w : World} {B rb : Nat} {p : Option Addr} {n c : Nat} {bottom : Bool} {ks : List Kl} {begun : Bool} {bad : Int} (h : RmAt w B rb p n c bottom ks begun bad) : rb < w.heap.size := (Array.getElem?_eq_some_iff.1 h.box).1

theorem RmAt.kp {w w' : World} {B rb : Nat} {p : Option Addr} {n c : Nat} {bottom : Bool} {ks : List Kl} {begun : Bool} {bad : Int} {T : List TypeId} (h : RmAt w B rb p n c bottom ks begun bad) (k : Kp B T w w') (h1 : 78 ∉ T) (h2 : 35 ∉ T) : RmAt w' B rb p n c bottom ks begun bad :=
  ⟨k.box h.box (.inl h1), h.base, k.own h.row (.inl h2), fun x hx => by
    obtain ⟨q1, q2, q3⟩ := h.ents x hx
    exact ⟨q1.fr (fun g o hg ho => k.2.2.2.2 g o ho (.inl hg)), q2, q3⟩⟩

theorem RmAt.below {w w' : World} {B rb : Nat} {p : Option Addr} {n c : Nat} {bottom : Bool} {ks : List Kl} {begun : Bool} {bad : Int} (h : RmAt w B rb p n c bottom ks begun bad) (k : Below w.heap.size w w') : RmAt w' B rb p n c bottom ks begun bad :=
  h.kp (T := []) (Kp.of_below k) (by simp) (by simp)

theorem RmAt.cells {w : World} {B rb : Nat} {p : Option Addr} {n c : Nat} {bottom : Bool} {ks : List Kl} {begun : Bool} {bad : Int} (h : RmAt w B rb p n c bottom ks begun bad) :
    w.cell? ⟨rb, 0, none⟩ = some (.slice p n c) ∧ w.cell? ⟨rb, 1, none⟩ = some (.bool bottom) ∧ w.cell? ⟨rb, 2, none⟩ = some (.bool begun) ∧ w.cell? ⟨rb, 3, none⟩ = some (.int .i64 bad) ∧ ∀ k, w.frozen? ⟨rb, k, none⟩ = false := by
  have e := h.box
  exact ⟨by simp [World.cell?, e], by simp [World.cell?, e], by simp [World.cell?, e], by simp [World.cell?, e], fun k => by simp [World.frozen?, e]⟩

/-- One of its lists: where it lies. -/
theorem RmAt.list {w : World} {B rb : Nat} {p : Option Addr} {n c : Nat} {bottom : Bool} {ks : List Kl} {begun : Bool} {bad : Int} (h : RmAt w B rb p n c bottom ks begun bad) {i : Nat} {x : Kl} (hx : ks[i]? = some x) :
    ∃ g, p = some ⟨g, 0, none⟩ ∧ B ≤ g ∧ w.cell? ⟨g, i * 5, none⟩ = some (.slice x.q x.es.length x.c) ∧ w.cell? ⟨g, i * 5 + 1, none⟩ = some (.int .i64 x.fin) ∧ w.cell? ⟨g, i * 5 + 2, none⟩ = some (.bool x.mute) ∧ w.cell? ⟨g, i * 5 + 3, none⟩ = some (.int .i64 x.u3) ∧ w.cell? ⟨g, i * 5 + 4, none⟩ = some (.bool x.dn) := by
  have hi := (List.getElem?_eq_some_iff.1 hx).1
  have hl := h.len
  obtain ⟨q, d, e, _, _, hr⟩ := own_rd h.row
  simp only [Value.slice.injEq] at e
  obtain ⟨rfl, _, rfl⟩ := e
  obtain ⟨g, rfl, hB, hg, hc, _⟩ := hr (by omega)
  have hcell : ∀ k, k < 5 → w.cell? ⟨g, i * 5 + k, none⟩ = x.cells[k]? := fun k hk => by rw [hc (i * 5 + k) (by omega), encK_get ks i x hx k hk]
  exact ⟨g, rfl, hB, hcell 0 (by decide), hcell 1 (by decide), hcell 2 (by decide), hcell 3 (by decide), hcell 4 (by decide)⟩


theorem RmAt.blk {w : World} {B rb g : Nat} {n c : Nat} {bottom : Bool} {ks : List Kl} {begun : Bool} {bad : Int} (h : RmAt w B rb (some ⟨g, 0, none⟩) n c bottom ks begun bad) : rb ≠ g ∧ B ≤ g ∧ ∃ o, w.heap[g]? = some o ∧ tyO o = some 35 := by
  rcases h.row.2 with ⟨k, _⟩ | ⟨g', cap, cur, k, k1, k2, _⟩
  · cases k
  · cases k
    refine ⟨fun e => ?_, k1, _, k2, rfl⟩
    have := h.box
    rw [e, k2] at this
    cases this

/-- One cell of one list is set. -/
theorem RmAt.setL {w : World} {B rb g : Nat} {n c : Nat} {bottom : Bool} {ks : List Kl} {begun : Bool} {bad : Int} (h : RmAt w B rb (some ⟨g, 0, none⟩) n c bottom ks begun bad) {i : Nat} {x y : Kl} {k : Nat} {u : Value} (hx : ks[i]? = some x) (hk : k < 5) (he : y.cells = x.cells.set k u)
    (hy : y.q = x.q ∧ y.es = x.es) (hu : ∃ u : Nat, y.u3 = u) :
    RmAt (w.setCell ⟨g, i * 5 + k, none⟩ u) B rb (some ⟨g, 0, none⟩) n c bottom (ks.set i y) begun bad ∧ Kp B rT w (w.setCell ⟨g, i * 5 + k, none⟩ u) := by
  obtain ⟨h1, h2, o, h3, h4⟩ := h.blk
  have hrow := (h.row.stored (i * 5 + k) u).1
  rw [encK_set1 ks i x y k u hx hk he] at hrow
  refine ⟨⟨(Below.heap_setCell w ⟨g, i * 5 + k, none⟩ u rb h1).trans h.box, h.base, hrow, fun z hz => ?_⟩, Kp.setCell (Kp.refl _ _ _) h3 (.inr ⟨h2, _, h4, by unfold rT; simp⟩) u⟩
  have hfr : ∀ {q : Option Addr} {L : List Ent}, EL w B q L → EL (w.setCell ⟨g, i * 5 + k, none⟩ u) B q L := fun hq => hq.fr (fun g' o' hg ho => (Below.heap_setCell w ⟨g, i * 5 + k, none⟩ u g' (by simp only; omega)).trans ho)
  rcases List.mem_or_eq_of_mem_set hz with hz | rfl
  · obtain ⟨q1, q2, q3⟩ := h.ents z hz
    exact ⟨hfr q1, q2, q3⟩
  · obtain ⟨q1, q2, q3⟩ := h.ents x (List.mem_of_getElem? hx)
    rw [hy.1, hy.2]
    exact ⟨hfr q1, q2, hu⟩

theorem RmAt.setB {w : World} {B rb : Nat} {p : Option Addr} {n c : Nat} {bottom : Bool} {ks : List Kl} {begun : Bool} {bad : Int} (h : RmAt w B rb p n c bottom ks begun bad) (b : Int) :
    RmAt (w.setCell ⟨rb, 3, none⟩ (.int .i64 b)) B rb p n c bottom ks begun b ∧ Kp B rT w (w.setCell ⟨rb, 3, none⟩ (.int .i64 b)) := by
  have hb := h.box
  have hl := h.lt
  refine ⟨⟨by simp [World.setCell, Array.getElem?_modify, hb], h.base, own_setCell h.row (fun e => ?_) _, fun z hz => ?_⟩, Kp.setCell (Kp.refl _ _ _) hb (.inr ⟨h.base, _, rfl, by unfold rT; simp⟩) _⟩
  · rcases h.row.2 with ⟨k, _⟩ | ⟨g', cap, cur, k, k1, k2, _⟩
    · rw [k] at e; cases e
    · rw [k] at e
      cases e
      rw [hb] at k2
      cases k2
  · obtain ⟨q1, q2, q3⟩ := h.ents z hz
    have := h.base
    exact ⟨q1.fr (fun g' o' hg ho => (Below.heap_setCell w ⟨rb, 3, none⟩ _ g' (by simp only; omega)).trans ho), q2, q3⟩

theorem RmAt.setG {w : World} {B rb : Nat} {p : Option Addr} {n c : Nat} {bottom : Bool} {ks : List Kl} {begun : Bool} {bad : Int} (h : RmAt w B rb p n c bottom ks begun bad) (b : Bool) :
    RmAt (w.setCell ⟨rb, 2, none⟩ (.bool b)) B rb p n c bottom ks b bad ∧ Kp B rT w (w.setCell ⟨rb, 2, none⟩ (.bool b)) := by
  have hb := h.box
  have hl := h.lt
  refine ⟨⟨by simp [World.setCell, Array.getElem?_modify, hb], h.base, own_setCell h.row (fun e => ?_) _, fun z hz => ?_⟩, Kp.setCell (Kp.refl _ _ _) hb (.inr ⟨h.base, _, rfl, by unfold rT; simp⟩) _⟩
  · rcases h.row.2 with ⟨k, _⟩ | ⟨g', cap, cur, k, k1, k2, _⟩
    · rw [k] at e; cases e
    · rw [k] at e
      cases e
      rw [hb] at k2
      cases k2
  · obtain ⟨q1, q2, q3⟩ := h.ents z hz
    have := h.base
    exact ⟨q1.fr (fun g' o' hg ho => (Below.heap_setCell w ⟨rb, 2, none⟩ _ g' (by simp only; omega)).trans ho), q2, q3⟩

set_option maxRecDepth 100000 in
set_option maxHeartbeats 1000000 in
theorem RAt_calls {w : World} {B rb : Nat} {p : Option Addr} {n c : Nat} {bottom : Bool} {ks : List Kl} {begun : Bool} {bad : Int} (h : RmAt w B rb p n c bottom ks begun bad) {i : Nat} {x : Kl} (hx : ks[i]? = some x) {e : Ent} {u : Nat} (hu : x.u3 = ((u : Nat) : Int) + 1) (he : x.es[u]? = some e) (hB : B ≤ w.heap.size) :
    Calls Try.prog 51 #[.pointer (some ⟨rb, 0, none⟩), .int .i64 i] w fun en w' => en = .returned e.val ∧ Below w.heap.size w w' := by
  obtain ⟨g, rfl, _, y0, _, _, y3, _⟩ := h.list hx
  obtain ⟨c0, _, _, _, _⟩ := h.cells
  obtain ⟨a, hq, haB, x0, x1, x2, x3, x4⟩ := (h.ents x (List.mem_of_getElem? hx)).1 u e he
  have hin : (i : Int) < (n : Int) := by have := (List.getElem?_eq_some_iff.1 hx).1; rw [h.len] at this; omega
  have hun : (u : Int) < (x.es.length : Int) := by have := (List.getElem?_eq_some_iff.1 he).1; omega
  have hi0 : (0 : Int) ≤ (i : Int) := by omega
  have hlx := (h.ents x (List.mem_of_getElem? hx)).2.1
  have hwr : IntKind.i64.wrap (u : Int) = (u : Int) := by rw [IntKind.wrap_i64]; omega
  have hub : u ≤ 4398046511104 := by have := (h.ents x (List.mem_of_getElem? hx)).2.1; omega
  have hu0 : (0 : Int) ≤ (u : Int) := by omega
  have hu1 : ((u : Int) + 1) - 1 = (u : Int) := by omega
  rw [hq] at y0
  rw [hu] at y3
  have KEY := Lib.hid (fun (W : World) (hW : w.alloc (eBlk zeroE) = W) => show (W.cell? ⟨rb, 0, none⟩ = some (.slice (some ⟨g, 0, none⟩) n c) ∧ W.cell? ⟨g, i * 5, none⟩ = some (.slice (some a) x.es.length x.c) ∧ W.cell? ⟨g, i * 5 + 3, none⟩ = some (.int .i64 ((u : Int) + 1)) ∧ Five W (a.add (u * 5)) e ∧ Below w.heap.size w W ∧ ∀ k, k < 5 → (∃ v, W.cell? ⟨w.heap.size, k, none⟩ = some v) ∧ W.frozen? ⟨w.heap.size, k, none⟩ = false) by
    subst hW
    have A := fun {q : Addr} {v : Value} (hq : w.cell? q = some v) => (World.cell?_alloc_lt w (eBlk zeroE) q (cell_lt hq)).trans hq
    refine ⟨A c0, A y0, A y3, ⟨A x0, A x1, A x2, A x3, A x4⟩, (Below.refl _ w).alloc (Nat.le_refl _) _, fun k hk => ?_⟩
    have hh := World.alloc_heap_new w (eBlk zeroE)
    refine ⟨?_, by unfold World.frozen?; rw [hh]; rfl⟩
    unfold World.cell?
    rw [hh]
    match k, hk with
    | 0, _ => exact ⟨_, rfl⟩
    | 1, _ => exact ⟨_, rfl⟩
    | 2, _ => exact ⟨_, rfl⟩
    | 3, _ => exact ⟨_, rfl⟩
    | 4, _ => exact ⟨_, rfl⟩)
  clear c0 y0 y3 x0 x1 x2 x3 x4
  clear h hx he haB
  unfold Ent.val
  go_enter Try.func51, Try.ntmps51
  go_wp2
  generalize hW : w.alloc _ = W
  obtain ⟨c0, y0, y3, ⟨x0, x1, x2, x3, x4⟩, hbl, hz⟩ := KEY.out W hW
  go_still_tail 19, (by kernel_rfl)
  change wpList _ _ _ _ _ W.drew
  obtain ⟨⟨v0, z0⟩, f0⟩ := hz 0 (by decide)
  obtain ⟨⟨v1, z1⟩, f1⟩ := hz 1 (by decide)
  obtain ⟨⟨v2, z2⟩, f2⟩ := hz 2 (by decide)
  obtain ⟨⟨v3, z3⟩, f3⟩ := hz 3 (by decide)
  obtain ⟨⟨v4, z4⟩, f4⟩ := hz 4 (by decide)
  have hbd : Below w.heap.size w W.drew := hbl.drew
  have HZ := Lib.hid hz
  clear hz hbl hW
  change W.drew.cell? _ = _ at z0 z1 z2 z3 z4
  change W.drew.frozen? _ = _ at f0 f1 f2 f3 f4
  generalize W.drew = W2 at *
  go_wp2
  refine bodyPost_ret (v := .agg #[.int .i64 e.v, .string e.c, .int .i64 e.i, .int .i64 e.s, .bool e.d]) ?_ rfl ⟨rfl, ?_⟩
  · rw [results_cell1 rfl]
    go_simp
  · exact ((((hbd.setCell (Nat.le_refl _) _).setCell (Nat.le_refl _) _).setCell (Nat.le_refl _) _).setCell (Nat.le_refl _) _).setCell (Nat.le_refl _) _
end Go.Proofs.Ytahdaccmokjgpaa
