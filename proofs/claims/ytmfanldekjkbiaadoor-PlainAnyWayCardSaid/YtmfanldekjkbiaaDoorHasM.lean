/-
  A SET OF HITS in memory: a map whose keys are hits.
-/
import Derived.Test.YtmfanldekjkbiaaDoorHvM
import Derived.Maps.OwnSet
import Derived.DeepKeys4
namespace Go.Proofs.YtmfanldekjkbiaaDoor
open Go.RowKit
set_option linter.unusedVariables false

/-- A hit that can be a key. -/
def GoodH (x : Hv) : Prop := (Lit.int .i64 x.d).wf = true ∧ (Lit.int .i64 x.i).wf = true ∧ x.c.size ≤ 140737488351232

theorem hitLaid : laidOutB Tryd.prog = true := by kernel_rfl

theorem hitRow : (36 : TypeId) < Tryd.prog.types.size := of_decide_eq_true (by kernel_rfl)

theorem hitWide : (match Tryd.prog.underlying 36 with | some (.array _ _) | some (.struct _) => true | _ => false) = true := by kernel_rfl

theorem hitKT : Tryd.prog.keyTypeAt 2 36 = true := by kernel_rfl

set_option maxRecDepth 100000 in
theorem hitLaw : WideMaps.KeyLaw Tryd.prog 36 := deep_law_laid hitLaid (m := 2) (by omega) hitRow hitKT hitWide

theorem hitKeyed : Maps.Keyed Tryd.prog 36 := .of_law hitLaw

theorem hitCells : Tryd.prog.cellsOf 36 = 3 := by kernel_rfl

theorem hitCellsI : Tryd.prog.cellsOf 3 = 1 := by kernel_rfl

theorem hitCellsS : Tryd.prog.cellsOf 9 = 1 := by kernel_rfl

theorem hitKeyType : Tryd.prog.keyType 36 = true := by kernel_rfl

theorem hitTypes : ∃ n, Tryd.prog.types.size = n + 1 := ⟨Tryd.prog.types.size - 1, by have : (0 : Nat) < Tryd.prog.types.size := of_decide_eq_true (by kernel_rfl); omega⟩

/-- A hit's key. -/
noncomputable def keyL (x : Hv) : Lit := (keyOf Tryd.prog 36 x.val).getD .nil

theorem keyOf_hit {x : Hv} (h : GoodH x) : keyOf Tryd.prog 36 x.val = some (keyL x) := by
  obtain ⟨h1, h2, h3⟩ := h
  obtain ⟨n, hn⟩ := hitTypes
  have hf : x.val.formed Tryd.prog 36 = true := by simp [Value.formed, Hv.val, Tryd.underlying36, hitCells]
  have hs : x.c.size ≤ maxLen := by unfold maxLen; omega
  have hk : ∃ ls, Tryd.prog.keyLits (Tryd.prog.types.size + 1) 36 x.val.cells.toList = some ls := by
    rw [hn]
    refine ⟨[.int .i64 x.d, .int .i64 x.i, .string x.c.data.toList], ?_⟩
    unfold Program.keyLits
    rw [Tryd.underlying36]
    simp [Value.cells, Hv.val, hitCells, hitCellsI, hitCellsS, Program.keyLits, Tryd.underlying3, Tryd.underlying9, h1, h2, hs]
  obtain ⟨ls, hl⟩ := hk
  have : keyOf Tryd.prog 36 x.val = some (.string (keyBytes ls)) := by
    unfold keyOf
    rw [Tryd.underlying36]
    simp only [hitKeyType, hf, hl, Bool.and_self, if_true, Option.map_some]
  unfold keyL
  rw [this]
  rfl

theorem val_inj {x y : Hv} (h : x.val = y.val) : x = y := by
  simp only [Hv.val, Value.agg.injEq, Array.mk.injEq, List.cons.injEq, Value.int.injEq, Value.string.injEq, and_true, true_and] at h
  cases x; cases y; simp_all

theorem keyL_inj {x y : Hv} (hx : GoodH x) (hy : GoodH y) (h : keyL x = keyL y) : x = y :=
  val_inj (hitLaw.inj (keyOf_hit hx) (by rw [h]; exact keyOf_hit hy))

/-- Block b is a set of just these hits. -/
def HasIs (w : World) (b : Nat) (L : List Hv) : Prop := ∃ D : DataW Unit, w.ownsMap Tryd.prog 36 unitElem b L.length D ∧ Maps.size D = L.length ∧ (∀ x, GoodH x → Maps.has D (keyL x) = decide (x ∈ L))

theorem HasIs.lt {w : World} {b : Nat} {L : List Hv} (h : HasIs w b L) : b < w.heap.size := by
  obtain ⟨D, h1, _⟩ := h
  exact h1.lt

theorem HasIs.of {w w' : World} {b : Nat} {L : List Hv} (h : HasIs w b L) (e : w'.heap[b]? = w.heap[b]?) : HasIs w' b L := by
  obtain ⟨D, ⟨es, cl, h1, h2⟩, h3⟩ := h
  exact ⟨D, ⟨es, cl, e.trans h1, h2⟩, h3⟩

theorem HasIs.made (w : World) : HasIs (w.alloc (.map #[] 0)) w.heap.size [] :=
  ⟨.map [], World.ownsMap_made w _ _ _, rfl, fun x _ => by simp [Maps.has]⟩

theorem HasIs.perm {w : World} {b : Nat} {L M : List Hv} (h : HasIs w b L) (hp : L.Perm M) : HasIs w b M := by
  obtain ⟨D, h1, h2, h3⟩ := h
  exact ⟨D, by rw [← hp.length_eq]; exact h1, by rw [← hp.length_eq]; exact h2, fun x hx => by rw [h3 x hx, decide_eq_decide]; exact hp.mem_iff⟩

theorem unitZero (w : World) : (zeroValue 94).run Tryd.prog w = .ok (.agg #[]) w := by kernel_rfl

set_option maxRecDepth 100000 in
/-- Is a hit there? -/
theorem HasIs.look {w : World} {b : Nat} {L : List Hv} (h : HasIs w b L) {x : Hv} (hx : GoodH x) :
    (Instr.lookup 97 (.map (some b)) x.val true).run Tryd.prog w = .ok (.tuple #[.agg #[], .bool (decide (x ∈ L))]) w := by
  obtain ⟨D, h1, _, h3⟩ := h
  obtain ⟨v, ps, hr, hv⟩ := h1.look_ok hitKeyed Tryd.underlying97 (unitZero w) unitElem_mk (keyOf_hit hx)
  obtain ⟨rfl, _⟩ := unitElem_inv hv
  rw [hr, h3 x hx]

set_option maxRecDepth 100000 in
/-- A hit put in. -/
theorem HasIs.put {w : World} {b : Nat} {L : List Hv} (h : HasIs w b L) {x : Hv} (hx : GoodH x) (hL : ∀ y ∈ L, GoodH y) (hm : x ∉ L) (hn : L.length < maxLen) :
    ∃ w', (Instr.mapUpdate 97 (.map (some b)) x.val (.agg #[])).run Tryd.prog w = .ok () w' ∧ HasIs w' b (x :: L) ∧ w.grownBy w' (some b) := by
  obtain ⟨D, h1, h2, h3⟩ := h
  obtain ⟨w', hr, ho, ht⟩ := h1.store hitKeyed Tryd.underlying97 hn (keyOf_hit hx) (unitElem_mk (H := Unit))
  have hT := h1.tidy hitKeyed
  have hk := hitKeyed.key (keyOf_hit hx)
  have hnot : Maps.has D (keyL x) = false := by rw [h3 x hx]; simp [hm]
  refine ⟨w', hr, ⟨_, ho, ?_, fun y hy => ?_⟩, ht.grown⟩
  · have := Maps.size_put hT (k := keyL x) (.agg [] : DataW Unit)
    rw [hnot] at this
    simp at this
    rw [List.length_cons]
    omega
  · by_cases e : y = x
    · subst e
      rw [Maps.has_put_same hT.isMap hk]
      simp
    · rw [Maps.has_put_other (fun k => e (keyL_inj hy hx k)), h3 y hy]
      simp [e]

set_option maxRecDepth 100000 in
/-- A hit taken out. -/
theorem HasIs.drop {w : World} {b : Nat} {L M : List Hv} (h : HasIs w b L) {x : Hv} (hx : GoodH x) (hp : L.Perm (x :: M)) (hnd : L.Nodup) (ty : TypeId) :
    ∃ w', (Builtin.delete_ #[97, 36] ty #[.map (some b), x.val]).run Tryd.prog w = .ok (.tuple #[]) w' ∧ HasIs w' b M ∧ w.grownBy w' (some b) := by
  obtain ⟨D, h1, h2, h3⟩ := h.perm hp
  have hnd' := (hp.nodup_iff).1 hnd
  obtain ⟨hm, _⟩ := List.nodup_cons.1 hnd'
  obtain ⟨w', hr, ho, ht⟩ := h1.drop hitKeyed Tryd.underlying97 (keyOf_hit hx) ty
  have hT := h1.tidy hitKeyed
  have hhas : Maps.has D (keyL x) = true := by rw [h3 x hx]; simp
  have hsz : Maps.size (D.del (keyL x)) = M.length := by
    have := Maps.size_del hT (k := keyL x)
    rw [hhas] at this
    rw [List.length_cons] at h2
    simp at this
    omega
  refine ⟨w', hr, ⟨_, ?_, hsz, fun y hy => ?_⟩, ht.grown⟩
  · obtain ⟨es, cl, k1, k2, k3, k4⟩ := ho
    refine ⟨es, cl, k1, k2, ?_, k4⟩
    rw [k4] at hsz
    simp [Maps.size, length_sorted] at hsz
    omega
  · by_cases e : y = x
    · subst e
      rw [Maps.has_del_same]
      simp [hm]
    · rw [Maps.has_del_other (fun k => e (keyL_inj hy hx k)), h3 y hy]
      simp [e]
end Go.Proofs.YtmfanldekjkbiaaDoor
