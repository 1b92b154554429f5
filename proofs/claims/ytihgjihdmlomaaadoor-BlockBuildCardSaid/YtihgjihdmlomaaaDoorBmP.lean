/-
  The document's Build, as plain Lean: blocks and rows of the index by their places.
-/
import Derived.Test.YtihgjihdmlomaaaDoorBmD
import Derived.Test.YtihgjihdmlomaaaDoorRb
namespace Go.Proofs.YtihgjihdmlomaaaDoor
open Go.RowKit ArgK
set_option linter.unusedVariables false

/-- Where group k begins. -/
def aK {α : Type} (gs : List (List α)) (k : Nat) : Nat := (gs.take k).flatten.length
theorem aK_zero {α : Type} (gs : List (List α)) : aK gs 0 = 0 := rfl
theorem aK_succ {α : Type} {gs : List (List α)} {k : Nat} {g : List α} (h : gs[k]? = some g) : aK gs (k + 1) = aK gs k + g.length := by
  unfold aK
  rw [take_snocA h]
  simp
theorem aK_drop {α : Type} {gs : List (List α)} {l : List α} {k : Nat} {g : List α} (hf : gs.flatten = l) (h : gs[k]? = some g) : l.drop (aK gs k) = g ++ (gs.drop (k + 1)).flatten := by
  have e : l = (gs.take k).flatten ++ (gs.drop k).flatten := by rw [← List.flatten_append, List.take_append_drop, hf]
  rw [drop_consA h, List.flatten_cons] at e
  rw [e]
  unfold aK
  exact List.drop_left
theorem aK_le {α : Type} {gs : List (List α)} {l : List α} {k : Nat} {g : List α} (hf : gs.flatten = l) (h : gs[k]? = some g) : aK gs k + g.length ≤ l.length := by
  have e : l = (gs.take (k + 1)).flatten ++ (gs.drop (k + 1)).flatten := by rw [← List.flatten_append, List.take_append_drop, hf]
  have e2 := congrArg List.length e
  rw [List.length_append] at e2
  have := aK_succ h
  unfold aK at *
  omega
theorem jn_at {α : Type} (f : α → List UInt8) {gs : List (List α)} {l : List α} {k : Nat} {g : List α} (hf : gs.flatten = l) (h : gs[k]? = some g) : jn (l.map (fun x => (⟨(f x).toArray⟩ : ByteArray))) (aK gs k) g.length = g.flatMap f := by
  unfold jn
  rw [← List.map_drop, aK_drop hf h, List.map_append, List.take_append_of_le_length (by simp), List.take_of_length_le (by simp), List.flatMap_map]
theorem first_at {α : Type} {gs : List (List α)} {l : List α} {k : Nat} {g : List α} (d : α) (hf : gs.flatten = l) (h : gs[k]? = some g) (hg : g ≠ []) : l[aK gs k]? = some (g.headD d) := by
  have e := aK_drop hf h
  cases g with
  | nil => exact absurd rfl hg
  | cons y g =>
    have := congrArg (fun q => q[0]?) e
    simpa using this

/-- A line of the index, as a text. -/
def lnTxt (x : Ln) : ByteArray := ⟨(lineB x).toArray⟩
theorem lnTxt_size (x : Ln) : (lnTxt x).size = szL x := rfl

/-- The file with k blocks. -/
def stK (h : Hd) (list : List Ent) (k : Nat) : BSt := ((groups list).take k).foldl putBlock (headSt h list)
theorem stK_zero (h : Hd) (list : List Ent) : stK h list 0 = headSt h list := rfl
theorem stK_succ {h : Hd} {list : List Ent} {k : Nat} {g : List Ent} (hg : (groups list)[k]? = some g) : stK h list (k + 1) = putBlock (stK h list k) g := by
  unfold stK
  rw [take_snocA hg, List.foldl_append]
  rfl
theorem stK_all {h : Hd} {list : List Ent} {k : Nat} (hk : k = (groups list).length) : stK h list k = blocksSt h list := by
  unfold stK blocksSt
  rw [List.take_of_length_le (by omega)]

theorem ln_grp (lines : List Ln) : (grp ByteArray.size (lines.map lnTxt)).map List.length = (grp szL lines).map List.length := by
  rw [grp_map, List.map_map]
  exact List.map_congr_left (fun g _ => by simp)

/-- The index with k rows. -/
def rwK (lines : List Ln) (k : Nat) : List UInt8 := ((grp szL lines).take k).flatMap (fun r => frameB 6 (r.flatMap lineB))
theorem rwK_succ {lines : List Ln} {k : Nat} {r : List Ln} (hr : (grp szL lines)[k]? = some r) : rwK lines (k + 1) = rwK lines k ++ frameB 6 (r.flatMap lineB) := by
  unfold rwK
  rw [take_snocA hr, List.flatMap_append]
  simp
theorem rwK_all {lines : List Ln} {k : Nat} (hk : k = (grp szL lines).length) : rwK lines k = rowsB lines := by
  unfold rwK rowsB
  rw [List.take_of_length_le (by omega)]

section
variable {P : Program} (w : World)
/-- append(b, s...) at an operation: in place or in a new block. -/
theorem wpList_append_rb {ops : Array Oper} {rest : List Oper} {o : Oper} {a : Act} {Q : Exit → Act → World → Prop} (hgd : o.guard = none) (sl x : Operand) (t u : TypeId)
    (ho : o.op = .call { callee := .builtin .append, args := #[sl, x], argTypes := #[t, u] })
    (e : TypeId) (i : TypeInfo) (ht : P.underlying t = some (.slice e)) (hu : P.underlying u = some .string) (hi : P.info? e = some i) (hz : i.zero = some (.int .u8 0)) (h1 : i.size = 1) (hb : i.bytes = 1)
    {v : Value} {l : List UInt8} {g cap : Nat} (hv : a.eval sl = v) (h : Rb w v l g cap) (s : ByteArray) (hx : a.eval x = .string s) (hlen : l.length + s.size ≤ 140737488355328)
    (hK : ∀ v' w' g' cap', Rb w' v' (l ++ s.data.toList) g' cap' → w.grownBy w' (some g) → (g' = g ∨ g' = w.heap.size) → wpList P ops Q rest (a.put o.dst v') w') : wpList P ops Q (o :: rest) a w := by
  refine wpList_plain hgd fun K hK' => ?_
  obtain ⟨v', w', g', cap', hrun, h2, h3, h4⟩ := run_append_rb (P := P) w t u o.type e i ht hu hi hz h1 hb h s hlen
  unfold Oper.wp
  simp [execOp, ho, resolve, invoke, builtin, hv, hx, hrun, Result.andThen]
  exact hK' _ _ (hK v' w' g' cap' h2 h3 h4)

end
end Go.Proofs.YtihgjihdmlomaaaDoor
