/-
  ARGUMENTS THAT ARE LISTS: a list of integers, opened: its numbers, where they lie, and that it is within the reach.
-/
import Derived.ChangeSlices
import Derived.ChangeSame
import Derived.SizedLaws
import Derived.ProofKit
import Derived.Below
namespace Go.Proofs.Ytahdaccmokjgpaa.XKit
open Go.ChangeShapes Go.WideShapes Go.RowKit
set_option linter.unusedVariables false

/-- v is a slice that holds the integers z. -/
def IsRow (W : World) (v : Value) (z : List Int) : Prop :=
  8 * z.length ≤ 140737488351232 ∧ (∀ n ∈ z, (Lit.int .i64 n).wf = true) ∧
    ((v = .slice none 0 0 ∧ z = []) ∨ ∃ (a : Addr) (cap : Nat), v = .slice (some a) z.length cap ∧ z.length ≤ cap ∧ cap ≤ maxLen ∧ ∀ i, i < z.length → W.cell? (a.add i) = some (.int .i64 (z.getD i 0)))

theorem row_of_trod {H : Type} {enc : TypeId × Value → H} {P : Program} {W : World} {t e : TypeId} {v : Value} {d : DataW H} {p : List MemPlace} (ht : P.underlying t = some (.slice e)) (he : P.underlying e = some (.int .i64)) (hc : P.cellsOf e = 1) (hb : P.bytesOf e = 8)
    (h : DataW.Trod enc P W 0 (fun _ => true) true t v d p) {ts : List TypeId} {ds : List (DataW H)} (hsz : (DataW.weightsEach P ts ds).all (· ≤ reachBytes) = true) {j : Nat} (hj : ts[j]? = some t) (hd : ds[j]? = some d) (hone : v.cells.toList = [v]) :
    ∃ z, IsRow W v z := by
  obtain ⟨fuel, hf⟩ := h
  rcases open_ints ht he hc hf with ⟨h0, hx⟩ | ⟨a, len, cap, zs, hcs, _, hlc, hcm, hzl, hx, hcell, hwf⟩
  · rw [hone] at h0
    obtain rfl := (List.cons.inj h0).1
    exact ⟨[], by simp, by simp, .inl ⟨rfl, rfl⟩⟩
  · rw [hone] at hcs
    obtain rfl := (List.cons.inj hcs).1
    simp only [if_true] at hzl
    simp only [Prod.mk.injEq] at hx
    rw [hx.1] at hd
    have hs := sized_slice hsz hj hd ht
    simp only [lits, List.length_map, List.length_take, List.length_drop] at hs
    rw [hb] at hs
    unfold reachBytes at hs
    have hlen : (zs.take len).length = len := by simp; omega
    refine ⟨zs.take len, by rw [hlen]; omega, fun n hn => hwf n (List.mem_of_mem_take hn), .inr ⟨a, cap, by rw [hlen], by rw [hlen]; exact hlc, hcm, fun i hi => ?_⟩⟩
    rw [hlen] at hi
    rw [hcell i (by omega)]
    simp [List.getD, hi]
end Go.Proofs.Ytahdaccmokjgpaa.XKit
