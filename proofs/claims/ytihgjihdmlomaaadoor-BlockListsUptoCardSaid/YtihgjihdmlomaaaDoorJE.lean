/-
  READING ARGUMENTS, whatever their type: integers, strings, bools, structs, slices of them, and so on downward. Each reading comes with the reach of what it holds, and with its bulk.
  READING ARGUMENTS: entries.
  ARGUMENTS THAT ARE LISTS: a list of integers, opened: its numbers, where they lie, and that it is within the reach.
  LISTS OF ENTRIES in memory, for any seat.
-/
import Derived.Test.YtihgjihdmlomaaaDoorRows
import Derived.Deep.Slices
import Derived.ChangeArms
import Derived.ChangeSlices
import Derived.ChangeSame
import Derived.SizedLaws
import Derived.ProofKit
import Derived.Below
import Derived.Test.YtihgjihdmlomaaaDoorJA
import Derived.StillTailTactics
import Derived.Deep.QuietTactic
import Derived.BigQuiet
import Derived.Laws.StructEq
import Derived.BigRegion
namespace Go.Proofs.YtihgjihdmlomaaaDoor.ArgK
open Go.ChangeShapes Go.WideShapes Go.RowKit Go.Deep
set_option linter.unusedVariables false

/-- A type's values read so: for each cells that are such a value there is a datum that R tells, of bulk at least bk. -/
def RdT (P : Program) (W : World) (t : TypeId) {α : Type} (R : List Value → α → Prop) (bk : α → Nat) : Prop :=
  ∀ (H : Type) (enc : TypeId × Value → H) (fuel : Nat) (cs : List Value) (x : DataW H × List MemPlace), DataW.trod enc P W 0 (fun _ => true) true fuel t cs = some x → (∀ n ∈ x.1.weights P t, n ≤ reachBytes) →
    ∃ a, R cs a ∧ bk a ≤ Rows.uptoBulk x.1
/-- .. and so do fields, one behind the other. -/
def RdF (P : Program) (W : World) (fs : List Field) {α : Type} (R : List Value → α → Prop) (bk : α → Nat) : Prop :=
  ∀ (H : Type) (enc : TypeId × Value → H) (fuel : Nat) (cs : List Value) (xs : List (DataW H × List MemPlace)), xs.length = fs.length →
    (∀ (i : Nat) (f : Field), fs[i]? = some f → DataW.trod enc P W 0 (fun _ => true) true fuel f.type ((cs.drop f.offset).take (P.cellsOf f.type)) = xs[i]?) →
    (∀ n ∈ DataW.weightsEach P (fs.map (·.type)) (xs.map (·.1)), n ≤ reachBytes) → ∃ a, R cs a ∧ bk a ≤ Rows.uptoBulkAll (xs.map (·.1))

section
variable {P : Program} {W : World} {t : TypeId}
theorem RdT.mono {α β : Type} {R : List Value → α → Prop} {bk : α → Nat} {R' : List Value → β → Prop} {bk' : β → Nat} (h : RdT P W t R bk) (hm : ∀ cs a, R cs a → ∃ b, R' cs b ∧ bk' b ≤ bk a) : RdT P W t R' bk' :=
  fun H enc fuel cs x hx hw => by
    obtain ⟨a, ha, hb⟩ := h H enc fuel cs x hx hw
    obtain ⟨b, h1, h2⟩ := hm cs a ha
    exact ⟨b, h1, Nat.le_trans h2 hb⟩
theorem rd_int {k : IntKind} (ht : P.underlying t = some (.int k)) : RdT P W t (fun cs (n : Int) => cs = [.int k n] ∧ (Lit.int k n).wf = true) (fun _ => 1) :=
  fun H enc fuel cs x hx hw => by
    obtain ⟨n, rfl, rfl, hn⟩ := DataW.trod_int ht hx
    exact ⟨n, ⟨rfl, hn⟩, by simp [Rows.uptoBulk]⟩
theorem rd_bool (ht : P.underlying t = some .bool) : RdT P W t (fun cs (b : Bool) => cs = [.bool b]) (fun _ => 1) :=
  fun H enc fuel cs x hx hw => by
    obtain ⟨b, rfl, rfl⟩ := DataW.trod_bool ht hx
    exact ⟨b, rfl, by simp [Rows.uptoBulk]⟩
theorem rd_string (ht : P.underlying t = some .string) : RdT P W t (fun cs (s : ByteArray) => cs = [.string s] ∧ s.size ≤ 140737488351232) (fun s => s.size + 1) :=
  fun H enc fuel cs x hx hw => by
    obtain ⟨s, rfl, rfl, hs⟩ := DataW.trod_string ht hx
    have h1 := hw s.data.toList.length (by simp [DataW.weights])
    refine ⟨s, ⟨rfl, by simpa [reachBytes] using h1⟩, ?_⟩
    simp only [Rows.uptoBulk]
    exact Nat.le_refl _

theorem rdf_nil : RdF P W [] (fun _ (_ : Unit) => True) (fun _ => 0) := fun H enc fuel cs xs _ _ _ => ⟨(), trivial, Nat.zero_le _⟩
theorem rdf_cons {f : Field} {fs : List Field} {α β : Type} {R : List Value → α → Prop} {bk : α → Nat} {S : List Value → β → Prop} {bl : β → Nat} (h : RdT P W f.type R bk) (k : RdF P W fs S bl) :
    RdF P W (f :: fs) (fun cs (a : α × β) => R ((cs.drop f.offset).take (P.cellsOf f.type)) a.1 ∧ S cs a.2) (fun a => bk a.1 + bl a.2) :=
  fun H enc fuel cs xs hl hx hw => by
    cases xs with
    | nil => simp at hl
    | cons y ys =>
      simp only [List.map_cons, DataW.weightsEach, List.mem_append] at hw
      have h0 := hx 0 f rfl
      simp only [List.getElem?_cons_zero] at h0
      obtain ⟨a, ha, hab⟩ := h H enc fuel _ y h0 (fun n hn => hw n (.inl hn))
      obtain ⟨b, hb, hbb⟩ := k H enc fuel cs ys (by simpa using hl) (fun i g hg => by
        have := hx (i + 1) g (by simpa using hg)
        simpa using this) (fun n hn => hw n (.inr hn))
      refine ⟨(a, b), ⟨ha, hb⟩, ?_⟩
      simp only [List.map_cons, Rows.uptoBulkAll]
      omega
theorem rd_struct {fs : Array Field} {α : Type} {R : List Value → α → Prop} {bk : α → Nat} (ht : P.underlying t = some (.struct fs)) (h : RdF P W fs.toList R bk) : RdT P W t (fun cs a => cs.length = P.cellsOf t ∧ R cs a) (fun a => bk a + 1) :=
  fun H enc fuel cs x hx hw => by
    obtain ⟨xs, n, rfl, rfl, hlen, hxl, hf⟩ := DataW.trod_struct ht hx
    obtain ⟨a, ha, hb⟩ := h H enc n cs xs (by simpa using hxl) (fun i f hi => hf i f (by simpa using hi)) (fun m hm => hw m (by
      simp only [DataW.weights, ht]
      exact hm))
    refine ⟨a, ⟨hlen, ha⟩, ?_⟩
    simp only [Rows.uptoBulk]
    omega

theorem weightsAll_mem {H : Type} {e : TypeId} {d : DataW H} : ∀ {l : List (DataW H)}, d ∈ l → ∀ n ∈ d.weights P e, n ∈ DataW.weightsAll P e l
  | [], hd, _, _ => by cases hd
  | y :: l, hd, n, hn => by
    simp only [DataW.weightsAll, List.mem_append]
    rcases List.mem_cons.1 hd with rfl | hd
    · exact .inl hn
    · exact .inr (weightsAll_mem hd n hn)
/-- A slice whose elements R tells, size cells each, within the reach. -/
def IsSl (W : World) (size bytes : Nat) {α : Type} (R : List Value → α → Prop) (cs : List Value) (l : List α) : Prop :=
  l.length * bytes ≤ 140737488351232 ∧
  ((cs = [.slice none 0 0] ∧ l = []) ∨ ∃ (a : Addr) (cap : Nat), cs = [.slice (some a) l.length cap] ∧ l.length ≤ cap ∧ cap ≤ maxLen ∧
    ∀ (i : Nat) (x : α), l[i]? = some x → ∃ c : List Value, c.length = size ∧ R c x ∧ ∀ j, j < size → W.cell? (a.add (i * size + j)) = c[j]?)
theorem list_pick {α : Type} {Q : Nat → α → Prop} : ∀ n, (∀ i, i < n → ∃ a, Q i a) → ∃ l : List α, l.length = n ∧ ∀ i x, l[i]? = some x → Q i x
  | 0, _ => ⟨[], rfl, fun i x h => by simp at h⟩
  | n + 1, h => by
    obtain ⟨l, hl, hq⟩ := list_pick n (fun i hi => h i (by omega))
    obtain ⟨a, ha⟩ := h n (by omega)
    refine ⟨l ++ [a], by simp [hl], fun i x hx => ?_⟩
    rw [List.getElem?_append] at hx
    split at hx
    · exact hq i x hx
    · rename_i hi
      have hi2 : i = n := by
        have := (List.getElem?_eq_some_iff.1 hx).1
        simp at this
        omega
      subst hi2
      rw [hl] at hx
      simp at hx
      subst hx
      exact ha
theorem sum_le_bulk {H : Type} {α : Type} (bk : α → Nat) : ∀ (l : List α) (ds : List (DataW H)), l.length = ds.length → (∀ (i : Nat) (x : α) (d : DataW H), l[i]? = some x → ds[i]? = some d → bk x ≤ Rows.uptoBulk d) → (l.map bk).sum ≤ Rows.uptoBulkAll ds
  | [], [], _, _ => by simp
  | [], _ :: _, h, _ => by simp at h
  | _ :: _, [], h, _ => by simp at h
  | x :: l, d :: ds, h, hb => by
    have h0 := hb 0 x d rfl rfl
    have h1 := sum_le_bulk bk l ds (by simpa using h) (fun i y e hy he => hb (i + 1) y e (by simpa using hy) (by simpa using he))
    simp only [List.map_cons, List.sum_cons, Rows.uptoBulkAll]
    omega
theorem add_of_add (a : Addr) (i j : Nat) : (a.add i).add j = a.add (i + j) := by
  unfold Addr.add
  by_cases hi : i = 0 <;> by_cases hj : j = 0 <;> simp [hi, hj, Nat.add_assoc]
theorem rd_slice {e : TypeId} {α : Type} {R : List Value → α → Prop} {bk : α → Nat} {size bytes : Nat} (ht : P.underlying t = some (.slice e)) (hs : P.cellsOf e = size) (hby : P.bytesOf e = bytes) (h : RdT P W e R bk) :
    RdT P W t (fun cs l => IsSl W size bytes R cs l) (fun l => (l.map bk).sum + 1) :=
  fun H enc fuel cs x hx hw => by
    rcases open_slice ht hx with ⟨rfl, rfl⟩ | ⟨a, len, cap, m, n, D, Pl, rfl, _, hlc, hcm, hm, rfl, hi⟩
    · exact ⟨[], ⟨by simp, .inl ⟨rfl, rfl⟩⟩, by simp [Rows.uptoBulk]⟩
    · simp only [if_true] at hm
      subst hm
      have hall : ∀ i, i < len → ∃ y : α, (∃ c : List Value, c.length = size ∧ R c y ∧ ∀ j, j < size → W.cell? (a.add (i * size + j)) = c[j]?) ∧ bk y ≤ Rows.uptoBulk (D i) := fun i hil => by
        obtain ⟨c, hc, htr⟩ := hi i (by omega)
        rw [hs] at hc
        obtain ⟨_, hcl, hat⟩ := World.cells?_some hc
        obtain ⟨y, hy, hyb⟩ := h H enc n c (D i, Pl i) htr (fun k hk => hw k (by
          simp only [DataW.weights, ht, List.mem_cons, List.mem_append]
          exact .inr (.inl (weightsAll_mem (List.mem_map.2 ⟨i, List.mem_range.2 hil, rfl⟩) k hk))))
        exact ⟨y, ⟨c, hcl, hy, fun j hj => by rw [← add_of_add]; exact hat j hj⟩, hyb⟩
      obtain ⟨l, hl, hq⟩ := list_pick len hall
      have hsz := hw (((List.range len).map D).length + ((List.range (m - len)).map fun j => D (len + j)).length |>.mul (P.bytesOf e)) (by
        simp only [DataW.weights, ht, List.mem_cons]
        exact .inl rfl)
      rw [List.length_map, List.length_range, List.length_map, List.length_range, hby] at hsz
      have hsz' : (len + (m - len)) * bytes ≤ 140737488351232 := hsz
      rw [Nat.add_mul] at hsz'
      refine ⟨l, ⟨by rw [hl]; omega, .inr ⟨a, m, by rw [hl], by rw [hl]; exact hlc, hcm, fun i y hy => (hq i y hy).1⟩⟩, ?_⟩
      have hb := sum_le_bulk bk l ((List.range len).map D) (by simp [hl]) (fun i y d hy hd => by
        have hlt : i < len := by have := (List.getElem?_eq_some_iff.1 hy).1; omega
        have : d = D i := by simpa [hlt] using hd.symm
        rw [this]
        exact (hq i y hy).2)
      simp only [Rows.uptoBulk]
      omega
/-- An argument is read so. -/
theorem RdT.trod {α : Type} {R : List Value → α → Prop} {bk : α → Nat} (h : RdT P W t R bk) {H : Type} {enc : TypeId × Value → H} {v : Value} {d : DataW H} {p : List MemPlace} (hd : DataW.Trod enc P W 0 (fun _ => true) true t v d p)
    {ts : List TypeId} {ds : List (DataW H)} (hsz : (DataW.weightsEach P ts ds).all (· ≤ reachBytes) = true) {j : Nat} (hj : ts[j]? = some t) (hdj : ds[j]? = some d) : ∃ a, R v.cells.toList a ∧ bk a ≤ Rows.uptoBulk d := by
  obtain ⟨fuel, hf⟩ := hd
  refine h H enc fuel _ (d, p) hf fun n hn => ?_
  have := List.all_eq_true.1 hsz n (DataW.weights_mem_each hj hdj n hn)
  simpa using this
end
end Go.Proofs.YtihgjihdmlomaaaDoor.ArgK

namespace Go.Proofs.YtihgjihdmlomaaaDoor
open Go.RowKit ArgK
set_option linter.unusedVariables false

/-- An entry's cells. -/
def IsEnt (cs : List Value) (x : Ent) : Prop := cs = x.cells ∧ (Lit.int .i64 x.v).wf = true ∧ x.c.size ≤ 140737488351232 ∧ (Lit.int .i64 x.i).wf = true ∧ (Lit.int .i64 x.s).wf = true
def bkEnt (x : Ent) : Nat := x.c.size + 6
theorem rd_Entry (W : World) : RdT Tryd.prog W 33 IsEnt bkEnt := by
  have e : Tryd.prog.cellsOf 33 = 5 := by kernel_rfl
  have e1 : Tryd.prog.cellsOf 3 = 1 := by kernel_rfl
  have e2 : Tryd.prog.cellsOf 9 = 1 := by kernel_rfl
  have e3 : Tryd.prog.cellsOf 4 = 1 := by kernel_rfl
  refine RdT.mono (rd_struct Tryd.underlying33 (rdf_cons (rd_int Tryd.underlying3) (rdf_cons (rd_string Tryd.underlying9) (rdf_cons (rd_int Tryd.underlying3) (rdf_cons (rd_int Tryd.underlying3) (rdf_cons (rd_bool Tryd.underlying4) rdf_nil)))))) ?_
  rintro cs ⟨v, c, i, s, d, u⟩ ⟨hl, h0, h1, h2, h3, h4, _⟩
  simp only [e1, e2, e3] at h0 h1 h2 h3 h4
  rw [e] at hl
  match cs, hl with
  | [c0, c1, c2, c3, c4], _ =>
    simp at h0 h1 h2 h3 h4
    exact ⟨⟨v, c, i, s, d⟩, ⟨by rw [h0.1, h1.1, h2.1, h3.1, h4]; rfl, h0.2, h1.2, h2.2, h3.2⟩, by show c.size + 6 ≤ 1 + (c.size + 1 + (1 + (1 + (1 + 0)))) + 1; omega⟩
end Go.Proofs.YtihgjihdmlomaaaDoor

namespace Go.Proofs.YtihgjihdmlomaaaDoor.XKit
open Go.ChangeShapes Go.WideShapes Go.RowKit
set_option linter.unusedVariables false

/-- v is a slice that holds the integers z. -/
def IsRow (W : World) (v : Value) (z : List Int) : Prop :=
  8 * z.length ≤ 140737488351232 ∧ (∀ n ∈ z, (Lit.int .i64 n).wf = true) ∧
    ((v = .slice none 0 0 ∧ z = []) ∨ ∃ (a : Addr) (cap : Nat), v = .slice (some a) z.length cap ∧ z.length ≤ cap ∧ cap ≤ maxLen ∧ ∀ i, i < z.length → W.cell? (a.add i) = some (.int .i64 (z.getD i 0)))

theorem row_of_trod {H : Type} {enc : TypeId × Value → H} {P : Program} {W : World} {t e : TypeId} {v : Value} {d : DataW H} {p : List MemPlace} (ht : P.underlying t = some (.slice e)) (he : P.underlying e = some (.int .i64)) (hc : P.cellsOf e = 1) (hb : P.bytesOf e = 8)
    (h : DataW.Trod enc P W 0 (fun _ => true) true t v d p) {ts : List TypeId} {ds : List (DataW H)} (hsz : (DataW.weightsEach P ts ds).all (· ≤ reachBytes) = true) {j : Nat} (hj : ts[j]? = some t) (hd : ds[j]? = some d) (hone : v.cells.toList = [v]) :
    ∃ z, IsRow W v z := by
  obtain ⟨fuel, hf⟩ := h
  rcases open_ints ht he hc hf with ⟨h0, hx⟩ | ⟨a, len, cap, zs, hcs, _, hlc, hcm, hzl, hx, hcell, hwf⟩
  · rw [hone] at h0
    obtain rfl := (List.cons.inj h0).1
    exact ⟨[], by simp, by simp, .inl ⟨rfl, rfl⟩⟩
  · rw [hone] at hcs
    obtain rfl := (List.cons.inj hcs).1
    simp only [if_true] at hzl
    simp only [Prod.mk.injEq] at hx
    rw [hx.1] at hd
    have hs := sized_slice hsz hj hd ht
    simp only [lits, List.length_map, List.length_take, List.length_drop] at hs
    rw [hb] at hs
    unfold reachBytes at hs
    have hlen : (zs.take len).length = len := by simp; omega
    refine ⟨zs.take len, by rw [hlen]; omega, fun n hn => hwf n (List.mem_of_mem_take hn), .inr ⟨a, cap, by rw [hlen], by rw [hlen]; exact hlc, hcm, fun i hi => ?_⟩⟩
    rw [hlen] at hi
    rw [hcell i (by omega)]
    simp [List.getD, hi]
end Go.Proofs.YtihgjihdmlomaaaDoor.XKit

namespace Go.Proofs.YtihgjihdmlomaaaDoor
open Go.RowKit ArgK
set_option linter.unusedVariables false

/-- Entries can be read so. -/
def ESl (w : World) (v : Value) (L : List Ent) : Prop :=
  ∃ (p : Option Addr) (cap : Nat), v = .slice p L.length cap ∧ ∀ (i : Nat) (x : Ent), L[i]? = some x → ∃ a, p = some a ∧ ∀ k, k < 5 → w.cell? (a.add (i * 5 + k)) = x.cells[k]?

theorem ESl.below {w w' : World} {v : Value} {L : List Ent} (h : ESl w v L) (hb : Below w.heap.size w w') : ESl w' v L := by
  obtain ⟨p, cap, rfl, hp⟩ := h
  refine ⟨p, cap, rfl, fun i x hx => ?_⟩
  obtain ⟨a, rfl, hc⟩ := hp i x hx
  refine ⟨a, rfl, fun k hk => ?_⟩
  have h0 := hc k hk
  have hlt : (a.add (i * 5 + k)).block < w.heap.size := by
    rcases Nat.lt_or_ge (a.add (i * 5 + k)).block w.heap.size with h' | h'
    · exact h'
    · rw [World.cell?, Array.getElem?_eq_none h'] at h0
      simp only at h0
      rw [List.getElem?_eq_getElem (by simpa [Ent.cells] using hk)] at h0
      cases h0
  rw [hb.cell (p := a.add (i * 5 + k)) hlt, h0]

theorem ESl.of_own {w : World} {base : Nat} {e : TypeId} {v : Value} {n : Nat} {L : List Ent} (h : w.ownsRow base e 5 v n (encE L)) : ESl w v L := by
  have hl := h.1
  rw [encE_length] at hl
  have hn : L.length = n := Nat.eq_of_mul_eq_mul_right (by decide) hl
  obtain ⟨p, c, rfl, _, _, hr⟩ := own_rd h
  refine ⟨p, c, by rw [hn], fun i x hx => ?_⟩
  have hi := (List.getElem?_eq_some_iff.1 hx).1
  obtain ⟨g, rfl, _, _, hc, _⟩ := hr (by omega)
  exact ⟨_, rfl, fun k hk => by rw [show (⟨g, 0, none⟩ : Addr).add (i * 5 + k) = ⟨g, i * 5 + k, none⟩ by unfold Addr.add; split <;> simp_all, hc (i * 5 + k) (by omega)]; exact encE_get L i x hx k hk⟩

theorem add_field (a : Addr) (i k : Nat) (hk : k ≠ 0) : (⟨(a.add i).block, (a.add i).off + k, none⟩ : Addr) = a.add (i + k) := by
  unfold Addr.add
  by_cases hi : i = 0
  · subst hi; simp [hk]
  · simp [hi, hk, Nat.add_assoc]

/-- The five cells of an entry in a list. -/
def Five (w : World) (p : Addr) (x : Ent) : Prop :=
  w.cell? p = some (.int .i64 x.v) ∧ w.cell? ⟨p.block, p.off + 1, none⟩ = some (.string x.c) ∧ w.cell? ⟨p.block, p.off + 2, none⟩ = some (.int .i64 x.i) ∧ w.cell? ⟨p.block, p.off + 3, none⟩ = some (.int .i64 x.s) ∧ w.cell? ⟨p.block, p.off + 4, none⟩ = some (.bool x.d)

theorem Five.of {w : World} {a : Addr} {i : Nat} {x : Ent} (h : ∀ k, k < 5 → w.cell? (a.add (i * 5 + k)) = x.cells[k]?) : Five w (a.add (i * 5)) x := by
  refine ⟨h 0 (by decide), ?_, ?_, ?_, ?_⟩
  · rw [add_field _ _ _ (by decide)]; exact h 1 (by decide)
  · rw [add_field _ _ _ (by decide)]; exact h 2 (by decide)
  · rw [add_field _ _ _ (by decide)]; exact h 3 (by decide)
  · rw [add_field _ _ _ (by decide)]; exact h 4 (by decide)

theorem cell_lt {w : World} {p : Addr} {v : Value} (h : w.cell? p = some v) : p.block < w.heap.size := by
  rcases Nat.lt_or_ge p.block w.heap.size with h' | h'
  · exact h'
  · simp [World.cell?, Array.getElem?_eq_none h'] at h

theorem Five.lt {w : World} {p : Addr} {x : Ent} (h : Five w p x) : p.block < w.heap.size := cell_lt h.1

theorem Five.below {w w' : World} {p : Addr} {x : Ent} (h : Five w p x) {B : Nat} (hb : Below B w w') (hB : p.block < B) : Five w' p x :=
  ⟨(hb.cell (p := p) hB).trans h.1, (hb.cell (p := ⟨p.block, p.off + 1, none⟩) hB).trans h.2.1, (hb.cell (p := ⟨p.block, p.off + 2, none⟩) hB).trans h.2.2.1, (hb.cell (p := ⟨p.block, p.off + 3, none⟩) hB).trans h.2.2.2.1, (hb.cell (p := ⟨p.block, p.off + 4, none⟩) hB).trans h.2.2.2.2⟩

theorem Five.by {W w' : World} {p : Addr} {x : Ent} {B : Nat} (hb : Below B W w') (hB : p.block < B) (h : Five W p x) : Five w' p x := h.below hb hB

theorem Five.belowAll {w w' : World} {p : Addr} {x : Ent} (h : Five w p x) (hb : Below w.heap.size w w') : Five w' p x := h.below hb h.lt

theorem and10 {w : World} {p q : Addr} {x y : Ent} (h : Five w p x) (k : Five w q y) :
    w.cell? (p) = some (.int .i64 x.v) ∧ w.cell? ⟨(p).block, (p).off + 1, none⟩ = some (.string x.c) ∧ w.cell? ⟨(p).block, (p).off + 2, none⟩ = some (.int .i64 x.i) ∧ w.cell? ⟨(p).block, (p).off + 3, none⟩ = some (.int .i64 x.s) ∧ w.cell? ⟨(p).block, (p).off + 4, none⟩ = some (.bool x.d) ∧ w.cell? (q) = some (.int .i64 y.v) ∧ w.cell? ⟨(q).block, (q).off + 1, none⟩ = some (.string y.c) ∧ w.cell? ⟨(q).block, (q).off + 2, none⟩ = some (.int .i64 y.i) ∧ w.cell? ⟨(q).block, (q).off + 3, none⟩ = some (.int .i64 y.s) ∧ w.cell? ⟨(q).block, (q).off + 4, none⟩ = some (.bool y.d) :=
  ⟨h.1, h.2.1, h.2.2.1, h.2.2.2.1, h.2.2.2.2, k⟩

theorem encE_drop (L : List Ent) (j : Nat) : (encE L).drop (j * 5) = encE (L.drop j) := by
  induction L generalizing j with
  | nil => simp [encE]
  | cons x L ih =>
    cases j with
    | zero => simp
    | succ j =>
      rw [encE_cons, show (j + 1) * 5 = x.cells.length + j * 5 by simp [Ent.cells]; omega, List.drop_append, List.drop_of_length_le (Nat.le_add_right _ _), Nat.add_sub_cancel_left, List.nil_append, ih]
      rfl

theorem encE_take (L : List Ent) (j : Nat) : (encE L).take (j * 5) = encE (L.take j) := by
  induction L generalizing j with
  | nil => simp [encE]
  | cons x L ih =>
    cases j with
    | zero => simp [encE]
    | succ j =>
      rw [encE_cons, show (j + 1) * 5 = x.cells.length + j * 5 by simp [Ent.cells]; omega, List.take_append, List.take_of_length_le (Nat.le_add_right _ _), Nat.add_sub_cancel_left, ih]
      rfl

theorem encE_set (F : List Ent) (j : Nat) (hj : j < F.length) (x : Ent) :
    ((((((encE F).set (j * 5) (.int .i64 x.v)).set (j * 5 + 1) (.string x.c)).set (j * 5 + 2) (.int .i64 x.i)).set (j * 5 + 3) (.int .i64 x.s)).set (j * 5 + 4) (.bool x.d)) = encE (F.set j x) := by
  have hF : F = F.take j ++ F.drop j := (List.take_append_drop j F).symm
  have hs : F.set j x = F.take j ++ x :: F.drop (j + 1) := by rw [List.set_eq_take_append_cons_drop, if_pos hj]
  have h5 : (encE (F.drop j)).drop 5 = encE (F.drop (j + 1)) := by
    have := encE_drop (F.drop j) 1
    rw [List.drop_drop] at this
    simpa using this
  have hl : (encE (F.take j)).length = j * 5 := by rw [encE_length, List.length_take, Nat.min_eq_left (Nat.le_of_lt hj)]
  have := setsAt_app x.cells (encE (F.take j)) (encE (F.drop j)) (by rw [encE_length, List.length_drop]; simp [Ent.cells]; omega)
  rw [← encE_append, ← hF, hl, show x.cells.length = 5 from rfl, h5] at this
  rw [hs, encE_append, encE_cons, ← List.append_assoc, ← this]
  rfl

theorem own_setE {w : World} {base : Nat} {e : TypeId} {g m c : Nat} {F : List Ent} (h : w.ownsRow base e 5 (.slice (some ⟨g, 0, none⟩) m c) m (encE F)) {j : Nat} (hj : j < m) (x : Ent) :
    (((((w.setCell ⟨g, j * 5, none⟩ (.int .i64 x.v)).setCell ⟨g, j * 5 + 1, none⟩ (.string x.c)).setCell ⟨g, j * 5 + 2, none⟩ (.int .i64 x.i)).setCell ⟨g, j * 5 + 3, none⟩ (.int .i64 x.s)).setCell ⟨g, j * 5 + 4, none⟩ (.bool x.d)).ownsRow base e 5 (.slice (some ⟨g, 0, none⟩) m c) m (encE (F.set j x)) := by
  have hl := h.1
  rw [encE_length] at hl
  have hn : F.length = m := Nat.eq_of_mul_eq_mul_right (by decide) hl
  rw [← encE_set F j (by omega) x]
  exact ((((((h.stored (j * 5) _).1.stored (j * 5 + 1) _).1).stored (j * 5 + 2) _).1.stored (j * 5 + 3) _).1.stored (j * 5 + 4) _).1

theorem own_lenE {w : World} {base : Nat} {e : TypeId} {v : Value} {m : Nat} {F : List Ent} (h : w.ownsRow base e 5 v m (encE F)) : F.length = m := by
  have hl := h.1
  rw [encE_length] at hl
  exact Nat.eq_of_mul_eq_mul_right (by decide) hl

/-- The five cells of an entry of a row. -/
theorem own_fiveE {w : World} {base : Nat} {e : TypeId} {g m c : Nat} {F : List Ent} (h : w.ownsRow base e 5 (.slice (some ⟨g, 0, none⟩) m c) m (encE F)) {j : Nat} {x : Ent} (hx : F[j]? = some x) :
    w.cell? ⟨g, j * 5, none⟩ = some (.int .i64 x.v) ∧ w.cell? ⟨g, j * 5 + 1, none⟩ = some (.string x.c) ∧ w.cell? ⟨g, j * 5 + 2, none⟩ = some (.int .i64 x.i) ∧ w.cell? ⟨g, j * 5 + 3, none⟩ = some (.int .i64 x.s) ∧ w.cell? ⟨g, j * 5 + 4, none⟩ = some (.bool x.d) := by
  have hn := own_lenE h
  have hj := (List.getElem?_eq_some_iff.1 hx).1
  have hg := encE_get F j x hx
  exact ⟨by rw [h.cellAt _ (by omega)]; exact hg 0 (by decide), by rw [h.cellAt _ (by omega)]; exact hg 1 (by decide), by rw [h.cellAt _ (by omega)]; exact hg 2 (by decide), by rw [h.cellAt _ (by omega)]; exact hg 3 (by decide), by rw [h.cellAt _ (by omega)]; exact hg 4 (by decide)⟩

theorem own_takeE {w : World} {base : Nat} {e : TypeId} {g n cap : Nat} {F : List Ent} (h : w.ownsRow base e 5 (.slice (some ⟨g, 0, none⟩) n cap) n (encE F)) {k : Nat} (hk : k ≤ n) :
    w.ownsRow base e 5 (.slice (some ⟨g, 0, none⟩) k cap) k (encE (F.take k)) := by
  rw [← encE_take]; exact own_take h hk


/-- A readable list of entries that lies below block B. -/
def EL (w : World) (B : Nat) (p : Option Addr) (L : List Ent) : Prop := ∀ i x, L[i]? = some x → ∃ a : Addr, p = some a ∧ a.block < B ∧ Five w (a.add (i * 5)) x

theorem add_blockE (a : Addr) (i : Nat) : (a.add i).block = a.block := by unfold Addr.add; split <;> rfl

theorem EL.below {w w' : World} {B B' : Nat} {p : Option Addr} {L : List Ent} (h : EL w B p L) (hb : Below B' w w') (hB : B ≤ B') : EL w' B p L := by
  intro i x hx
  obtain ⟨a, rfl, ha, h5⟩ := h i x hx
  exact ⟨a, rfl, ha, h5.below hb (by rw [add_blockE]; omega)⟩

theorem EL.mono {w : World} {B B' : Nat} {p : Option Addr} {L : List Ent} (h : EL w B p L) (hB : B ≤ B') : EL w B' p L := by
  intro i x hx
  obtain ⟨a, rfl, ha, h5⟩ := h i x hx
  exact ⟨a, rfl, by omega, h5⟩

theorem EL.nil {w : World} {B : Nat} {p : Option Addr} : EL w B p [] := fun i x hx => by simp at hx

theorem EL.esl {w : World} {B : Nat} {q : Option Addr} {L : List Ent} (h : EL w B q L) (c : Nat) : ESl w (.slice q L.length c) L := by
  refine ⟨q, c, rfl, fun i x hx => ?_⟩
  obtain ⟨a, rfl, _, h0, h1, h2, h3, h4⟩ := h i x hx
  refine ⟨a, rfl, fun k hk => ?_⟩
  rw [add_field _ _ _ (by decide)] at h1 h2 h3 h4
  rcases (show k = 0 ∨ k = 1 ∨ k = 2 ∨ k = 3 ∨ k = 4 by omega) with rfl | rfl | rfl | rfl | rfl
  · exact h0
  · exact h1
  · exact h2
  · exact h3
  · exact h4


theorem cell_ltE {w : World} {a : Addr} {v : Value} (h : w.cell? a = some v) : a.block < w.heap.size := by
  rcases Nat.lt_or_ge a.block w.heap.size with h' | h'
  · exact h'
  · rw [World.cell?, Array.getElem?_eq_none h'] at h
    simp at h

theorem esl_arg {w : World} {v : Value} {z : List Ent} (h : IsSl w 5 48 IsEnt [v] z) : ESl w v z ∧ z.length ≤ 4398046511104 ∧ ∀ x ∈ z, (Lit.int .i64 x.s).wf = true := by
  obtain ⟨hz1, hz2⟩ := h
  refine ⟨?_, by omega, ?_⟩
  · rcases hz2 with ⟨h, rfl⟩ | ⟨a, cap, h, _, _, hc⟩
    · cases h
      exact ⟨none, 0, rfl, fun i x hx => by simp at hx⟩
    · cases h
      refine ⟨some a, cap, rfl, fun i x hx => ?_⟩
      obtain ⟨c, _, hr, hcell⟩ := hc i x hx
      obtain ⟨rfl, _⟩ := hr
      exact ⟨a, rfl, hcell⟩
  · intro x hx
    obtain ⟨i, hi⟩ := List.getElem?_of_mem hx
    rcases hz2 with ⟨h, rfl⟩ | ⟨a, cap, h, _, _, hc⟩
    · simp at hx
    · obtain ⟨c, _, hr, _⟩ := hc i x hi
      exact hr.2.2.2.2

theorem row_below {w W : World} {v : Value} {z : List Int} (h : XKit.IsRow w v z) (hb : Below w.heap.size w W) : XKit.IsRow W v z := by
  obtain ⟨h1, h2, h3⟩ := h
  refine ⟨h1, h2, ?_⟩
  rcases h3 with h | ⟨a, cap, rfl, hc1, hc2, h⟩
  · exact .inl h
  · exact .inr ⟨a, cap, rfl, hc1, hc2, fun i hi => (hb.cell (cell_ltE (h i hi))).trans (h i hi)⟩

theorem el_block {W : World} {B g : Nat} {K : List Ent} (hg : g < B) (h : ∀ j, j < K.length * 5 → W.cell? ⟨g, j, none⟩ = (encE K)[j]?) : EL W B (some ⟨g, 0, none⟩) K := by
  intro i x hx
  have hi := (List.getElem?_eq_some_iff.1 hx).1
  refine ⟨⟨g, 0, none⟩, rfl, hg, Five.of (fun k hk => ?_)⟩
  rw [show (⟨g, 0, none⟩ : Addr).add (i * 5 + k) = ⟨g, i * 5 + k, none⟩ by unfold Addr.add; split <;> simp_all, h (i * 5 + k) (by omega)]
  exact encE_get K i x hx k hk

theorem el_own {W : World} {base n : Nat} {p : Option Addr} {c : Nat} {L : List Ent} (h : W.ownsRow base 33 5 (.slice p n c) n (encE L)) (hn : L.length = n) : EL W W.heap.size p L := by
  obtain ⟨q, d, e, _, _, hr⟩ := own_rd h
  simp only [Value.slice.injEq] at e
  obtain ⟨rfl, _, rfl⟩ := e
  by_cases h0 : 0 < n
  · obtain ⟨g, rfl, _, hg, hc, _⟩ := hr h0
    exact el_block hg (fun j hj => hc j (by omega))
  · intro i x hx
    have := (List.getElem?_eq_some_iff.1 hx).1
    omega


set_option maxHeartbeats 1000000 in
/-- Two lists of the same entries. -/
theorem sameE_true (v1 v2 : Value) (L : List Ent) (hn : L.length < 4611686018427387904) (w : World) (h1 : ESl w v1 L) (h2 : ESl w v2 L) :
    Calls Tryd.prog 14 #[v1, v2] w fun e w' => e = .returned (.bool true) ∧ Below w.heap.size w w' := by
  obtain ⟨p1, c1, rfl, hp⟩ := h1
  obtain ⟨p2, c2, rfl, hq⟩ := h2
  obtain ⟨n, hnn⟩ : ∃ n, L.length = n := ⟨_, rfl⟩
  rw [hnn] at hn ⊢
  have HN := Lib.hid hnn
  have HP := Lib.hid hp
  have HQ := Lib.hid hq
  clear hp hq hnn
  go_enter Tryd.func14, Tryd.ntmps14
  go_wp2
  go_loopw [5] (fun i wr => ∃ k : Nat, k ≤ n ∧ i = .int .i64 k ∧ Below w.heap.size w wr) (fun i _ => n - (intOf i).toNat)
  case atStart => exact ⟨0, Nat.zero_le _, rfl, Below.refl _ _⟩
  case round =>
    obtain ⟨k, hk, rfl, hbl⟩ := hrel
    by_cases hlt : k < n
    · obtain ⟨x, hx⟩ : ∃ x, L[k]? = some x := ⟨_, List.getElem?_eq_getElem (by rw [HN.out]; exact hlt)⟩
      obtain ⟨a, rfl, ca⟩ := HP.out k x hx
      obtain ⟨b, rfl, cb⟩ := HQ.out k x hx
      have fa := Five.of ca
      have fb := Five.of cb
      obtain ⟨x0, x1, x2, x3, x4⟩ := fa.below hbl fa.lt
      obtain ⟨y0, y1, y2, y3, y4⟩ := fb.below hbl fb.lt
      clear ca cb fa fb hx
      go_wp2
      go_quiet (fail)
      go_wp2
      go_roundw
      case rel => exact ⟨k + 1, by omega, by go_num, below_drewN hbl _⟩
      case measure => simp [intOf]; omega
    · obtain rfl : k = n := by omega
      go_wp2
      go_ret
      exact ⟨rfl, hbl⟩
end Go.Proofs.YtihgjihdmlomaaaDoor
