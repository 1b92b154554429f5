/-
  READING ARGUMENTS, whatever their type: integers, strings, bools, structs, slices of them, and so on downward. Each reading comes with the reach of what it holds, and with its bulk.
-/
import Derived.Test.YtahdaccmokjgpaaRows
import Derived.Deep.Slices
import Derived.ChangeArms
import Derived.ChangeSlices
import Derived.ChangeSame
import Derived.SizedLaws
import Derived.ProofKit
import Derived.Below
namespace Go.Proofs.Ytahdaccmokjgpaa.ArgK
open Go.ChangeShapes Go.WideShapes Go.RowKit Go.Deep
set_option linter.unusedVariables false

/-- A type's values read so: for each cells that are such a value there is a datum that R tells, of bulk at least bk. -/
def RdT (P : Program) (W : World) (t : TypeId) {α : Type} (R : List Value → α → Prop) (bk : α → Nat) : Prop :=
  ∀ (H : Type) (enc : TypeId × Value → H) (fuel : Nat) (cs : List Value) (x : DataW H × List MemPlace), DataW.trod enc P W 0 (fun _ => true) true fuel t cs = some x → (∀ n ∈ x.1.weights P t, n ≤ reachBytes) →
    ∃ a, R cs a ∧ bk a ≤ Rows.uptoBulk x.1
/-- .. and so do fields, one behind the other. -/
def RdF (P : Program) (W : World) (fs : List Field) {α : Type} (R : List Value → α → Prop) (bk : α → Nat) : Prop :=
  ∀ (H : Type) (enc : TypeId × Value → H) (fuel : Nat) (cs : List Value) (xs : List (DataW H × List MemPlace)), xs.length = fs.length →
    (∀ (i : Nat) (f : Field), fs[i]? = some f → DataW.trod enc P W 0 (fun _ => true) true fuel f.type ((cs.drop f.offset).take (P.cellsOf f.type)) = xs[i]?) →
    (∀ n ∈ DataW.weightsEach P (fs.map (·.type)) (xs.map (·.1)), n ≤ reachBytes) → ∃ a, R cs a ∧ bk a ≤ Rows.uptoBulkAll (xs.map (·.1))

section
variable {P : Program} {W : World} {t : TypeId}
theorem RdT.mono {α β : Type} {R : List Value → α → Prop} {bk : α → Nat} {R' : List Value → β → Prop} {bk' : β → Nat} (h : RdT P W t R bk) (hm : ∀ cs a, R cs a → ∃ b, R' cs b ∧ bk' b ≤ bk a) : RdT P W t R' bk' :=
  fun H enc fuel cs x hx hw => by
    obtain ⟨a, ha, hb⟩ := h H enc fuel cs x hx hw
    obtain ⟨b, h1, h2⟩ := hm cs a ha
    exact ⟨b, h1, Nat.le_trans h2 hb⟩
theorem rd_int {k : IntKind} (ht : P.underlying t = some (.int k)) : RdT P W t (fun cs (n : Int) => cs = [.int k n] ∧ (Lit.int k n).wf = true) (fun _ => 1) :=
  fun H enc fuel cs x hx hw => by
    obtain ⟨n, rfl, rfl, hn⟩ := DataW.trod_int ht hx
    exact ⟨n, ⟨rfl, hn⟩, by simp [Rows.uptoBulk]⟩
theorem rd_bool (ht : P.underlying t = some .bool) : RdT P W t (fun cs (b : Bool) => cs = [.bool b]) (fun _ => 1) :=
  fun H enc fuel cs x hx hw => by
    obtain ⟨b, rfl, rfl⟩ := DataW.trod_bool ht hx
    exact ⟨b, rfl, by simp [Rows.uptoBulk]⟩
theorem rd_string (ht : P.underlying t = some .string) : RdT P W t (fun cs (s : ByteArray) => cs = [.string s] ∧ s.size ≤ 140737488351232) (fun s => s.size + 1) :=
  fun H enc fuel cs x hx hw => by
    obtain ⟨s, rfl, rfl, hs⟩ := DataW.trod_string ht hx
    have h1 := hw s.data.toList.length (by simp [DataW.weights])
    refine ⟨s, ⟨rfl, by simpa [reachBytes] using h1⟩, ?_⟩
    simp only [Rows.uptoBulk]
    exact Nat.le_refl _

theorem rdf_nil : RdF P W [] (fun _ (_ : Unit) => True) (fun _ => 0) := fun H enc fuel cs xs _ _ _ => ⟨(), trivial, Nat.zero_le _⟩
theorem rdf_cons {f : Field} {fs : List Field} {α β : Type} {R : List Value → α → Prop} {bk : α → Nat} {S : List Value → β → Prop} {bl : β → Nat} (h : RdT P W f.type R bk) (k : RdF P W fs S bl) :
    RdF P W (f :: fs) (fun cs (a : α × β) => R ((cs.drop f.offset).take (P.cellsOf f.type)) a.1 ∧ S cs a.2) (fun a => bk a.1 + bl a.2) :=
  fun H enc fuel cs xs hl hx hw => by
    cases xs with
    | nil => simp at hl
    | cons y ys =>
      simp only [List.map_cons, DataW.weightsEach, List.mem_append] at hw
      have h0 := hx 0 f rfl
      simp only [List.getElem?_cons_zero] at h0
      obtain ⟨a, ha, hab⟩ := h H enc fuel _ y h0 (fun n hn => hw n (.inl hn))
      obtain ⟨b, hb, hbb⟩ := k H enc fuel cs ys (by simpa using hl) (fun i g hg => by
        have := hx (i + 1) g (by simpa using hg)
        simpa using this) (fun n hn => hw n (.inr hn))
      refine ⟨(a, b), ⟨ha, hb⟩, ?_⟩
      simp only [List.map_cons, Rows.uptoBulkAll]
      omega
theorem rd_struct {fs : Array Field} {α : Type} {R : List Value → α → Prop} {bk : α → Nat} (ht : P.underlying t = some (.struct fs)) (h : RdF P W fs.toList R bk) : RdT P W t (fun cs a => cs.length = P.cellsOf t ∧ R cs a) (fun a => bk a + 1) :=
  fun H enc fuel cs x hx hw => by
    obtain ⟨xs, n, rfl, rfl, hlen, hxl, hf⟩ := DataW.trod_struct ht hx
    obtain ⟨a, ha, hb⟩ := h H enc n cs xs (by simpa using hxl) (fun i f hi => hf i f (by simpa using hi)) (fun m hm => hw m (by
      simp only [DataW.weights, ht]
      exact hm))
    refine ⟨a, ⟨hlen, ha⟩, ?_⟩
    simp only [Rows.uptoBulk]
    omega

theorem weightsAll_mem {H : Type} {e : TypeId} {d : DataW H} : ∀ {l : List (DataW H)}, d ∈ l → ∀ n ∈ d.weights P e, n ∈ DataW.weightsAll P e l
  | [], hd, _, _ => by cases hd
  | y :: l, hd, n, hn => by
    simp only [DataW.weightsAll, List.mem_append]
    rcases List.mem_cons.1 hd with rfl | hd
    · exact .inl hn
    · exact .inr (weightsAll_mem hd n hn)
/-- A slice whose elements R tells, size cells each, within the reach. -/
def IsSl (W : World) (size bytes : Nat) {α : Type} (R : List Value → α → Prop) (cs : List Value) (l : List α) : Prop :=
  l.length * bytes ≤ 140737488351232 ∧
  ((cs = [.slice none 0 0] ∧ l = []) ∨ ∃ (a : Addr) (cap : Nat), cs = [.slice (some a) l.length cap] ∧ l.length ≤ cap ∧ cap ≤ maxLen ∧
    ∀ (i : Nat) (x : α), l[i]? = some x → ∃ c : List Value, c.length = size ∧ R c x ∧ ∀ j, j < size → W.cell? (a.add (i * size + j)) = c[j]?)
theorem list_pick {α : Type} {Q : Nat → α → Prop} : ∀ n, (∀ i, i < n → ∃ a, Q i a) → ∃ l : List α, l.length = n ∧ ∀ i x, l[i]? = some x → Q i x
  | 0, _ => ⟨[], rfl, fun i x h => by simp at h⟩
  | n + 1, h => by
    obtain ⟨l, hl, hq⟩ := list_pick n (fun i hi => h i (by omega))
    obtain ⟨a, ha⟩ := h n (by omega)
    refine ⟨l ++ [a], by simp [hl], fun i x hx => ?_⟩
    rw [List.getElem?_append] at hx
    split at hx
    · exact hq i x hx
    · rename_i hi
      have hi2 : i = n := by
        have := (List.getElem?_eq_some_iff.1 hx).1
        simp at this
        omega
      subst hi2
      rw [hl] at hx
      simp at hx
      subst hx
      exact ha
theorem sum_le_bulk {H : Type} {α : Type} (bk : α → Nat) : ∀ (l : List α) (ds : List (DataW H)), l.length = ds.length → (∀ (i : Nat) (x : α) (d : DataW H), l[i]? = some x → ds[i]? = some d → bk x ≤ Rows.uptoBulk d) → (l.map bk).sum ≤ Rows.uptoBulkAll ds
  | [], [], _, _ => by simp
  | [], _ :: _, h, _ => by simp at h
  | _ :: _, [], h, _ => by simp at h
  | x :: l, d :: ds, h, hb => by
    have h0 := hb 0 x d rfl rfl
    have h1 := sum_le_bulk bk l ds (by simpa using h) (fun i y e hy he => hb (i + 1) y e (by simpa using hy) (by simpa using he))
    simp only [List.map_cons, List.sum_cons, Rows.uptoBulkAll]
    omega
theorem add_of_add (a : Addr) (i j : Nat) : (a.add i).add j = a.add (i + j) := by
  unfold Addr.add
  by_cases hi : i = 0 <;> by_cases hj : j = 0 <;> simp [hi, hj, Nat.add_assoc]
theorem rd_slice {e : TypeId} {α : Type} {R : List Value → α → Prop} {bk : α → Nat} {size bytes : Nat} (ht : P.underlying t = some (.slice e)) (hs : P.cellsOf e = size) (hby : P.bytesOf e = bytes) (h : RdT P W e R bk) :
    RdT P W t (fun cs l => IsSl W size bytes R cs l) (fun l => (l.map bk).sum + 1) :=
  fun H enc fuel cs x hx hw => by
    rcases open_slice ht hx with ⟨rfl, rfl⟩ | ⟨a, len, cap, m, n, D, Pl, rfl, _, hlc, hcm, hm, rfl, hi⟩
    · exact ⟨[], ⟨by simp, .inl ⟨rfl, rfl⟩⟩, by simp [Rows.uptoBulk]⟩
    · simp only [if_true] at hm
      subst hm
      have hall : ∀ i, i < len → ∃ y : α, (∃ c : List Value, c.length = size ∧ R c y ∧ ∀ j, j < size → W.cell? (a.add (i * size + j)) = c[j]?) ∧ bk y ≤ Rows.uptoBulk (D i) := fun i hil => by
        obtain ⟨c, hc, htr⟩ := hi i (by omega)
        rw [hs] at hc
        obtain ⟨_, hcl, hat⟩ := World.cells?_some hc
        obtain ⟨y, hy, hyb⟩ := h H enc n c (D i, Pl i) htr (fun k hk => hw k (by
          simp only [DataW.weights, ht, List.mem_cons, List.mem_append]
          exact .inr (.inl (weightsAll_mem (List.mem_map.2 ⟨i, List.mem_range.2 hil, rfl⟩) k hk))))
        exact ⟨y, ⟨c, hcl, hy, fun j hj => by rw [← add_of_add]; exact hat j hj⟩, hyb⟩
      obtain ⟨l, hl, hq⟩ := list_pick len hall
      have hsz := hw (((List.range len).map D).length + ((List.range (m - len)).map fun j => D (len + j)).length |>.mul (P.bytesOf e)) (by
        simp only [DataW.weights, ht, List.mem_cons]
        exact .inl rfl)
      rw [List.length_map, List.length_range, List.length_map, List.length_range, hby] at hsz
      have hsz' : (len + (m - len)) * bytes ≤ 140737488351232 := hsz
      rw [Nat.add_mul] at hsz'
      refine ⟨l, ⟨by rw [hl]; omega, .inr ⟨a, m, by rw [hl], by rw [hl]; exact hlc, hcm, fun i y hy => (hq i y hy).1⟩⟩, ?_⟩
      have hb := sum_le_bulk bk l ((List.range len).map D) (by simp [hl]) (fun i y d hy hd => by
        have hlt : i < len := by have := (List.getElem?_eq_some_iff.1 hy).1; omega
        have : d = D i := by simpa [hlt] using hd.symm
        rw [this]
        exact (hq i y hy).2)
      simp only [Rows.uptoBulk]
      omega
/-- An argument is read so. -/
theorem RdT.trod {α : Type} {R : List Value → α → Prop} {bk : α → Nat} (h : RdT P W t R bk) {H : Type} {enc : TypeId × Value → H} {v : Value} {d : DataW H} {p : List MemPlace} (hd : DataW.Trod enc P W 0 (fun _ => true) true t v d p)
    {ts : List TypeId} {ds : List (DataW H)} (hsz : (DataW.weightsEach P ts ds).all (· ≤ reachBytes) = true) {j : Nat} (hj : ts[j]? = some t) (hdj : ds[j]? = some d) : ∃ a, R v.cells.toList a ∧ bk a ≤ Rows.uptoBulk d := by
  obtain ⟨fuel, hf⟩ := hd
  refine h H enc fuel _ (d, p) hf fun n hn => ?_
  have := List.all_eq_true.1 hsz n (DataW.weights_mem_each hj hdj n hn)
  simpa using this
end
end Go.Proofs.Ytahdaccmokjgpaa.ArgK
