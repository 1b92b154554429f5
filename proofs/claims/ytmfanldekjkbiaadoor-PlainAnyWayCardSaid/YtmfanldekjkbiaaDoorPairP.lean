/-
  PAIRS in memory: a map from numbers to codes: looked up, put, taken out, counted, ranged over.
-/
import Derived.Test.YtmfanldekjkbiaaDoorHvM
import Derived.Maps.RangeWalk
namespace Go.Proofs.YtmfanldekjkbiaaDoor
open Go.RowKit
set_option linter.unusedVariables false

/-- A pair: its number, its code. -/
structure Pv where
  i : Int
  c : ByteArray
deriving DecidableEq

instance : Inhabited Pv := ⟨⟨0, ⟨#[]⟩⟩⟩

def heldV (c : ByteArray) : Value := .agg #[.string c]

/-- How an element reads. -/
def heldElem : Value → Option (DataW Unit × List MemPlace)
  | .agg ⟨[.string c]⟩ => some (.lit (.string c.data.toList), [])
  | _ => none

theorem heldElem_mk (c : ByteArray) : heldElem (heldV c) = some (.lit (.string c.data.toList), []) := rfl

theorem heldElem_inv {v : Value} {z : DataW Unit × List MemPlace} (h : heldElem v = some z) : ∃ c, v = heldV c ∧ z = (.lit (.string c.data.toList), []) := by
  unfold heldElem at h
  split at h
  · rename_i c
    cases h
    exact ⟨c, rfl, rfl⟩
  · cases h

theorem lit_str_inj {a b : ByteArray} (h : (DataW.lit (.string a.data.toList) : DataW Unit) = .lit (.string b.data.toList)) : a = b := by
  injection h with h
  injection h with h
  have := Array.toList_inj.1 h
  cases a; cases b; simp_all

theorem idKeyed : Maps.Keyed Tryd.prog 3 := Maps.int_keyed Tryd.underlying3

def hasId (L : List Pv) (x : Int) : Bool := L.any (fun p => p.i == x)

theorem hasId_iff {L : List Pv} {x : Int} : hasId L x = true ↔ ∃ p ∈ L, p.i = x := by simp [hasId]

def codeAt (L : List Pv) (x : Int) : ByteArray := match L.find? (fun p => p.i == x) with | some p => p.c | none => ⟨#[]⟩

theorem codeAt_mem {L : List Pv} (hn : (L.map (·.i)).Nodup) {p : Pv} (hp : p ∈ L) : codeAt L p.i = p.c := by
  unfold codeAt
  induction L with
  | nil => cases hp
  | cons q L ih =>
    rw [List.map_cons, List.nodup_cons] at hn
    rcases List.mem_cons.1 hp with rfl | hp'
    · simp
    · have hne : (q.i == p.i) = false := by
        rw [beq_eq_false_iff_ne]
        exact fun e => hn.1 (List.mem_map.2 ⟨p, hp', e.symm⟩)
      rw [List.find?_cons, hne]
      exact ih hn.2 hp'

theorem codeAt_none {L : List Pv} {x : Int} (h : hasId L x = false) : codeAt L x = ⟨#[]⟩ := by
  unfold codeAt
  have : L.find? (fun p => p.i == x) = none := by
    rw [List.find?_eq_none]
    intro p hp he
    have := List.any_eq_false.1 h p hp
    exact this he
  rw [this]

/-- A map as read holds just these pairs. -/
structure PD (D : DataW Unit) (L : List Pv) : Prop where
  size : Maps.size D = L.length
  nodup : (L.map (·.i)).Nodup
  wf : ∀ p ∈ L, (Lit.int .i64 p.i).wf = true
  has : ∀ x, (Lit.int .i64 x).wf = true → Maps.has D (.int .i64 x) = hasId L x
  at_ : ∀ p ∈ L, ∀ zd, D.atKey (.int .i64 p.i) zd = .lit (.string p.c.data.toList)

def PairsIs (w : World) (b : Nat) (L : List Pv) : Prop := ∃ D, w.ownsMap Tryd.prog 3 heldElem b L.length D ∧ PD D L

theorem PairsIs.lt {w : World} {b : Nat} {L : List Pv} (h : PairsIs w b L) : b < w.heap.size := by
  obtain ⟨D, h1, _⟩ := h
  exact h1.lt

theorem PairsIs.nodup {w : World} {b : Nat} {L : List Pv} (h : PairsIs w b L) : (L.map (·.i)).Nodup := by
  obtain ⟨D, _, h2⟩ := h
  exact h2.nodup

theorem PairsIs.wf {w : World} {b : Nat} {L : List Pv} (h : PairsIs w b L) : ∀ p ∈ L, (Lit.int .i64 p.i).wf = true := by
  obtain ⟨D, _, h2⟩ := h
  exact h2.wf

theorem PairsIs.of {w w' : World} {b : Nat} {L : List Pv} (h : PairsIs w b L) (e : w'.heap[b]? = w.heap[b]?) : PairsIs w' b L := by
  obtain ⟨D, ⟨es, cl, h1, h2⟩, h3⟩ := h
  exact ⟨D, ⟨es, cl, e.trans h1, h2⟩, h3⟩

theorem PairsIs.made (w : World) : PairsIs (w.alloc (.map #[] 0)) w.heap.size [] :=
  ⟨.map [], World.ownsMap_made w _ _ _, rfl, List.nodup_nil, fun p h => absurd h (List.not_mem_nil), fun x _ => rfl, fun p h => absurd h (List.not_mem_nil)⟩

theorem heldZero (w : World) : (zeroValue 79).run Tryd.prog w = .ok (heldV ⟨#[]⟩) w := by kernel_rfl

theorem keyI {x : Int} (hx : (Lit.int .i64 x).wf = true) : keyOf Tryd.prog 3 (.int .i64 x) = some (.int .i64 x) := Maps.keyOf_int_mk Tryd.underlying3 hx

set_option maxRecDepth 100000 in
theorem PairsIs.look {w : World} {b : Nat} {L : List Pv} (h : PairsIs w b L) {x : Int} (hx : (Lit.int .i64 x).wf = true) :
    (Instr.lookup 64 (.map (some b)) (.int .i64 x) true).run Tryd.prog w = .ok (.tuple #[heldV (codeAt L x), .bool (hasId L x)]) w := by
  obtain ⟨D, h1, h2⟩ := h
  obtain ⟨v, ps, hr, hv⟩ := h1.look_ok idKeyed Tryd.underlying64 (heldZero w) (heldElem_mk ⟨#[]⟩) (keyI hx)
  rw [hr, h2.has x hx]
  have : v = heldV (codeAt L x) := by
    obtain ⟨c, rfl, hc⟩ := heldElem_inv hv
    have hc1 := congrArg Prod.fst hc
    simp only at hc1
    cases hb : hasId L x
    · have hnot : Maps.has D (.int .i64 x) = false := by rw [h2.has x hx]; exact hb
      rw [Maps.atKey_of_not_has hnot] at hc1
      have hcc : (⟨#[]⟩ : ByteArray) = c := lit_str_inj (a := ⟨#[]⟩) (b := c) hc1
      rw [codeAt_none hb, ← hcc]
    · obtain ⟨p, hp, rfl⟩ := hasId_iff.1 hb
      rw [h2.at_ p hp] at hc1
      rw [codeAt_mem h2.nodup hp, lit_str_inj hc1]
  rw [this]

set_option maxRecDepth 100000 in
theorem PairsIs.put {w : World} {b : Nat} {L : List Pv} (h : PairsIs w b L) (p : Pv) (hp : (Lit.int .i64 p.i).wf = true) (hm : hasId L p.i = false) (hn : L.length < maxLen) :
    ∃ w', (Instr.mapUpdate 64 (.map (some b)) (.int .i64 p.i) (heldV p.c)).run Tryd.prog w = .ok () w' ∧ PairsIs w' b (L ++ [p]) ∧ w.grownBy w' (some b) := by
  obtain ⟨D, h1, h2⟩ := h
  obtain ⟨w', hr, ho, ht⟩ := h1.store idKeyed Tryd.underlying64 hn (keyI hp) (heldElem_mk p.c)
  have hT := h1.tidy idKeyed
  have hk := idKeyed.key (keyI hp)
  have hnot : Maps.has D (.int .i64 p.i) = false := by rw [h2.has p.i hp]; exact hm
  have hne : ∀ q ∈ L, q.i ≠ p.i := fun q hq e => by
    have := hasId_iff.2 ⟨q, hq, e⟩
    rw [hm] at this
    cases this
  refine ⟨w', hr, ⟨_, by rw [List.length_append]; exact ho, ?_, ?_, ?_, fun x hx => ?_, fun q hq zd => ?_⟩, ht.grown⟩
  · have := Maps.size_put hT (k := .int .i64 p.i) (.lit (.string p.c.data.toList) : DataW Unit)
    rw [hnot] at this
    simp at this
    rw [List.length_append, ← h2.size]
    exact this
  · rw [List.map_append, List.nodup_append]
    refine ⟨h2.nodup, by simp, fun a ha c hc => ?_⟩
    obtain ⟨q, hq, rfl⟩ := List.mem_map.1 ha
    simp at hc
    rw [hc]
    exact hne q hq
  · intro q hq
    rcases List.mem_append.1 hq with hq | hq
    · exact h2.wf q hq
    · rw [List.mem_singleton.1 hq]; exact hp
  · by_cases e : x = p.i
    · subst e
      rw [Maps.has_put_same hT.isMap hk]
      simp [hasId]
    · rw [Maps.has_put_other (fun k => e (by injection k)), h2.has x hx]
      have : (p.i == x) = false := by rw [beq_eq_false_iff_ne]; exact fun k => e k.symm
      simp [hasId, this]
  · rcases List.mem_append.1 hq with hq | hq
    · rw [Maps.atKey_put_other (fun k => hne q hq (by injection k))]
      exact h2.at_ q hq zd
    · rw [List.mem_singleton.1 hq]
      exact Maps.atKey_put_same hT.isMap hk _ _

/-- The pairs but for that of a number. -/
def lessId (L : List Pv) (x : Int) : List Pv := L.filter (fun p => !(p.i == x))

theorem lessId_length {L : List Pv} (hn : (L.map (·.i)).Nodup) {x : Int} (h : hasId L x = true) : (lessId L x).length + 1 = L.length := by
  unfold lessId
  induction L with
  | nil => cases h
  | cons q L ih =>
    rw [List.map_cons, List.nodup_cons] at hn
    by_cases e : q.i = x
    · have : L.filter (fun p => !(p.i == x)) = L := by
        rw [List.filter_eq_self]
        intro p hp
        simp only [Bool.not_eq_true', beq_eq_false_iff_ne]
        exact fun k => hn.1 (List.mem_map.2 ⟨p, hp, by rw [k, e]⟩)
      simp [e, this]
    · have hb : (q.i == x) = false := by rw [beq_eq_false_iff_ne]; exact e
      have h' : hasId L x = true := by simpa [hasId, hb] using h
      have := ih hn.2 h'
      simp [hb]
      exact this

theorem lessId_not {L : List Pv} {x : Int} (h : hasId L x = false) : lessId L x = L := by
  unfold lessId
  rw [List.filter_eq_self]
  intro p hp
  have := List.any_eq_false.1 h p hp
  simpa using this

set_option maxRecDepth 100000 in
theorem PairsIs.drop {w : World} {b : Nat} {L : List Pv} (h : PairsIs w b L) {x : Int} (hx : (Lit.int .i64 x).wf = true) (hm : hasId L x = true) (ty : TypeId) :
    ∃ w', (Builtin.delete_ #[64, 3] ty #[.map (some b), .int .i64 x]).run Tryd.prog w = .ok (.tuple #[]) w' ∧ PairsIs w' b (lessId L x) ∧ w.grownBy w' (some b) := by
  obtain ⟨D, h1, h2⟩ := h
  obtain ⟨w', hr, ho, ht⟩ := h1.drop idKeyed Tryd.underlying64 (keyI hx) ty
  have hT := h1.tidy idKeyed
  have hhas : Maps.has D (.int .i64 x) = true := by rw [h2.has x hx]; exact hm
  have hln := lessId_length h2.nodup hm
  have hsz : Maps.size (D.del (.int .i64 x)) = (lessId L x).length := by
    have := Maps.size_del hT (k := .int .i64 x)
    rw [hhas, h2.size] at this
    simp at this
    omega
  have hmem : ∀ q ∈ lessId L x, q ∈ L ∧ q.i ≠ x := fun q hq => by
    obtain ⟨h1, h2⟩ := List.mem_filter.1 hq
    exact ⟨h1, by simpa using h2⟩
  refine ⟨w', hr, ⟨_, ?_, hsz, h2.nodup.sublist (List.filter_sublist.map _), fun q hq => h2.wf q (hmem q hq).1, fun y hy => ?_, fun q hq zd => ?_⟩, ht.grown⟩
  · obtain ⟨es, cl, k1, k2, k3, k4⟩ := ho
    refine ⟨es, cl, k1, k2, ?_, k4⟩
    rw [k4] at hsz
    simp [Maps.size, length_sorted] at hsz
    omega
  · by_cases e : y = x
    · subst e
      rw [Maps.has_del_same]
      simp [hasId, lessId]
    · rw [Maps.has_del_other (fun k => e (by injection k)), h2.has y hy]
      unfold hasId lessId
      rw [Bool.eq_iff_iff]
      simp only [List.any_eq_true, List.mem_filter, beq_iff_eq, Bool.not_eq_true', beq_eq_false_iff_ne]
      constructor
      · rintro ⟨p, hp, rfl⟩
        exact ⟨p, ⟨hp, e⟩, rfl⟩
      · rintro ⟨p, ⟨hp, _⟩, rfl⟩
        exact ⟨p, hp, rfl⟩
  · rw [Maps.atKey_del_other (fun k => (hmem q hq).2 (by injection k))]
    exact h2.at_ q (hmem q hq).1 zd

theorem PairsIs.len {w : World} {b : Nat} {L : List Pv} (h : PairsIs w b L) (ty : TypeId) : (Builtin.len_ #[64] ty #[.map (some b)]).run Tryd.prog w = .ok (.int .i64 (L.length : Nat)) w := by
  obtain ⟨D, h1, h2⟩ := h
  rw [h1.len Tryd.underlying64 ty, h2.size]

/-- The range over the pairs is under way: V are those that came. -/
def RngIs (w : World) (b r : Nat) (L V : List Pv) : Prop :=
  ∃ D left cnt, w.ranges Tryd.prog 3 heldElem b r L.length D left cnt ∧ PD D L ∧ (∀ kl, left kl = true → Maps.has D kl = true) ∧ (∀ p ∈ L, left (.int .i64 p.i) = decide (p ∉ V)) ∧ (∀ p ∈ V, p ∈ L) ∧ V.Nodup

theorem RngIs.kept {w w' : World} {b r : Nat} {L V : List Pv} (h : RngIs w b r L V) (h1 : w'.heap[b]? = w.heap[b]?) (h2 : w'.heap[r]? = w.heap[r]?) : RngIs w' b r L V ∧ w'.rangeLeft b r = w.rangeLeft b r := by
  refine ⟨?_, by unfold World.rangeLeft; rw [h1, h2]⟩
  obtain ⟨D, left, cnt, ⟨es, clock, since, seen, c0, hb, F, hs, hD, hr, rest⟩, k⟩ := h
  exact ⟨D, left, cnt, ⟨es, clock, since, seen, c0, h1.trans hb, F, hs, hD, h2.trans hr, rest⟩, k⟩

theorem RngIs.pairs {w : World} {b r : Nat} {L V : List Pv} (h : RngIs w b r L V) : PairsIs w b L := by
  obtain ⟨D, left, cnt, h1, h2, _⟩ := h
  exact ⟨D, h1.owns, h2⟩

theorem RngIs.lt {w : World} {b r : Nat} {L V : List Pv} (h : RngIs w b r L V) : r < w.heap.size := by
  obtain ⟨D, left, cnt, h1, h2, _⟩ := h
  exact h1.lt

section
variable (w : World) {ops : Array Oper} {rest : List Oper} {o : Oper} {a : Act} {Q : Exit → Act → World → Prop}

theorem wpList_range_pairs (hg : o.guard = none) (m : Operand) (hop : o.op = Op.range 64 m) (b : Nat) (L : List Pv) (hm : a.eval m = .map (some b)) (h : PairsIs w b L)
    (hK : ∀ w', RngIs w' b w.heap.size L [] → Below w.heap.size w w' → w'.heap.size = w.heap.size + 1 → wpList Tryd.prog ops Q rest (a.put o.dst (.pointer (some ⟨w.heap.size, 0, none⟩))) w') :
    wpList Tryd.prog ops Q (o :: rest) a w := by
  obtain ⟨D, h1, h2⟩ := h
  refine wpList_range_own w hg m _ hop 3 79 idKeyed Tryd.underlying64 heldElem b L.length D hm h1 fun w' k1 k2 k3 => hK w' ⟨D, _, _, k1, h2, fun _ hk => hk, fun p hp => ?_, fun _ hp => absurd hp (List.not_mem_nil), List.nodup_nil⟩ ⟨k2.os, k2.tape, k2.output, k2.size, fun i hi => k2.block i hi (by simp)⟩ k3
  rw [h2.has p.i (h2.wf p hp), hasId_iff.2 ⟨p, hp, rfl⟩]
  simp

theorem wpList_next_pairs (hg : o.guard = none) (it : Operand) (hop : o.op = Op.next it false) (b r : Nat) (L V : List Pv) (hit : a.eval it = .pointer (some ⟨r, 0, none⟩)) (h : RngIs w b r L V)
    (hDone : V.Perm L → wpList Tryd.prog ops Q rest (a.put o.dst (.tuple #[.bool false])) w)
    (hMore : ∀ (p : Pv) (w' : World), p ∈ L → p ∉ V → RngIs w' b r L (V ++ [p]) → w'.rangeLeft b r < w.rangeLeft b r → w.grownBy w' (some r) → w'.heap.size = w.heap.size →
      (Instr.entry (.pointer (some ⟨r, 0, none⟩))).run Tryd.prog w' = .ok (.tuple #[.int .i64 p.i, .agg #[.string p.c]]) w' → wpList Tryd.prog ops Q rest (a.put o.dst (.tuple #[.bool true, .int .i64 p.i, .agg #[.string p.c]])) w') :
    wpList Tryd.prog ops Q (o :: rest) a w := by
  obtain ⟨D, left, cnt, h1, h2, h3, h4, h5, h6⟩ := h
  have hLn : L.Nodup := List.Pairwise.of_map (fun p : Pv => p.i) (fun a b (h : a.i ≠ b.i) e => h (by rw [e])) h2.nodup
  refine wpList_next_ranges w hg it hop 3 idKeyed heldElem (Value.int .i64) heldV (fun key kl hk => by obtain ⟨x, rfl, _⟩ := Maps.keyOf_int_inv Tryd.underlying3 hk; exact ⟨x, rfl⟩) (fun v y hv => by obtain ⟨c, rfl, _⟩ := heldElem_inv hv; exact ⟨c, rfl⟩) b r L.length D left cnt hit h1 (fun _ hl => hDone ?_) (fun x c kl y w' cnt' hkey hl hy hat hr hlt hgr hsz hen => ?_)
  · refine (List.perm_ext_iff_of_nodup h6 hLn).2 fun p => ⟨h5 p, fun hp => ?_⟩
    have := h4 p hp
    rw [hl] at this
    simpa using this.symm
  · obtain ⟨x', ex, rfl, hwx⟩ := Maps.keyOf_int_inv Tryd.underlying3 hkey
    cases ex
    have hh := h3 _ hl
    rw [h2.has x hwx] at hh
    obtain ⟨p, hp, rfl⟩ := hasId_iff.1 hh
    obtain ⟨c', ec, ey⟩ := heldElem_inv hy
    have ecc : c' = c := by
      unfold heldV at ec
      simp only [Value.agg.injEq, Array.mk.injEq, List.cons.injEq, Value.string.injEq, and_true] at ec
      exact ec.symm
    have hcp : p.c = c := by
      have := hat (.lit (.string []))
      rw [h2.at_ p hp, ey, ecc] at this
      exact lit_str_inj this
    subst hcp
    have hpV : p ∉ V := by
      have := h4 p hp
      rw [hl] at this
      simpa using this.symm
    refine hMore p w' hp hpV ⟨D, _, cnt', hr, h2, fun kl hk => h3 kl (by simp at hk; exact hk.1), fun q hq => ?_, fun q hq => ?_, ?_⟩ (by rw [hr.left_eq, h1.left_eq]; exact hlt) hgr hsz hen
    · rw [h4 q hq]
      by_cases e : q = p
      · subst e
        rw [WideAt.sameKey_self (idKeyed.key (keyI (h2.wf q hq)))]
        simp
      · have hne : q.i ≠ p.i := fun k => e (by
          have a1 := codeAt_mem h2.nodup hq
          have a2 := codeAt_mem h2.nodup hp
          rw [k] at a1
          rw [a1] at a2
          cases q; cases p; simp_all)
        rw [Maps.sameKey_ne (fun k => hne (by injection k))]
        simp [e]
    · rcases List.mem_append.1 hq with hq | hq
      · exact h5 q hq
      · rw [List.mem_singleton.1 hq]; exact hp
    · rw [List.nodup_append]
      refine ⟨h6, by simp, fun u hu v hv => ?_⟩
      rw [List.mem_singleton.1 hv]
      exact fun e => hpV (e ▸ hu)
end
end Go.Proofs.YtmfanldekjkbiaaDoor
