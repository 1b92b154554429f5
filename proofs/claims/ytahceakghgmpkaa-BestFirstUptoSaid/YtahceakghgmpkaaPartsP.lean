/-
  LISTS OF LISTS of hits: read, joined, in parts; the first of the parts' firsts (plain).
-/
import Derived.Test.YtahceakghgmpkaaFirstB
import Derived.Test.YtahceakghgmpkaaApartB
import Derived.Test.YtahceakghgmpkaaRefT
import Derived.Laws.AppendOwnNone
namespace Go.Proofs.Ytahceakghgmpkaa
open Go.RowKit ArgK
set_option linter.unusedVariables false

theorem wpList_append_opt {P : Program} {w : World} {ops : Array Oper} {rest : List Oper} {o : Oper} {a : Act} {Q : Exit → Act → World → Prop} (hgd : o.guard = none) (s x : Operand) (t : TypeId)
    (ho : o.op = .call { callee := .builtin .append, args := #[s, x], argTypes := #[t, t] })
    (base : Nat) (e : TypeId) (i : TypeInfo) (z : Value) (size bytes : Nat) (ht : P.underlying t = some (.slice e)) (hi : P.info? e = some i) (hz : i.zero = some z)
    (hsize : i.size = size) (hby : i.bytes = bytes) (hzs : z.cells.size = size) (hsz : 0 < size)
    (v : Value) (n : Nat) (xs : List Value) (hs : a.eval s = v) (hown : w.ownsRow base e size v n xs)
    (p : Option Addr) (m c : Nat) (news : List Value) (hx : a.eval x = .slice p m c) (hp : p = none → m = 0 ∧ c = 0) (hl : news.length = m * size) (hnews : ∀ j u, news[j]? = some u → ∃ ad, p = some ad ∧ w.cell? (ad.add j) = some u) (h1 : ∀ u ∈ news, u.oneCell' = true)
    (h63 : n + m ≤ maxLen) (hbytes : (n + m) * bytes ≤ 140737488355328) (hbase : base ≤ w.heap.size)
    (h : ∀ v' w', w'.ownsRow base e size v' (n + m) (xs ++ news) → w.grownBy w' v.ownBlock → wpList P ops Q rest (a.put o.dst v') w') : wpList P ops Q (o :: rest) a w := by
  cases p with
  | none =>
    obtain ⟨rfl, rfl⟩ := hp rfl
    have hn : news = [] := List.eq_nil_of_length_eq_zero (by simpa using hl)
    subst hn
    exact wpList_append_own_none hgd s x t ho base e i size ht hi v n xs hs hown hx (h v w (by simpa using hown) (grown_refl _ _))
  | some ad => exact wpList_append_own w hgd s x t ho base e i z size bytes ht hi hz hsize hby hzs hsz v n xs hs hown ad m c news hx hl (fun j u hj => by obtain ⟨a, e, h⟩ := hnews j u hj; cases e; exact h) h1 h63 hbytes hbase fun v' w' h2 h3 _ => h v' w' h2 h3

theorem encH_src {w : World} {p : Option Addr} {z : List Hv} (h : HL w p z) : ∀ j u, (encH z)[j]? = some u → ∃ a, p = some a ∧ w.cell? (a.add j) = some u := by
  intro j u hu
  have hj := (List.getElem?_eq_some_iff.1 hu).1
  rw [encH_length] at hj
  obtain ⟨x, hx⟩ : ∃ x, z[j / 3]? = some x := ⟨_, List.getElem?_eq_getElem (by omega)⟩
  obtain ⟨a, e, h0, h1, h2⟩ := h _ x hx
  have hg := encH_get z (j / 3) x hx (j % 3) (by omega)
  rw [show j / 3 * 3 + j % 3 = j by omega, hu] at hg
  refine ⟨a, e, ?_⟩
  rcases (show j % 3 = 0 ∨ j % 3 = 1 ∨ j % 3 = 2 by omega) with hm | hm | hm
  · rw [hm] at hg
    rw [show j = j / 3 * 3 by omega, hg]; exact h0
  · rw [hm] at hg
    rw [show j = j / 3 * 3 + 1 by omega, hg, ← add_fieldH _ _ _ (by decide)]; exact h1
  · rw [hm] at hg
    rw [show j = j / 3 * 3 + 2 by omega, hg, ← add_fieldH _ _ _ (by decide)]; exact h2

theorem lists_of_arg {w : World} {v : Value} {zz : List (List Hv)} (h : IsSl w 1 24 (IsSl w 3 32 IsHit) [v] zz) :
    zz.length * 24 ≤ 140737488351232 ∧ ∃ (p : Option Addr) (cap : Nat), v = .slice p zz.length cap ∧ zz.length ≤ cap ∧ cap ≤ maxLen ∧ HLL w p zz ∧ GoodLL zz := by
  obtain ⟨h1, h2⟩ := h
  refine ⟨h1, ?_⟩
  rcases h2 with ⟨h, rfl⟩ | ⟨a, cap, h, hlc, hcm, hc⟩
  · cases h
    exact ⟨none, 0, rfl, Nat.le_refl _, Nat.zero_le _, fun i x hx => by simp at hx, fun x hx => by simp at hx⟩
  · cases h
    refine ⟨some a, cap, rfl, hlc, hcm, fun i z hz => ?_, fun z hz => ?_⟩
    · obtain ⟨c, hcl, hr, hcell⟩ := hc i z hz
      match c, hcl with
      | [u], _ =>
        have hu := hcell 0 (by decide)
        simp only [Nat.mul_one, Nat.add_zero, List.getElem?_cons_zero] at hu
        have hr' := hr
        obtain ⟨_, p, c, rfl, hl, _⟩ := hits_of_arg hr
        refine ⟨a, p, c, rfl, hu, hl, fun hp => ?_⟩
        subst hp
        rcases hr'.2 with ⟨e, rfl⟩ | ⟨_, _, e, _⟩
        · cases e; exact ⟨rfl, rfl⟩
        · cases e
    · obtain ⟨i, hi, hx⟩ := List.getElem_of_mem hz
      obtain ⟨c, hcl, hr, _⟩ := hc i z (by rw [List.getElem?_eq_getElem hi, hx])
      match c, hcl with
      | [u], _ =>
        obtain ⟨hsz, p, c, rfl, _, hg⟩ := hits_of_arg hr
        exact ⟨by omega, hg⟩

/-- The bulk of lists of lists. -/
def bkL (l : List Hv) : Nat := (l.map bkHit).sum + 1

theorem bk_len (l : List Hv) : l.length ≤ (l.map bkHit).sum := by
  induction l with
  | nil => simp
  | cons x l ih => simp only [List.map_cons, List.sum_cons, List.length_cons]; unfold bkHit at *; omega

theorem bk_flat (zz : List (List Hv)) : zz.flatten.length + zz.length ≤ (zz.map fun l => (l.map bkHit).sum + 1).sum := by
  induction zz with
  | nil => simp
  | cons x l ih =>
    have := bk_len x
    simp only [List.map_cons, List.sum_cons, List.length_cons, List.flatten_cons, List.length_append]
    omega

theorem flat_take_le (zz : List (List Hv)) (a : Nat) : (zz.take a).flatten.length ≤ zz.flatten.length := by
  have h := List.take_append_drop a zz
  have : zz.flatten = (zz.take a).flatten ++ (zz.drop a).flatten := by rw [← List.flatten_append, h]
  rw [this, List.length_append]
  omega

theorem flat_good {zz : List (List Hv)} (h : GoodLL zz) : ∀ x ∈ zz.flatten, GoodH x := by
  intro x hx
  obtain ⟨z, hz, hxz⟩ := List.mem_flatten.1 hx
  exact (h z hz).2 x hxz

theorem allH_app_dep (k : Nat) : ∀ (l A B : List Hv), (allH A).take k = (allH B).take k → (allH (A ++ l)).take k = (allH (B ++ l)).take k
  | [], A, B, h => by simpa using h
  | x :: l, A, B, h => by
    rw [show A ++ x :: l = (A ++ [x]) ++ l by simp, show B ++ x :: l = (B ++ [x]) ++ l by simp]
    exact allH_app_dep k l _ _ (by rw [top_snoc, top_snoc, h])

theorem allH_comm (A B : List Hv) : allH (A ++ B) = allH (B ++ A) := allH_perm (fun x => by simp [or_comm])

theorem allH_of_ris {T : List Hv} (h : Ris T) : allH T = T := ris_ext (allH_ris T) h (fun x => allH_mem T x)

theorem parts_step (k : Nat) (A B z : List Hv) (h : (allH A).take k = (allH B).take k) : (allH (A ++ (allH z).take k)).take k = (allH (B ++ z)).take k := by
  have h1 : (allH ((allH z).take k)).take k = (allH z).take k := by rw [allH_of_ris (ris_take (allH_ris z) k), List.take_take, Nat.min_self]
  have h2 := allH_app_dep k A _ _ h1
  rw [allH_comm A, h2, allH_comm z]
  exact allH_app_dep k z A B h

/-- The firsts of the parts. -/
def partsOf (k : Nat) (zz : List (List Hv)) : List (List Hv) := zz.map fun z => (allH z).take k

theorem parts_law (k : Nat) (zz : List (List Hv)) : (allH (partsOf k zz).flatten).take k = (allH zz.flatten).take k := by
  have : ∀ (zz : List (List Hv)) (A B : List Hv), (allH A).take k = (allH B).take k → (allH (A ++ (partsOf k zz).flatten)).take k = (allH (B ++ zz.flatten)).take k := by
    intro zz
    induction zz with
    | nil => intro A B h; simpa [partsOf] using h
    | cons z zz ih =>
      intro A B h
      have e1 : (partsOf k (z :: zz)).flatten = (allH z).take k ++ (partsOf k zz).flatten := rfl
      rw [e1, List.flatten_cons, ← List.append_assoc, ← List.append_assoc]
      exact ih _ _ (parts_step k A B z h)
  simpa using this zz [] [] rfl

theorem parts_get {k : Nat} {zz : List (List Hv)} {j : Nat} {y : List Hv} (h : (partsOf k zz)[j]? = some y) : j < zz.length ∧ y = (allH (zz.getD j [])).take k := by
  unfold partsOf at h
  rw [List.getElem?_map] at h
  cases hz : zz[j]? with
  | none => rw [hz] at h; cases h
  | some z =>
    rw [hz] at h
    refine ⟨(List.getElem?_eq_some_iff.1 hz).1, ?_⟩
    rw [List.getD_eq_getElem?_getD, hz]
    exact (Option.some.inj h).symm

theorem parts_good {k : Nat} {zz : List (List Hv)} (hk : k ≤ 4096) (h : GoodLL zz) : GoodLL (partsOf k zz) := by
  intro y hy
  obtain ⟨z, hz, rfl⟩ := List.mem_map.1 hy
  exact ⟨by simp; omega, fun x hx => (h z hz).2 x ((allH_mem z x).1 (List.mem_of_mem_take hx))⟩

/-- A list of the parts' firsts, as it lies in memory. -/
theorem lists_hll {w : World} {B k m : Nat} {zz : List (List Hv)} {l : Value} {L : Nat → Value} (hm : zz.length = m)
    (h : Lists w B 23 34 3 m l L (fun j => ((allH (zz.getD j [])).take k).length) (fun j => encH ((allH (zz.getD j [])).take k))) :
    ∃ p c, l = .slice p m c ∧ HLL w p (partsOf k zz) := by
  obtain ⟨h1, h2, _⟩ := h
  obtain ⟨p, c, rfl, _, _, hr⟩ := own_rd h1
  refine ⟨p, c, rfl, fun i y hy => ?_⟩
  obtain ⟨hi, rfl⟩ := parts_get hy
  rw [hm] at hi
  obtain ⟨g, rfl, _, _, hc, _⟩ := hr (by omega)
  have hci := hc i (by omega)
  have hri := h2 i hi
  obtain ⟨q, cq, e, _, _, hq⟩ := own_rd hri
  refine ⟨_, q, cq, rfl, ?_, HL.of_own (e ▸ hri), fun hn => ?_⟩
  · rw [add_zeroH, hci, ← e]
    simp [hi]
  · subst hn
    rcases hri.2 with ⟨e2, e3⟩ | ⟨g', _, _, e2, _⟩
    · rw [e] at e2
      obtain ⟨_, h5, h6⟩ := Value.slice.inj e2
      exact ⟨h5, h6⟩
    · rw [e] at e2; cases e2
end Go.Proofs.Ytahceakghgmpkaa
