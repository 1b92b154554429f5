/-
  SMALL LAWS for the law WireTell: an argument's hits, appended; hits written over.
-/
import Derived.Test.YtabhjkaheghbhaaArgRp
import Derived.Laws.AppendOwnNone
namespace Go.Proofs.Ytabhjkaheghbhaa
open Go.RowKit ArgK
set_option linter.unusedVariables false

theorem wpList_append_opt {P : Program} {w : World} {ops : Array Oper} {rest : List Oper} {o : Oper} {a : Act} {Q : Exit → Act → World → Prop} (hgd : o.guard = none) (s x : Operand) (t : TypeId)
    (ho : o.op = .call { callee := .builtin .append, args := #[s, x], argTypes := #[t, t] })
    (base : Nat) (e : TypeId) (i : TypeInfo) (z : Value) (size bytes : Nat) (ht : P.underlying t = some (.slice e)) (hi : P.info? e = some i) (hz : i.zero = some z)
    (hsize : i.size = size) (hby : i.bytes = bytes) (hzs : z.cells.size = size) (hsz : 0 < size)
    (v : Value) (n : Nat) (xs : List Value) (hs : a.eval s = v) (hown : w.ownsRow base e size v n xs)
    (p : Option Addr) (m c : Nat) (news : List Value) (hx : a.eval x = .slice p m c) (hp : p = none → m = 0 ∧ c = 0) (hl : news.length = m * size) (hnews : ∀ j u, news[j]? = some u → ∃ ad, p = some ad ∧ w.cell? (ad.add j) = some u) (h1 : ∀ u ∈ news, u.oneCell' = true)
    (h63 : n + m ≤ maxLen) (hbytes : (n + m) * bytes ≤ 140737488355328) (hbase : base ≤ w.heap.size)
    (h : ∀ v' w', w'.ownsRow base e size v' (n + m) (xs ++ news) → w.grownBy w' v.ownBlock → wpList P ops Q rest (a.put o.dst v') w') : wpList P ops Q (o :: rest) a w := by
  cases p with
  | none =>
    obtain ⟨rfl, rfl⟩ := hp rfl
    have hn : news = [] := List.eq_nil_of_length_eq_zero (by simpa using hl)
    subst hn
    exact wpList_append_own_none hgd s x t ho base e i size ht hi v n xs hs hown hx (h v w (by simpa using hown) (grown_refl _ _))
  | some ad => exact wpList_append_own w hgd s x t ho base e i z size bytes ht hi hz hsize hby hzs hsz v n xs hs hown ad m c news hx hl (fun j u hj => by obtain ⟨a, e, h⟩ := hnews j u hj; cases e; exact h) h1 h63 hbytes hbase fun v' w' h2 h3 _ => h v' w' h2 h3
theorem hits_of_arg' {w : World} {v : Value} {z : List Hv} (h : IsSl w 3 32 IsHit [v] z) : ∃ (p : Option Addr) (cap : Nat), v = .slice p z.length cap ∧ (p = none → z = [] ∧ cap = 0) ∧ HL w p z ∧ ∀ x ∈ z, x.c.size ≤ 140737488351232 := by
  have h' := h
  obtain ⟨h1, h2⟩ := h'
  obtain ⟨_, p, cap, e, hz, hc⟩ := hits_of_arg h
  refine ⟨p, cap, e, fun hp => ?_, hz, hc⟩
  subst e
  rcases h2 with ⟨h, rfl⟩ | ⟨a, cap', h, _⟩
  · cases h
    exact ⟨rfl, rfl⟩
  · cases h
    cases hp
theorem encH_src {w : World} {p : Option Addr} {z : List Hv} (h : HL w p z) : ∀ j u, (encH z)[j]? = some u → ∃ a, p = some a ∧ w.cell? (a.add j) = some u := by
  intro j u hu
  have hj := (List.getElem?_eq_some_iff.1 hu).1
  rw [encH_length] at hj
  obtain ⟨x, hx⟩ : ∃ x, z[j / 3]? = some x := ⟨_, List.getElem?_eq_getElem (by omega)⟩
  obtain ⟨a, e, h0, h1, h2⟩ := h _ x hx
  have hg := encH_get z (j / 3) x hx (j % 3) (by omega)
  rw [show j / 3 * 3 + j % 3 = j by omega, hu] at hg
  refine ⟨a, e, ?_⟩
  rcases (show j % 3 = 0 ∨ j % 3 = 1 ∨ j % 3 = 2 by omega) with hm | hm | hm
  · rw [hm] at hg
    rw [show j = j / 3 * 3 by omega, hg]; exact h0
  · rw [hm] at hg
    rw [show j = j / 3 * 3 + 1 by omega, hg, ← add_fieldH _ _ _ (by decide)]; exact h1
  · rw [hm] at hg
    rw [show j = j / 3 * 3 + 2 by omega, hg, ← add_fieldH _ _ _ (by decide)]; exact h2
theorem encH_one (z : List Hv) : ∀ u ∈ encH z, u.oneCell' = true := by
  intro u hu
  unfold encH at hu
  rw [List.mem_flatMap] at hu
  obtain ⟨x, _, hx⟩ := hu
  revert u
  simp [Hv.cells, Value.oneCell']
theorem encH_app (L M : List Hv) : encH (L ++ M) = encH L ++ encH M := by simp [encH]
/-- The hits that are written over the others. -/
def freshH (k : Nat) : List Hv := (List.range k).map fun (i : Nat) => ⟨(i : Int), 7, ⟨#[122]⟩⟩
theorem freshH_length (k : Nat) : (freshH k).length = k := by simp [freshH]
theorem freshH_succ (k : Nat) : freshH (k + 1) = freshH k ++ [⟨(k : Int), 7, ⟨#[122]⟩⟩] := by
  unfold freshH
  rw [List.range_succ, List.map_append]; rfl
theorem freshH_size (k : Nat) : ∀ x ∈ freshH k, x.c.size ≤ 140737488351232 := by
  intro x hx
  unfold freshH at hx
  rw [List.mem_map] at hx
  obtain ⟨i, _, rfl⟩ := hx
  show (1 : Nat) ≤ _
  decide
theorem hitB_le (x : Hv) : (hitB x).length ≤ 30 + x.c.size := by
  have h1 := vNum_len x.d
  have h2 := vNum_len x.i
  have h3 := vNum_len x.c.size
  have h4 : x.c.data.toList.length = x.c.size := rfl
  unfold hitB
  simp only [List.length_append, h4]
  omega
theorem freshH_bytes (k : Nat) : (hitsB (freshH k)).length ≤ 31 * k := by
  induction k with
  | zero => show (hitsB []).length ≤ 0; exact Nat.le_refl 0
  | succ k ih =>
    have h : hitsB (freshH (k + 1)) = hitsB (freshH k) ++ hitB ⟨(k : Int), 7, ⟨#[122]⟩⟩ := by rw [freshH_succ]; simp [hitsB]
    have := hitB_le ⟨(k : Int), 7, ⟨#[122]⟩⟩
    have h1 : (⟨#[122]⟩ : ByteArray).size = 1 := rfl
    simp only [h1] at this
    rw [h, List.length_append]
    omega
theorem hitsB_bulk (z : List Hv) : (hitsB z).length ≤ 30 * (z.map bkHit).sum ∧ z.length ≤ (z.map bkHit).sum ∧ ∀ x ∈ z, x.c.size ≤ (z.map bkHit).sum := by
  induction z with
  | nil => simp [hitsB]
  | cons x z ih =>
    obtain ⟨h1, h2, h3⟩ := ih
    have h4 := hitB_le x
    have h5 : hitsB (x :: z) = hitB x ++ hitsB z := by simp [hitsB]
    have h6 : ((x :: z).map bkHit).sum = x.c.size + 4 + (z.map bkHit).sum := by simp [bkHit]
    rw [h5, h6, List.length_append, List.length_cons]
    refine ⟨by omega, by omega, fun y hy => ?_⟩
    rcases List.mem_cons.1 hy with rfl | hy
    · omega
    · have := h3 y hy; omega
/-- One hit is written over. -/
theorem over_one {w : World} {base g cp N k : Nat} {e : TypeId} {z : List Hv} {a : List Value} (h : w.ownsRow base e 3 (.slice (some ⟨g, 0, none⟩) N cp) N (encH (freshH k) ++ a)) (ha : 3 ≤ a.length) :
    (((w.setCell ⟨g, k * 3, none⟩ (.int .i64 (k : Int))).setCell ⟨g, k * 3 + 1, none⟩ (.int .i64 7)).setCell ⟨g, k * 3 + 2, none⟩ (.string ⟨#[122]⟩)).ownsRow base e 3 (.slice (some ⟨g, 0, none⟩) N cp) N (encH (freshH (k + 1)) ++ a.drop 3) := by
  obtain ⟨h1, _⟩ := h.stored (k * 3) (.int .i64 (k : Int))
  obtain ⟨h2, _⟩ := h1.stored (k * 3 + 1) (.int .i64 7)
  obtain ⟨h3, _⟩ := h2.stored (k * 3 + 2) (.string ⟨#[122]⟩)
  have hl : (encH (freshH k)).length = k * 3 := by rw [encH_length, freshH_length]
  have := setsAt_app [.int .i64 (k : Int), .int .i64 7, .string ⟨#[122]⟩] (encH (freshH k)) a (by simpa using ha)
  rw [hl] at this
  rw [freshH_succ, encH_snoc]
  have he : ((((encH (freshH k) ++ a).set (k * 3) (.int .i64 (k : Int))).set (k * 3 + 1) (.int .i64 7)).set (k * 3 + 2) (.string ⟨#[122]⟩)) = encH (freshH k) ++ Hv.cells ⟨(k : Int), 7, ⟨#[122]⟩⟩ ++ a.drop 3 := this
  rw [← he]
  exact h3
theorem over_cells {w : World} {base g cp N k : Nat} {e : TypeId} {r : List Value} (h : w.ownsRow base e 3 (.slice (some ⟨g, 0, none⟩) N cp) N (encH (freshH (k + 1)) ++ r)) (hk : k < N) :
    w.cell? ⟨g, k * 3, none⟩ = some (.int .i64 (k : Int)) ∧ w.cell? ⟨g, k * 3 + 1, none⟩ = some (.int .i64 7) ∧ w.cell? ⟨g, k * 3 + 2, none⟩ = some (.string ⟨#[122]⟩) := by
  have hx : (freshH (k + 1))[k]? = some ⟨(k : Int), 7, ⟨#[122]⟩⟩ := by simp [freshH]
  have hl : (encH (freshH (k + 1))).length = (k + 1) * 3 := by rw [encH_length, freshH_length]
  have hc : ∀ j, j < 3 → w.cell? ⟨g, k * 3 + j, none⟩ = (Hv.cells ⟨(k : Int), 7, ⟨#[122]⟩⟩)[j]? := fun j hj => by
    rw [h.cellAt _ (by omega), List.getElem?_append_left (by omega)]
    exact encH_get _ k _ hx j hj
  exact ⟨hc 0 (by decide), hc 1 (by decide), hc 2 (by decide)⟩
end Go.Proofs.Ytabhjkaheghbhaa
