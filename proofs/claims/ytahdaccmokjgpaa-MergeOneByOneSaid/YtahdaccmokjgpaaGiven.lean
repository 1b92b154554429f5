/-
  PLAIN: a merger over lists that rise, answer by answer.
  LISTS handed to a law's feeds: memory.
-/
import Derived.Test.YtahdaccmokjgpaaLawMU
import Derived.Test.YtahdaccmokjgpaaFeed
namespace Go.Proofs.Ytahdaccmokjgpaa
open Go.RowKit ArgK
set_option linter.unusedVariables false

/-- No source was asked more often than once behind its end. -/
def UBd (m : Mst) : Prop := ∀ (i : Nat) (st : Sst), m.S[i]? = some st → st.used ≤ st.es.length + 1

theorem asked_used (s : Sst) : s.asked.1.used ≤ s.used + 1 ∧ s.asked.1.es = s.es := by
  rw [(asked_cases s).1]
  split
  · exact ⟨Nat.le_succ _, rfl⟩
  · exact ⟨Nat.le_refl _, rfl⟩

theorem UBd.ask {m : Mst} {i : Nat} (h : UBd m) (hi : ∀ st, m.S[i]? = some st → st.used ≤ st.es.length) : UBd (m.ask i) := by
  cases hs : m.S[i]? with
  | none => rw [ask_none hs]; exact h
  | some s =>
    rw [ask_some hs]
    intro j st hj
    by_cases hji : j = i
    · subst hji
      rw [List.getElem?_set_self (List.getElem?_eq_some_iff.1 hs).1] at hj
      cases hj
      have h1 := asked_used s
      have h2 := hi s hs
      rw [h1.2]
      omega
    · rw [List.getElem?_set_ne (fun e => hji e.symm)] at hj
      exact h j st hj

theorem UBd.asks : ∀ (l : List Nat) (m : Mst), l.Nodup → (∀ i ∈ l, ∀ st, m.S[i]? = some st → st.used ≤ st.es.length) → UBd m → UBd (m.asks l)
  | [], m, _, _, h => h
  | i :: l, m, hn, hu, h => by
    rw [Mst.asks]
    have h1 := h.ask (hu i (by simp))
    split
    · exact h1
    · refine UBd.asks l _ (List.nodup_cons.1 hn).2 (fun j hj st hst => ?_) h1
      have hji : j ≠ i := fun e => (List.nodup_cons.1 hn).1 (e ▸ hj)
      refine hu j (by simp [hj]) st ?_
      cases hs : m.S[i]? with
      | none => rw [ask_none hs] at hst; exact hst
      | some s =>
        rw [ask_some hs] at hst
        simp only at hst
        rw [List.getElem?_set_ne (fun e => hji e.symm)] at hst
        exact hst

theorem UBd.step {n : Nat} {m : Mst} (hm : MOk n m) (h : UBd m) : UBd m.step.1 := by
  unfold Mst.step
  cases hl : leastE (stands m.F) with
  | none => exact h
  | some p =>
    simp only
    cases hw : wordOf (atPlace p (stands m.F)) with
    | none => exact h
    | some b =>
      simp only
      have key : UBd (({ m with F := offPlace p m.F } : Mst).asks ((atPlace p (stands m.F)).map Hdv.n)) := by
        refine UBd.asks _ _ (atPlace_nodup p m.F) (fun i hi st hst => ?_) h
        obtain ⟨x, hx, rfl⟩ := List.mem_map.1 hi
        obtain ⟨t, h1, h2, h3, h4⟩ := hm.std x.n x.e (stands_mem.1 (List.mem_filter.1 hx).1)
        simp only at hst
        rw [h1] at hst
        cases hst
        exact h3
      split
      · exact key
      · exact key

theorem UBd.go {bottom : Bool} {n : Nat} : ∀ (f : Nat) (m : Mst), MOk n m → UBd m → UBd (Mst.go bottom f m).2
  | 0, m, _, h => h
  | f + 1, m, hm, h => by
    unfold Mst.go
    split
    · exact h
    · simp only
      split
      · exact h.step hm
      · split
        · exact h.step hm
        · exact UBd.go f _ (step_ok hm) (h.step hm)

theorem go_ok {bottom : Bool} {n : Nat} : ∀ (f : Nat) (m : Mst), MOk n m → MOk n (Mst.go bottom f m).2
  | 0, m, h => h
  | f + 1, m, hm => by
    unfold Mst.go
    split
    · exact hm
    · simp only
      split
      · exact step_ok hm
      · split
        · exact step_ok hm
        · exact go_ok f _ (step_ok hm)

theorem next_ok {bottom : Bool} {n : Nat} {m : Mst} (hm : MOk n m) : MOk n (m.next bottom).2 := by
  unfold Mst.next
  simp only
  split
  · exact go_ok _ _ (begin_ok hm)
  · exact go_ok _ _ hm

theorem UBd.next {bottom : Bool} {n : Nat} {m : Mst} (hm : MOk n m) (h : UBd m) (h0 : m.begun = false → ∀ (i : Nat) (st : Sst), m.S[i]? = some st → st.used ≤ st.es.length) : UBd (m.next bottom).2 := by
  unfold Mst.next
  simp only
  split
  · next hb => exact UBd.go _ _ (begin_ok hm) (UBd.asks _ _ List.nodup_range (fun i _ st hst => h0 hb.2 i st hst) h)
  · exact UBd.go _ _ hm h

/-- The merger behind so many answers. -/
def itm (bottom : Bool) : Nat → Mst → Mst
  | 0, m => m
  | j + 1, m => itm bottom j (m.next bottom).2

theorem itm_succ (bottom : Bool) : ∀ (j : Nat) (m : Mst), itm bottom (j + 1) m = ((itm bottom j m).next bottom).2
  | 0, m => rfl
  | j + 1, m => itm_succ bottom j (m.next bottom).2

theorem next_begun {bottom : Bool} {lists : List (List Ent)} {words : List Ent} {m : Mst} (h : GoWay lists bottom words (m.next bottom)) (hb : (m.next bottom).1.2.2 = 0) : (m.next bottom).2.begun = true := by
  rcases h with ⟨h1, _⟩ | ⟨ws, u, h1, _⟩ | ⟨ws, u, b, h1, _⟩
  · rw [h1] at hb; simp at hb
  · rw [h1]; rfl
  · rw [h1]; rfl

/-- All is told. -/
theorem next_done {lists : List (List Ent)} {bottom : Bool} {u : Nat → Nat} (h1 : ∀ i, i < lists.length → 1 ≤ u i) (h : ∀ i, i < lists.length → tk lists u i = lx lists i) : (stU lists u (fun _ => false)).next bottom = ((zeroE, false, 0), stU lists u (fun _ => false)) := by
  have hs : leastE (stands (stU lists u (fun _ => false)).F) = none := by
    have : stands (stU lists u (fun _ => false)).F = [] := by
      refine List.eq_nil_iff_forall_not_mem.2 (fun x hx => ?_)
      obtain ⟨a, _, c⟩ := stU_stands.1 hx
      have h2 := h x.n a
      unfold tk at h2
      obtain ⟨c0, c1⟩ := cur_some c
      have hl := (List.getElem?_eq_some_iff.1 c1).1
      have := congrArg List.length h2
      rw [List.length_take] at this
      omega
    rw [this]
    rfl
  rw [next_stU, go_step rfl, step_none hs]
  have hb : (stU lists u (fun _ => false)).bad = 0 := rfl
  simp [hb]

theorem done_all {lists : List (List Ent)} {bottom : Bool} {u : Nat → Nat} (h1 : ∀ i, i < lists.length → 1 ≤ u i) (h : ∀ i, i < lists.length → tk lists u i = lx lists i) : ∀ k, itm bottom k (stU lists u (fun _ => false)) = stU lists u (fun _ => false)
  | 0 => rfl
  | k + 1 => by rw [itm_succ, done_all h1 h k, next_done h1 h]

/-- What a merger tells, and how far its sources were asked then. -/
def OneLaw (lists : List (List Ent)) (bottom : Bool) (rest : List Ent) (m : Mst) : Prop :=
  (∀ j x, rest[j]? = some x → ∃ u, (itm bottom j m).next bottom = ((x, true, 0), stU lists u (fun _ => false)) ∧ (∀ i, i < lists.length → 1 ≤ u i) ∧ ∀ i y, i < lists.length → y ∈ tk lists u i → ¬ eless x y) ∧
  ∃ u, (itm bottom rest.length m).next bottom = ((zeroE, false, 0), stU lists u (fun _ => false)) ∧ (∀ i, i < lists.length → 1 ≤ u i) ∧ ∀ i, i < lists.length → tk lists u i = lx lists i

theorem one_ind {lists : List (List Ent)} {bottom : Bool} (hr : ∀ i, i < lists.length → rises (lx lists i)) : ∀ (rest : List Ent) (f : Nat) (m : Mst) (words : List Ent), GoWay lists bottom words (m.next bottom) → ((m.next bottom).1.2.1 = true → (m.next bottom).2.left < f) → Mst.run bottom (f + 1) m = (rest, 0) → OneLaw lists bottom rest m := by
  intro rest
  induction rest with
  | nil =>
    intro f m words hw hl hrun
    rw [Mst.run] at hrun
    rcases hw with ⟨h1, _⟩ | ⟨ws, u, h1, h2, h3, _⟩ | ⟨ws, u, b, h1, _⟩
    · rw [h1] at hrun
      simp at hrun
    · exact ⟨fun j x h => by simp at h, u, h1, h2.one, h3⟩
    · rw [h1] at hrun
      simp at hrun
  | cons x rest ih =>
    intro f m words hw hl hrun
    rw [Mst.run] at hrun
    rcases hw with ⟨h1, _⟩ | ⟨ws, u, h1, h2, h3, _⟩ | ⟨ws, u, b, h1, h2, h3, h4, h5⟩
    · rw [h1] at hrun
      simp at hrun
    · rw [h1] at hrun
      simp at hrun
    · have hlt := hl (by rw [h1])
      rw [h1] at hrun hlt
      simp only [ne_eq, not_true_eq_false, if_false, Bool.true_eq_false, Prod.mk.injEq, List.cons.injEq] at hrun hlt
      obtain ⟨⟨rfl, hr1⟩, hr2⟩ := hrun
      obtain ⟨f, rfl⟩ : ∃ g, f = g + 1 := ⟨f - 1, by omega⟩
      have hgw := go_way (bottom := bottom) hr ((stU lists u (fun _ => false)).left + 1) u _ h2 (Nat.lt_succ_self _)
      rw [← next_stU] at hgw
      have hnl := fun h => next_left (bottom := bottom) (stU_ok lists u (fun _ => false)) h
      obtain ⟨k1, k2⟩ := ih f (stU lists u (fun _ => false)) _ hgw (fun h => by have := hnl h; omega) (Prod.ext hr1 hr2)
      refine ⟨fun j y hj => ?_, ?_⟩
      · cases j with
        | zero =>
          simp at hj
          subst hj
          exact ⟨u, h1, h2.one, h5⟩
        | succ j =>
          simp at hj
          obtain ⟨v, e1, e2, e3⟩ := k1 j y hj
          exact ⟨v, by rw [itm, h1]; exact e1, e2, e3⟩
      · obtain ⟨v, e1, e2, e3⟩ := k2
        exact ⟨v, by rw [List.length_cons, itm, h1]; exact e1, e2, e3⟩

theorem one_law {lists : List (List Ent)} {bottom : Bool} {R : List Ent} (hr : ∀ L ∈ lists, rises L) (hm : mergeM lists bottom = (R, 0)) : OneLaw lists bottom R (Mst.new lists) := by
  have hr := rises_lx hr
  exact one_ind hr R (Mst.new lists).left (Mst.new lists) [] (next_new bottom hr) (fun h => next_left (new_ok lists) h) hm

theorem go_begun {bottom : Bool} : ∀ (f : Nat) (m : Mst), (Mst.go bottom f m).2.begun = m.begun
  | 0, m => rfl
  | f + 1, m => by
    unfold Mst.go
    split
    · rfl
    · simp only
      split
      · exact (step_stat m).2
      · split
        · exact (step_stat m).2
        · exact (go_begun f _).trans (step_stat m).2

theorem fresh_next {bottom : Bool} {m : Mst} (h : m.begun = false → Fresh 0 m) : (m.next bottom).2.begun = false → Fresh 0 (m.next bottom).2 := by
  intro hb
  by_cases hbad : m.bad = 0
  · by_cases hbe : m.begun = false
    · unfold Mst.next at hb
      simp only at hb
      rw [if_pos ⟨hbad, hbe⟩, go_begun, (begin_stat m).2] at hb
      cases hb
    · unfold Mst.next at hb
      simp only at hb
      rw [if_neg (fun h => hbe h.2), go_begun] at hb
      exact absurd hb hbe
  · rw [next_bad hbad] at hb ⊢
    exact h hb

theorem itm_bound {lists : List (List Ent)} {bottom : Bool} : ∀ (j : Nat), MOk lists.length (itm bottom j (Mst.new lists)) ∧ UBd (itm bottom j (Mst.new lists)) ∧ ((itm bottom j (Mst.new lists)).begun = false → Fresh 0 (itm bottom j (Mst.new lists)))
  | 0 => ⟨new_ok lists, fun i st h => by
      have := (new_fresh lists i st (Nat.zero_le _) h).1
      omega, fun _ => new_fresh lists⟩
  | j + 1 => by
    obtain ⟨h1, h2, h3⟩ := itm_bound (lists := lists) (bottom := bottom) j
    rw [itm_succ]
    exact ⟨next_ok h1, h2.next h1 (fun hb i st hst => by have := (h3 hb i st (Nat.zero_le _) hst).1; omega), fresh_next h3⟩

/-- Source i of a merger over lists that was asked so often. -/
theorem stU_get {lists : List (List Ent)} {u : Nat → Nat} {i : Nat} {L : List Ent} (h : lists[i]? = some L) : (stU lists u (fun _ => false)).S[i]? = some ⟨L, 0, false, u i⟩ := by
  have hi := (List.getElem?_eq_some_iff.1 h).1
  have : lx lists i = L := by unfold lx; rw [List.getD, h]; rfl
  simp [stU, hi, this]

/-- What the law looks at behind an answer. -/
theorem OneLaw.told {lists : List (List Ent)} {bottom : Bool} {R : List Ent} (h : OneLaw lists bottom R (Mst.new lists)) {j : Nat} {x : Ent} (hx : R[j]? = some x) :
    ((itm bottom j (Mst.new lists)).next bottom).1 = (x, true, 0) ∧ ∀ (i : Nat) (L : List Ent), lists[i]? = some L → ∃ n, (itm bottom (j + 1) (Mst.new lists)).S[i]? = some ⟨L, 0, false, n⟩ ∧ n ≤ L.length + 1 ∧ (1 < n → ∀ y, L[n - 2]? = some y → ¬ eless x y) := by
  obtain ⟨u, h1, h2, h3⟩ := h.1 j x hx
  refine ⟨by rw [h1], fun i L hL => ⟨u i, ?_, ?_, fun hn y hy => ?_⟩⟩
  · rw [itm_succ, h1]
    exact stU_get hL
  · have := (itm_bound (lists := lists) (bottom := bottom) (j + 1)).2.1
    rw [itm_succ, h1] at this
    exact this i _ (stU_get hL)
  · have hi := (List.getElem?_eq_some_iff.1 hL).1
    refine h3 i y hi ?_
    have : lx lists i = L := by unfold lx; rw [List.getD, hL]; rfl
    unfold tk
    rw [this]
    have : (L.take (u i - 1))[u i - 2]? = some y := by rw [List.getElem?_take_of_lt (by omega)]; exact hy
    exact List.mem_of_getElem? this

theorem OneLaw.ended {lists : List (List Ent)} {bottom : Bool} {R : List Ent} (h : OneLaw lists bottom R (Mst.new lists)) (k : Nat) :
    ((itm bottom (R.length + k) (Mst.new lists)).next bottom).1 = (zeroE, false, 0) ∧ ∀ (i : Nat) (L : List Ent), lists[i]? = some L → (itm bottom (R.length + (k + 1)) (Mst.new lists)).S[i]? = some ⟨L, 0, false, L.length + 1⟩ := by
  obtain ⟨u, h1, h2, h3⟩ := h.2
  have key : ∀ k, itm bottom (R.length + (k + 1)) (Mst.new lists) = stU lists u (fun _ => false) := by
    intro k
    induction k with
    | zero => rw [Nat.zero_add, itm_succ, h1]
    | succ k ih => rw [show R.length + (k + 1 + 1) = R.length + (k + 1) + 1 by omega, itm_succ, ih, next_done h2 h3]
  refine ⟨?_, fun i L hL => ?_⟩
  · cases k with
    | zero => rw [Nat.add_zero, h1]
    | succ k => rw [key k, next_done h2 h3]
  · rw [key k, stU_get hL]
    have hi := (List.getElem?_eq_some_iff.1 hL).1
    have hl : lx lists i = L := by unfold lx; rw [List.getD, hL]; rfl
    have hb := (itm_bound (lists := lists) (bottom := bottom) (R.length + (k + 1))).2.1
    rw [key k] at hb
    have hb := hb i _ (stU_get hL)
    simp only at hb
    have h4 := h3 i hi
    have h5 := h2 i hi
    unfold tk at h4
    rw [hl] at h4
    have := congrArg List.length h4
    rw [List.length_take] at this
    have : u i = L.length + 1 := by omega
    rw [this]

def encK (ks : List Kl) : List Value := ks.flatMap Kl.cells

theorem encK_cons (x : Kl) (ks : List Kl) : encK (x :: ks) = x.cells ++ encK ks := rfl
theorem encK_snoc (ks : List Kl) (x : Kl) : encK (ks ++ [x]) = encK ks ++ x.cells := by unfold encK; rw [List.flatMap_append]; simp
theorem kl_cells_length (x : Kl) : x.cells.length = 5 := rfl
theorem encK_length : ∀ (ks : List Kl), (encK ks).length = ks.length * 5
  | [] => rfl
  | x :: ks => by rw [encK_cons, List.length_append, encK_length ks, kl_cells_length, List.length_cons]; omega

theorem encK_get : ∀ (ks : List Kl) (i : Nat) (x : Kl), ks[i]? = some x → ∀ k, k < 5 → (encK ks)[i * 5 + k]? = x.cells[k]?
  | [], i, x, h, k, hk => by simp at h
  | y :: ks, 0, x, h, k, hk => by
    simp at h
    subst h
    rw [encK_cons, Nat.zero_mul, Nat.zero_add, List.getElem?_append_left (by rw [kl_cells_length]; exact hk)]
  | y :: ks, i + 1, x, h, k, hk => by
    rw [encK_cons, List.getElem?_append_right (by rw [kl_cells_length]; omega), kl_cells_length, show (i + 1) * 5 + k - 5 = i * 5 + k by omega]
    exact encK_get ks i x (by simpa using h) k hk

/-- A row of such lists of the call's own is readable. -/
theorem kls_own {W : World} {B n c : Nat} {p : Option Addr} {ks : List Kl} (h : W.ownsRow B 35 5 (.slice p n c) n (encK ks)) (hn : ks.length = n) (hE : ∀ x ∈ ks, EL W W.heap.size x.q x.es ∧ x.es.length ≤ 4398046511104) : KLs W W.heap.size p ks := by
  intro i x hx
  have hi := (List.getElem?_eq_some_iff.1 hx).1
  obtain ⟨q, d, e, _, _, hr⟩ := own_rd h
  simp only [Value.slice.injEq] at e
  obtain ⟨rfl, _, rfl⟩ := e
  obtain ⟨g, rfl, _, hg, hc, _⟩ := hr (by omega)
  have hcell : ∀ k, k < 5 → W.cell? ⟨g, i * 5 + k, none⟩ = x.cells[k]? := fun k hk => by rw [hc (i * 5 + k) (by omega), encK_get ks i x hx k hk]
  have ea : (⟨g, 0, none⟩ : Addr).add (i * 5) = ⟨g, i * 5, none⟩ := by unfold Addr.add; split <;> simp_all
  refine ⟨⟨g, 0, none⟩, rfl, ?_, (hE x (List.mem_of_getElem? hx)).1, (hE x (List.mem_of_getElem? hx)).2⟩
  rw [ea]
  exact ⟨hcell 0 (by decide), hcell 1 (by decide), hcell 2 (by decide), hcell 3 (by decide), hcell 4 (by decide)⟩

/-- Lists that Merge reads, as a law hands them to feeds. -/
def KsOf (W : World) (B : Nat) (p : Option Addr) (lists : List (List Ent)) (ks : List Kl) : Prop :=
  ks.map Kl.st = (Mst.new lists).S ∧ ks.length = lists.length ∧ ∀ (i : Nat) (x : Kl), ks[i]? = some x → lists[i]? = some x.es ∧ x.fin = 0 ∧ x.mute = false ∧ x.u3 = 0 ∧ x.dn = false ∧ (∃ a : Addr, p = some a ∧ a.block < B ∧ W.cell? (a.add i) = some (.slice x.q x.es.length x.c)) ∧ EL W B x.q x.es

theorem ks_ex {W : World} {B : Nat} {p : Option Addr} {lists : List (List Ent)} (h : LLs W B p lists) : ∃ ks, KsOf W B p lists ks := by
  have key : ∀ n, n ≤ lists.length → ∃ ks : List Kl, ks.length = n ∧ ∀ (i : Nat) (x : Kl), ks[i]? = some x → lists[i]? = some x.es ∧ x.fin = 0 ∧ x.mute = false ∧ x.u3 = 0 ∧ x.dn = false ∧ (∃ a : Addr, p = some a ∧ a.block < B ∧ W.cell? (a.add i) = some (.slice x.q x.es.length x.c)) ∧ EL W B x.q x.es := by
    intro n
    induction n with
    | zero => exact fun _ => ⟨[], rfl, fun i x hx => by simp at hx⟩
    | succ n ih =>
      intro hn
      obtain ⟨ks, hl, hk⟩ := ih (by omega)
      obtain ⟨L, hL⟩ : ∃ L, lists[n]? = some L := ⟨_, List.getElem?_eq_getElem (by omega)⟩
      obtain ⟨a, q, c, e, h1, h2, h3, h4⟩ := h n L hL
      refine ⟨ks ++ [⟨q, c, L, 0, false, 0, false⟩], by simp [hl], fun i x hx => ?_⟩
      rcases Nat.lt_or_ge i ks.length with hi | hi
      · rw [List.getElem?_append_left hi] at hx
        exact hk i x hx
      · rw [List.getElem?_append_right hi] at hx
        have h0 : i - ks.length = 0 := by
          have := (List.getElem?_eq_some_iff.1 hx).1
          simp at this
          omega
        have hin : i = n := by omega
        rw [h0] at hx
        simp at hx
        subst hx hin
        exact ⟨hL, rfl, rfl, rfl, rfl, ⟨a, e, h1, h2⟩, h4⟩
  obtain ⟨ks, hl, hk⟩ := key lists.length (Nat.le_refl _)
  refine ⟨ks, ?_, hl, hk⟩
  apply List.ext_getElem?
  intro i
  simp only [Mst.new, List.getElem?_map]
  cases hx : ks[i]? with
  | none =>
    have := List.getElem?_eq_none_iff.1 hx
    rw [List.getElem?_eq_none (by omega)]
    rfl
  | some x =>
    obtain ⟨h1, h2, h3, _⟩ := hk i x hx
    rw [h1]
    simp only [Option.map_some, Kl.st, h2, h3]

theorem MerAt.startF {wr w2 : World} {B mb hb : Nat} {sv v : Value} {ps : List (Nat × Bool)} {lists : List (List Ent)} {bottom : Bool} (hs : B ≤ wr.heap.size) (h5 : FdI B ps wr (Mst.new lists).S) (hl : ps.length = lists.length) (hwf : SWf (Mst.new lists).S) (hb2 : Below wr.heap.size wr w2) (hM : MrgIs w2 wr.heap.size mb hb sv (ps.map fdV) bottom false 0) (hP : PileD w2 wr.heap.size hb v []) :
    MerAt w2 B mb hb sv (ps.map fdV) bottom (FdI B ps) (Mst.new lists) :=
  ⟨⟨hM.box, Nat.le_trans hs hM.base, own_le hM.row hs⟩, h5.kp (Kp.of_below (B := B) (T := []) hb2) (by simp), by rw [List.length_map, hl]; exact new_ok lists, hwf, fun _ => new_fresh lists, v, [], ⟨hP.box, Nat.le_trans hs hP.base, own_le hP.row hs⟩, fun j _ h => absurd h (by simp), fun _ => by rw [new_stands]⟩

/-- What feed i counts. -/
theorem FdI.count {B : Nat} {ps : List (Nat × Bool)} {w : World} {S : List Sst} (h : FdI B ps w S) {i : Nat} {p : Nat × Bool} {st : Sst} (hp : ps[i]? = some p) (hs : S[i]? = some st) : w.cell? ⟨p.1, 5, none⟩ = some (.int .i64 st.used) ∧ p.1 < w.heap.size := by
  obtain ⟨_, _, _, q, c, u3, dn, h4, _⟩ := h.2.2 i p st hp hs
  refine ⟨?_, (Array.getElem?_eq_some_iff.1 h4).1⟩
  unfold fdB at h4
  rw [cell_of_row _ _ 5 _ _ _ h4]
  rfl
end Go.Proofs.Ytahdaccmokjgpaa
