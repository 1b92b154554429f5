/-
  PLAIN: the document's merger as plain Lean, and that the program's goes the same way, step by step.
-/
import Derived.Test.YtahdaccmokjgpaaMrgR
import Derived.Test.YtahdaccmokjgpaaMrgU
namespace Go.Proofs.Ytahdaccmokjgpaa
open Go.RowKit ArgK
set_option linter.unusedVariables false

/-- The document's source: what it is, and are there no more. -/
structure Rl where
  s : Sst
  dn : Bool

/-- The document's merger. -/
structure Rmt where
  R : List Rl
  begun : Bool
  bad : Int

def Rl.top (x : Rl) : Ent := (x.s.es[x.s.used - 1]?).getD zeroE
def Rl.cur (x : Rl) : Option Ent := if x.dn then none else x.s.last
def Rl.asked (x : Rl) : Rl := ⟨x.s.asked.1, x.s.mute || (x.s.es[x.s.used]?).isNone⟩
def Stn (x : Rl) : Prop := x.dn = false → ∃ e, x.s.last = some e

def Rmt.ask (r : Rmt) (i : Nat) : Rmt := match r.R[i]? with
  | none => r
  | some x => if r.bad ≠ 0 ∨ x.dn = true then r else { r with R := r.R.set i x.asked, bad := x.s.asked.2.1 }

def Rmt.tick (out : Ent) (r : Rmt) (i : Nat) : Rmt := match r.R[i]? with
  | none => r
  | some x => if x.dn = false ∧ eat x.top out then r.ask i else r

def Rmt.sweep (out : Ent) : List Nat → Rmt → Rmt
  | [], r => r
  | i :: l, r => if (r.tick out i).bad ≠ 0 then r.tick out i else (r.tick out i).sweep out l

def Rmt.begins : List Nat → Rmt → Rmt
  | [], r => r
  | i :: l, r => (r.ask i).begins l

def atR (R : List Rl) (b : Nat) : Ent := match R[b]? with
  | some x => x.top
  | none => zeroE

/-- The best of the first ones. -/
def bestTo (R : List Rl) : Nat → Option Nat
  | 0 => none
  | i + 1 => match R[i]? with
    | none => bestTo R i
    | some x => if x.dn then bestTo R i else match bestTo R i with
      | none => some i
      | some b => if eless x.top (atR R b) ∨ (eat x.top (atR R b) ∧ (atR R b).s < x.top.s) then some i else some b

/-- Two of one place have one number. -/
def Dup (R : List Rl) (out : Ent) : Prop := ∃ (i j : Nat) (x y : Rl), j < i ∧ R[i]? = some x ∧ R[j]? = some y ∧ x.dn = false ∧ y.dn = false ∧ x.top.s = y.top.s ∧ eat x.top y.top ∧ eat x.top out

open Classical in
noncomputable def Rmt.step (r : Rmt) : Rmt × Ent × Bool := match bestTo r.R r.R.length with
  | none => (r, zeroE, false)
  | some b => if Dup r.R (atR r.R b) then ({ r with bad := 51 }, zeroE, false) else
    if (r.sweep (atR r.R b) (List.range' 0 r.R.length)).bad = 0 then (r.sweep (atR r.R b) (List.range' 0 r.R.length), atR r.R b, true) else (r.sweep (atR r.R b) (List.range' 0 r.R.length), zeroE, false)

/-- The program's merger and the document's, in one state. -/
structure Sim (n : Nat) (m : Mst) (r : Rmt) : Prop where
  ok : MOk n m
  S : m.S = r.R.map Rl.s
  begun : m.begun = r.begun
  bad : m.bad = r.bad
  fresh : r.begun = false → r.bad = 0 ∧ ∀ (i : Nat) (x : Rl), r.R[i]? = some x → x.dn = false ∧ x.s.used = 0 ∧ m.F[i]? = some none
  cur : r.begun = true → r.bad = 0 → ∀ (i : Nat) (x : Rl), r.R[i]? = some x → m.F[i]? = some x.cur ∧ Stn x

theorem Sim.len {n : Nat} {m : Mst} {r : Rmt} (h : Sim n m r) : r.R.length = n := by
  have := h.ok.lenS
  rw [h.S, List.length_map] at this
  exact this

theorem at_last {x : Rl} {e : Ent} (h : x.s.last = some e) : x.top = e ∧ x.s.es[x.s.used - 1]? = some e ∧ 0 < x.s.used := by
  unfold Sst.last at h
  split at h
  · cases h
  · next hu => exact ⟨by unfold Rl.top; rw [h]; rfl, h, by omega⟩

theorem Stn.top {x : Rl} (h : Stn x) (hd : x.dn = false) : x.s.es[x.s.used - 1]? = some x.top ∧ 0 < x.s.used ∧ x.cur = some x.top := by
  obtain ⟨e, he⟩ := h hd
  obtain ⟨h1, h2, h3⟩ := at_last he
  rw [h1]
  exact ⟨h2, h3, by unfold Rl.cur; rw [hd]; exact he⟩

theorem asked_cur (x : Rl) (h0 : x.s.asked.2.1 = 0) : x.s.asked.2.2 = x.asked.cur ∧ Stn x.asked := by
  obtain ⟨s, dn⟩ := x
  unfold Rl.asked Rl.cur Stn
  simp only at h0 ⊢
  unfold Sst.asked at h0 ⊢
  cases hm : s.mute
  · rw [hm] at h0
    simp only [Bool.false_eq_true, if_false] at h0 ⊢
    cases he : s.es[s.used]? with
    | none => simp
    | some e =>
      have hn := (next_last he).1
      rw [he] at h0
      simp only [Option.isNone_some, Bool.or_self, Bool.false_eq_true, if_false] at h0 ⊢
      cases hl : s.last with
      | none => exact ⟨hn.symm, fun _ => ⟨_, hn⟩⟩
      | some l =>
        rw [hl] at h0
        simp only at h0 ⊢
        split
        · exact ⟨hn.symm, fun _ => ⟨_, hn⟩⟩
        · next hc => rw [if_neg hc] at h0; exact absurd (show (50 : Int) = 0 from h0) (by decide)
  · simp

theorem Rmt.ask_eq {r : Rmt} {i : Nat} {x : Rl} (hb : r.bad = 0) (hx : r.R[i]? = some x) (hd : x.dn = false) : r.ask i = { r with R := r.R.set i x.asked, bad := x.s.asked.2.1 } := by
  unfold Rmt.ask
  rw [hx]
  simp [hb, hd]

theorem Rmt.ask_bad {r : Rmt} {i : Nat} (hb : r.bad ≠ 0) : r.ask i = r := by
  unfold Rmt.ask
  cases hx : r.R[i]? with
  | none => rfl
  | some x => simp [hb]

theorem Rmt.begins_bad {r : Rmt} (hb : r.bad ≠ 0) : ∀ (l : List Nat), r.begins l = r
  | [] => rfl
  | i :: l => by rw [Rmt.begins, Rmt.ask_bad hb]; exact Rmt.begins_bad hb l

theorem Rmt.ask_begun (r : Rmt) (i : Nat) : (r.ask i).begun = r.begun ∧ (r.ask i).R.length = r.R.length := by
  unfold Rmt.ask
  split
  · exact ⟨rfl, rfl⟩
  · split
    · exact ⟨rfl, rfl⟩
    · exact ⟨rfl, by simp⟩

theorem mask_eq {m : Mst} {r : Rmt} {i : Nat} {x : Rl} (hS : m.S = r.R.map Rl.s) (hx : r.R[i]? = some x) : m.ask i = { m with S := (r.R.set i x.asked).map Rl.s, F := m.F.set i x.s.asked.2.2, bad := x.s.asked.2.1 } := by
  have h1 : m.S[i]? = some x.s := by rw [hS, List.getElem?_map, hx]; rfl
  rw [ask_some h1, hS, List.map_set]
  rfl

theorem begins_sim {n : Nat} : ∀ (d k : Nat) (m : Mst) (r : Rmt), k + d = n → m.S = r.R.map Rl.s → r.R.length = n → m.F.length = n → m.bad = 0 → r.bad = 0 →
    (∀ (j : Nat) (x : Rl), r.R[j]? = some x → (j < k → m.F[j]? = some x.cur ∧ Stn x) ∧ (k ≤ j → x.dn = false)) →
    (m.asks (List.range' k d)).S = (r.begins (List.range' k d)).R.map Rl.s ∧ (m.asks (List.range' k d)).bad = (r.begins (List.range' k d)).bad ∧ (r.begins (List.range' k d)).begun = r.begun ∧ ((r.begins (List.range' k d)).bad = 0 → ∀ (j : Nat) (x : Rl), (r.begins (List.range' k d)).R[j]? = some x → (m.asks (List.range' k d)).F[j]? = some x.cur ∧ Stn x)
  | 0, k, m, r, hk, hS, hl, hF, hm, hr, hI => by
    refine ⟨hS, by rw [show m.asks (List.range' k 0) = m from rfl, show r.begins (List.range' k 0) = r from rfl, hm, hr], rfl, fun _ j x hx => (hI j x hx).1 ?_⟩
    have := (List.getElem?_eq_some_iff.1 hx).1
    simp only [show r.begins (List.range' k 0) = r from rfl] at this
    omega
  | d + 1, k, m, r, hk, hS, hl, hF, hm, hr, hI => by
    obtain ⟨x, hx⟩ : ∃ x, r.R[k]? = some x := ⟨_, List.getElem?_eq_getElem (by omega)⟩
    have hd := (hI k x hx).2 (Nat.le_refl _)
    have e1 := Rmt.ask_eq hr hx hd
    have e2 := mask_eq hS hx
    rw [List.range'_succ, Mst.asks, Rmt.begins]
    by_cases h0 : x.s.asked.2.1 = 0
    · have hc := asked_cur x h0
      have hb2 : (m.ask k).bad = 0 := by rw [e2]; exact h0
      rw [if_neg (by rw [hb2]; simp)]
      have ih := begins_sim (n := n) d (k + 1) (m.ask k) (r.ask k) (by omega) (by rw [e1, e2]) (by rw [e1]; simpa using hl) (by rw [e2]; simpa using hF) hb2 (by rw [e1]; exact h0) (fun j y hy => by
        rw [e1] at hy
        rw [e2]
        simp only at hy ⊢
        by_cases hj : j = k
        · subst hj
          rw [List.getElem?_set_self (l := r.R) (by omega)] at hy
          cases hy
          refine ⟨fun _ => ?_, fun h => by omega⟩
          rw [List.getElem?_set_self (l := m.F) (by omega), hc.1]
          exact ⟨rfl, hc.2⟩
        · rw [List.getElem?_set_ne (fun e => hj e.symm)] at hy ⊢
          exact ⟨fun h => (hI j y hy).1 (by omega), fun h => (hI j y hy).2 (by omega)⟩)
      rw [(Rmt.ask_begun r k).1] at ih
      exact ih
    · have hb2 : (m.ask k).bad ≠ 0 := by rw [e2]; exact h0
      have hb3 : (r.ask k).bad ≠ 0 := by rw [e1]; exact h0
      rw [if_pos hb2, Rmt.begins_bad hb3]
      exact ⟨by rw [e1, e2], by rw [e1, e2], (Rmt.ask_begun r k).1, fun h => absurd h hb3⟩

/-- Both begin. -/
theorem begin_sim {n : Nat} {m : Mst} {r : Rmt} (h : Sim n m r) (hb : r.begun = false) : Sim n m.begin (({ r with begun := true } : Rmt).begins (List.range' 0 n)) := by
  obtain ⟨h0, hf⟩ := h.fresh hb
  have hl := h.len
  have k := begins_sim n 0 { m with begun := true } { r with begun := true } (by omega) h.S hl h.ok.lenF (h.bad.trans h0) h0 (fun j x hx => ⟨fun hj => by omega, fun _ => (hf j x hx).1⟩)
  have e : m.begin = ({ m with begun := true } : Mst).asks (List.range' 0 n) := by
    unfold Mst.begin
    rw [h.ok.lenS, List.range_eq_range']
  rw [← e] at k
  exact ⟨begin_ok h.ok, k.1, by rw [(begin_stat m).2, k.2.2.1], k.2.1, fun hc => by rw [k.2.2.1] at hc; exact absurd hc (by simp), fun _ => k.2.2.2⟩

theorem stands_R {n : Nat} {m : Mst} {r : Rmt} (h : Sim n m r) (hb : r.begun = true) (h0 : r.bad = 0) {x : Hdv} : x ∈ stands m.F ↔ ∃ y, r.R[x.n]? = some y ∧ y.dn = false ∧ y.top = x.e := by
  rw [stands_mem]
  constructor
  · intro hx
    obtain ⟨y, hy⟩ : ∃ y, r.R[x.n]? = some y := ⟨_, List.getElem?_eq_getElem (by rw [h.len, ← h.ok.lenF]; exact (List.getElem?_eq_some_iff.1 hx).1)⟩
    obtain ⟨h1, h2⟩ := h.cur hb h0 _ y hy
    rw [h1] at hx
    simp only [Option.some.injEq] at hx
    have hd : y.dn = false := by
      cases hd : y.dn
      · rfl
      · unfold Rl.cur at hx; rw [hd] at hx; simp at hx
    refine ⟨y, hy, hd, ?_⟩
    rw [(h2.top hd).2.2] at hx
    exact Option.some.inj hx
  · rintro ⟨y, hy, hd, he⟩
    obtain ⟨h1, h2⟩ := h.cur hb h0 _ y hy
    rw [h1, (h2.top hd).2.2, he]

theorem atR_eq {R : List Rl} {b : Nat} {y : Rl} (h : R[b]? = some y) : atR R b = y.top := by unfold atR; rw [h]

theorem bestTo_spec (R : List Rl) : ∀ i : Nat, match bestTo R i with
    | none => ∀ (j : Nat) (x : Rl), j < i → R[j]? = some x → x.dn = true
    | some b => b < i ∧ ∃ y, R[b]? = some y ∧ y.dn = false ∧ ∀ (j : Nat) (x : Rl), j < i → R[j]? = some x → x.dn = false → ¬ eless x.top y.top ∧ (eat x.top y.top → x.top.s ≤ y.top.s)
  | 0 => fun j x hj => by omega
  | i + 1 => by
    have ih := bestTo_spec R i
    rw [bestTo]
    cases hx : R[i]? with
    | none =>
      simp only
      split
      · next h => rw [h] at ih; exact fun j x hj hjx => ih j x (by
          rcases Nat.lt_or_ge j i with k | k
          · exact k
          · obtain rfl : j = i := by omega
            rw [hx] at hjx; cases hjx) hjx
      · next b h =>
        rw [h] at ih
        obtain ⟨h1, y, h2, h3, h4⟩ := ih
        exact ⟨by omega, y, h2, h3, fun j x hj hjx => h4 j x (by
          rcases Nat.lt_or_ge j i with k | k
          · exact k
          · obtain rfl : j = i := by omega
            rw [hx] at hjx; cases hjx) hjx⟩
    | some x =>
      simp only
      have hji : ∀ {j : Nat}, j < i + 1 → j < i ∨ j = i := fun h => by omega
      cases hd : x.dn with
      | true =>
        simp only [if_true]
        split
        · next h =>
          rw [h] at ih
          intro j z hj hz
          rcases hji hj with k | rfl
          · exact ih j z k hz
          · rw [hx] at hz; cases hz; exact hd
        · next b h =>
          rw [h] at ih
          obtain ⟨h1, y, h2, h3, h4⟩ := ih
          refine ⟨by omega, y, h2, h3, fun j z hj hz hzd => ?_⟩
          rcases hji hj with k | rfl
          · exact h4 j z k hz hzd
          · rw [hx] at hz; cases hz; rw [hd] at hzd; cases hzd
      | false =>
        simp only [Bool.false_eq_true, if_false]
        cases hb : bestTo R i with
        | none =>
          rw [hb] at ih
          simp only
          refine ⟨by omega, x, hx, hd, fun j z hj hz hzd => ?_⟩
          rcases hji hj with k | rfl
          · have := ih j z k hz
            rw [hzd] at this; cases this
          · rw [hx] at hz; cases hz; exact ⟨eless_irrefl _, fun _ => Int.le_refl _⟩
        | some b =>
          rw [hb] at ih
          obtain ⟨h1, y, h2, h3, h4⟩ := ih
          simp only
          rw [atR_eq h2]
          split
          · next b' hif =>
            split at hif
            · next => cases hif
            · next => cases hif
          · next b' hif =>
            split at hif
            · next hc =>
              cases hif
              refine ⟨by omega, x, hx, hd, fun j z hj hz hzd => ?_⟩
              rcases hji hj with k | rfl
              · obtain ⟨k1, k2⟩ := h4 j z k hz hzd
                rcases hc with hc | ⟨hc, hs⟩
                · refine ⟨fun h => k1 (eless_trans h hc), fun h => absurd (eat_eless h hc) k1⟩
                · exact ⟨fun h => k1 (eless_eat h hc), fun h => by have := k2 (eat_trans h hc); omega⟩
              · rw [hx] at hz; cases hz; exact ⟨eless_irrefl _, fun _ => Int.le_refl _⟩
            · next hc =>
              cases hif
              refine ⟨by omega, y, h2, h3, fun j z hj hz hzd => ?_⟩
              rcases hji hj with k | rfl
              · exact h4 j z k hz hzd
              · rw [hx] at hz; cases hz
                refine ⟨fun h => hc (.inl h), fun h => ?_⟩
                rcases Int.lt_or_le y.top.s x.top.s with q | q
                · exact absurd (.inr ⟨h, q⟩) hc
                · exact q

theorem nodup_inj {α : Type} (f : α → Int) : ∀ {l : List α}, (l.map f).Nodup → ∀ {a b : α}, a ∈ l → b ∈ l → f a = f b → a = b
  | [], _, a, b, h, _, _ => by simp at h
  | c :: l, hn, a, b, ha, hb, he => by
    rw [List.map_cons, List.nodup_cons] at hn
    rcases List.mem_cons.1 ha with ea | ha'
    · rcases List.mem_cons.1 hb with eb | hb'
      · rw [ea, eb]
      · exact absurd (List.mem_map.2 ⟨b, hb', he.symm.trans (by rw [ea])⟩) hn.1
    · rcases List.mem_cons.1 hb with eb | hb'
      · exact absurd (List.mem_map.2 ⟨a, ha', he.trans (by rw [eb])⟩) hn.1
      · exact nodup_inj f hn.2 ha' hb' he

/-- Both in one state, behind asking. -/
def SwRes (m2 : Mst) (r2 r : Rmt) : Prop := m2.S = r2.R.map Rl.s ∧ m2.bad = r2.bad ∧ r2.begun = r.begun ∧ (r2.bad = 0 → ∀ (j : Nat) (x : Rl), r2.R[j]? = some x → m2.F[j]? = some x.cur ∧ Stn x)

theorem SwRes.of {m2 : Mst} {r2 r r' : Rmt} (h : SwRes m2 r2 r') (e : r'.begun = r.begun) : SwRes m2 r2 r := ⟨h.1, h.2.1, h.2.2.1.trans e, h.2.2.2⟩

theorem sweep_sim {n : Nat} {p out : Ent} (hpo : eat p out) (F0 : List (Option Ent)) (hF0 : F0.length = n) : ∀ (d k : Nat) (m : Mst) (r : Rmt), k + d = n → m.S = r.R.map Rl.s → r.R.length = n → m.F.length = n → m.bad = 0 → r.bad = 0 →
    (∀ (j : Nat) (x : Rl), r.R[j]? = some x → Stn x ∧ (j < k → m.F[j]? = some x.cur) ∧ (k ≤ j → F0[j]? = some x.cur ∧ m.F[j]? = (offPlace p F0)[j]?)) →
    SwRes (m.asks ((atPlace p (standsFrom k (F0.drop k))).map Hdv.n)) (r.sweep out (List.range' k d)) r
  | 0, k, m, r, hk, hS, hl, hF, hm, hr, hI => by
    have e : F0.drop k = [] := List.drop_eq_nil_of_le (by omega)
    rw [e]
    refine ⟨hS, ?_, rfl, fun _ j x hx => ?_⟩
    · show m.bad = r.bad
      rw [hm, hr]
    · have hx' : r.R[j]? = some x := hx
      have := (List.getElem?_eq_some_iff.1 hx').1
      exact ⟨(hI j x hx').2.1 (by omega), (hI j x hx').1⟩
  | d + 1, k, m, r, hk, hS, hl, hF, hm, hr, hI => by
    obtain ⟨x, hx⟩ : ∃ x, r.R[k]? = some x := ⟨_, List.getElem?_eq_getElem (by omega)⟩
    obtain ⟨hst, _, hI3⟩ := hI k x hx
    obtain ⟨hF0k, hFk⟩ := hI3 (Nat.le_refl _)
    have ed : F0.drop k = x.cur :: F0.drop (k + 1) := by
      rw [List.drop_eq_getElem_cons (by omega)]
      congr 1
      rw [List.getElem?_eq_getElem (by omega)] at hF0k
      exact Option.some.inj hF0k
    have eo : (offPlace p F0)[k]? = some (match x.cur with | none => none | some e => if eat p e then none else some e) := by
      unfold offPlace
      rw [List.getElem?_map, hF0k]
      rfl
    have hskip : r.tick out k = r → m.F[k]? = some x.cur → atPlace p (standsFrom k (F0.drop k)) = atPlace p (standsFrom (k + 1) (F0.drop (k + 1))) → SwRes (m.asks ((atPlace p (standsFrom k (F0.drop k))).map Hdv.n)) (r.sweep out (List.range' k (d + 1))) r := fun e1 e2 e3 => by
      have ih := sweep_sim hpo F0 hF0 d (k + 1) m r (by omega) hS hl hF hm hr (fun j y hy => by
        obtain ⟨q1, q2, q3⟩ := hI j y hy
        refine ⟨q1, fun hj => ?_, fun hj => q3 (by omega)⟩
        by_cases hjk : j = k
        · subst hjk
          rw [hx] at hy; cases hy; exact e2
        · exact q2 (by omega))
      rw [← e3] at ih
      have er : r.sweep out (List.range' k (d + 1)) = r.sweep out (List.range' (k + 1) d) := by
        rw [List.range'_succ, Rmt.sweep, e1, if_neg (by rw [hr]; simp)]
      rw [er]
      exact ih
    cases hd : x.dn with
    | true =>
      have hc : x.cur = none := by unfold Rl.cur; rw [hd]; rfl
      refine hskip (by unfold Rmt.tick; rw [hx]; simp [hd]) (by rw [hFk, eo, hc]) (by rw [ed, hc]; rfl)
    | false =>
      obtain ⟨_, _, hc⟩ := hst.top hd
      by_cases he : eat p x.top
      · have ht : r.tick out k = r.ask k := by
          unfold Rmt.tick
          rw [hx]
          exact if_pos ⟨hd, eat_trans (eat_symm he) hpo⟩
        have e1 := Rmt.ask_eq hr hx hd
        have e2 := mask_eq hS hx
        have es : atPlace p (standsFrom k (F0.drop k)) = ⟨x.top, k⟩ :: atPlace p (standsFrom (k + 1) (F0.drop (k + 1))) := by
          rw [ed, hc, standsFrom]
          unfold atPlace
          rw [List.filter_cons]
          simp [he]
        rw [es, List.map_cons, List.range'_succ, Mst.asks, Rmt.sweep, ht]
        by_cases h0 : x.s.asked.2.1 = 0
        · have hca := asked_cur x h0
          have hb2 : (m.ask k).bad = 0 := by rw [e2]; exact h0
          have hb3 : (r.ask k).bad = 0 := by rw [e1]; exact h0
          rw [if_neg (by rw [hb2]; simp), if_neg (by rw [hb3]; simp)]
          have ih := sweep_sim hpo F0 hF0 d (k + 1) (m.ask k) (r.ask k) (by omega) (by rw [e1, e2]) (by rw [e1]; simpa using hl) (by rw [e2]; simpa using hF) hb2 hb3 (fun j y hy => by
            rw [e1] at hy
            rw [e2]
            simp only at hy ⊢
            by_cases hj : j = k
            · subst hj
              rw [List.getElem?_set_self (l := r.R) (by omega)] at hy
              cases hy
              refine ⟨hca.2, fun _ => ?_, fun h => by omega⟩
              rw [List.getElem?_set_self (l := m.F) (by omega), hca.1]
            · rw [List.getElem?_set_ne (fun e => hj e.symm)] at hy ⊢
              obtain ⟨q1, q2, q3⟩ := hI j y hy
              exact ⟨q1, fun h => q2 (by omega), fun h => q3 (by omega)⟩)
          exact ih.of (Rmt.ask_begun r k).1
        · have hb2 : (m.ask k).bad ≠ 0 := by rw [e2]; exact h0
          have hb3 : (r.ask k).bad ≠ 0 := by rw [e1]; exact h0
          rw [if_pos hb2, if_pos hb3]
          exact ⟨by rw [e1, e2], by rw [e1, e2], (Rmt.ask_begun r k).1, fun h => absurd h hb3⟩
      · refine hskip ?_ ?_ ?_
        · unfold Rmt.tick
          rw [hx]
          exact if_neg (fun h => he (eat_trans hpo (eat_symm h.2)))
        · rw [hFk, eo, hc]
          simp [he]
        · rw [ed, hc, standsFrom]
          unfold atPlace
          rw [List.filter_cons]
          simp [he]

/-- One step of both. -/
theorem step_sim {n : Nat} {m : Mst} {r : Rmt} (h : Sim n m r) (hb : r.begun = true) (h0 : r.bad = 0) : m.step.2 = r.step.2 ∧ Sim n m.step.1 r.step.1 := by
  have hl := h.len
  have hsp := bestTo_spec r.R r.R.length
  have hok := step_ok h.ok
  have hbg := (step_stat m).2
  have hst := @stands_R n m r h hb h0
  cases hbt : bestTo r.R r.R.length with
  | none =>
    rw [hbt] at hsp
    have he : stands m.F = [] := by
      cases hs : stands m.F with
      | nil => rfl
      | cons x L =>
        obtain ⟨y, h1, h2, _⟩ := (@hst x).1 (by rw [hs]; simp)
        have := hsp _ y (List.getElem?_eq_some_iff.1 h1).1 h1
        rw [h2] at this; cases this
    have e1 : m.step = (m, zeroE, false) := by unfold Mst.step; rw [he]; rfl
    have e2 : r.step = (r, zeroE, false) := by unfold Rmt.step; rw [hbt]
    rw [e1, e2]
    exact ⟨rfl, h⟩
  | some b =>
    rw [hbt] at hsp
    obtain ⟨h1, y, h2, h3, h4⟩ := hsp
    have hyb : (⟨y.top, b⟩ : Hdv) ∈ stands m.F := (@hst ⟨y.top, b⟩).2 ⟨y, h2, h3, rfl⟩
    obtain ⟨p, hp⟩ : ∃ p, leastE (stands m.F) = some p := by
      cases hp : leastE (stands m.F) with
      | some p => exact ⟨p, rfl⟩
      | none => rw [leastE_none hp] at hyb; simp at hyb
    obtain ⟨⟨z, hz, hze⟩, hmin⟩ := leastE_some hp
    have hpy : eat p y.top := by
      obtain ⟨t, t1, t2, t3⟩ := (@hst z).1 hz
      have k1 := (h4 _ t (List.getElem?_eq_some_iff.1 t1).1 t1 t2).1
      rw [t3, hze] at k1
      have k2 := hmin _ hyb
      rcases eless_or p y.top with k | k | k
      · exact absurd k k1
      · exact k
      · exact absurd k k2
    have hyl : (⟨y.top, b⟩ : Hdv) ∈ atPlace p (stands m.F) := by
      unfold atPlace
      rw [List.mem_filter]
      exact ⟨hyb, by simpa using hpy⟩
    have hml : ∀ x : Hdv, x ∈ atPlace p (stands m.F) ↔ x ∈ stands m.F ∧ eat p x.e := fun x => by
      unfold atPlace
      rw [List.mem_filter]
      simp
    have hne : atPlace p (stands m.F) ≠ [] := fun e => by rw [e] at hyl; simp at hyl
    have hat := atR_eq h2
    have hdup : Dup r.R y.top ↔ ¬ ((atPlace p (stands m.F)).map (fun y => y.e.s)).Nodup := by
      constructor
      · rintro ⟨i, j, x, x', d1, d2, d3, d4, d5, d6, d7, d8⟩ hn
        have m1 : (⟨x.top, i⟩ : Hdv) ∈ atPlace p (stands m.F) := (hml _).2 ⟨hst.2 ⟨x, d2, d4, rfl⟩, eat_trans hpy (eat_symm d8)⟩
        have m2 : (⟨x'.top, j⟩ : Hdv) ∈ atPlace p (stands m.F) := (hml _).2 ⟨hst.2 ⟨x', d3, d5, rfl⟩, eat_trans hpy (eat_trans (eat_symm d8) d7)⟩
        have := nodup_inj (fun y : Hdv => y.e.s) hn m1 m2 d6
        injection this with _ e
        omega
      · intro hn
        rcases Classical.em (Dup r.R y.top) with hd | hd
        · exact hd
        · exfalso
          apply hn
          have hs := (stands_sorted m.F).filter (fun x => decide (eat p x.e))
          show List.Pairwise _ _
          rw [List.pairwise_map]
          refine List.Pairwise.imp_of_mem ?_ hs
          intro a c ha hc hlt he
          obtain ⟨a1, a2⟩ := (hml a).1 ha
          obtain ⟨c1, c2⟩ := (hml c).1 hc
          obtain ⟨ya, q1, q2, q3⟩ := hst.1 a1
          obtain ⟨yc, s1, s2, s3⟩ := hst.1 c1
          exact hd ⟨c.n, a.n, yc, ya, hlt, s1, q1, s2, q2, by rw [q3, s3]; exact he.symm, by rw [q3, s3]; exact eat_trans (eat_symm c2) a2, by rw [s3]; exact eat_trans (eat_symm c2) hpy⟩
    cases hw : wordOf (atPlace p (stands m.F)) with
    | none =>
      have hD := hdup.2 (wordOf_none hw hne)
      have e1 : m.step = ({ m with F := offPlace p m.F, bad := 51 }, zeroE, false) := by unfold Mst.step; rw [hp]; simp only [hw]
      have e2 : r.step = ({ r with bad := 51 }, zeroE, false) := by unfold Rmt.step; rw [hbt]; simp only; rw [hat, if_pos hD]
      rw [e1] at hok hbg
      rw [e1, e2]
      exact ⟨rfl, hok, h.S, h.begun, rfl, fun hc => (by rw [show r.begun = true from hb] at hc; cases hc), fun _ hc => absurd hc (by simp)⟩
    | some be =>
      obtain ⟨⟨x, hx, hxe⟩, hmax, hnd⟩ := wordOf_some hw
      have hD : ¬ Dup r.R y.top := fun hd => hdup.1 hd hnd
      have hbe : be = y.top := by
        have k1 := hmax _ hyl
        obtain ⟨x1, x2⟩ := (hml x).1 hx
        obtain ⟨t, t1, t2, t3⟩ := hst.1 x1
        have k2 := (h4 _ t (List.getElem?_eq_some_iff.1 t1).1 t1 t2).2 (by rw [t3]; exact eat_trans (eat_symm x2) hpy)
        rw [t3, hxe] at k2
        have := nodup_inj (fun y : Hdv => y.e.s) hnd hx hyl (by simp only; rw [hxe]; simp only at k1; omega)
        rw [← hxe, this]
      subst hbe
      have ks := sweep_sim (n := n) (p := p) (out := y.top) hpy m.F h.ok.lenF n 0 { m with F := offPlace p m.F } r (by omega) h.S hl (by simp [offPlace, h.ok.lenF]) (h.bad.trans h0) h0 (fun j x hx => by
        obtain ⟨q1, q2⟩ := h.cur hb h0 j x hx
        exact ⟨q2, fun hj => by omega, fun _ => ⟨q1, rfl⟩⟩)
      rw [List.drop_zero] at ks
      have ks' : SwRes (({ m with F := offPlace p m.F } : Mst).asks ((atPlace p (stands m.F)).map Hdv.n)) (r.sweep y.top (List.range' 0 n)) r := ks
      obtain ⟨k1, k2, k3, k4⟩ := ks'
      have e1 : m.step = if (({ m with F := offPlace p m.F } : Mst).asks ((atPlace p (stands m.F)).map Hdv.n)).bad = 0 then (({ m with F := offPlace p m.F } : Mst).asks ((atPlace p (stands m.F)).map Hdv.n), y.top, true) else (({ m with F := offPlace p m.F } : Mst).asks ((atPlace p (stands m.F)).map Hdv.n), zeroE, false) := by unfold Mst.step; rw [hp]; simp only [hw]
      have e2 : r.step = if (r.sweep y.top (List.range' 0 n)).bad = 0 then (r.sweep y.top (List.range' 0 n), y.top, true) else (r.sweep y.top (List.range' 0 n), zeroE, false) := by unfold Rmt.step; rw [hbt]; simp only; rw [hat, if_neg hD, hl]
      have hS1 : m.step.1 = ({ m with F := offPlace p m.F } : Mst).asks ((atPlace p (stands m.F)).map Hdv.n) := by rw [e1]; split <;> rfl
      have hR1 : r.step.1 = r.sweep y.top (List.range' 0 n) := by rw [e2]; split <;> rfl
      refine ⟨?_, hok, by rw [hS1, hR1]; exact k1, by rw [hbg, h.begun, hR1, k3], by rw [hS1, hR1]; exact k2, fun hc => (by rw [hR1, k3, hb] at hc; cases hc), fun _ hc => (by rw [hR1] at hc ⊢; rw [hS1]; exact k4 hc)⟩
      rw [e1, e2, k2]
      split <;> rfl
end Go.Proofs.Ytahdaccmokjgpaa
