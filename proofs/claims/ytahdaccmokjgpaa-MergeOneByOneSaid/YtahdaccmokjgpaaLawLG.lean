/-
  PLAIN: what Merge answers to the lists that the law begins with.
-/
import Derived.Test.YtahdaccmokjgpaaLawLL
namespace Go.Proofs.Ytahdaccmokjgpaa
open Go.RowKit ArgK
set_option linter.unusedVariables false

def bA : Ent := ⟨1, ⟨#[97]⟩, 1, 1, false⟩
def bD : Ent := ⟨1, ⟨#[97]⟩, 1, 5, true⟩
def bB : Ent := ⟨2, ⟨#[97]⟩, 1, 2, false⟩

theorem bA_B : eless bA bB := by decide

theorem words_one : Words [[bA, bB], [bD]] [bD, bB] := by
  refine ⟨by decide, fun e => ?_⟩
  constructor
  · intro h
    simp at h
    rcases h with rfl | rfl <;> decide
  · intro h
    simp at h
    obtain ⟨h1, h2⟩ := h
    rcases h1 with (rfl | rfl) | rfl
    · exact absurd h2 (by decide)
    · simp
    · simp

theorem twice_two {K L : List Ent} (h : ∀ x ∈ K, ∀ y ∈ L, eat x y → x.s ≠ y.s) : ¬ Twice [K, L] := by
  rintro ⟨i, j, x, y, hi, hj, hij, hx, hy, he, hs⟩
  simp only [List.length_cons, List.length_nil] at hi hj
  have hc : (i = 0 ∧ j = 1) ∨ (i = 1 ∧ j = 0) := by omega
  rcases hc with ⟨rfl, rfl⟩ | ⟨rfl, rfl⟩
  · exact h x hx y hy he hs
  · exact h y hy x hx (eat_symm he) hs.symm

theorem rises_two {K L : List Ent} (hK : K.Pairwise eless) (hL : L.Pairwise eless) : ∀ M ∈ [K, L], rises M := by
  intro M hM
  simp at hM
  rcases hM with rfl | rfl
  · exact rises_iff.2 hK
  · exact rises_iff.2 hL

theorem merge_words {lists : List (List Ent)} {words : List Ent} (bottom : Bool) (hr : ∀ L ∈ lists, rises L) (ht : ¬ Twice lists) (hW : Words lists words) : mergeM lists bottom = (words.filter (told bottom), 0) := by
  rcases mergeM_law bottom hr with ⟨h, _⟩ | ⟨_, ws, h, h2⟩
  · exact absurd h ht
  · rw [h, Words.unique h2 hW (fun e => Iff.rfl)]

theorem begun_one : mergeM [[bA, bB], [bD]] false = ([bD, bB], 0) := by
  rw [merge_words false (rises_two (by decide) (by decide)) (twice_two (by decide)) words_one]
  rfl

theorem words_two : Words [[bD], [bA, bB]] [bD, bB] := by
  refine ⟨by decide, fun e => ?_⟩
  constructor
  · intro h
    simp at h
    rcases h with rfl | rfl <;> decide
  · intro h
    simp at h
    obtain ⟨h1, h2⟩ := h
    rcases h1 with rfl | rfl | rfl
    · simp
    · exact absurd h2 (by decide)
    · simp

theorem begun_two : mergeM [[bD], [bA, bB]] true = ([bB], 0) := by
  rw [merge_words true (rises_two (by decide) (by decide)) (twice_two (by decide)) words_two]
  rfl

/-- No two have one place and one number. -/
def Dist (all : List Ent) : Prop := all.Pairwise (fun a b => ¬ (eat a b ∧ a.s = b.s))

theorem tw_false {out : List Ent} {x : Ent} (h : tw out x = false) : ∀ y ∈ out, ¬ (eat y x ∧ y.s = x.s) := by
  intro y hy ⟨h1, h2⟩
  unfold tw at h
  rw [List.any_eq_false] at h
  exact h y hy (by simp [h1, h2])

theorem freshF_dist : ∀ (l out : List Ent), Dist out → Dist (freshF out l)
  | [], out, h => h
  | x :: l, out, h => by
    rw [freshF]
    split
    · cases ht : tw out x with
      | true => simpa using freshF_dist l out h
      | false =>
        simp only [Bool.false_eq_true, if_false]
        refine freshF_dist l _ ?_
        unfold Dist
        rw [List.pairwise_append]
        refine ⟨h, List.pairwise_singleton _ _, fun a ha b hb => ?_⟩
        simp at hb
        subst hb
        exact tw_false ht a ha
    · exact h

theorem later_false {all : List Ent} {e : Ent} : later all e = false ↔ ∀ y ∈ all, eat e y → y.s ≤ e.s := by
  unfold later
  rw [List.any_eq_false]
  constructor
  · intro h y hy he
    have := h y hy
    simp [he] at this
    exact this
  · intro h y hy hc
    simp at hc
    have := h y hy hc.1
    omega

theorem lastG_gives {all : List Ent} (bottom : Bool) (hd : Dist all) : ∀ (rest acc pre : List Ent), all = pre ++ rest → rises acc → (∀ e, e ∈ acc ↔ e ∈ pre ∧ later all e = false ∧ told bottom e = true) → rises (lastG all bottom acc rest) ∧ ∀ e, e ∈ lastG all bottom acc rest ↔ e ∈ all ∧ later all e = false ∧ told bottom e = true
  | [], acc, pre, h, hr, hm => by
    rw [List.append_nil] at h
    subst h
    exact ⟨hr, hm⟩
  | x :: l, acc, pre, h, hr, hm => by
    have h2 : all = (pre ++ [x]) ++ l := by rw [h]; simp
    have hxa : x ∈ all := by rw [h]; simp
    rw [lastG]
    by_cases hc : (!later all x && (!bottom || !x.d)) = true
    · rw [if_pos hc]
      rw [Bool.and_eq_true] at hc
      have hlx : later all x = false := by simpa using hc.1
      have htx : told bottom x = true := hc.2
      have hnt : ¬ there acc x := by
        rintro ⟨y, hy, he⟩
        obtain ⟨hyp, hly, _⟩ := (hm y).1 (List.mem_of_getElem? hy)
        have hya : y ∈ all := by rw [h]; exact List.mem_append_left _ hyp
        have e1 := later_false.1 hly x hxa he
        have e2 := later_false.1 hlx y hya (eat_symm he)
        unfold Dist at hd
        rw [h, List.pairwise_append] at hd
        exact hd.2.2 y hyp x (List.mem_cons_self ..) ⟨he, by omega⟩
      have hp : putL acc x = insL acc x := by unfold putL; rw [if_neg hnt]
      rw [hp]
      refine lastG_gives bottom hd l _ _ h2 (insL_rises hr hnt) (fun e => ?_)
      rw [(insL_perm acc x).mem_iff, List.mem_cons, hm e, List.mem_append, List.mem_singleton]
      constructor
      · rintro (rfl | ⟨a, b⟩)
        · exact ⟨.inr rfl, hlx, htx⟩
        · exact ⟨.inl a, b⟩
      · rintro ⟨a | rfl, b⟩
        · exact .inr ⟨a, b⟩
        · exact .inl rfl
    · rw [if_neg hc]
      refine lastG_gives bottom hd l _ _ h2 hr (fun e => ?_)
      rw [hm e, List.mem_append, List.mem_singleton]
      constructor
      · rintro ⟨a, b⟩
        exact ⟨.inl a, b⟩
      · rintro ⟨a | rfl, b, c⟩
        · exact ⟨a, b, c⟩
        · refine absurd ?_ hc
          unfold told at c
          rw [b, c]
          rfl

theorem last_words {lists : List (List Ent)} {all words : List Ent} (bottom : Bool) (hd : Dist all) (hD : Dealt lists all) (hW : Words lists words) : lastG all bottom [] all = words.filter (told bottom) := by
  obtain ⟨h1, h2⟩ := lastG_gives bottom hd all [] [] (by simp) rises_nil (fun e => by simp)
  refine eless_unique (rises_iff.1 h1) (hW.1.filter _) (fun e => ?_)
  have hma : ∀ y, y ∈ all ↔ ∃ L ∈ lists, y ∈ L := fun y => by rw [← hD.2.1.mem_iff, List.mem_flatten]
  rw [h2 e, List.mem_filter, hW.2 e, later_false, hma e]
  constructor
  · rintro ⟨a, b, c⟩
    exact ⟨⟨a, fun L hL y hy he => b y ((hma y).2 ⟨L, hL, hy⟩) he⟩, c⟩
  · rintro ⟨⟨a, b⟩, c⟩
    refine ⟨a, fun y hy he => ?_, c⟩
    obtain ⟨L, hL, hyL⟩ := (hma y).1 hy
    exact b L hL y hyL he

theorem dist_flat {lists : List (List Ent)} {all : List Ent} (hd : Dist all) (hp : lists.flatten.Perm all) : lists.flatten.Pairwise (fun a b => ¬ (eat a b ∧ a.s = b.s)) :=
  (hp.pairwise_iff (fun {a b} h k => h ⟨eat_symm k.1, k.2.symm⟩)).2 hd

theorem not_twice {lists : List (List Ent)} {all : List Ent} (hd : Dist all) (hD : Dealt lists all) : ¬ Twice lists := by
  have hf := dist_flat hd hD.2.1
  rw [List.pairwise_flatten] at hf
  have hp := List.pairwise_iff_getElem.1 hf.2
  rintro ⟨i, j, x, y, hi, hj, hij, hx, hy, he, hs⟩
  unfold lx at hx hy
  simp only [List.getD, List.getElem?_eq_getElem hi, List.getElem?_eq_getElem hj, Option.getD_some] at hx hy
  rcases Nat.lt_or_gt_of_ne hij with h | h
  · exact hp i j hi hj h x hx y hy ⟨he, hs⟩
  · exact hp j i hj hi h y hy x hx ⟨eat_symm he, hs.symm⟩

/-- What Merge answers to lists that were dealt. -/
theorem merge_last {lists : List (List Ent)} {all : List Ent} (bottom : Bool) (hd : Dist all) (hD : Dealt lists all) : mergeM lists bottom = (lastG all bottom [] all, 0) := by
  rcases mergeM_law bottom hD.1 with ⟨h, _⟩ | ⟨_, ws, h, h2⟩
  · exact absurd h (not_twice hd hD)
  · rw [h, last_words bottom hd hD h2]

/-- What Merge answers to lists that were dealt, the first entry besides. -/
theorem merge_twice {lists : List (List Ent)} {all : List Ent} {x : Ent} (hD : Dealt lists all) (hx : x ∈ all) : (mergeM (lists ++ [[x]]) false).2 = 51 := by
  rcases mergeM_law (lists := lists ++ [[x]]) false (fun L hL => by
    rcases List.mem_append.1 hL with h | h
    · exact hD.1 L h
    · simp at h
      subst h
      exact rises_iff.2 (List.pairwise_singleton _ _)) with ⟨_, h⟩ | ⟨h, _⟩
  · exact h
  · refine absurd ?_ h
    obtain ⟨L, hL, hxL⟩ := List.mem_flatten.1 (hD.2.1.mem_iff.2 hx)
    obtain ⟨i, hi⟩ := List.getElem?_of_mem hL
    have hil := (List.getElem?_eq_some_iff.1 hi).1
    refine ⟨i, lists.length, x, x, by simp; omega, by simp, by omega, ?_, ?_, ⟨rfl, rfl, rfl⟩, rfl⟩
    · unfold lx
      rw [List.getD, List.getElem?_append_left hil, hi]
      exact hxL
    · unfold lx
      simp [List.getD]
end Go.Proofs.Ytahdaccmokjgpaa
