/-
  MergeLists: the argument read, and both merges' contracts in one word.
-/
import Derived.Test.YtahdaccmokjgpaaApM
import Derived.Test.YtahdaccmokjgpaaArgEn
namespace Go.Proofs.Ytahdaccmokjgpaa
open Go.RowKit ArgK
set_option linter.unusedVariables false

/-- What the row says of a list of entries. -/
theorem el_arg {w : World} {v : Value} {z : List Ent} (h : IsSl w 5 48 IsEnt [v] z) : ∃ (p : Option Addr) (c : Nat), v = .slice p z.length c ∧ (p = none → z.length = 0 ∧ c = 0) ∧ z.length ≤ c ∧ EL w w.heap.size p z ∧ ∀ x ∈ z, (Lit.int .i64 x.s).wf = true := by
  obtain ⟨hz1, hz2⟩ := h
  rcases hz2 with ⟨h, rfl⟩ | ⟨a, cap, h, h1, h2, hc⟩
  · cases h
    exact ⟨none, 0, rfl, fun _ => ⟨rfl, rfl⟩, Nat.le_refl _, fun i x hx => by simp at hx, fun x hx => by simp at hx⟩
  · cases h
    refine ⟨some a, cap, rfl, (fun e => by cases e), by omega, fun i x hx => ?_, fun x hx => ?_⟩
    · obtain ⟨c, _, hr, hcell⟩ := hc i x hx
      obtain ⟨rfl, _⟩ := hr
      have h0 := hcell 0 (by decide)
      have hlt : a.block < w.heap.size := by have := cell_lt h0; rw [add_blockE] at this; exact this
      refine ⟨a, rfl, hlt, h0, ?_, ?_, ?_, ?_⟩
      · rw [add_field _ _ _ (by decide)]; exact hcell 1 (by decide)
      · rw [add_field _ _ _ (by decide)]; exact hcell 2 (by decide)
      · rw [add_field _ _ _ (by decide)]; exact hcell 3 (by decide)
      · rw [add_field _ _ _ (by decide)]; exact hcell 4 (by decide)
    · obtain ⟨i, hi⟩ := List.getElem?_of_mem hx
      obtain ⟨c, _, hr, _⟩ := hc i x hi
      exact hr.2.2.2.2

theorem lists_of_arg {w : World} {v : Value} {zz : List (List Ent)} (h : IsSl w 1 24 (IsSl w 5 48 IsEnt) [v] zz) :
    ∃ (p : Option Addr) (cap : Nat), v = .slice p zz.length cap ∧ LLs w w.heap.size p zz ∧ NilOk w p zz ∧ ∀ L ∈ zz, ∀ x ∈ L, (Lit.int .i64 x.s).wf = true := by
  obtain ⟨h1, h2⟩ := h
  rcases h2 with ⟨h, rfl⟩ | ⟨a, cap, h, hlc, hcm, hc⟩
  · cases h
    exact ⟨none, 0, rfl, fun i x hx => by simp at hx, fun i L a c hi => by simp at hi, fun L hL => by simp at hL⟩
  · cases h
    have hcell : ∀ (i : Nat) (z : List Ent), zz[i]? = some z → ∃ u, w.cell? (a.add i) = some u ∧ IsSl w 5 48 IsEnt [u] z := fun i z hz => by
      obtain ⟨c, hcl, hr, hcell⟩ := hc i z hz
      match c, hcl with
      | [u], _ =>
        have hu := hcell 0 (by decide)
        simp only [Nat.mul_one, Nat.add_zero, List.getElem?_cons_zero] at hu
        exact ⟨u, hu, hr⟩
    refine ⟨some a, cap, rfl, fun i z hz => ?_, fun i z a' c hz ha hu => ?_, fun z hz => ?_⟩
    · obtain ⟨u, hu, hr⟩ := hcell i z hz
      obtain ⟨p, c, rfl, _, hl, hE, _⟩ := el_arg hr
      exact ⟨a, p, c, rfl, by have := cell_lt hu; rw [add_blockE] at this; exact this, hu, hl, hE⟩
    · cases ha
      obtain ⟨u', hu', hr⟩ := hcell i z hz
      obtain ⟨p, c', rfl, hp, _, _⟩ := el_arg hr
      rw [hu] at hu'
      cases hu'
      exact hp rfl
    · obtain ⟨i, hi⟩ := List.getElem?_of_mem hz
      obtain ⟨u, _, hr⟩ := hcell i z hi
      obtain ⟨_, _, _, _, _, _, hw⟩ := el_arg hr
      exact hw

theorem bk_len (l : List Ent) : l.length ≤ (l.map bkEnt).sum := by
  induction l with
  | nil => simp
  | cons x l ih => simp only [List.map_cons, List.sum_cons, List.length_cons]; unfold bkEnt at *; omega
theorem bk_flat (zz : List (List Ent)) : zz.flatten.length + zz.length ≤ (zz.map fun l => (l.map bkEnt).sum + 1).sum := by
  induction zz with
  | nil => simp
  | cons x l ih =>
    have := bk_len x
    simp only [List.map_cons, List.sum_cons, List.length_cons, List.flatten_cons, List.length_append]
    omega

/-- What a merge answers: a row of its own and a number. -/
def MrgE (w : World) (T : List Ent) (ec : Int) (e : Ending) (w' : World) : Prop :=
  ∃ v, e = .returned (.tuple #[v, .int .i64 ec]) ∧ w'.ownsRow w.heap.size 24 5 v T.length (encE T) ∧ Below w.heap.size w w'
theorem MrgE.of {w w' : World} {r : List Ent × Int} {e : Ending} (h : MergePost w r e w') (hr : r.2 ≠ 0 → r.1 = []) : MrgE w r.1 r.2 e w' := by
  obtain ⟨v, h1, h2, h3, h4⟩ := h
  refine ⟨v, h1, ?_, h2⟩
  by_cases h : r.2 = 0
  · exact h3 h
  · rw [hr h, h4 h]
    exact World.ownsRow_nil _ _ _ _
theorem MrgE.nil {w w' : World} {ec : Int} {e : Ending} (he : e = .returned (.tuple #[.slice none 0 0, .int .i64 ec])) (h : Below w.heap.size w w') : MrgE w [] ec e w' := ⟨_, he, World.ownsRow_nil _ _ _ _, h⟩

open Classical in
noncomputable def docX (lists : List (List Ent)) (bottom : Bool) : List Ent × Int := if 1024 < lists.length then ([], 43) else docM lists bottom
theorem docM_err (lists : List (List Ent)) (bottom : Bool) : (docM lists bottom).2 ≠ 0 → (docM lists bottom).1 = [] := by
  unfold docM
  split
  · intro _; rfl
  · split
    · intro _; rfl
    · intro h; exact absurd rfl h
theorem docX_len (lists : List (List Ent)) (bottom : Bool) : (docX lists bottom).1.length ≤ lists.flatten.length := by
  unfold docX docM
  split
  · simp
  · split
    · simp
    · split
      · simp
      · have h1 := puts_length lists.flatten []
        have h2 := List.length_filter_le (told bottom) (lists.flatten.foldl rput [])
        simp only [List.length_nil, Nat.zero_add] at h1
        show (List.filter (told bottom) _).length ≤ _
        omega

set_option maxRecDepth 100000 in
theorem prog_many {W : World} {p : Option Addr} {n c : Nat} (bottom : Bool) (hn : 1024 < n) : Calls Try.prog 22 #[.slice p n c, .bool bottom] W (MrgE W [] 43) := by
  have hd : decide ((1024 : Int) < (n : Int)) = true := by simp; omega
  go_enter Try.func22, Try.ntmps22
  go_wp2
  go_ret2
  exact MrgE.nil rfl (Below.refl _ _)

set_option maxRecDepth 100000 in
theorem ref_many {W : World} {p : Option Addr} {n c : Nat} (bottom : Bool) (hn : 1024 < n) : Calls Try.prog 20 #[.slice p n c, .bool bottom] W (MrgE W [] 43) := by
  have hd : decide ((1024 : Int) < (n : Int)) = true := by simp; omega
  go_enter Try.func20, Try.ntmps20
  go_wp2
  go_ret2
  exact MrgE.nil rfl (Below.refl _ _)

theorem part_le {lists : List (List Ent)} {L : List Ent} (h : L ∈ lists) : L.length ≤ lists.flatten.length := by
  obtain ⟨i, hi⟩ := List.getElem?_of_mem h
  have := flat_take_part hi
  omega

theorem prog_merge {W : World} {p : Option Addr} {n c : Nat} {lists : List (List Ent)} (bottom : Bool) (hn : lists.length = n) (hf : lists.flatten.length + lists.length ≤ 1048576) (hL : LLs W W.heap.size p lists) (hwf : ∀ L ∈ lists, ∀ x ∈ L, (Lit.int .i64 x.s).wf = true) :
    Calls Try.prog 22 #[.slice p n c, .bool bottom] W (MrgE W (docX lists bottom).1 (docX lists bottom).2) := by
  by_cases h1024 : 1024 < n
  · have e : docX lists bottom = ([], 43) := by unfold docX; rw [if_pos (by omega)]
    rw [e]
    exact prog_many bottom h1024
  · have e : docX lists bottom = docM lists bottom := by unfold docX; rw [if_neg (by omega)]
    rw [e]
    have hlen := mergeM_length lists bottom
    refine (Merge_calls (n := n) (c := c) bottom hn (by omega) hL (fun L h => by have := part_le h; omega) (by omega) (swf_new hwf)).mono (fun e w' h => ?_)
    refine MrgE.of ?_ (docM_err lists bottom)
    by_cases hr : ∃ L ∈ lists, ¬ rises L
    · have e2 : docM lists bottom = ([], 50) := by unfold docM; rw [if_pos hr]
      rw [e2]
      exact h.2 hr
    · have hr' : ∀ L ∈ lists, rises L := fun L hL => Classical.byContradiction (fun h => hr ⟨L, hL, h⟩)
      have h3 := h.1 hr'
      rcases merge_docs bottom hr' with ⟨ht, he⟩ | ⟨ht, he⟩
      · have e2 : docM lists bottom = ([], 51) := by unfold docM; rw [if_neg hr, if_pos ht]
        rw [e2]
        obtain ⟨v, q1, q2, q3, q4⟩ := h3
        rw [he] at q1 q4
        exact ⟨v, q1, q2, fun h => absurd h (by decide), fun _ => q4 (by decide)⟩
      · have e2 : docM lists bottom = mergeM lists bottom := by unfold docM; rw [if_neg hr, if_neg ht, he]
        rw [e2]
        exact h3
theorem ref_merge {W : World} {p : Option Addr} {n c : Nat} {lists : List (List Ent)} (bottom : Bool) (hn : lists.length = n) (hf : lists.flatten.length + lists.length ≤ 1048576) (hL : LLs W W.heap.size p lists) :
    Calls Try.prog 20 #[.slice p n c, .bool bottom] W (MrgE W (docX lists bottom).1 (docX lists bottom).2) := by
  by_cases h1024 : 1024 < n
  · have e : docX lists bottom = ([], 43) := by unfold docX; rw [if_pos (by omega)]
    rw [e]
    exact ref_many bottom h1024
  · have e : docX lists bottom = docM lists bottom := by unfold docX; rw [if_neg (by omega)]
    rw [e]
    exact (RMerge_calls bottom hn (by omega) hL (fun L h => by have := part_le h; omega) (by omega)).mono (fun e w' h => MrgE.of h (docM_err lists bottom))

/-- The lists moved. -/
theorem moved_shape (zz : List (List Ent)) : (zz.map movedL).map List.length = zz.map List.length := by
  rw [List.map_map]
  exact List.map_congr_left (fun L _ => movedL_length L)
theorem moved_flat (zz : List (List Ent)) : (zz.map movedL).flatten.length = zz.flatten.length := by
  rw [List.length_flatten, List.length_flatten, moved_shape]
theorem wf_half {s : Int} (h : (Lit.int .i64 s).wf = true) : (Lit.int .i64 (s.tdiv 2)).wf = true := by
  have hmn : IntKind.i64.min = -9223372036854775808 := by rfl
  have hmx : IntKind.i64.max = 9223372036854775807 := by rfl
  simp [Lit.wf, hmn, hmx] at h ⊢
  rcases Int.le_total 0 s with h1 | h1
  · rw [Int.tdiv_eq_ediv_of_nonneg h1]; omega
  · obtain ⟨k, rfl⟩ : ∃ k : Int, s = -k := ⟨-s, by omega⟩
    rw [Int.neg_tdiv, Int.tdiv_eq_ediv_of_nonneg (by omega)]
    omega
theorem moved_wf {zz : List (List Ent)} (h : ∀ L ∈ zz, ∀ x ∈ L, (Lit.int .i64 x.s).wf = true) : ∀ L ∈ zz.map movedL, ∀ x ∈ L, (Lit.int .i64 x.s).wf = true := by
  intro L hL x hx
  obtain ⟨M, hM, rfl⟩ := List.mem_map.1 hL
  cases M with
  | nil => simp [movedL] at hx
  | cons y r =>
    simp only [movedL, List.mem_cons] at hx
    rcases hx with rfl | hx
    · exact wf_half (h _ hM y (by simp))
    · exact h _ hM x (by simp [hx])
end Go.Proofs.Ytahdaccmokjgpaa
