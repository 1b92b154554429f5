/-
  PLAIN LAWS: a file's index and its blocks; where what is asked for lies.
-/
import Derived.Test.YtihgjihdmlomaaaDoorJBtB
import Derived.Test.YtihgjihdmlomaaaDoorJBsH
namespace Go.Proofs.YtihgjihdmlomaaaDoor
open Go.RowKit
set_option linter.unusedVariables false

theorem putBlock_lines : ∀ (gs : List (List Ent)) (st : BSt), (gs.foldl putBlock st).lines.map (fun x => (x.first, x.count)) = st.lines.map (fun x => (x.first, x.count)) ++ gs.map (fun g => (g.headD zE, g.length))
  | [], st => by simp
  | g :: gs, st => by
    rw [List.foldl_cons, putBlock_lines gs]
    simp [putBlock]

theorem linesB_map (h : Hd) (l : List Ent) : (linesB h l).map (fun x => (x.first, x.count)) = (groups l).map (fun g => (g.headD zE, g.length)) := by
  have := putBlock_lines (groups l) (headSt h l)
  simpa [linesB, blocksSt, headSt] using this
theorem linesB_length (h : Hd) (l : List Ent) : (linesB h l).length = (groups l).length := by
  have := congrArg List.length (linesB_map h l)
  simpa using this
theorem linesB_at {h : Hd} {l : List Ent} {i : Nat} {x : Ln} (hx : (linesB h l)[i]? = some x) : ∃ g, (groups l)[i]? = some g ∧ x.first = g.headD zE ∧ x.count = g.length := by
  have h1 := congrArg (fun L => L[i]?) (linesB_map h l)
  simp only [List.getElem?_map, hx, Option.map_some] at h1
  cases hg : (groups l)[i]? with
  | none => rw [hg] at h1; cases h1
  | some g =>
    rw [hg] at h1
    simp only [Option.map_some, Option.some.injEq, Prod.mk.injEq] at h1
    exact ⟨g, rfl, h1.1, h1.2⟩
theorem linesB_count (h : Hd) (l : List Ent) : (linesB h l).map Ln.count = (groups l).map List.length := by
  have h1 := congrArg (List.map Prod.snd) (linesB_map h l)
  simpa [List.map_map, Function.comp_def] using h1
theorem groups_flat (l : List Ent) : (groups l).flatten = l := grp_flat szE l

theorem offL_groups (h : Hd) (l : List Ent) (i : Nat) : offL (linesB h l) i = ((groups l).take i).flatten.length := by
  unfold offL
  rw [List.map_take, linesB_count, ← List.map_take, List.length_flatten]
theorem linesB_sum (h : Hd) (l : List Ent) : ((linesB h l).map Ln.count).sum = l.length := by
  rw [linesB_count, ← List.length_flatten, groups_flat]
theorem linesB_pos (h : Hd) {l : List Ent} (hg : ∀ e ∈ l, Good e) : ∀ x ∈ linesB h l, 0 < x.count := by
  intro x hx
  obtain ⟨i, hi⟩ := List.mem_iff_getElem?.1 hx
  obtain ⟨g, h1, _, h2⟩ := linesB_at hi
  have := (group_good hg (List.mem_of_getElem? h1)).1
  have := List.length_pos_iff.2 this
  omega
theorem linesB_le (h : Hd) {l : List Ent} (hg : ∀ e ∈ l, Good e) : (linesB h l).length ≤ l.length := by
  rw [linesB_length]
  exact groups_le hg

theorem flat_split {α : Type} : ∀ (gs : List (List α)) (i : Nat) (g : List α), gs[i]? = some g → gs.flatten = (gs.take i).flatten ++ (g ++ (gs.drop (i + 1)).flatten)
  | [], i, g, h => by simp at h
  | x :: gs, 0, g, h => by
    simp at h
    subst h
    simp
  | x :: gs, i + 1, g, h => by
    have := flat_split gs i g (by simpa using h)
    simp only [List.flatten_cons, List.take_succ_cons, List.drop_succ_cons]
    rw [this]
    simp

theorem blkL_group (h : Hd) {l : List Ent} {i : Nat} {g : List Ent} (hg : (groups l)[i]? = some g) : blkL l (linesB h l) i = g := by
  have h1 := flat_split (groups l) i g hg
  rw [groups_flat] at h1
  have h2 : ((groups l).take (i + 1)).flatten = ((groups l).take i).flatten ++ g := by
    rw [List.take_add_one, hg]
    simp
  unfold blkL
  rw [offL_groups, offL_groups, h2, List.length_append]
  generalize ((groups l).take i).flatten = A at h1 ⊢
  generalize ((groups l).drop (i + 1)).flatten = B at h1
  rw [h1, List.drop_left, Nat.add_sub_cancel_left, List.take_left]

/-- Find's walk over the blocks themselves. -/
def findG (value : Int) : List (List Ent) → List Ent → Nat → List Ent × Nat
  | [], out, r => (out, r)
  | g :: gs, out, r => if lastB g value then (out ++ g.filter (fun x => decide (x.v = value)), r + 1) else findG value gs (out ++ g.filter (fun x => decide (x.v = value))) (r + 1)
def fromG (en : Ent) (M : Nat) : List (List Ent) → List Ent → Nat → List Ent × Nat
  | [], out, r => (out, r)
  | g :: gs, out, r => if (g.foldl (addF en M) out).length = M then (g.foldl (addF en M) out, r + 1) else fromG en M gs (g.foldl (addF en M) out) (r + 1)

theorem findR_G (h : Hd) (l : List Ent) (value : Int) : ∀ (k i : Nat) (out : List Ent) (r : Nat), i + k = (groups l).length → findR l (linesB h l) value k i out r = findG value ((groups l).drop i) out r
  | 0, i, out, r, hk => by
    rw [List.drop_of_length_le (by omega)]
    rfl
  | k + 1, i, out, r, hk => by
    obtain ⟨g, hg⟩ : ∃ g, (groups l)[i]? = some g := ⟨_, List.getElem?_eq_getElem (by omega)⟩
    have hd : (groups l).drop i = g :: (groups l).drop (i + 1) := by
      obtain ⟨hi, e⟩ := List.getElem?_eq_some_iff.1 hg
      rw [List.drop_eq_getElem_cons hi, e]
    rw [hd, findR, findG, blkL_group h hg, findR_G h l value k (i + 1) _ _ (by omega)]
theorem fromR_G (h : Hd) (l : List Ent) (en : Ent) (M : Nat) : ∀ (k i : Nat) (out : List Ent) (r : Nat), i + k = (groups l).length → fromR l (linesB h l) en M k i out r = fromG en M ((groups l).drop i) out r
  | 0, i, out, r, hk => by
    rw [List.drop_of_length_le (by omega)]
    rfl
  | k + 1, i, out, r, hk => by
    obtain ⟨g, hg⟩ : ∃ g, (groups l)[i]? = some g := ⟨_, List.getElem?_eq_getElem (by omega)⟩
    have hd : (groups l).drop i = g :: (groups l).drop (i + 1) := by
      obtain ⟨hi, e⟩ := List.getElem?_eq_some_iff.1 hg
      rw [List.drop_eq_getElem_cons hi, e]
    rw [hd, fromR, fromG, blkL_group h hg, fromR_G h l en M k (i + 1) _ _ (by omega)]

/-- A file's entries stand in order. -/
theorem goesGo_chain {h : Hd} : ∀ (l : List Ent) (o : Option Ent), goesGo h o l = 0 → l.Pairwise eless ∧ ∀ y, o = some y → ∀ x ∈ l, eless y x
  | [], o, _ => ⟨List.Pairwise.nil, fun y _ x hx => by simp at hx⟩
  | x :: l, o, hg => by
    rw [goesGo] at hg
    split at hg
    · next h1 => exact absurd hg h1
    · next h1 =>
      split at hg
      · cases hg
      · next hb =>
        obtain ⟨h2, h3⟩ := goesGo_chain l (some x) hg
        refine ⟨List.Pairwise.cons (h3 x rfl) h2, ?_⟩
        rintro y rfl z hz
        have hyx : eless y x := by simpa [badAfter] using hb
        rcases List.mem_cons.1 hz with rfl | hz
        · exact hyx
        · exact eless_trans hyx (h3 x rfl z hz)
theorem goesR_sorted {h : Hd} {l : List Ent} (hg : goesR h l = 0) : l.Pairwise eless := by
  obtain ⟨hh, hl, _⟩ := goesR_good hg
  unfold goesR at hg
  rw [if_neg (by simp [hh]), if_neg (by omega)] at hg
  exact (goesGo_chain l none hg).1
theorem goesR_fits {h : Hd} {l : List Ent} (hg : goesR h l = 0) : ∀ e ∈ l, fitsR h e = 0 := by
  obtain ⟨hh, hl, _⟩ := goesR_good hg
  unfold goesR at hg
  rw [if_neg (by simp [hh]), if_neg (by omega)] at hg
  exact goesGo_fits l none hg

/-- Blocks in order: what stands in one stands ahead of what stands in a later one. -/
theorem sorted_flat {gs : List (List Ent)} (h : gs.flatten.Pairwise eless) : (∀ g ∈ gs, g.Pairwise eless) ∧ gs.Pairwise (fun a b => ∀ x ∈ a, ∀ y ∈ b, eless x y) := List.pairwise_flatten.1 h

theorem mem_headD {g : List Ent} (h : g ≠ []) : g.headD zE ∈ g := by
  cases g with
  | nil => exact absurd rfl h
  | cons x g => simp
theorem head_le {g : List Ent} (h : g.Pairwise eless) {x : Ent} (hx : x ∈ g) : x = g.headD zE ∨ eless (g.headD zE) x := by
  cases g with
  | nil => simp at hx
  | cons y g =>
    rcases List.mem_cons.1 hx with rfl | hx
    · exact .inl rfl
    · exact .inr (List.rel_of_pairwise_cons h hx)

/-- The blocks that begin behind a place are the last ones. -/
theorem behind_mono {h : Hd} {l : List Ent} (hs : l.Pairwise eless) (hg : ∀ e ∈ l, Good e) (en : Ent) : ∀ i j, i ≤ j → j < (linesB h l).length → behindI en (linesB h l) i = true → behindI en (linesB h l) j = true := by
  intro i j hij hj hi
  obtain ⟨x, hx⟩ : ∃ x, (linesB h l)[i]? = some x := ⟨_, List.getElem?_eq_getElem (by omega)⟩
  obtain ⟨y, hy⟩ : ∃ y, (linesB h l)[j]? = some y := ⟨_, List.getElem?_eq_getElem hj⟩
  rcases Nat.eq_or_lt_of_le hij with rfl | hlt
  · exact hi
  obtain ⟨g, h1, h2, _⟩ := linesB_at hx
  obtain ⟨g', k1, k2, _⟩ := linesB_at hy
  unfold behindI behindB at hi ⊢
  rw [hx] at hi
  rw [hy]
  simp only [decide_eq_true_eq, cmpE_pos] at hi ⊢
  rw [← groups_flat l] at hs
  have hp := (sorted_flat hs).2
  obtain ⟨q1, e1⟩ := List.getElem?_eq_some_iff.1 h1
  obtain ⟨q2, e2⟩ := List.getElem?_eq_some_iff.1 k1
  have := List.pairwise_iff_getElem.1 hp i j q1 q2 hlt
  rw [e1, e2] at this
  have n1 := (group_good hg (List.mem_of_getElem? h1)).1
  have n2 := (group_good hg (List.mem_of_getElem? k1)).1
  have hlt2 := this _ (mem_headD n1) _ (mem_headD n2)
  rw [← h2, ← k2] at hlt2
  exact eless_trans hi hlt2

theorem lastB_some {g : List Ent} {v : Int} (h : lastB g v = true) : ∃ x ∈ g, v < x.v ∧ g.getLast? = some x := by
  unfold lastB at h
  cases hl : g.getLast? with
  | none => rw [hl] at h; cases h
  | some x =>
    rw [hl] at h
    exact ⟨x, List.mem_of_getLast? hl, by simpa using h, rfl⟩

theorem eless_v {a b : Ent} (h : eless a b) : a.v ≤ b.v := by
  unfold eless at h
  omega

/-- Find over blocks in order: the filter. -/
theorem findG_filter (value : Int) : ∀ (gs : List (List Ent)) (out : List Ent) (r : Nat), gs.Pairwise (fun a b => ∀ x ∈ a, ∀ y ∈ b, eless x y) → (findG value gs out r).1 = out ++ gs.flatten.filter (fun x => decide (x.v = value))
  | [], out, r, _ => by simp [findG]
  | g :: gs, out, r, hp => by
    rw [findG]
    by_cases hl : lastB g value = true
    · rw [if_pos hl]
      obtain ⟨x, hx, hv, _⟩ := lastB_some hl
      have hz : gs.flatten.filter (fun x => decide (x.v = value)) = [] := by
        rw [List.filter_eq_nil_iff]
        intro y hy
        obtain ⟨b, hb, hyb⟩ := List.mem_flatten.1 hy
        have := eless_v (List.rel_of_pairwise_cons hp hb x hx y hyb)
        simp only [decide_eq_true_eq]
        omega
      simp [List.filter_append, hz]
    · rw [if_neg hl, findG_filter value gs _ _ (List.Pairwise.of_cons hp)]
      simp [List.filter_append]

theorem findG_le (value : Int) : ∀ (gs : List (List Ent)) (out : List Ent) (r : Nat), r ≤ (findG value gs out r).2 ∧ (findG value gs out r).2 ≤ r + gs.length
  | [], out, r => by simp [findG]
  | g :: gs, out, r => by
    rw [findG]
    split
    · simp
    · have := findG_le value gs (out ++ g.filter (fun x => decide (x.v = value))) (r + 1)
      rw [List.length_cons]
      omega
theorem findG_one (value : Int) (g : List Ent) (gs : List (List Ent)) (out : List Ent) (r : Nat) : r + 1 ≤ (findG value (g :: gs) out r).2 := by
  rw [findG]
  split
  · exact Nat.le_refl _
  · exact (findG_le value gs _ (r + 1)).1

/-- How many blocks are read of those that begin behind the value's first place. -/
theorem findG_reads (value : Int) : ∀ (gs : List (List Ent)) (out : List Ent) (r : Nat), (∀ g ∈ gs, g ≠ [] ∧ g.Pairwise eless ∧ value ≤ (g.headD zE).v) → (findG value gs out r).2 ≤ r + (gs.flatten.filter (fun x => decide (x.v = value))).length + 1
  | [], out, r, _ => by simp [findG]
  | g :: gs, out, r, hg => by
    rw [findG]
    by_cases hl : lastB g value = true
    · rw [if_pos hl]
      simp only
      omega
    · rw [if_neg hl]
      have h1 := findG_reads value gs (out ++ g.filter (fun x => decide (x.v = value))) (r + 1) (fun x hx => hg x (by simp [hx]))
      obtain ⟨n1, n2, n3⟩ := hg g (by simp)
      have h2 : 0 < (g.filter (fun x => decide (x.v = value))).length := by
        obtain ⟨y, hy⟩ : ∃ y, g.getLast? = some y := ⟨_, List.getLast?_eq_some_getLast n1⟩
        have hym := List.mem_of_getLast? hy
        have hyv : y.v ≤ value := by
          unfold lastB at hl
          rw [hy] at hl
          simpa using hl
        refine List.length_pos_of_mem (List.mem_filter.2 ⟨mem_headD n1, ?_⟩)
        rcases head_le n2 hym with e | e
        · rw [← e]
          simp only [decide_eq_true_eq]
          rw [e] at hyv ⊢
          omega
        · have := eless_v e
          simp only [decide_eq_true_eq]
          omega
      rw [List.flatten_cons, List.filter_append, List.length_append]
      omega

/-- From over blocks: what is taken of the entries one by one. -/
theorem addF_full {en : Ent} {M : Nat} {F : List Ent} (h : F.length = M) : ∀ l : List Ent, l.foldl (addF en M) F = F
  | [] => rfl
  | x :: l => by
    have : addF en M F x = F := by unfold addF; rw [if_neg (by omega)]
    rw [List.foldl_cons, this, addF_full h l]
theorem fromG_fold (en : Ent) (M : Nat) : ∀ (gs : List (List Ent)) (out : List Ent) (r : Nat), (fromG en M gs out r).1 = gs.flatten.foldl (addF en M) out
  | [], out, r => rfl
  | g :: gs, out, r => by
    rw [fromG, List.flatten_cons, List.foldl_append]
    split
    · next h => rw [addF_full h]
    · rw [fromG_fold en M gs]
theorem fromG_le (en : Ent) (M : Nat) : ∀ (gs : List (List Ent)) (out : List Ent) (r : Nat), r ≤ (fromG en M gs out r).2 ∧ (fromG en M gs out r).2 ≤ r + gs.length
  | [], out, r => by simp [fromG]
  | g :: gs, out, r => by
    rw [fromG]
    split
    · simp
    · have := fromG_le en M gs (g.foldl (addF en M) out) (r + 1)
      rw [List.length_cons]
      omega
theorem addF_skip {en : Ent} {M : Nat} : ∀ (l F : List Ent), (∀ x ∈ l, eless x en) → l.foldl (addF en M) F = F
  | [], F, _ => rfl
  | x :: l, F, h => by
    have h1 := cmpE_neg.2 (h x (by simp))
    have : addF en M F x = F := by
      unfold addF
      rw [if_neg (by omega : ¬ 0 ≤ cmpE x en)]
      simp
    rw [List.foldl_cons, this, addF_skip l F (fun y hy => h y (by simp [hy]))]

/-- What stands in blocks ahead of the one from which is read. -/
theorem ahead_of {h : Hd} {l : List Ent} (hs : l.Pairwise eless) (hg : ∀ e ∈ l, Good e) {en : Ent} {s : Nat} (hp : Parted (behindI en (linesB h l)) (linesB h l).length s) : ∀ x ∈ ((groups l).take (s - 1)).flatten, eless x en := by
  intro x hx
  obtain ⟨g, hgm, hxg⟩ := List.mem_flatten.1 hx
  obtain ⟨i, hi⟩ := List.mem_iff_getElem?.1 hgm
  have hi2 : i < s - 1 := by
    have := (List.getElem?_eq_some_iff.1 hi).1
    rw [List.length_take] at this
    omega
  rw [List.getElem?_take_of_lt hi2] at hi
  obtain ⟨p1, p2, p3⟩ := hp
  have hL := linesB_length h l
  obtain ⟨y, hy⟩ : ∃ y, (linesB h l)[s - 1]? = some y := ⟨_, List.getElem?_eq_getElem (by omega)⟩
  have hb := p2 (s - 1) (by omega)
  unfold behindI behindB at hb
  rw [hy] at hb
  simp only [decide_eq_false_iff_not, cmpE_pos] at hb
  obtain ⟨g', k1, k2, _⟩ := linesB_at hy
  rw [← groups_flat l] at hs
  have hpw := (sorted_flat hs).2
  obtain ⟨q1, e1⟩ := List.getElem?_eq_some_iff.1 hi
  obtain ⟨q2, e2⟩ := List.getElem?_eq_some_iff.1 k1
  have := List.pairwise_iff_getElem.1 hpw i (s - 1) q1 q2 hi2
  rw [e1, e2] at this
  have n2 := (group_good hg (List.mem_of_getElem? k1)).1
  have hlt := this x hxg _ (mem_headD n2)
  rw [← k2] at hlt
  rcases eless_or y.first en with h1 | h1 | h1
  · exact eless_trans hlt h1
  · exact eless_eat hlt h1
  · exact absurd h1 hb

theorem drop_flat (l : List Ent) (f : Nat) : l = ((groups l).take f).flatten ++ ((groups l).drop f).flatten := by
  rw [← List.flatten_append, List.take_append_drop, groups_flat]

/-- The place from which Find reads. -/
def plE (value : Int) : Ent := ⟨value, ⟨#[]⟩, -1, 0, false⟩
theorem eless_plE {value : Int} {x : Ent} (hi : 0 ≤ x.i) (h : eless x (plE value)) : x.v < value := by
  unfold eless plE at h
  rcases h with h | ⟨h1, h | ⟨h2, h3⟩⟩
  · exact h
  · exfalso
    unfold sless at h
    have e : (⟨#[]⟩ : ByteArray).toList = [] := by rw [ByteArray.toList_eq]
    simp only [e] at h
    cases hx : x.c.toList with
    | nil => rw [hx] at h; simp [Op.bytesLess] at h
    | cons a b => rw [hx] at h; simp [Op.bytesLess] at h
  · simp only at h3; omega

/-- What Find tells, and how many blocks it reads. -/
theorem find_law {h : Hd} {l : List Ent} (hgo : goesR h l = 0) (value : Int) (r0 s : Nat) (hp : Parted (behindI (plE value) (linesB h l)) (linesB h l).length s) :
    (findR l (linesB h l) value ((linesB h l).length - (s - 1)) (s - 1) [] r0).1 = l.filter (fun x => decide (x.v = value)) ∧
    r0 ≤ (findR l (linesB h l) value ((linesB h l).length - (s - 1)) (s - 1) [] r0).2 ∧ (findR l (linesB h l) value ((linesB h l).length - (s - 1)) (s - 1) [] r0).2 ≤ r0 + (l.filter (fun x => decide (x.v = value))).length + 2 ∧
    (findR l (linesB h l) value ((linesB h l).length - (s - 1)) (s - 1) [] r0).2 ≤ r0 + (linesB h l).length ∧ (0 < l.length → r0 + 1 ≤ (findR l (linesB h l) value ((linesB h l).length - (s - 1)) (s - 1) [] r0).2) := by
  have hgd := (goesR_good hgo).2.2
  have hs := goesR_sorted hgo
  have hft := goesR_fits hgo
  have hL := linesB_length h l
  have hi0 : ∀ e ∈ l, 0 ≤ e.i := fun e he => (fits_read (goesR_good hgo).1 (hft e he)).2.2.2.1
  have hA := ahead_of hs hgd hp
  obtain ⟨p1, p2, p3⟩ := hp
  rw [findR_G h l value _ (s - 1) [] r0 (by omega)]
  obtain ⟨f, hf⟩ : ∃ f, s - 1 = f := ⟨_, rfl⟩
  rw [hf] at hA ⊢
  have hd := drop_flat l f
  have hpw := (sorted_flat (by rw [groups_flat]; exact hs : (groups l).flatten.Pairwise eless))
  have hpd : ((groups l).drop f).Pairwise (fun a b => ∀ x ∈ a, ∀ y ∈ b, eless x y) := hpw.2.sublist (List.drop_sublist _ _)
  have hz : (((groups l).take f).flatten).filter (fun x => decide (x.v = value)) = [] := by
    rw [List.filter_eq_nil_iff]
    intro y hy
    have hyl : y ∈ l := by rw [hd]; exact List.mem_append_left _ hy
    have := eless_plE (hi0 y hyl) (hA y hy)
    simp only [decide_eq_true_eq]
    omega
  have hfl : l.filter (fun x => decide (x.v = value)) = ((groups l).drop f).flatten.filter (fun x => decide (x.v = value)) := by
    conv => lhs; rw [hd, List.filter_append, hz, List.nil_append]
  have hle := findG_le value ((groups l).drop f) [] r0
  refine ⟨by rw [findG_filter value _ [] r0 hpd, List.nil_append, ← hfl], hle.1, ?_, ?_, ?_⟩
  · have hbeh : ∀ g ∈ (groups l).drop (f + 1), g ≠ [] ∧ g.Pairwise eless ∧ value ≤ (g.headD zE).v := by
      intro g hgm
      have hgm2 := List.mem_of_mem_drop hgm
      refine ⟨(group_good hgd hgm2).1, hpw.1 g hgm2, ?_⟩
      obtain ⟨i, hi⟩ := List.mem_iff_getElem?.1 hgm
      rw [List.getElem?_drop] at hi
      have hi3 := (List.getElem?_eq_some_iff.1 hi).1
      have hb := p3 (f + 1 + i) (by omega) (by omega)
      obtain ⟨y, hy⟩ : ∃ y, (linesB h l)[f + 1 + i]? = some y := ⟨_, List.getElem?_eq_getElem (by omega)⟩
      obtain ⟨g', k1, k2, _⟩ := linesB_at hy
      rw [hi] at k1
      cases k1
      unfold behindI behindB at hb
      rw [hy] at hb
      simp only [decide_eq_true_eq, cmpE_pos] at hb
      rw [k2] at hb
      have := eless_v hb
      exact this
    rw [hfl]
    by_cases hN : f < (groups l).length
    · obtain ⟨g, hg⟩ : ∃ g, (groups l)[f]? = some g := ⟨_, List.getElem?_eq_getElem hN⟩
      have hdr : (groups l).drop f = g :: (groups l).drop (f + 1) := by
        obtain ⟨hi, e⟩ := List.getElem?_eq_some_iff.1 hg
        rw [List.drop_eq_getElem_cons hi, e]
      rw [hdr, findG]
      split
      · simp only; omega
      · have h1 := findG_reads value ((groups l).drop (f + 1)) ([] ++ g.filter (fun x => decide (x.v = value))) (r0 + 1) hbeh
        rw [List.flatten_cons, List.filter_append, List.length_append]
        omega
    · rw [List.drop_of_length_le (by omega)]
      simp [findG]
  · have h2 := hle.2
    rw [List.length_drop] at h2
    omega
  · intro hl0
    have hN : 0 < (groups l).length := by
      apply Nat.pos_of_ne_zero
      intro h0
      have h1 : groups l = [] := List.eq_nil_of_length_eq_zero h0
      have h2 := groups_flat l
      rw [h1] at h2
      rw [← h2] at hl0
      simp at hl0
    obtain ⟨g, hg⟩ : ∃ g, (groups l)[f]? = some g := ⟨_, List.getElem?_eq_getElem (by omega)⟩
    have hdr : (groups l).drop f = g :: (groups l).drop (f + 1) := by
      obtain ⟨hi, e⟩ := List.getElem?_eq_some_iff.1 hg
      rw [List.drop_eq_getElem_cons hi, e]
    rw [hdr]
    exact findG_one value g _ [] r0

/-- What From tells. -/
theorem from_law {h : Hd} {l : List Ent} (hgo : goesR h l = 0) (en : Ent) (M : Nat) (r0 s : Nat) (hp : Parted (behindI en (linesB h l)) (linesB h l).length s) :
    (fromR l (linesB h l) en M ((linesB h l).length - (s - 1)) (s - 1) [] r0).1 = l.foldl (addF en M) [] ∧
    r0 ≤ (fromR l (linesB h l) en M ((linesB h l).length - (s - 1)) (s - 1) [] r0).2 ∧ (fromR l (linesB h l) en M ((linesB h l).length - (s - 1)) (s - 1) [] r0).2 ≤ r0 + (linesB h l).length := by
  have hgd := (goesR_good hgo).2.2
  have hs := goesR_sorted hgo
  have hL := linesB_length h l
  have hA := ahead_of hs hgd hp
  obtain ⟨p1, p2, p3⟩ := hp
  rw [fromR_G h l en M _ (s - 1) [] r0 (by omega)]
  have hle := fromG_le en M ((groups l).drop (s - 1)) [] r0
  refine ⟨?_, hle.1, by have h2 := hle.2; rw [List.length_drop] at h2; omega⟩
  rw [fromG_fold]
  conv => rhs; rw [drop_flat l (s - 1), List.foldl_append, addF_skip _ _ hA]

/-- How many blocks there are at the most. -/
theorem grpGo_few {sz : Ent → Nat} {m : Nat} : ∀ (l cur : List Ent) (u : Nat), (∀ x ∈ l, sz x ≤ 153) → u = sumSz sz cur → (∀ x ∈ cur, sz x ≤ 153) → (grpGo sz l cur u).length * 25 ≤ cur.length + l.length + 25
  | [], cur, u, _, hu, hc => by
    unfold grpGo
    split <;> simp
  | x :: l, cur, u, hl, hu, hc => by
    unfold grpGo
    have hx := hl x (by simp)
    split
    · next h =>
      have h1 := grpGo_few (m := m) l [x] (sz x) (fun y hy => hl y (by simp [hy])) (by simp [sumSz]) (by intro y hy; rw [List.mem_singleton] at hy; subst hy; exact hx)
      have h2 := sumSz_le cur hc
      simp only [List.length_cons, List.length_nil] at h1 ⊢
      omega
    · have h1 := grpGo_few (m := m) l (cur ++ [x]) (u + sz x) (fun y hy => hl y (by simp [hy])) (by rw [sumSz_append, ← hu]; simp [sumSz]) (by
        intro y hy
        rcases List.mem_append.1 hy with hy | hy
        · exact hc y hy
        · rw [List.mem_singleton] at hy; subst hy; exact hx)
      simp only [List.length_append, List.length_cons, List.length_nil] at h1 ⊢
      omega
theorem linesB_few (h : Hd) {l : List Ent} (hg : ∀ e ∈ l, Good e) (hl : l.length ≤ 2097152) : (linesB h l).length ≤ 131072 := by
  have h1 := grpGo_few (m := 0) (sz := szE) l [] 0 (fun x hx => (writtenB_len (hg x hx)).2) rfl (fun x hx => by simp at hx)
  rw [linesB_length]
  unfold groups grp
  simp only [List.length_nil] at h1
  omega
end Go.Proofs.YtihgjihdmlomaaaDoor
