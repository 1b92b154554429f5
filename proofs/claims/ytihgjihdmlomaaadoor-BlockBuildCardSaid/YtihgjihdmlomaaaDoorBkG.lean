/-
  SORTED FILES as plain Lean: texts one behind the other in blocks; a file's bytes.
-/
import Derived.Test.YtihgjihdmlomaaaDoorBkE
namespace Go.Proofs.YtihgjihdmlomaaaDoor
open Go.RowKit
set_option linter.unusedVariables false

/-- Items in groups: each goes to the last one while there is room. -/
def grpGo {α : Type} (sz : α → Nat) : List α → List α → Nat → List (List α)
  | [], cur, _ => if cur.isEmpty then [] else [cur]
  | x :: l, cur, u => if 4096 < u + sz x then cur :: grpGo sz l [x] (sz x) else grpGo sz l (cur ++ [x]) (u + sz x)

def grp {α : Type} (sz : α → Nat) (l : List α) : List (List α) := grpGo sz l [] 0

def sumSz {α : Type} (sz : α → Nat) (l : List α) : Nat := (l.map sz).sum
theorem sumSz_append {α : Type} (sz : α → Nat) (a b : List α) : sumSz sz (a ++ b) = sumSz sz a + sumSz sz b := by simp [sumSz]

theorem grpGo_flat {α : Type} (sz : α → Nat) : ∀ (l cur : List α) (u : Nat), (grpGo sz l cur u).flatten = cur ++ l
  | [], cur, u => by
    unfold grpGo
    cases cur <;> simp
  | x :: l, cur, u => by
    unfold grpGo
    split
    · rw [List.flatten_cons, grpGo_flat sz l]; simp
    · rw [grpGo_flat sz l]; simp

theorem grp_flat {α : Type} (sz : α → Nat) (l : List α) : (grp sz l).flatten = l := grpGo_flat sz l [] 0

theorem grpGo_ok {α : Type} (sz : α → Nat) : ∀ (l cur : List α) (u : Nat), (∀ x ∈ l, 0 < sz x ∧ sz x ≤ 4096) → u = sumSz sz cur → u ≤ 4096 → ∀ g ∈ grpGo sz l cur u, g ≠ [] ∧ sumSz sz g ≤ 4096
  | [], cur, u, hl, hu, h4, g, hg => by
    unfold grpGo at hg
    split at hg
    · cases hg
    · next hc =>
      simp at hg hc
      subst hg
      exact ⟨hc, by omega⟩
  | x :: l, cur, u, hl, hu, h4, g, hg => by
    unfold grpGo at hg
    have hx := hl x (by simp)
    have hl' : ∀ y ∈ l, 0 < sz y ∧ sz y ≤ 4096 := fun y hy => hl y (by simp [hy])
    split at hg
    · next hlt =>
      rcases List.mem_cons.1 hg with rfl | hg
      · refine ⟨fun e => ?_, by omega⟩
        subst e
        simp [sumSz] at hu
        omega
      · exact grpGo_ok sz l [x] (sz x) hl' (by simp [sumSz]) hx.2 g hg
    · exact grpGo_ok sz l (cur ++ [x]) (u + sz x) hl' (by rw [sumSz_append, ← hu]; simp [sumSz]) (by omega) g hg

theorem grp_ok {α : Type} {sz : α → Nat} {l : List α} (h : ∀ x ∈ l, 0 < sz x ∧ sz x ≤ 4096) : ∀ g ∈ grp sz l, g ≠ [] ∧ sumSz sz g ≤ 4096 := grpGo_ok sz l [] 0 h rfl (Nat.zero_le _)

/-- Groups by sizes alone. -/
theorem grpGo_map {α β : Type} (f : α → β) (sz : β → Nat) : ∀ (l cur : List α) (u : Nat), grpGo sz (l.map f) (cur.map f) u = (grpGo (fun x => sz (f x)) l cur u).map (List.map f)
  | [], cur, u => by
    unfold grpGo
    cases cur <;> simp
  | x :: l, cur, u => by
    rw [List.map_cons, grpGo, grpGo]
    split
    · have := grpGo_map f sz l [x] (sz (f x))
      simp only [List.map_cons, List.map_nil] at this
      rw [this, List.map_cons]
    · have := grpGo_map f sz l (cur ++ [x]) (u + sz (f x))
      simp only [List.map_append, List.map_cons, List.map_nil] at this
      rw [this]

theorem grp_map {α β : Type} (f : α → β) (sz : β → Nat) (l : List α) : grp sz (l.map f) = (grp (fun x => sz (f x)) l).map (List.map f) := grpGo_map f sz l [] 0

/-- What the index says of a block. -/
structure Ln where
  first : Ent
  count : Nat
  pos : Nat

/-- A file that is being written: its bytes, its index, the sum of its blocks. -/
structure BSt where
  l : List UInt8
  lines : List Ln
  sum : Nat

def zE : Ent := ⟨0, ⟨#[]⟩, 0, 0, false⟩
def payB (g : List Ent) : List UInt8 := g.flatMap writtenB
def putBlock (st : BSt) (g : List Ent) : BSt := ⟨st.l ++ frameB 5 (payB g), st.lines ++ [⟨g.headD zE, g.length, st.l.length⟩], Crc.on st.sum (payB g)⟩
def szE (e : Ent) : Nat := (writtenB e).length
def groups (list : List Ent) : List (List Ent) := grp szE list
def headSt (h : Hd) (list : List Ent) : BSt := ⟨frameB 4 (headTB h list.length), [], 0⟩
def blocksSt (h : Hd) (list : List Ent) : BSt := (groups list).foldl putBlock (headSt h list)
def lineB (x : Ln) : List UInt8 := placedB x.first ++ vNum x.count ++ vNum x.pos
def szL (x : Ln) : Nat := (lineB x).length
def rowsB (lines : List Ln) : List UInt8 := (grp szL lines).flatMap (fun r => frameB 6 (r.flatMap lineB))
def footB (st : BSt) : List UInt8 := vNum st.lines.length ++ vNum st.l.length ++ fourB st.sum
def fileB (h : Hd) (list : List Ent) : List UInt8 := (blocksSt h list).l ++ rowsB (blocksSt h list).lines ++ frameB 7 (footB (blocksSt h list))
def linesB (h : Hd) (list : List Ent) : List Ln := (blocksSt h list).lines

/-- Entries as they may stand in a file. -/
def Good (e : Ent) : Prop := 0 ≤ e.v ∧ e.v < 4294967296 ∧ e.c.size ≤ 128

theorem writtenB_len {e : Ent} (h : Good e) : 0 < (writtenB e).length ∧ (writtenB e).length ≤ 153 := by
  have h1 := vNum_len e.i
  have h2 := vNum_len e.s
  have h3 := fourB_len e.v
  have h4 := deadB_len e.d
  have h5 : e.c.data.toList.length = e.c.size := rfl
  have h6 := h.2.2
  simp only [writtenB, placedB, List.length_append]
  omega

theorem lineB_len {x : Ln} (h : Good x.first) : 0 < (lineB x).length ∧ (lineB x).length ≤ 162 := by
  have h1 := vNum_len x.first.i
  have h2 := vNum_len (x.count : Int)
  have h2' := vNum_len (x.pos : Int)
  have h3 := fourB_len x.first.v
  have h5 : x.first.c.data.toList.length = x.first.c.size := rfl
  have h6 := h.2.2
  simp only [lineB, placedB, List.length_append]
  omega

theorem szE_ok {list : List Ent} (h : ∀ e ∈ list, Good e) : ∀ e ∈ list, 0 < szE e ∧ szE e ≤ 4096 := fun e he => by
  have := writtenB_len (h e he)
  unfold szE
  omega

theorem payB_len (g : List Ent) : (payB g).length = sumSz szE g := by
  unfold payB sumSz szE
  induction g with
  | nil => rfl
  | cons x g ih => simp [ih]

theorem group_good {list g : List Ent} (h : ∀ e ∈ list, Good e) (hg : g ∈ groups list) : g ≠ [] ∧ (payB g).length ≤ 4096 ∧ ∀ e ∈ g, Good e := by
  obtain ⟨h1, h2⟩ := grp_ok (szE_ok h) g hg
  refine ⟨h1, by rw [payB_len]; exact h2, fun e he => h e ?_⟩
  rw [← grp_flat szE list]
  exact List.mem_flatten.2 ⟨g, hg, he⟩

theorem headD_good {g : List Ent} (h1 : g ≠ []) (h : ∀ e ∈ g, Good e) : Good (g.headD zE) := by
  cases g with
  | nil => exact absurd rfl h1
  | cons x g => exact h x (by simp)

/-- What is so of a file while it is written. -/
structure StOk (st : BSt) : Prop where
  good : ∀ x ∈ st.lines, Good x.first
  sum : st.sum < 4294967296

theorem putBlock_ok {st : BSt} {g : List Ent} (h : StOk st) (h1 : g ≠ []) (h2 : ∀ e ∈ g, Good e) : StOk (putBlock st g) := by
  refine ⟨fun x hx => ?_, Crc.on_lt _ _ h.sum⟩
  unfold putBlock at hx
  rcases List.mem_append.1 hx with hx | hx
  · exact h.good x hx
  · rw [List.mem_singleton] at hx
    subst hx
    exact headD_good h1 h2

theorem foldl_ok : ∀ (gs : List (List Ent)) (st : BSt), StOk st → (∀ g ∈ gs, g ≠ [] ∧ ∀ e ∈ g, Good e) → StOk (gs.foldl putBlock st) ∧ (gs.foldl putBlock st).lines.length = st.lines.length + gs.length
  | [], st, h, _ => ⟨h, rfl⟩
  | g :: gs, st, h, hg => by
    obtain ⟨h1, h2⟩ := hg g (by simp)
    obtain ⟨k1, k2⟩ := foldl_ok gs (putBlock st g) (putBlock_ok h h1 h2) (fun x hx => hg x (by simp [hx]))
    refine ⟨k1, ?_⟩
    rw [List.foldl_cons, k2]
    simp [putBlock]
    omega

theorem foldl_len : ∀ (gs : List (List Ent)) (st : BSt), (gs.foldl putBlock st).l.length = st.l.length + gs.length * 14 + sumSz szE gs.flatten
  | [], st => by simp [sumSz]
  | g :: gs, st => by
    rw [List.foldl_cons, foldl_len gs]
    simp only [putBlock, List.length_append, frameB_length, payB_len, List.flatten_cons, sumSz_append, List.length_cons]
    omega

theorem sumSz_le {α : Type} {sz : α → Nat} {m : Nat} : ∀ (l : List α), (∀ x ∈ l, sz x ≤ m) → sumSz sz l ≤ l.length * m
  | [], _ => by simp [sumSz]
  | x :: l, h => by
    have h1 := h x (by simp)
    have h2 := sumSz_le l (fun y hy => h y (by simp [hy]))
    have e : sumSz sz (x :: l) = sz x + sumSz sz l := by simp [sumSz]
    rw [e, List.length_cons, Nat.add_mul]
    omega

theorem flat_count {α : Type} : ∀ (gs : List (List α)), (∀ g ∈ gs, g ≠ []) → gs.length ≤ gs.flatten.length
  | [], _ => by simp
  | g :: gs, h => by
    have h1 := List.length_pos_iff.2 (h g (by simp))
    have h2 := flat_count gs (fun x hx => h x (by simp [hx]))
    rw [List.flatten_cons, List.length_append, List.length_cons]
    omega

theorem groups_le {list : List Ent} (h : ∀ e ∈ list, Good e) : (groups list).length ≤ list.length := by
  have := flat_count (groups list) (fun g hg => (group_good h hg).1)
  unfold groups at this
  rw [grp_flat] at this
  exact this

theorem headSt_ok (h : Hd) (list : List Ent) : StOk (headSt h list) := ⟨fun x hx => by simp [headSt] at hx, by simp [headSt]⟩

theorem blocksSt_ok (h : Hd) {list : List Ent} (hg : ∀ e ∈ list, Good e) : StOk (blocksSt h list) ∧ (blocksSt h list).lines.length = (groups list).length ∧ (blocksSt h list).l.length ≤ 74 + list.length * 167 := by
  obtain ⟨h1, h2⟩ := foldl_ok (groups list) (headSt h list) (headSt_ok h list) (fun g hg' => ⟨(group_good hg hg').1, (group_good hg hg').2.2⟩)
  refine ⟨h1, by unfold blocksSt; rw [h2]; simp [headSt], ?_⟩
  unfold blocksSt
  rw [foldl_len]
  have h3 := groups_le hg
  have h4 : sumSz szE (groups list).flatten ≤ list.length * 153 := by
    unfold groups
    rw [grp_flat]
    exact sumSz_le list (fun e he => (writtenB_len (hg e he)).2)
  have h5 := headTB_len h list.length
  have h6 : (headSt h list).l.length ≤ 74 := by simp only [headSt, frameB_length]; omega
  omega

theorem rowsB_len {lines : List Ln} (h : ∀ x ∈ lines, Good x.first) : (rowsB lines).length ≤ lines.length * 176 := by
  have hs : ∀ x ∈ lines, 0 < szL x ∧ szL x ≤ 4096 := fun x hx => by have := lineB_len (h x hx); unfold szL; omega
  have key : ∀ gs : List (List Ln), (gs.flatMap (fun r => frameB 6 (r.flatMap lineB))).length = gs.length * 14 + sumSz szL gs.flatten := by
    intro gs
    induction gs with
    | nil => rfl
    | cons g gs ih =>
      have hp : (g.flatMap lineB).length = sumSz szL g := by
        unfold sumSz szL
        induction g with
        | nil => rfl
        | cons x g ih => simp [ih]
      simp only [List.flatMap_cons, List.length_append, frameB_length, ih, hp, List.flatten_cons, sumSz_append, List.length_cons]
      omega
  unfold rowsB
  rw [key, grp_flat]
  have h1 := flat_count (grp szL lines) (fun g hg => (grp_ok hs g hg).1)
  rw [grp_flat] at h1
  have h2 : sumSz szL lines ≤ lines.length * 162 := sumSz_le lines (fun x hx => (lineB_len (h x hx)).2)
  omega

theorem footB_len {st : BSt} : (footB st).length ≤ 24 := by
  have h1 := vNum_len (st.lines.length : Int)
  have h2 := vNum_len (st.l.length : Int)
  have h3 := fourB_len (st.sum : Int)
  simp only [footB, List.length_append]
  omega

theorem fileB_len (h : Hd) {list : List Ent} (hg : ∀ e ∈ list, Good e) : (fileB h list).length ≤ 112 + list.length * 343 := by
  obtain ⟨h1, h2, h3⟩ := blocksSt_ok h hg
  have h4 := rowsB_len h1.good
  have h5 := footB_len (st := blocksSt h list)
  have h6 := groups_le hg
  simp only [fileB, List.length_append, frameB_length]
  omega
end Go.Proofs.YtihgjihdmlomaaaDoor
