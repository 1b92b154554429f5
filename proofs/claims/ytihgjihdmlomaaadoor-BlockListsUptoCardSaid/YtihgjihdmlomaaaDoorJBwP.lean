/-
  PLAIN: what the document reads among frames; of a file it reads what the file was built of.
-/
import Derived.Test.YtihgjihdmlomaaaDoorJBwA
import Derived.Test.YtihgjihdmlomaaaDoorJBsI
namespace Go.Proofs.YtihgjihdmlomaaaDoor
open Go.RowKit ArgK
set_option linter.unusedVariables false

/-- The entry that stands at a place of a block, for codes of n bytes, and the next place. -/
def entR (b : List UInt8) (a n : Nat) : Option (Ent × Nat) :=
  if b.length < a + 4 + n then none
  else match numR (b.drop (a + 4 + n)) 2 with
    | none => none
    | some (L, u) => if b.length ≤ a + 4 + n + u then none
      else some (⟨((numB 0 ((b.drop a).take 4) : Nat) : Int), ⟨((b.drop (a + 4)).take n).toArray⟩, ((L.getD 0 0 : Nat) : Int), ((L.getD 1 0 : Nat) : Int), b.getD (a + 4 + n + u) 0 == 1⟩, a + 4 + n + u + 1)

/-- The entries of a block, behind those that stand already. -/
def readB (n : Nat) (b : List UInt8) : Nat → Nat → List Ent → Option (List Ent)
  | 0, _, acc => some acc
  | f + 1, a, acc => if a < b.length then (match entR b a n with | none => none | some (e, a') => readB n b f a' (acc ++ [e])) else some acc
/-- The entries of the blocks at the beginning of frames. -/
def readFs (n : Nat) : List (Int × List UInt8 × Nat) → List Ent → Option (List Ent)
  | [], acc => some acc
  | x :: fs, acc => if x.1 = 5 then (match readB n x.2.1 (x.2.1.length + 1) 0 acc with | none => none | some acc' => readFs n fs acc') else some acc
/-- The head and the entries that frames tell. -/
def readR : List (Int × List UInt8 × Nat) → Option (Hd × List Ent)
  | [] => none
  | x :: fs => if x.1 ≠ 4 then none else match numR x.2.1 6 with
    | none => none
    | some (L, _) => if widthB (hdOf L).w = true then (match readFs (L.getD 0 0 / 8) fs [] with | none => none | some l => some (hdOf L, l)) else none

theorem own_some {w : World} {base : Nat} {e : TypeId} {size n c : Nat} {q : Option Addr} {xs : List Value} (h : w.ownsRow base e size (.slice q n c) n xs) (hn : 0 < n) : ∃ g, q = some ⟨g, 0, none⟩ ∧ base ≤ g ∧ g < w.heap.size := by
  rcases h.2 with ⟨hv, rfl⟩ | ⟨g, cap, cur, hv, hb, hg, _⟩
  · cases hv; exact absurd hn (Nat.lt_irrefl _)
  · cases hv
    exact ⟨g, rfl, hb, (Array.getElem?_eq_some_iff.1 hg).1⟩

theorem entR_next {b : List UInt8} {a n a' : Nat} {e : Ent} (h : entR b a n = some (e, a')) : a < a' ∧ a' ≤ b.length ∧ e.c.size ≤ n := by
  unfold entR at h
  split at h
  · cases h
  · split at h
    · cases h
    · split at h
      · cases h
      · simp only [Option.some.injEq, Prod.mk.injEq] at h
        obtain ⟨h1, h2⟩ := h
        refine ⟨by omega, by omega, ?_⟩
        rw [← h1]
        show (((b.drop (a + 4)).take n).toArray).size ≤ n
        rw [List.size_toArray, List.length_take]
        exact Nat.min_le_left _ _

theorem numR_step {b rest : List UInt8} {k a : Nat} {L : List Nat} {n : Int} (h : numR b k = some (L, a)) (h0 : 0 ≤ n) (h1 : n ≤ 4611686018427387904) (ha : a ≤ b.length) (hd : b.drop a = vNum n ++ rest) :
    numR b (k + 1) = some (L ++ [n.toNat], a + (vNum n).length) ∧ b.drop (a + (vNum n).length) = rest ∧ a + (vNum n).length ≤ b.length := by
  obtain ⟨e1, e2, e3⟩ := numS_fwd (most := 4611686018427387904) h0 (by omega) (by decide) ha hd
  refine ⟨?_, e2, e3⟩
  obtain ⟨x, q0, _, _, q1, q2, q3, q4⟩ := numS_some (b := b) (m := 4611686018427387904) (s := some a) (a := a + (vNum n).length) (by rw [e1])
  cases q0
  rw [e1] at q4
  simp only at q4
  unfold numR
  rw [h]
  simp only
  rw [if_pos ⟨q1, q2⟩, ← q3, ← q4]

theorem entR_fwd {cb a : Nat} {b rest : List UInt8} {e : Ent} (he : ReadOk cb e) (ha : a ≤ b.length) (hd : b.drop a = writtenB e ++ rest) : ∃ a', entR b a cb = some (e, a') ∧ b.drop a' = rest ∧ a' ≤ b.length := by
  obtain ⟨h1, h2, h3, h4, h5, h6, h7⟩ := he
  unfold writtenB placedB at hd
  simp only [List.append_assoc] at hd
  have hf4 : (fourB e.v).length = 4 := fixedB_length _ _
  have hc4 : e.c.data.toList.length = cb := h1
  obtain ⟨e1, d1, q1⟩ := txtS_fwd (n := 4) hf4 ha hd
  obtain ⟨e2, d2, q2⟩ := txtS_fwd (n := cb) hc4 q1 d1
  have hb' : (b.drop (a + 4 + cb)).length = b.length - (a + 4 + cb) := List.length_drop
  obtain ⟨e3, d3, q3⟩ := numR_step (b := b.drop (a + 4 + cb)) (k := 0) (a := 0) (L := []) (n := e.i) rfl h4 (by omega) (Nat.zero_le _) (by rw [List.drop_zero]; exact d2)
  obtain ⟨e4, d4, q4⟩ := numR_step e3 h6 (by omega) q3 d3
  rw [List.drop_drop] at d4
  obtain ⟨u, hu⟩ : ∃ u, 0 + (vNum e.i).length + (vNum e.s).length = u := ⟨_, rfl⟩
  rw [hu] at e4 d4 q4
  have hl : (b.drop (a + 4 + cb + u)).length = (deadB e.d ++ rest).length := by rw [d4]
  have hdl : (deadB e.d).length = 1 := by cases e.d <;> rfl
  rw [List.length_drop, List.length_append, hdl] at hl
  have ht4 : (b.drop a).take 4 = fourB e.v := by rw [hd, ← hf4, List.take_left]
  have htc : (b.drop (a + 4)).take cb = e.c.data.toList := by rw [d1, ← hc4, List.take_left]
  have hn4 : numB 0 (fourB e.v) = e.v.toNat := by
    have := fix_four h2 h3
    have hs : ((⟨(fourB e.v).toArray⟩ : ByteArray).size : Int) = 4 := by
      show ((fourB e.v).toArray.size : Int) = 4
      simp [hf4]
    unfold fixR at this
    rw [hs, if_neg (by omega), if_neg (by omega)] at this
    have h8 : numB 0 (((fourB e.v).drop 0).take 4) = e.v.toNat := this
    rw [List.drop_zero, List.take_of_length_le (by omega)] at h8
    exact h8
  have hlast : (b.getD (a + 4 + cb + u) 0 == 1) = e.d := by
    have h9 : b.getD (a + 4 + cb + u) 0 = (b.drop (a + 4 + cb + u)).getD 0 0 := by simp [List.getD]
    rw [h9, d4]
    cases e.d <;> rfl
  refine ⟨a + 4 + cb + u + 1, ?_, ?_, by omega⟩
  · unfold entR
    rw [if_neg (by omega), e4]
    simp only
    rw [if_neg (by omega), ht4, htc, hn4, hlast]
    have hc : (⟨e.c.data.toList.toArray⟩ : ByteArray) = e.c := rfl
    rw [hc]
    simp only [List.nil_append, List.cons_append, List.getD_cons_zero, List.getD_cons_succ]
    have hv : ((e.v.toNat : Nat) : Int) = e.v := by omega
    have hi : ((e.i.toNat : Nat) : Int) = e.i := by omega
    have hs : ((e.s.toNat : Nat) : Int) = e.s := by omega
    rw [hv, hi, hs]
  · rw [← List.drop_drop, d4, ← hdl, List.drop_left]

theorem readB_fwd {cb : Nat} {b : List UInt8} : ∀ (g : List Ent) (f a : Nat) (acc : List Ent), (∀ e ∈ g, ReadOk cb e) → a ≤ b.length → b.drop a = payB g → g.length < f → readB cb b f a acc = some (acc ++ g)
  | [], f, a, acc, _, ha, hd, hf => by
    obtain ⟨f, rfl⟩ : ∃ k, f = k + 1 := ⟨f - 1, by simp at hf; omega⟩
    have h2 : (b.drop a).length = 0 := by rw [hd]; rfl
    rw [List.length_drop] at h2
    unfold readB
    rw [if_neg (by omega), List.append_nil]
  | e :: g, f, a, acc, ho, ha, hd, hf => by
    obtain ⟨f, rfl⟩ : ∃ k, f = k + 1 := ⟨f - 1, by simp at hf; omega⟩
    have hd' : b.drop a = writtenB e ++ payB g := hd
    have he := ho e (by simp)
    obtain ⟨a', e1, d1, q1⟩ := entR_fwd he ha hd'
    have hn := entR_next e1
    unfold readB
    rw [if_pos (by omega), e1]
    simp only
    rw [readB_fwd g f a' _ (fun x hx => ho x (by simp [hx])) q1 d1 (by simp at hf; omega)]
    simp

theorem payB_longer (g : List Ent) : g.length ≤ (payB g).length := by
  induction g with
  | nil => exact Nat.le_refl _
  | cons e g ih =>
    have := fixedB_length e.v.toNat 4
    have h2 : (payB (e :: g)).length = (writtenB e).length + (payB g).length := by unfold payB; simp
    have h3 : 0 < (writtenB e).length := by
      unfold writtenB placedB fourB
      simp only [List.length_append]
      omega
    rw [h2, List.length_cons]
    omega

theorem readFs_groups (n : Nat) (ys : List (Nat × List UInt8)) (hy : ∀ x ∈ ys, x.1 ≠ 5) : ∀ (gs : List (List Ent)) (a : Nat) (acc : List Ent), (∀ g ∈ gs, ∀ e ∈ g, ReadOk n e) →
    readFs n (placesF a (gs.map (fun g => (5, payB g)) ++ ys)) acc = some (acc ++ gs.flatten)
  | [], a, acc, _ => by
    rw [List.map_nil, List.nil_append, List.flatten_nil, List.append_nil]
    cases ys with
    | nil => rfl
    | cons y ys =>
      have h1 := hy y (by simp)
      rw [placesF, readFs, if_neg (by simp only; omega)]
  | g :: gs, a, acc, hg => by
    rw [List.map_cons, List.cons_append, placesF, readFs, if_pos (by simp)]
    simp only
    rw [readB_fwd g ((payB g).length + 1) 0 acc (hg g (by simp)) (Nat.zero_le _) (List.drop_zero) (by have := payB_longer g; omega)]
    simp only
    rw [readFs_groups n ys hy gs _ (acc ++ g) (fun x hx => hg x (by simp [hx]))]
    simp

/-- Of a file's frames the document reads what the file was built of. -/
theorem readR_file {h : Hd} {l : List Ent} (hg : goesR h l = 0) : readR (framesR (fileB h l)).1 = some (⟨h.w, h.t, h.b, h.lo, h.hi, (l.length : Nat)⟩, l) := by
  obtain ⟨hh, hl, hgd⟩ := goesR_good hg
  have hf : ∀ e ∈ l, fitsR h e = 0 := by
    unfold goesR at hg
    rw [if_neg (by simp [hh]), if_neg (by omega)] at hg
    exact goesGo_fits l none hg
  have hok := partsB_ok h hgd
  have hfr := framesR_cat hok
  rw [← fileB_cat] at hfr
  obtain ⟨m, hm, w1, w2, w3, hw, ht0, ht1, hb0, hb1, hl0, hl1, hl2⟩ := headedR_ok hh
  have hP : placesF 0 (partsB h l) = ((4 : Int), headTB h l.length, 0) :: placesF (0 + (headTB h l.length).length + 14) ((groups l).map (fun g => (5, payB g)) ++ ((grp szL (linesB h l)).map (fun r => (6, r.flatMap lineB)) ++ [(7, footB (blocksSt h l))])) := rfl
  have hY : ∀ x ∈ (grp szL (linesB h l)).map (fun r => (6, r.flatMap lineB)) ++ [(7, footB (blocksSt h l))], x.1 ≠ 5 := by
    intro x hx
    rcases List.mem_append.1 hx with hx | hx
    · obtain ⟨r, _, rfl⟩ := List.mem_map.1 hx
      simp
    · rw [List.mem_singleton] at hx
      subst hx
      simp
  have hflat : (groups l).flatten = l := grp_flat szE l
  obtain ⟨b, hb⟩ : ∃ b, headTB h (l.length : Nat) = b := ⟨_, rfl⟩
  have hb' := hb
  unfold headTB at hb'
  simp only [List.append_assoc] at hb'
  obtain ⟨e1, d1, q1⟩ := numR_step (b := b) (k := 0) (a := 0) (L := []) (n := h.w) rfl (by omega) (by omega) (Nat.zero_le _) (by rw [List.drop_zero]; exact hb'.symm)
  obtain ⟨e2, d2, q2⟩ := numR_step e1 (by omega) (by omega) q1 d1
  obtain ⟨e3, d3, q3⟩ := numR_step e2 (by omega) (by omega) q2 d2
  obtain ⟨e4, d4, q4⟩ := numR_step e3 (by omega) (by omega) q3 d3
  obtain ⟨e5, d5, q5⟩ := numR_step e4 (by omega) (by omega) q4 d4
  obtain ⟨e6, d6, q6⟩ := numR_step (n := ((l.length : Nat) : Int)) (rest := []) e5 (by omega) (by omega) q5 (by rw [d5, List.append_nil])
  have hd : hdOf ([] ++ [h.w.toNat] ++ [h.t.toNat] ++ [h.b.toNat] ++ [h.lo.toNat] ++ [h.hi.toNat] ++ [((l.length : Nat) : Int).toNat]) = ⟨h.w, h.t, h.b, h.lo, h.hi, (l.length : Nat)⟩ := by
    unfold hdOf
    simp only [List.nil_append, List.cons_append, List.getD_cons_zero, List.getD_cons_succ, Hd.mk.injEq]
    omega
  have hw8 : h.w.toNat / 8 = (h.w / 8).toNat := by omega
  rw [hfr]
  simp only
  rw [hP]
  unfold readR
  simp only
  rw [if_neg (by simp)]
  simp only [hb]
  rw [e6]
  simp only
  rw [hd]
  simp only
  rw [if_pos hw]
  have hg0 : ([] ++ [h.w.toNat] ++ [h.t.toNat] ++ [h.b.toNat] ++ [h.lo.toNat] ++ [h.hi.toNat] ++ [((l.length : Nat) : Int).toNat]).getD 0 0 = h.w.toNat := rfl
  rw [hg0, hw8]
  rw [readFs_groups (h.w / 8).toNat _ hY (groups l) _ [] (fun g hgm e he => fits_read hh (hf e (by rw [← hflat]; exact List.mem_flatten.2 ⟨g, hgm, he⟩)))]
  simp only
  rw [hflat, List.nil_append]
end Go.Proofs.YtihgjihdmlomaaaDoor
