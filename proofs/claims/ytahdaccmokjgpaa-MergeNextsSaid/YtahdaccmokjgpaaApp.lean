/-
  A LAW on append, of whatever source: where the new row lies, and that the old one is as it was. No condition of the program's.
-/
import Derived.Test.YtahdaccmokjgpaaRows2
import Derived.RegionTactic
import Derived.Deep.AppendLies
namespace Go.Proofs.Ytahdaccmokjgpaa
open Go.RowKit
set_option linter.unusedVariables false

/-- Where what was appended to v lies: in v's own row, or in a block that is made now. -/
def Lies (w w' : World) (v : Value) (n g cap : Nat) : Prop := (v = .slice (some ⟨g, 0, none⟩) n cap ∧ w.grownBy w' (some g)) ∨ (g = w.heap.size ∧ w.grownBy w' none)
theorem Lies.lt {w w' : World} {base : Nat} {e : TypeId} {size : Nat} {v : Value} {n g cap : Nat} {xs : List Value} (h : Lies w w' v n g cap) (hr : w.ownsRow base e size v n xs) (hb : base ≤ w.heap.size) : base ≤ g := by
  rcases h with ⟨rfl, _⟩ | ⟨rfl, _⟩
  · exact (hr.lt g rfl).1
  · exact hb
theorem Lies.row {w w' : World} {v : Value} {n g cap : Nat} (h : Lies w w' v n g cap) : w.grownBy w' v.ownBlock := by
  rcases h with ⟨rfl, h⟩ | ⟨_, h⟩
  · exact h
  · exact ⟨h.os, h.tape, h.output, h.size, fun k hk _ => h.block k hk (by simp)⟩
/-- A block other than v's is as it was. -/
theorem Lies.block {w w' : World} {v : Value} {n g cap : Nat} (h : Lies w w' v n g cap) {k : Nat} (hk : k < w.heap.size) (hne : v.ownBlock ≠ some k) : w'.heap[k]? = w.heap[k]? :=
  h.row.block k hk (fun e => hne e.symm)
theorem Lies.own {w w' : World} {v : Value} {n g cap : Nat} (h : Lies w w' v n g cap) {base : Nat} {e : TypeId} {size : Nat} {u : Value} {m : Nat} {ys : List Value} (hu : w.ownsRow base e size u m ys) (hne : ∀ k, u.ownBlock = some k → v.ownBlock ≠ some k) : w'.ownsRow base e size u m ys := by
  refine ⟨hu.1, ?_⟩
  rcases hu.2 with hn | ⟨k, c, cur, rfl, hb, hk, rest⟩
  · exact .inl hn
  · exact .inr ⟨k, c, cur, rfl, hb, (h.block (Array.getElem?_eq_some_iff.1 hk).1 (hne k rfl)).trans hk, rest⟩
theorem Lies.below {w w' : World} {v : Value} {n g cap : Nat} (h : Lies w w' v n g cap) {B : Nat} {W : World} (hb : Below B W w) (hB : B ≤ w.heap.size) (hv : ∀ k, v.ownBlock = some k → B ≤ k) : Below B W w' := hb.grown h.row hB hv

section
variable {P : Program} (w : World)
theorem run_append_two (base : Nat) (t ty e : TypeId) (i : TypeInfo) (z : Value) (size bytes : Nat) (ht : P.underlying t = some (.slice e)) (hi : P.info? e = some i) (hz : i.zero = some z)
    (hsize : i.size = size) (hby : i.bytes = bytes) (hzs : z.cells.size = size) (hsz : 0 < size)
    (v : Value) (n : Nat) (xs : List Value) (hown : w.ownsRow base e size v n xs)
    (a : Addr) (m c : Nat) (news : List Value) (hl : news.length = m * size) (hnews : ∀ j u, news[j]? = some u → w.cell? (a.add j) = some u) (h1 : ∀ u ∈ news, u.oneCell' = true)
    (hm : 0 < m) (h63 : n + m ≤ maxLen) (hbytes : (n + m) * bytes ≤ 140737488355328) (hbase : base ≤ w.heap.size) :
    ∃ g cap w', (Builtin.append_ #[t, t] ty #[v, .slice (some a) m c]).run P w = .ok (.slice (some ⟨g, 0, none⟩) (n + m) cap) w' ∧
      w'.ownsRow base e size (.slice (some ⟨g, 0, none⟩) (n + m) cap) (n + m) (xs ++ news) ∧ w'.ownsRow base e size v n xs ∧ Lies w w' v n g cap ∧ g < w'.heap.size := by
  subst hsize
  subst hby
  have hsmall : n + m ≤ 9223372036854775807 := by simp only [maxLen] at h63; omega
  have hlen : (xs ++ news).length = (n + m) * i.size := by rw [List.length_append, hown.1, hl, Nat.add_mul]
  have grown : ∀ (old : Nat), old < n + m →
      (w.drew.alloc (.cells (xs.toArray ++ news.toArray ++ Builtin.zeroCells z.cells (grownCap w (n + m) old e - (n + m))) e)).ownsRow base e i.size
        (.slice (some ⟨w.heap.size, 0, none⟩) (n + m) (grownCap w (n + m) old e)) (n + m) (xs ++ news) ∧
      w.grownBy (w.drew.alloc (.cells (xs.toArray ++ news.toArray ++ Builtin.zeroCells z.cells (grownCap w (n + m) old e - (n + m))) e)) none := by
    intro old ho
    have hge := grownCap_ge w (n + m) old e
    have hcm : grownCap w (n + m) old e ≤ maxLen := grownCap_le_maxLen w (n + m) old e h63
    refine ⟨⟨hlen, .inr ⟨w.heap.size, _, _, rfl, hbase, heap_alloc_new w.drew _, hge, hcm, ?_, ?_⟩⟩, ⟨rfl, rfl, rfl, by simp, fun k hk _ => Below.heap_alloc w.drew _ k hk⟩⟩
    · simp only [Array.size_append, List.size_toArray, size_zeroCells, hzs, hown.1, hl, ← Nat.add_mul]
      congr 1
      omega
    · simp only [Array.toList_append, List.append_assoc]
      rw [← List.append_assoc, ← hlen]
      exact List.take_left
  have hown' := hown
  rcases hown.2 with ⟨rfl, rfl⟩ | ⟨g, cap, cur, rfl, hbg, hg, hnc, hcm, hcs, htake⟩
  · have hx : xs = [] := List.eq_nil_of_length_eq_zero (by simpa using hown.1)
    subst hx
    have hr := run_append_nil (P := P) w t ty e i z ht hi hz a m c news hl hnews (by omega) (by omega) (by have hb := hbytes; simp only [Nat.zero_add] at hb; omega)
    have hgr := grown 0 (by omega)
    simp only [Nat.zero_add, List.nil_append, Array.empty_append] at hgr ⊢
    exact ⟨_, _, _, hr, hgr.1, World.ownsRow_nil _ _ _ _, .inr ⟨rfl, hgr.2⟩, by simp⟩
  · by_cases hroom : n + m ≤ cap
    · have hfit : n * i.size + news.length ≤ cur.size := by rw [hl, hcs, ← Nat.add_mul]; exact Nat.mul_le_mul_right _ hroom
      have hr := run_append_room (P := P) w t ty e i ht hi g n cap cur hg a m c news hl hnews h1 hroom hfit
      have hnew : ∀ (h : World), h.heap[g]? = some (.cells (cur.toList.take (n * i.size) ++ news ++ cur.toList.drop (n * i.size + news.length)).toArray e (0, 0)) → h.ownsRow base e i.size (.slice (some ⟨g, 0, none⟩) (n + m) cap) (n + m) (xs ++ news) := fun h hh =>
        ⟨hlen, .inr ⟨g, cap, _, rfl, hbg, hh, hroom, hcm, by
          simp only [List.size_toArray, List.length_append, List.length_take, List.length_drop, Array.length_toList]
          omega, by
          rw [htake, ← hlen]
          exact List.take_left⟩⟩
      have h2 := hnew _ (setRow_heap w g cur _ e _ hg)
      have h3 := own_take h2 (k := n) (by omega)
      rw [show (xs ++ news).take (n * i.size) = xs by rw [← hown.1]; exact List.take_left] at h3
      have hlt := (Array.getElem?_eq_some_iff.1 hg).1
      exact ⟨_, _, _, hr, h2, h3, .inl ⟨rfl, ⟨rfl, rfl, rfl, by simp, fun k _ hk => setRow_other w g k _ (fun e => hk (by simp [e]))⟩⟩, by simpa using hlt⟩
    · have holds : ∀ j u, xs[j]? = some u → w.cell? ((⟨g, 0, none⟩ : Addr).add j) = some u := hown.cells (g := g) rfl
      have hr := run_append_grow (P := P) w t ty e i z ht hi hz ⟨g, 0, none⟩ n cap xs hown.1 holds a m c news hl hnews (by omega) (by omega) (growslice_fits (by omega) hbytes)
      have hgr := grown cap (by omega)
      exact ⟨_, _, _, hr, hgr.1, hown'.kept hgr.2 (.inr (by simp [Value.ownBlock])), .inr ⟨rfl, hgr.2⟩, by simp⟩
theorem wp_append_two {o : Oper} {a : Act} {K : Act → World → Prop} {Q : Exit → Act → World → Prop} (s x : Operand) (t : TypeId)
    (ho : o.op = .call { callee := .builtin .append, args := #[s, x], argTypes := #[t, t] })
    (base : Nat) (e : TypeId) (i : TypeInfo) (z : Value) (size bytes : Nat) (ht : P.underlying t = some (.slice e)) (hi : P.info? e = some i) (hz : i.zero = some z)
    (hsize : i.size = size) (hby : i.bytes = bytes) (hzs : z.cells.size = size) (hsz : 0 < size)
    (v : Value) (n : Nat) (xs : List Value) (hs : a.eval s = v) (hown : w.ownsRow base e size v n xs)
    (ad : Addr) (m c : Nat) (news : List Value) (hx : a.eval x = .slice (some ad) m c) (hl : news.length = m * size) (hnews : ∀ j u, news[j]? = some u → w.cell? (ad.add j) = some u) (h1 : ∀ u ∈ news, u.oneCell' = true)
    (hm : 0 < m) (h63 : n + m ≤ maxLen) (hbytes : (n + m) * bytes ≤ 140737488355328) (hbase : base ≤ w.heap.size)
    (h : ∀ g cap w', w'.ownsRow base e size (.slice (some ⟨g, 0, none⟩) (n + m) cap) (n + m) (xs ++ news) → w'.ownsRow base e size v n xs → Lies w w' v n g cap → g < w'.heap.size → K (a.put o.dst (.slice (some ⟨g, 0, none⟩) (n + m) cap)) w') : o.wp P a w K Q := by
  obtain ⟨g, cap, w', hr, h2, h3, h4, h5⟩ := run_append_two (P := P) w base t o.type e i z size bytes ht hi hz hsize hby hzs hsz v n xs hown ad m c news hl hnews h1 hm h63 hbytes hbase
  unfold Oper.wp execOp
  simp only [ho, resolve, invoke, builtin, Sem.run_bind, Sem.run_pure, Result.andThen_ok, List.map_toArray, List.map_cons, List.map_nil, hs, hx, hr]
  exact h g cap w' h2 h3 h4 h5
theorem wpList_append_two {ops : Array Oper} {rest : List Oper} {o : Oper} {a : Act} {Q : Exit → Act → World → Prop} (hgd : o.guard = none) (s x : Operand) (t : TypeId)
    (ho : o.op = .call { callee := .builtin .append, args := #[s, x], argTypes := #[t, t] })
    (base : Nat) (e : TypeId) (i : TypeInfo) (z : Value) (size bytes : Nat) (ht : P.underlying t = some (.slice e)) (hi : P.info? e = some i) (hz : i.zero = some z)
    (hsize : i.size = size) (hby : i.bytes = bytes) (hzs : z.cells.size = size) (hsz : 0 < size)
    (v : Value) (n : Nat) (xs : List Value) (hs : a.eval s = v) (hown : w.ownsRow base e size v n xs)
    (ad : Addr) (m c : Nat) (news : List Value) (hx : a.eval x = .slice (some ad) m c) (hl : news.length = m * size) (hnews : ∀ j u, news[j]? = some u → w.cell? (ad.add j) = some u) (h1 : ∀ u ∈ news, u.oneCell' = true)
    (hm : 0 < m) (h63 : n + m ≤ maxLen) (hbytes : (n + m) * bytes ≤ 140737488355328) (hbase : base ≤ w.heap.size)
    (h : ∀ g cap w', w'.ownsRow base e size (.slice (some ⟨g, 0, none⟩) (n + m) cap) (n + m) (xs ++ news) → w'.ownsRow base e size v n xs → Lies w w' v n g cap → g < w'.heap.size → wpList P ops Q rest (a.put o.dst (.slice (some ⟨g, 0, none⟩) (n + m) cap)) w') : wpList P ops Q (o :: rest) a w :=
  wpList_plain hgd fun _ hK => wp_append_two w s x t ho base e i z size bytes ht hi hz hsize hby hzs hsz v n xs hs hown ad m c news hx hl hnews h1 hm h63 hbytes hbase fun g cap w' h2 h3 h4 h5 => hK _ _ (h g cap w' h2 h3 h4 h5)
theorem step_append_two {ops : Array Oper} {o : Oper} {a : Act} {K : Act → World → Prop} {Q : Exit → Act → World → Prop} {E : Prop} (hgd : o.guard = none) (s x : Operand) (t : TypeId)
    (ho : o.op = .call { callee := .builtin .append, args := #[s, x], argTypes := #[t, t] })
    (base : Nat) (e : TypeId) (i : TypeInfo) (z : Value) (size bytes : Nat) (ht : P.underlying t = some (.slice e)) (hi : P.info? e = some i) (hz : i.zero = some z)
    (hsize : i.size = size) (hby : i.bytes = bytes) (hzs : z.cells.size = size) (hsz : 0 < size)
    (v : Value) (n : Nat) (xs : List Value) (hs : a.eval s = v) (hown : w.ownsRow base e size v n xs)
    (ad : Addr) (m c : Nat) (news : List Value) (hx : a.eval x = .slice (some ad) m c) (hl : news.length = m * size) (hnews : ∀ j u, news[j]? = some u → w.cell? (ad.add j) = some u) (h1 : ∀ u ∈ news, u.oneCell' = true)
    (hm : 0 < m) (h63 : n + m ≤ maxLen) (hbytes : (n + m) * bytes ≤ 140737488355328) (hbase : base ≤ w.heap.size)
    (h : ∀ g cap w', w'.ownsRow base e size (.slice (some ⟨g, 0, none⟩) (n + m) cap) (n + m) (xs ++ news) → w'.ownsRow base e size v n xs → Lies w w' v n g cap → g < w'.heap.size → K (a.put o.dst (.slice (some ⟨g, 0, none⟩) (n + m) cap)) w') :
    if Region.wanted o (yielded ops a.tmps) = true then Oper.wp P o a w K Q else E := by
  have hw : Region.wanted o (yielded ops a.tmps) = true := by simp [Region.wanted, hgd]
  rw [if_pos hw]
  exact wp_append_two w s x t ho base e i z size bytes ht hi hz hsize hby hzs hsz v n xs hs hown ad m c news hx hl hnews h1 hm h63 hbytes hbase h
end

/-- A shorter row in the same block stays with the longer one. -/
theorem own_same {w w' : World} {b b' : Nat} {e : TypeId} {s : Nat} {u v : Value} {m n : Nat} {ys xs : List Value} (hu : w.ownsRow b e s u m ys) (hv : w.ownsRow b' e s v n xs) (hv' : w'.ownsRow b' e s v n xs) {g : Nat} (h1 : u.ownBlock = some g) (h2 : v.ownBlock = some g) (hm : m ≤ n) (hs : 0 < s) : w'.ownsRow b e s u m ys := by
  refine ⟨hu.1, ?_⟩
  rcases hu.2 with ⟨rfl, _⟩ | ⟨g1, cap1, cur1, rfl, hb1, hg1, _, hcm1, hcs1, ht1⟩
  · cases h1
  rcases hv.2 with ⟨rfl, _⟩ | ⟨g2, cap2, cur2, rfl, _, hg2, hnc2, _, hcs2, ht2⟩
  · cases h2
  obtain rfl : g1 = g := Option.some.inj h1
  obtain rfl : g2 = g1 := Option.some.inj h2
  rw [hg1] at hg2
  have hcc := Option.some.inj hg2
  injection hcc with hcc
  subst hcc
  have hcap : cap1 = cap2 := Nat.eq_of_mul_eq_mul_right hs (hcs1.symm.trans hcs2)
  subst hcap
  rcases hv'.2 with ⟨h, _⟩ | ⟨g3, cap3, cur3, h, _, hg3, _, _, hcs3, ht3⟩
  · cases h
  simp only [Value.slice.injEq, Option.some.injEq, Addr.mk.injEq, and_true, true_and] at h
  obtain ⟨rfl, rfl⟩ := h
  have hms : m * s ≤ n * s := Nat.mul_le_mul_right _ hm
  refine .inr ⟨g2, cap1, cur3, rfl, hb1, hg3, by omega, hcm1, hcs3, ?_⟩
  rw [← ht1, ← Nat.min_eq_left hms, ← List.take_take, ← List.take_take, ht2, ht3]

theorem grown_refl (w : World) (row : Option Nat) : w.grownBy w row := ⟨rfl, rfl, rfl, Nat.le_refl _, fun _ _ _ => rfl⟩
theorem grown_trans {a b c : World} {row : Option Nat} (h : a.grownBy b row) (k : b.grownBy c row) : a.grownBy c row :=
  ⟨k.os.trans h.os, k.tape.trans h.tape, k.output.trans h.output, Nat.le_trans h.size k.size, fun i hi hne => (k.block i (Nat.lt_of_lt_of_le hi h.size) hne).trans (h.block i hi hne)⟩
theorem grown_set {a w : World} {g : Nat} (h : a.grownBy w (some g)) (i : Nat) (u : Value) : a.grownBy (w.setCell ⟨g, i, none⟩ u) (some g) :=
  ⟨h.os, h.tape, h.output, by simpa [World.setCell] using h.size, fun k hk hne => (Below.heap_setCell w ⟨g, i, none⟩ u k (fun e => hne (by rw [e]))).trans (h.block k hk hne)⟩
theorem grown_drew {a w : World} {row : Option Nat} (h : a.grownBy w row) : a.grownBy w.drew row := ⟨h.os, h.tape, h.output, h.size, h.block⟩
theorem grown_drewN {a w : World} {row : Option Nat} (h : a.grownBy w row) (n : Nat) : a.grownBy (w.drewN n) row := ⟨h.os, h.tape, h.output, h.size, h.block⟩
theorem grown_below {B : Nat} {W w w' : World} {row : Option Nat} (hb : Below B W w) (hg : w.grownBy w' row) (hB : B ≤ w.heap.size) (hr : ∀ k, row = some k → B ≤ k) : Below B W w' := hb.grown hg hB hr
theorem own_grown {w w' : World} {row : Option Nat} {base : Nat} {e : TypeId} {size : Nat} {v : Value} {n : Nat} {xs : List Value} (h : w.ownsRow base e size v n xs) (hg : w.grownBy w' row) (hne : ∀ k, v.ownBlock = some k → row ≠ some k) : w'.ownsRow base e size v n xs := by
  refine h.kept hg ?_
  rcases hv : v.ownBlock with _ | k
  · exact .inl rfl
  · exact .inr (fun e => hne k hv e.symm)

/-- Cells written one behind the other. -/
def setsAt (xs : List Value) (k : Nat) : List Value → List Value
  | [] => xs
  | c :: cs => setsAt (xs.set k c) (k + 1) cs
theorem setsAt_app : ∀ (cs A xs : List Value), cs.length ≤ xs.length → setsAt (A ++ xs) A.length cs = A ++ cs ++ xs.drop cs.length
  | [], A, xs, _ => by simp [setsAt]
  | c :: cs, A, [], h => by simp at h
  | c :: cs, A, x :: xs, h => by
    have hs : (A ++ x :: xs).set A.length c = (A ++ [c]) ++ xs := by
      rw [List.set_append_right _ _ (Nat.le_refl _)]
      simp
    have ih := setsAt_app cs (A ++ [c]) xs (by simpa using h)
    rw [setsAt, hs]
    rw [List.length_append, List.length_singleton] at ih
    rw [ih]
    simp

/-- The same cells, k times. -/
def marks (c : List Value) (k : Nat) : List Value := (List.replicate k c).flatten
theorem marks_zero (c : List Value) : marks c 0 = [] := rfl
theorem marks_succ (c : List Value) (k : Nat) : marks c (k + 1) = marks c k ++ c := by
  unfold marks
  rw [List.replicate_succ', List.flatten_append]; simp
theorem marks_length (c : List Value) (k : Nat) : (marks c k).length = k * c.length := by simp [marks]
theorem marks_add (c : List Value) (k : Nat) : ∀ n, marks c (k + n) = marks c k ++ marks c n
  | 0 => by simp [marks_zero]
  | n + 1 => by rw [← Nat.add_assoc, marks_succ, marks_add c k n, marks_succ, List.append_assoc]
theorem marks_get (c : List Value) (k i j : Nat) (hi : i < k) (hj : j < c.length) : (marks c k)[i * c.length + j]? = c[j]? := by
  induction k with
  | zero => omega
  | succ k ih =>
    rw [marks_succ]
    have hl := marks_length c k
    by_cases h : i < k
    · rw [List.getElem?_append_left (by
        have : (i + 1) * c.length ≤ k * c.length := Nat.mul_le_mul_right _ h
        rw [Nat.succ_mul] at this
        omega)]
      exact ih h
    · obtain rfl : i = k := by omega
      rw [List.getElem?_append_right (by omega), hl]
      congr 1
      omega

/-- LISTS THAT ARE GROWN: the lists L (each full of its mark), what was made of the first i of them (each with its own marks more behind it); no two of different numbers lie in one block. -/
def Two (w : World) (b0 : Nat) (te : TypeId) (sz n : Nat) (L M : Nat → Value) (ln : Nat → Nat) (mk mk2 : Nat → List Value) (add i : Nat) : Prop :=
  (∀ j, j < n → w.ownsRow b0 te sz (L j) (ln j) (marks (mk j) (ln j))) ∧ (∀ j, j < i → w.ownsRow b0 te sz (M j) (ln j + add) (marks (mk j) (ln j) ++ marks (mk2 j) add)) ∧
    ∃ who : Nat → Nat, (∀ j, j < n → ∀ b, (L j).ownBlock = some b → who b = j) ∧ ∀ j, j < i → ∀ b, (M j).ownBlock = some b → who b = j
/-- .. and one of them is being grown. -/
def TwoIn (w : World) (b0 : Nat) (te : TypeId) (sz n : Nat) (L M : Nat → Value) (ln : Nat → Nat) (mk mk2 : Nat → List Value) (add i : Nat) (l : Value) (t : Nat) : Prop :=
  (∀ j, j < n → w.ownsRow b0 te sz (L j) (ln j) (marks (mk j) (ln j))) ∧ (∀ j, j < i → w.ownsRow b0 te sz (M j) (ln j + add) (marks (mk j) (ln j) ++ marks (mk2 j) add)) ∧
    w.ownsRow b0 te sz l (ln i + t) (marks (mk i) (ln i) ++ marks (mk2 i) t) ∧
    ∃ who : Nat → Nat, (∀ j, j < n → ∀ b, (L j).ownBlock = some b → who b = j) ∧ (∀ j, j < i → ∀ b, (M j).ownBlock = some b → who b = j) ∧ ∀ b, l.ownBlock = some b → who b = i
section
variable {w w' : World} {b0 : Nat} {te : TypeId} {sz n : Nat} {L M : Nat → Value} {ln : Nat → Nat} {mk mk2 : Nat → List Value} {add i : Nat} {l : Value} {t : Nat}
theorem Two.start (h1 : ∀ j, j < n → w.ownsRow b0 te sz (L j) (ln j) (marks (mk j) (ln j))) (h2 : ∀ i j, i < n → j < n → i ≠ j → ∀ b, (L i).ownBlock = some b → (L j).ownBlock ≠ some b) : Two w b0 te sz n L M ln mk mk2 add 0 := by
  classical
  refine ⟨h1, fun j hj => absurd hj (Nat.not_lt_zero _), fun b => if h : ∃ j, j < n ∧ (L j).ownBlock = some b then h.choose else 0, fun j hj b hb => ?_, fun j hj => absurd hj (Nat.not_lt_zero _)⟩
  have h : ∃ j, j < n ∧ (L j).ownBlock = some b := ⟨j, hj, hb⟩
  show (if h : ∃ j, j < n ∧ (L j).ownBlock = some b then h.choose else 0) = j
  rw [dif_pos h]
  obtain ⟨k1, k2⟩ := h.choose_spec
  by_cases e : h.choose = j
  · exact e
  · exact absurd hb (h2 _ j k1 hj e b k2)
theorem Two.go (h : Two w b0 te sz n L M ln mk mk2 add i) (hi : i < n) : TwoIn w b0 te sz n L M ln mk mk2 add i (L i) 0 := by
  obtain ⟨h1, h2, who, h3, h4⟩ := h
  exact ⟨h1, h2, by rw [marks_zero, List.append_nil]; exact h1 i hi, who, h3, h4, h3 i hi⟩
theorem TwoIn.stop (h : TwoIn w b0 te sz n L M ln mk mk2 add i l add) : Two w b0 te sz n L (fun j => if j = i then l else M j) ln mk mk2 add (i + 1) := by
  obtain ⟨h1, h2, h3, who, h4, h5, h6⟩ := h
  refine ⟨h1, fun j hj => ?_, who, h4, fun j hj b hb => ?_⟩
  · by_cases e : j = i
    · subst e; simpa using h3
    · simp only [if_neg e]; exact h2 j (by omega)
  · by_cases e : j = i
    · subst e; simp only [if_true] at hb; exact h6 b hb
    · simp only [if_neg e] at hb; exact h5 j (by omega) b hb
/-- Whatever keeps all rows of the element type keeps this. -/
theorem Two.keep (h : Two w b0 te sz n L M ln mk mk2 add i) (hk : ∀ (v : Value) (m : Nat) (xs : List Value), w.ownsRow b0 te sz v m xs → w'.ownsRow b0 te sz v m xs) : Two w' b0 te sz n L M ln mk mk2 add i := by
  obtain ⟨h1, h2, h3⟩ := h
  exact ⟨fun j hj => hk _ _ _ (h1 j hj), fun j hj => hk _ _ _ (h2 j hj), h3⟩
theorem TwoIn.keep (h : TwoIn w b0 te sz n L M ln mk mk2 add i l t) (hk : ∀ (v : Value) (m : Nat) (xs : List Value), w.ownsRow b0 te sz v m xs → w'.ownsRow b0 te sz v m xs) : TwoIn w' b0 te sz n L M ln mk mk2 add i l t := by
  obtain ⟨h1, h2, h3, h4⟩ := h
  exact ⟨fun j hj => hk _ _ _ (h1 j hj), fun j hj => hk _ _ _ (h2 j hj), hk _ _ _ h3, h4⟩
/-- One more. -/
theorem TwoIn.append (h : TwoIn w b0 te sz n L M ln mk mk2 add i l t) (hi : i < n) (hsz : 0 < sz) {g cap : Nat} (hn : w'.ownsRow b0 te sz (.slice (some ⟨g, 0, none⟩) (ln i + t + 1) cap) (ln i + t + 1) ((marks (mk i) (ln i) ++ marks (mk2 i) t) ++ mk2 i))
    (ho : w'.ownsRow b0 te sz l (ln i + t) (marks (mk i) (ln i) ++ marks (mk2 i) t)) (hL : Lies w w' l (ln i + t) g cap) : TwoIn w' b0 te sz n L M ln mk mk2 add i (.slice (some ⟨g, 0, none⟩) (ln i + t + 1) cap) (t + 1) := by
  obtain ⟨h1, h2, h3, who, h4, h5, h6⟩ := h
  have k1 : ∀ j, j < n → w'.ownsRow b0 te sz (L j) (ln j) (marks (mk j) (ln j)) := fun j hj => by
    by_cases hb : ∃ b, (L j).ownBlock = some b ∧ l.ownBlock = some b
    · obtain ⟨b, e1, e2⟩ := hb
      obtain rfl : j = i := (h4 j hj b e1).symm.trans (h6 b e2)
      exact own_same (h1 j hj) h3 ho e1 e2 (Nat.le_add_right _ _) hsz
    · exact hL.own (h1 j hj) (fun k hk e => hb ⟨k, hk, e⟩)
  have k2 : ∀ j, j < i → w'.ownsRow b0 te sz (M j) (ln j + add) (marks (mk j) (ln j) ++ marks (mk2 j) add) := fun j hj => hL.own (h2 j hj) (fun k hk e => by
    have := (h5 j hj k hk).symm.trans (h6 k e)
    omega)
  have k3 : w'.ownsRow b0 te sz (.slice (some ⟨g, 0, none⟩) (ln i + t + 1) cap) (ln i + (t + 1)) (marks (mk i) (ln i) ++ marks (mk2 i) (t + 1)) := by
    rw [marks_succ, ← List.append_assoc]; exact hn
  refine ⟨k1, k2, k3, ?_⟩
  rcases hL with ⟨rfl, _⟩ | ⟨rfl, _⟩
  · exact ⟨who, h4, h5, fun b hb => h6 b hb⟩
  · refine ⟨fun b => if b = w.heap.size then i else who b, fun j hj b hb => ?_, fun j hj b hb => ?_, fun b hb => ?_⟩
    · have := ((h1 j hj).lt b hb).2
      simp only [if_neg (show ¬ b = w.heap.size by omega)]
      exact h4 j hj b hb
    · have := ((h2 j hj).lt b hb).2
      simp only [if_neg (show ¬ b = w.heap.size by omega)]
      exact h5 j hj b hb
    · obtain rfl : w.heap.size = b := Option.some.inj hb
      simp
end
theorem rows_snoc (M : Nat → Value) (l : Value) (k : Nat) : (List.range (k + 1)).map (fun j => if j = k then l else M j) = (List.range k).map M ++ [l] := by
  rw [List.range_succ, List.map_append]
  congr 1
  · exact List.map_congr_left fun j hj => by
      have := List.mem_range.1 hj
      simp only [if_neg (show ¬ j = k by omega)]
  · simp

/-- No two of the first n lists lie in one block. -/
def ApartL (n : Nat) (L : Nat → Value) : Prop := ∀ i j, i < n → j < n → i ≠ j → ∀ b, (L i).ownBlock = some b → (L j).ownBlock ≠ some b
/-- A LIST OF LISTS: l holds the lists L, of N j elements each, each in a block of its own. -/
def Lists (w : World) (B : Nat) (tl te : TypeId) (sz k : Nat) (l : Value) (L : Nat → Value) (N : Nat → Nat) (X : Nat → List Value) : Prop :=
  w.ownsRow B tl 1 l k ((List.range k).map L) ∧ (∀ j, j < k → w.ownsRow B te sz (L j) (N j) (X j)) ∧ ApartL k L
theorem Lists.none_ (w : World) (B : Nat) (tl te : TypeId) (sz : Nat) (L : Nat → Value) (N : Nat → Nat) (X : Nat → List Value) : Lists w B tl te sz 0 (.slice none 0 0) L N X :=
  ⟨World.ownsRow_nil _ _ _ _, fun j hj => absurd hj (Nat.not_lt_zero _), fun i j hi => absurd hi (Nat.not_lt_zero _)⟩
section
variable {w w' : World} {B : Nat} {tl te : TypeId} {sz k : Nat} {l va : Value} {L : Nat → Value} {N : Nat → Nat} {X : Nat → List Value}
theorem Lists.below (h : Lists w B tl te sz k l L N X) (hb : Below w.heap.size w w') : Lists w' B tl te sz k l L N X :=
  ⟨own_belowAll h.1 hb, fun j hj => own_belowAll (h.2.1 j hj) hb, h.2.2⟩
/-- One list more, which lies in new memory, or in none. -/
theorem Lists.step (h : Lists w B tl te sz k l L N X) (hv : w.ownsRow B te sz va (N k) (X k)) (hnew : ∀ b, va.ownBlock = some b → ∀ j, j < k → (L j).ownBlock ≠ some b) (hte : tl ≠ te) (o : Obj) {g cap : Nat}
    (hown : w'.ownsRow B tl 1 (.slice (some ⟨g, 0, none⟩) (k + 1) cap) (k + 1) ((List.range k).map L ++ [va])) (hlies : Lies (w.alloc o) w' l k g cap) :
    Lists w' B tl te sz (k + 1) (.slice (some ⟨g, 0, none⟩) (k + 1) cap) (fun j => if j = k then va else L j) N X := by
  obtain ⟨h1, h2, h3⟩ := h
  refine ⟨by rw [rows_snoc]; exact hown, fun j hj => ?_, fun i j hi hj hij b hb hb2 => ?_⟩
  · have hr : w.ownsRow B te sz (if j = k then va else L j) (N j) (X j) := by
      by_cases e : j = k
      · subst e; simpa using hv
      · simp only [if_neg e]; exact h2 j (by omega)
    exact hlies.own (hr.alloc o) (fun b hb e => own_ne h1 hr hte b e hb)
  · by_cases e1 : i = k
    · by_cases e2 : j = k
      · omega
      · simp only [if_pos e1] at hb
        simp only [if_neg e2] at hb2
        exact hnew b hb j (by omega) hb2
    · simp only [if_neg e1] at hb
      by_cases e2 : j = k
      · simp only [if_pos e2] at hb2
        exact hnew b hb2 i (by omega) hb
      · simp only [if_neg e2] at hb2
        exact h3 i j (by omega) (by omega) hij b hb hb2
theorem Lists.fresh (h : Lists w B tl te sz k l L N X) {H : Nat} (hH : w.heap.size ≤ H) (hv : ∀ b, va.ownBlock = some b → H ≤ b) : ∀ b, va.ownBlock = some b → ∀ j, j < k → (L j).ownBlock ≠ some b := fun b hb j hj e => by
  have := ((h.2.1 j hj).lt b e).2
  have := hv b hb
  omega
end
/-- Of a question that is asked in rounds 0, 1, 4, and another one in rounds 2, 3. -/
def q4 {α : Type} (x y : α) (j : Nat) : α := if j = 2 ∨ j = 3 then y else x
theorem q4_x {α : Type} (x y : α) {j : Nat} (h : ¬ (j = 2 ∨ j = 3)) : q4 x y j = x := if_neg h
theorem q4_y {α : Type} (x y : α) {j : Nat} (h : j = 2 ∨ j = 3) : q4 x y j = y := if_pos h
theorem ApartL_of_lo {n : Nat} {L : Nat → Value} (lo : Nat → Nat) (hs : ∀ j, j < n → lo j ≤ lo (j + 1)) (h : ∀ j, j < n → ∀ b, (L j).ownBlock = some b → lo j ≤ b ∧ b < lo (j + 1)) : ApartL n L := by
  have mono : ∀ d i, i + d ≤ n → lo i ≤ lo (i + d) := by
    intro d
    induction d with
    | zero => intro i _; exact Nat.le_refl _
    | succ d ih => intro i hi; exact Nat.le_trans (ih i (by omega)) (hs (i + d) (by omega))
  intro i j hi hj hij b hb hb2
  have h1 := h i hi b hb
  have h2 := h j hj b hb2
  rcases Nat.lt_or_ge i j with hlt | hge
  · have := mono (j - (i + 1)) (i + 1) (by omega)
    rw [show i + 1 + (j - (i + 1)) = j by omega] at this
    omega
  · have := mono (i - (j + 1)) (j + 1) (by omega)
    rw [show j + 1 + (i - (j + 1)) = i by omega] at this
    omega
end Go.Proofs.Ytahdaccmokjgpaa
