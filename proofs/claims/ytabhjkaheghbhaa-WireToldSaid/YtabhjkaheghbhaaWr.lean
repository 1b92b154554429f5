/-
  WALKS: the program's writer: a strings.Builder that lies in a struct, and a refusal.
-/
import Derived.Test.YtabhjkaheghbhaaRead2
import Derived.Lib.Builder
import Derived.Lib.AppendStr
import Derived.Lib.UnsafeStr
import Derived.Laws.Externs
import Derived.Deep.WholeRow
import Derived.Laws.ResultCell
import Derived.Shelf.RegionOpenPlain
namespace Go.Proofs.Ytabhjkaheghbhaa
open Go.RowKit
set_option linter.unusedVariables false

/-- Blocks of other types than bytes, but r, are as they were. -/
def Oth (w w' : World) (r : Nat) : Prop := ∀ k cs T fr, k ≠ r → T ≠ 5 → w.heap[k]? = some (.cells cs T fr) → w'.heap[k]? = w.heap[k]?
theorem Oth.refl (w : World) (r : Nat) : Oth w w r := fun _ _ _ _ _ _ _ => rfl
theorem Oth.trans {a b c : World} {r : Nat} (h1 : Oth a b r) (h2 : Oth b c r) : Oth a c r := fun k cs T fr hk hT e => (h2 k cs T fr hk hT ((h1 k cs T fr hk hT e).trans e)).trans (h1 k cs T fr hk hT e)
theorem Oth.below {w w' : World} (r : Nat) (h : Below w.heap.size w w') : Oth w w' r := fun k cs T fr hk hT e => h.block k (Array.getElem?_eq_some_iff.1 e).1
theorem Oth.drew (w : World) (r : Nat) : Oth w w.drew r := fun _ _ _ _ _ _ _ => rfl
theorem Oth.setCell (w : World) (r j : Nat) (v : Value) : Oth w (w.setCell ⟨r, j, none⟩ v) r := fun k cs T fr hk hT e => Below.heap_setCell _ _ _ _ hk
theorem Oth.grown {w w' : World} {r : Nat} {B n : Nat} {v : Value} {xs : List Value} (h : w.grownBy w' v.ownBlock) (hown : w.ownsRow B 5 1 v n xs) : Oth w w' r := by
  intro k cs T fr hk hT e
  refine h.block k (Array.getElem?_eq_some_iff.1 e).1 ?_
  rcases hown.2 with ⟨rfl, _⟩ | ⟨g, c, cur, rfl, hbg, hg, rest⟩
  · simp [Value.ownBlock]
  · intro e2
    simp [Value.ownBlock] at e2
    subst e2
    rw [e] at hg
    simp at hg
    exact hT hg.2.1
/-- A writer in memory, of its builder's own address p. -/
def Wp (w : World) (B r : Nat) (p : Value) (l : List UInt8) (bad : Int) : Prop :=
  B ≤ r ∧ ∃ v, w.heap[r]? = some (.cells #[p, v, .int .i64 bad] 87 (0, 0)) ∧ w.ownsRow B 5 1 v l.length (Lib.byteCells l) ∧ v.ownBlock ≠ some r
def Wr (w : World) (B r : Nat) (l : List UInt8) (bad : Int) : Prop := Wp w B r (.pointer none) l bad ∨ Wp w B r (.pointer (some ⟨r, 0, none⟩)) l bad
theorem Wp.wr {w : World} {B r : Nat} {l : List UInt8} {bad : Int} (h : Wp w B r (.pointer (some ⟨r, 0, none⟩)) l bad) : Wr w B r l bad := .inr h
theorem Wr.ex {w : World} {B r : Nat} {l : List UInt8} {bad : Int} (h : Wr w B r l bad) : ∃ p, Wp w B r p l bad := by
  rcases h with h | h
  · exact ⟨_, h⟩
  · exact ⟨_, h⟩
theorem Wp.lt {w : World} {B r : Nat} {p : Value} {l : List UInt8} {bad : Int} (h : Wp w B r p l bad) : r < w.heap.size := by
  obtain ⟨_, v, hb, _⟩ := h
  rcases Nat.lt_or_ge r w.heap.size with h' | h'
  · exact h'
  · simp [Array.getElem?_eq_none h'] at hb
theorem Wr.lt {w : World} {B r : Nat} {l : List UInt8} {bad : Int} (h : Wr w B r l bad) : r < w.heap.size := by
  obtain ⟨p, h⟩ := h.ex
  exact h.lt
theorem Wr.le {w : World} {B r : Nat} {l : List UInt8} {bad : Int} (h : Wr w B r l bad) : B ≤ r := by
  obtain ⟨p, h⟩ := h.ex
  exact h.1
theorem Wr.cells {w : World} {B r : Nat} {l : List UInt8} {bad : Int} (h : Wr w B r l bad) : w.cell? ⟨r, 2, none⟩ = some (.int .i64 bad) ∧ ∀ j, w.frozen? ⟨r, j, none⟩ = false := by
  obtain ⟨p, _, v, hb, _⟩ := h.ex
  simp [World.cell?, World.frozen?, hb]
theorem Wp.used {w : World} {B r : Nat} {p : Value} {l : List UInt8} {bad : Int} (h : Wp w B r p l bad) (q : Value) : Wp (w.setCell ⟨r, 0, none⟩ q) B r q l bad := by
  obtain ⟨hB, v, hb, hown, hne⟩ := h
  refine ⟨hB, v, by simp [World.setCell, Array.getElem?_modify, hb], ?_, hne⟩
  refine ⟨hown.1, ?_⟩
  rcases hown.2 with hn | ⟨g, c, cur, rfl, hbg, hg, rest⟩
  · exact .inl hn
  · exact .inr ⟨g, c, cur, rfl, hbg, (Below.heap_setCell _ _ _ _ (fun e => hne (by simp [Value.ownBlock, e]))).trans hg, rest⟩
theorem Wp.bad {w : World} {B r : Nat} {p : Value} {l : List UInt8} {bad : Int} (h : Wp w B r p l bad) (e : Int) : Wp (w.setCell ⟨r, 2, none⟩ (.int .i64 e)) B r p l e := by
  obtain ⟨hB, v, hb, hown, hne⟩ := h
  refine ⟨hB, v, by simp [World.setCell, Array.getElem?_modify, hb], ?_, hne⟩
  refine ⟨hown.1, ?_⟩
  rcases hown.2 with hn | ⟨g, c, cur, rfl, hbg, hg, rest⟩
  · exact .inl hn
  · exact .inr ⟨g, c, cur, rfl, hbg, (Below.heap_setCell _ _ _ _ (fun e => hne (by simp [Value.ownBlock, e]))).trans hg, rest⟩
theorem Wr.bad {w : World} {B r : Nat} {l : List UInt8} {bad : Int} (h : Wr w B r l bad) (e : Int) : Wr (w.setCell ⟨r, 2, none⟩ (.int .i64 e)) B r l e := by
  rcases h with h | h
  · exact .inl (h.bad e)
  · exact .inr (h.bad e)
/-- What leaves the blocks that are there as they were leaves a writer as it was. -/
theorem Wp.keep {w w' : World} {B r : Nat} {p : Value} {l : List UInt8} {bad : Int} (h : Wp w B r p l bad) (hk : ∀ k, k < w.heap.size → w'.heap[k]? = w.heap[k]?) : Wp w' B r p l bad := by
  have hlt := h.lt
  obtain ⟨hB, v, hb, hown, hne⟩ := h
  refine ⟨hB, v, (hk r hlt).trans hb, ?_, hne⟩
  refine ⟨hown.1, ?_⟩
  rcases hown.2 with hn | ⟨g, c, cur, rfl, hbg, hg, rest⟩
  · exact .inl hn
  · exact .inr ⟨g, c, cur, rfl, hbg, (hk g (Array.getElem?_eq_some_iff.1 hg).1).trans hg, rest⟩
theorem Wr.keep {w w' : World} {B r : Nat} {l : List UInt8} {bad : Int} (h : Wr w B r l bad) (hk : ∀ k, k < w.heap.size → w'.heap[k]? = w.heap[k]?) : Wr w' B r l bad := by
  rcases h with h | h
  · exact .inl (h.keep hk)
  · exact .inr (h.keep hk)
theorem Wr.alloc {w : World} {B r : Nat} {l : List UInt8} {bad : Int} (h : Wr w B r l bad) (o : Obj) : Wr (w.alloc o) B r l bad := h.keep fun k hk => Below.heap_alloc _ _ _ hk
theorem Wr.below {w w' : World} {B r : Nat} {l : List UInt8} {bad : Int} (h : Wr w B r l bad) (hb : Below w.heap.size w w') : Wr w' B r l bad := h.keep fun k hk => hb.block k hk
theorem Wr.drewN {w : World} {B r : Nat} {l : List UInt8} {bad : Int} (h : Wr w B r l bad) (n : Nat) : Wr (w.drewN n) B r l bad := h.keep fun k hk => rfl
theorem Wr.new (w : World) : Wr (w.alloc (.cells #[.pointer none, .slice none 0 0, .int .i64 0] 87)) w.heap.size w.heap.size [] 0 :=
  .inl ⟨Nat.le_refl _, _, heap_alloc_last w _, ⟨rfl, .inl ⟨rfl, rfl⟩⟩, by simp [Value.ownBlock]⟩

set_option maxHeartbeats 1000000 in
set_option maxRecDepth 100000 in
theorem copyCheck_calls (B r : Nat) (l : List UInt8) (bad : Int) (w : World) (h : Wr w B r l bad) :
    Calls Try.prog 82 #[.pointer (some ⟨r, 0, none⟩)] w fun e w' => e = .returned (.tuple #[]) ∧ Wp w' B r (.pointer (some ⟨r, 0, none⟩)) l bad ∧ Below B w w' ∧ (∀ k, k ≠ r → w'.heap[k]? = w.heap[k]?) := by
  obtain ⟨j, hj, hjs⟩ := Option.map_eq_some_iff.1 (show (Try.prog.info? 85).map (·.size) = some 2 by kernel_rfl)
  have hlies : liesAt Try.prog Try.prog.depth 87 (3 / Try.prog.cellsOf 87) 0 85 1 = true := by kernel_rfl
  rcases h with h | h
  · have hsh : w.shape? r = some (87, 3) := by
      obtain ⟨_, v, hb, _⟩ := h
      simp [World.shape?, hb]
    have c0 : w.cell? ⟨r, 0, none⟩ = some (.pointer none) := by
      obtain ⟨_, v, hb, _⟩ := h
      simp [World.cell?, hb]
    have hfz : w.frozen? ⟨r, 0, none⟩ = false := by
      obtain ⟨_, v, hb, _⟩ := h
      simp [World.frozen?, hb]
    have HW := Lib.hid (h.used (.pointer (some ⟨r, 0, none⟩)))
    have HB := Lib.hid ((Below.refl B w).setCell (p := ⟨r, 0, none⟩) h.1 (.pointer (some ⟨r, 0, none⟩)))
    clear h
    go_enter Try.func82, Try.ntmps82
    go_wp2
    rw [Lib.run_to_unsafe w ⟨r, 0, none⟩ Try.underlying82 Try.underlying122 hj (by rw [hjs]; decide) hsh (Nat.zero_lt_succ 2)]
    simp only [Result.andThen]
    rw [Oper.upon_value]
    go_wp2
    rw [run_callFunc_extern Try.func93 (by kernel_rfl) (by kernel_rfl) (by kernel_rfl) (e := Extern.AbiNoEscape.same) (by kernel_rfl)]
    rw [Lib.run_noEscape]
    simp only [Result.andThen]
    rw [Oper.upon_value]
    go_wp2
    rw [Lib.run_from_unsafe w ⟨r, 0, none⟩ Try.underlying122 Try.underlying82 hj hsh hlies]
    simp only [Result.andThen]
    rw [Oper.upon_value]
    go_wp2
    go_end0
    exact ⟨rfl, HW.out, HB.out, fun k hk => Below.heap_setCell _ _ _ _ hk⟩
  · have c0 : w.cell? ⟨r, 0, none⟩ = some (.pointer (some ⟨r, 0, none⟩)) := by
      obtain ⟨_, v, hb, _⟩ := h
      simp [World.cell?, hb]
    have HW := Lib.hid h
    clear h
    go_enter Try.func82, Try.ntmps82
    go_wp2
    rw [Lib.run_neq_ptr_same w _ Try.underlying82 hj]
    go_wp2
    go_end0
    exact ⟨rfl, HW.out, Below.refl B _, fun _ _ => rfl⟩

/-- A new buffer is laid down. -/
theorem Wp.put {w : World} {B r : Nat} {p v v' : Value} {l' : List UInt8} {bad : Int} (hB : B ≤ r) (hb : w.heap[r]? = some (.cells #[p, v, .int .i64 bad] 87 (0, 0)))
    (hown : w.ownsRow B 5 1 v' l'.length (Lib.byteCells l')) : Wp (w.setCell ⟨r, 1, none⟩ v') B r p l' bad := by
  have hne : v'.ownBlock ≠ some r := by
    rcases hown.2 with ⟨rfl, _⟩ | ⟨g, c, cur, rfl, hbg, hg, rest⟩
    · simp [Value.ownBlock]
    · intro e
      simp [Value.ownBlock] at e
      subst e
      rw [hb] at hg
      have hT : 87 ≠ 5 := by decide
      simp at hg
  refine ⟨hB, v', by simp [World.setCell, Array.getElem?_modify, hb], ?_, hne⟩
  refine ⟨hown.1, ?_⟩
  rcases hown.2 with hn | ⟨g, c, cur, rfl, hbg, hg, rest⟩
  · exact .inl hn
  · exact .inr ⟨g, c, cur, rfl, hbg, (Below.heap_setCell _ _ _ _ (fun e => hne (by simp [Value.ownBlock, e]))).trans hg, rest⟩

set_option maxHeartbeats 2000000 in
set_option maxRecDepth 100000 in
theorem WriteString_calls (B r : Nat) (l : List UInt8) (bad : Int) (s : ByteArray) (w : World) (h : Wr w B r l bad) (hlen : l.length + s.size ≤ 140737488355328) :
    Calls Try.prog 84 #[.pointer (some ⟨r, 0, none⟩), .string s] w fun e w' => e = .returned (.tuple #[.int .i64 s.size, .nilIface]) ∧ Wp w' B r (.pointer (some ⟨r, 0, none⟩)) (l ++ s.data.toList) bad ∧ Below B w w' ∧ Oth w w' r := by
  obtain ⟨i0, hi, hz0, hz1, hz2⟩ := info_parts u8info'
  have C := Lib.hid (copyCheck_calls B r l bad w h)
  have hBw : B ≤ w.heap.size := Nat.le_trans h.le (Nat.le_of_lt h.lt)
  clear h
  go_enter Try.func84, Try.ntmps84
  go_wp2_with fail
  refine C.out.mono ?_
  rintro e w1 ⟨rfl, h1, hb1, hkk⟩
  have hlt := h1.lt
  have hBsz : B ≤ w1.heap.size := Nat.le_trans hBw hb1.size
  obtain ⟨hB, v, hbk, hown, hne⟩ := h1
  have c1 : w1.cell? ⟨r, 1, none⟩ = some v := by simp [World.cell?, hbk]
  have HK := Lib.hid hbk
  have HO := Lib.hid hown
  have HB1 := Lib.hid hb1
  have HKK := Lib.hid hkk
  clear hbk hown hb1 hkk
  go_wp2_with (at_builtin; refine Lib.wpList_append_own_string _ rfl _ _ 83 9 rfl B 5 i0 Try.underlying83 Try.underlying9 hi hz0 hz1 hz2 _ _ _ rfl HO.out s rfl ?c3 ?c4 ?c5 ?_)
  case c3 => unfold maxLen; omega
  case c4 => omega
  case c5 => exact hBsz
  intro v' w2 hown' hgrow _
  have hb2 : w2.heap[r]? = some (.cells #[.pointer (some ⟨r, 0, none⟩), v, .int .i64 bad] 87 (0, 0)) := by
    rw [hgrow.block r hlt (fun e => hne e.symm)]
    exact HK.out
  have d0 : w2.cell? ⟨r, 1, none⟩ = some v := by simp [World.cell?, hb2]
  have f1 : w2.frozen? ⟨r, 1, none⟩ = false := by simp [World.frozen?, hb2]
  have hown2 : w2.ownsRow B 5 1 v' (l ++ s.data.toList).length (Lib.byteCells (l ++ s.data.toList)) := by
    have e1 : (l ++ s.data.toList).length = l.length + s.size := by rw [List.length_append]; rfl
    rw [e1, Lib.byteCells_append]
    exact hown'
  have HW := Lib.hid (Wp.put hB hb2 hown2)
  have HBB := Lib.hid ((HB1.out.grown hgrow hBsz (fun k hk => (HO.out.lt k hk).1)).setCell (p := ⟨r, 1, none⟩) hB v')
  obtain ⟨ao, n', cap, rfl⟩ : ∃ ao n' cap, v' = .slice ao n' cap := by
    rcases hown'.2 with ⟨hv, _⟩ | ⟨g, cap, cur, hv, _⟩
    · exact ⟨_, _, _, hv⟩
    · exact ⟨_, _, _, hv⟩
  have HOT := Lib.hid (((Oth.trans (fun k _ _ _ hk _ _ => HKK.out k hk) (Oth.grown hgrow HO.out)).trans (Oth.setCell w2 r 1 (.slice ao n' cap))))
  clear hown' hown2 hb2 hgrow HO HK
  go_wp2
  go_ret2
  exact ⟨rfl, HW.out, HBB.out, HOT.out⟩

set_option maxHeartbeats 2000000 in
set_option maxRecDepth 100000 in
theorem Write_calls (B r : Nat) (l : List UInt8) (bad : Int) (g : Nat) (c0 c1 : UInt8) (w : World) (h : Wr w B r l bad) (hlen : l.length + 2 ≤ 140737488355328) (hg : ∀ j u, (Lib.byteCells [c0, c1])[j]? = some u → w.cell? ⟨g, j, none⟩ = some u) (hgr : g ≠ r) :
    Calls Try.prog 33 #[.pointer (some ⟨r, 0, none⟩), .slice (some ⟨g, 0, none⟩) 2 2] w fun e w' => e = .returned (.tuple #[.int .i64 2, .nilIface]) ∧ Wp w' B r (.pointer (some ⟨r, 0, none⟩)) (l ++ [c0, c1]) bad ∧ Below B w w' ∧ Oth w w' r := by
  obtain ⟨i0, hi, hz0, hz1, hz2⟩ := info_parts u8info'
  have C := Lib.hid (copyCheck_calls B r l bad w h)
  have hBw : B ≤ w.heap.size := Nat.le_trans h.le (Nat.le_of_lt h.lt)
  have HG := Lib.hid hg
  clear h hg
  go_enter Try.func33, Try.ntmps33
  go_wp2_with fail
  refine C.out.mono ?_
  rintro e w1 ⟨rfl, h1, hb1, hkk⟩
  have hlt := h1.lt
  have hBsz : B ≤ w1.heap.size := Nat.le_trans hBw hb1.size
  obtain ⟨hB, v, hbk, hown, hne⟩ := h1
  have e1 : w1.cell? ⟨r, 1, none⟩ = some v := by simp [World.cell?, hbk]
  have HK := Lib.hid hbk
  have HO := Lib.hid hown
  have HB1 := Lib.hid hb1
  have HKK := Lib.hid hkk
  clear hbk hown hb1 hkk
  go_wp2_with (at_builtin; refine wpList_append_own _ rfl _ _ 83 rfl B 5 i0 (.int .u8 0) 1 1 Try.underlying83 hi hz0 hz1 hz2 rfl (by decide) _ _ _ rfl HO.out ⟨g, 0, none⟩ 2 2 (Lib.byteCells [c0, c1]) rfl rfl ?c1 ?c2 ?c3 ?c4 ?c5 ?_)
  case c1 =>
    intro j u hj
    have := HG.out j u hj
    have hbb := HKK.out g hgr
    have ha : (⟨g, 0, none⟩ : Addr).add j = ⟨g, j, none⟩ := by cases j <;> simp [Addr.add]
    rw [ha]
    simpa [World.cell?, hbb] using this
  case c2 => intro u hu; simp [Lib.byteCells] at hu; rcases hu with rfl | rfl <;> rfl
  case c3 => unfold maxLen; omega
  case c4 => omega
  case c5 => exact hBsz
  intro v' w2 hown' hgrow _
  have hb2 : w2.heap[r]? = some (.cells #[.pointer (some ⟨r, 0, none⟩), v, .int .i64 bad] 87 (0, 0)) := by
    rw [hgrow.block r hlt (fun e => hne e.symm)]
    exact HK.out
  have d0 : w2.cell? ⟨r, 1, none⟩ = some v := by simp [World.cell?, hb2]
  have f1 : w2.frozen? ⟨r, 1, none⟩ = false := by simp [World.frozen?, hb2]
  have hown2 : w2.ownsRow B 5 1 v' (l ++ [c0, c1]).length (Lib.byteCells (l ++ [c0, c1])) := by
    have e1 : (l ++ [c0, c1]).length = l.length + 2 := by rw [List.length_append]; rfl
    rw [e1, Lib.byteCells_append]
    exact hown'
  have HW := Lib.hid (Wp.put hB hb2 hown2)
  have HBB := Lib.hid ((HB1.out.grown hgrow hBsz (fun k hk => (HO.out.lt k hk).1)).setCell (p := ⟨r, 1, none⟩) hB v')
  obtain ⟨ao, n', cap, rfl⟩ : ∃ ao n' cap, v' = .slice ao n' cap := by
    rcases hown'.2 with ⟨hv, _⟩ | ⟨g, cap, cur, hv, _⟩
    · exact ⟨_, _, _, hv⟩
    · exact ⟨_, _, _, hv⟩
  have HOT := Lib.hid (((Oth.trans (fun k _ _ _ hk _ _ => HKK.out k hk) (Oth.grown hgrow HO.out)).trans (Oth.setCell w2 r 1 (.slice ao n' cap))))
  clear hown' hown2 hb2 hgrow HO HK HG
  go_wp2
  go_ret2
  exact ⟨rfl, HW.out, HBB.out, HOT.out⟩

set_option maxHeartbeats 1000000 in
set_option maxRecDepth 100000 in
theorem String_calls (B r : Nat) (l : List UInt8) (bad : Int) (w : World) (h : Wr w B r l bad) (h0 : l ≠ []) :
    Calls Try.prog 86 #[.pointer (some ⟨r, 0, none⟩)] w fun e w' => e = .returned (.string ⟨l.toArray⟩) ∧ Below B w w' := by
  obtain ⟨p, hB, v, hbk, hown, hne⟩ := h.ex
  have hl0 : l.length ≠ 0 := by simpa using h0
  obtain ⟨g, cap, cur, rfl, hbg, hg, hnc, hcm, hcs, htake⟩ : ∃ g cap cur, v = .slice (some ⟨g, 0, none⟩) l.length cap ∧ B ≤ g ∧ w.heap[g]? = some (.cells cur 5 (0, 0)) ∧ l.length ≤ cap ∧ cap ≤ maxLen ∧ cur.size = cap * 1 ∧ cur.toList.take (l.length * 1) = Lib.byteCells l := by
    rcases hown.2 with ⟨_, hz⟩ | ⟨g, cap, cur, hv, r⟩
    · exact absurd hz hl0
    · exact ⟨g, cap, cur, hv, r⟩
  have c1 : w.drew.cell? ⟨r, 1, none⟩ = some (.slice (some ⟨g, 0, none⟩) l.length cap) := by
    have : w.drew.heap[r]? = some (.cells #[p, .slice (some ⟨g, 0, none⟩) l.length cap, .int .i64 bad] 87 (0, 0)) := hbk
    simp [World.cell?, this]
  have hSD : (Builtin.unsafeSliceData_ #[83] 125 #[.slice (some ⟨g, 0, none⟩) l.length cap]).run Try.prog w.drew = .ok (.pointer (some ⟨g, 0, none⟩)) w.drew :=
    Lib.run_unsafeSliceData_row _ _ _ _ _ _ (by omega)
  have hUS : (Builtin.unsafeString_ #[125, 3] 9 #[.pointer (some ⟨g, 0, none⟩), .int .i64 l.length]).run Try.prog w.drew = .ok (.string ⟨l.toArray⟩) (w.drew.freeze ⟨g, 0, none⟩ l.length) := by
    refine Lib.run_unsafeString_row w.drew 125 3 9 5 Try.underlying125 (by kernel_rfl) g cur.size (by have hg' : w.drew.heap[g]? = some (.cells cur 5 (0, 0)) := hg; simp [World.shape?, hg']) l h0 (by omega) (by unfold maxLen at hcm; omega) ?_
    intro j x hx
    exact hown.cells (g := g) rfl j (.int .u8 x.toNat) (by simp [Lib.byteCells, hx])
  have hbg' := Lib.hid hbg
  have mixed : Try.prog.follows .mixedOrders = true := by kernel_rfl
  clear hown hbk hg htake hne h hbg
  go_enter Try.func86, Try.ntmps86
  go_wp2
  go_region_o
  all_goals (go_wp2; go_ret; exact ⟨rfl, Lib.below_freeze (Below.drew (Below.refl B w)) (p := ⟨g, 0, none⟩) hbg'.out _⟩)

theorem wrefuse_calls (B r : Nat) (l : List UInt8) (bad : Int) (is : Bool) (E : Int) (w : World) (h : Wr w B r l bad) :
    Calls Try.prog 83 #[.pointer (some ⟨r, 0, none⟩), .bool is, .int .i64 E] w fun x w' => x = .returned (.tuple #[]) ∧ Wr w' B r l (rf is E bad) ∧ Below B w w' ∧ Oth w w' r := by
  obtain ⟨c2, cf⟩ := h.cells
  have f2 := cf 2
  have H := Lib.hid h
  clear h cf
  cases is
  · have hrf : rf false E bad = bad := by simp [rf]
    rw [hrf]
    go_enter Try.func83, Try.ntmps83
    go_wp2
    go_end0
    exact ⟨rfl, H.out, Below.refl _ _, Oth.refl _ _⟩
  · by_cases he : bad = 0
    · subst he
      have hrf : rf true E 0 = E := by simp [rf]
      rw [hrf]
      have HB := Lib.hid ((Below.refl B w).setCell (p := ⟨r, 2, none⟩) H.out.le (.int .i64 E))
      go_enter Try.func83, Try.ntmps83
      go_wp2
      go_end0
      exact ⟨rfl, H.out.bad E, HB.out, Oth.setCell _ _ _ _⟩
    · have hrf : rf true E bad = bad := by simp [rf, he]
      rw [hrf]
      have he2 : (bad == 0) = false := by rw [beq_eq_false_iff_ne]; exact he
      clear he
      go_enter Try.func83, Try.ntmps83
      go_wp2
      go_end0
      exact ⟨rfl, H.out, Below.refl _ _, Oth.refl _ _⟩

set_option maxRecDepth 100000 in
theorem done_calls (B r : Nat) (l : List UInt8) (bad : Int) (w : World) (h : Wr w B r l bad) (h0 : l ≠ []) :
    Calls Try.prog 35 #[.pointer (some ⟨r, 0, none⟩)] w fun x w' => x = .returned (.tuple #[.string (if bad = 0 then ⟨l.toArray⟩ else ⟨#[]⟩), .int .i64 bad]) ∧ Below B w w' := by
  obtain ⟨c2, cf⟩ := h.cells
  have C := Lib.hid (String_calls B r l bad w h h0)
  have H := Lib.hid h
  clear h cf
  by_cases he : bad = 0
  · subst he
    rw [if_pos rfl]
    go_enter Try.func35, Try.ntmps35
    go_wp2_with fail
    refine C.out.mono ?_
    rintro x w1 ⟨rfl, h1⟩
    go_wp2
    go_ret2
    exact ⟨rfl, h1⟩
  · rw [if_neg he]
    have he2 : (bad == 0) = false := by rw [beq_eq_false_iff_ne]; exact he
    clear he
    go_enter Try.func35, Try.ntmps35
    go_wp2
    go_quiet (fail)
    go_wp2
    go_ret2
    exact ⟨rfl, (Below.refl B w).os, (Below.refl B w).tape, (Below.refl B w).output, Nat.le_refl _, fun _ _ => rfl⟩
end Go.Proofs.Ytabhjkaheghbhaa
