/-
  WALKS: the program's builder of sorted files: a strings.Builder that lies in a struct, lines, a sum.
-/
import Derived.Test.YtihgjihdmlomaaaDoorBkG
import Derived.Test.YtihgjihdmlomaaaDoorRows2
import Derived.Test.YtihgjihdmlomaaaDoorApp
import Derived.Lib.Builder
import Derived.Lib.AppendStr
import Derived.Lib.UnsafeStr
import Derived.Laws.Externs
import Derived.Deep.WholeRow
import Derived.Laws.ResultCell
import Derived.Shelf.RegionOpenPlain
namespace Go.Proofs.YtihgjihdmlomaaaDoor
open Go.RowKit
set_option linter.unusedVariables false

def Ln.cells (x : Ln) : List Value := x.first.cells ++ [.int .i64 x.count, .int .i64 x.pos]
def encL (ls : List Ln) : List Value := ls.flatMap Ln.cells
theorem encL_snoc (ls : List Ln) (x : Ln) : encL (ls ++ [x]) = encL ls ++ x.cells := by unfold encL; rw [List.flatMap_append]; simp
theorem ln_cells_length (x : Ln) : x.cells.length = 7 := rfl
theorem encL_length : ∀ (ls : List Ln), (encL ls).length = ls.length * 7
  | [] => rfl
  | x :: ls => by
    have := encL_length ls
    unfold encL at *
    rw [List.flatMap_cons, List.length_append, this, ln_cells_length, List.length_cons]
    omega
theorem encL_get : ∀ (ls : List Ln) (i : Nat) (x : Ln), ls[i]? = some x → ∀ k, k < 7 → (encL ls)[i * 7 + k]? = x.cells[k]?
  | [], i, x, h, k, hk => by simp at h
  | y :: ls, 0, x, h, k, hk => by
    simp at h
    subst h
    unfold encL
    rw [List.flatMap_cons, Nat.zero_mul, Nat.zero_add, List.getElem?_append_left (by rw [ln_cells_length]; exact hk)]
  | y :: ls, i + 1, x, h, k, hk => by
    have := encL_get ls i x (by simpa using h) k hk
    unfold encL at *
    rw [List.flatMap_cons, List.getElem?_append_right (by rw [ln_cells_length]; omega), ln_cells_length, show (i + 1) * 7 + k - 7 = i * 7 + k by omega]
    exact this

theorem own_neB {w : World} {B : Nat} {e : TypeId} {size : Nat} {v : Value} {m q : Nat} {xs : List Value} {cs : Array Value} {T : TypeId} {fr : Nat × Nat} (h : w.ownsRow B e size v m xs) (hq : w.heap[q]? = some (.cells cs T fr)) (hT : T ≠ e) : v.ownBlock ≠ some q := by
  rcases h.2 with ⟨rfl, _⟩ | ⟨g, c, cur, rfl, hbg, hg, rest⟩
  · simp [Value.ownBlock]
  · intro e2
    simp [Value.ownBlock] at e2
    subst e2
    rw [hq] at hg
    simp at hg
    exact hT hg.2.1

theorem own_keepB {w w' : World} {B : Nat} {e : TypeId} {size : Nat} {v : Value} {m : Nat} {xs : List Value} (h : w.ownsRow B e size v m xs) (hk : ∀ g, v.ownBlock = some g → g < w.heap.size → w'.heap[g]? = w.heap[g]?) : w'.ownsRow B e size v m xs := by
  refine ⟨h.1, ?_⟩
  rcases h.2 with hn | ⟨g, c, cur, rfl, hbg, hg, rest⟩
  · exact .inl hn
  · exact .inr ⟨g, c, cur, rfl, hbg, (hk g rfl (Array.getElem?_eq_some_iff.1 hg).1).trans hg, rest⟩

/-- Blocks of other types than bytes, but r, are as they were. -/
def Oth (w w' : World) (r : Nat) : Prop := ∀ k cs T fr, k ≠ r → T ≠ 5 → w.heap[k]? = some (.cells cs T fr) → w'.heap[k]? = w.heap[k]?
theorem Oth.refl (w : World) (r : Nat) : Oth w w r := fun _ _ _ _ _ _ _ => rfl
theorem Oth.trans {a b c : World} {r : Nat} (h1 : Oth a b r) (h2 : Oth b c r) : Oth a c r := fun k cs T fr hk hT e => (h2 k cs T fr hk hT ((h1 k cs T fr hk hT e).trans e)).trans (h1 k cs T fr hk hT e)
theorem Oth.below {w w' : World} (r : Nat) (h : Below w.heap.size w w') : Oth w w' r := fun k cs T fr hk hT e => h.block k (Array.getElem?_eq_some_iff.1 e).1
theorem Oth.drew (w : World) (r : Nat) : Oth w w.drew r := fun _ _ _ _ _ _ _ => rfl
theorem Oth.setCell (w : World) (r j : Nat) (v : Value) : Oth w (w.setCell ⟨r, j, none⟩ v) r := fun k cs T fr hk hT e => Below.heap_setCell _ _ _ _ hk
theorem Oth.grown {w w' : World} {r : Nat} {B n : Nat} {v : Value} {xs : List Value} (h : w.grownBy w' v.ownBlock) (hown : w.ownsRow B 5 1 v n xs) : Oth w w' r := by
  intro k cs T fr hk hT e
  refine h.block k (Array.getElem?_eq_some_iff.1 e).1 ?_
  rcases hown.2 with ⟨rfl, _⟩ | ⟨g, c, cur, rfl, hbg, hg, rest⟩
  · simp [Value.ownBlock]
  · intro e2
    simp [Value.ownBlock] at e2
    subst e2
    rw [e] at hg
    simp at hg
    exact hT hg.2.1

theorem Oth.own {w w' : World} {r B n size : Nat} {e : TypeId} {v : Value} {xs : List Value} (h : Oth w w' r) (ho : w.ownsRow B e size v n xs) (he : e ≠ 5) (hr : v.ownBlock ≠ some r) : w'.ownsRow B e size v n xs := by
  refine ⟨ho.1, ?_⟩
  rcases ho.2 with hn | ⟨g, c, cur, rfl, hbg, hg, rest⟩
  · exact .inl hn
  · exact .inr ⟨g, c, cur, rfl, hbg, (h g cur e _ (fun e => hr (by rw [e]; rfl)) he hg).trans hg, rest⟩

/-- A builder's block. -/
def bdB (p v lv : Value) (s : Nat) : Obj := .cells #[p, v, lv, .int .u32 s] 107 (0, 0)

/-- A builder in memory, of its text's own address p. -/
def Bp (w : World) (B r : Nat) (p : Value) (st : BSt) : Prop :=
  B ≤ r ∧ ∃ v lv, w.heap[r]? = some (bdB p v lv st.sum) ∧ w.ownsRow B 5 1 v st.l.length (Lib.byteCells st.l) ∧ w.ownsRow B 134 7 lv st.lines.length (encL st.lines)
def Bd (w : World) (B r : Nat) (st : BSt) : Prop := Bp w B r (.pointer none) st ∨ Bp w B r (.pointer (some ⟨r, 0, none⟩)) st

theorem Bd.ex {w : World} {B r : Nat} {st : BSt} (h : Bd w B r st) : ∃ p, Bp w B r p st := by
  rcases h with h | h
  · exact ⟨_, h⟩
  · exact ⟨_, h⟩
theorem Bp.bd {w : World} {B r : Nat} {st : BSt} (h : Bp w B r (.pointer (some ⟨r, 0, none⟩)) st) : Bd w B r st := .inr h
theorem Bp.lt {w : World} {B r : Nat} {p : Value} {st : BSt} (h : Bp w B r p st) : r < w.heap.size := by
  obtain ⟨_, v, lv, hb, _⟩ := h
  exact (Array.getElem?_eq_some_iff.1 hb).1
theorem Bd.lt {w : World} {B r : Nat} {st : BSt} (h : Bd w B r st) : r < w.heap.size := by
  obtain ⟨p, h⟩ := h.ex
  exact h.lt
theorem Bd.le {w : World} {B r : Nat} {st : BSt} (h : Bd w B r st) : B ≤ r := by
  obtain ⟨p, h⟩ := h.ex
  exact h.1
/-- What leaves the blocks that are there as they were leaves a builder as it was. -/
theorem Bp.keep {w w' : World} {B r : Nat} {p : Value} {st : BSt} (h : Bp w B r p st) (hk : ∀ k, k < w.heap.size → w'.heap[k]? = w.heap[k]?) : Bp w' B r p st := by
  have hlt := h.lt
  obtain ⟨hB, v, lv, hb, h1, h2⟩ := h
  exact ⟨hB, v, lv, (hk r hlt).trans hb, own_keepB h1 (fun g _ hg => hk g hg), own_keepB h2 (fun g _ hg => hk g hg)⟩
theorem Bd.below {w w' : World} {B r : Nat} {st : BSt} (h : Bd w B r st) (hb : Below w.heap.size w w') : Bd w' B r st := by
  rcases h with h | h
  · exact .inl (h.keep fun k hk => hb.block k hk)
  · exact .inr (h.keep fun k hk => hb.block k hk)
theorem Bd.new (w : World) : Bd (w.alloc (bdB (.pointer none) (.slice none 0 0) (.slice none 0 0) 0)) w.heap.size w.heap.size ⟨[], [], 0⟩ :=
  .inl ⟨Nat.le_refl _, _, _, heap_alloc_last w _, ⟨rfl, .inl ⟨rfl, rfl⟩⟩, ⟨rfl, .inl ⟨rfl, rfl⟩⟩⟩

/-- Cell k of a builder is written over. -/
theorem set_bd {w : World} {r : Nat} {cs : Array Value} {T : TypeId} (h : w.heap[r]? = some (.cells cs T (0, 0))) (k : Nat) (x : Value) : (w.setCell ⟨r, k, none⟩ x).heap[r]? = some (.cells (cs.set! k x) T (0, 0)) := by
  simp [World.setCell, Array.getElem?_modify, h]

theorem Bp.set {w : World} {B r : Nat} {p : Value} {st : BSt} (h : Bp w B r p st) (q : Value) : Bp (w.setCell ⟨r, 0, none⟩ q) B r q st := by
  obtain ⟨hB, v, lv, hb, h1, h2⟩ := h
  have n1 := own_neB h1 hb (by decide)
  have n2 := own_neB h2 hb (by decide)
  exact ⟨hB, v, lv, set_bd hb 0 q, own_keepB h1 (fun g hg _ => Below.heap_setCell _ _ _ _ (fun e => n1 (hg.trans (congrArg some e)))), own_keepB h2 (fun g hg _ => Below.heap_setCell _ _ _ _ (fun e => n2 (hg.trans (congrArg some e))))⟩

set_option maxHeartbeats 1000000 in
set_option maxRecDepth 100000 in
theorem copyCheck_calls (B r : Nat) (st : BSt) (w : World) (h : Bd w B r st) :
    Calls Tryd.prog 100 #[.pointer (some ⟨r, 0, none⟩)] w fun e w' => e = .returned (.tuple #[]) ∧ Bp w' B r (.pointer (some ⟨r, 0, none⟩)) st ∧ Below B w w' ∧ Oth w w' r := by
  obtain ⟨j, hj, hjs⟩ := Option.map_eq_some_iff.1 (show (Tryd.prog.info? 105).map (·.size) = some 2 by kernel_rfl)
  have hlies : liesAt Tryd.prog Tryd.prog.depth 107 (4 / Tryd.prog.cellsOf 107) 0 105 1 = true := by kernel_rfl
  rcases h with h | h
  · have hsh : w.shape? r = some (107, 4) := by
      obtain ⟨_, v, lv, hb, _⟩ := h
      unfold bdB at hb
      simp [World.shape?, hb]
    have c0 : w.cell? ⟨r, 0, none⟩ = some (.pointer none) := by
      obtain ⟨_, v, lv, hb, _⟩ := h
      unfold bdB at hb
      simp [World.cell?, hb]
    have hfz : w.frozen? ⟨r, 0, none⟩ = false := by
      obtain ⟨_, v, lv, hb, _⟩ := h
      unfold bdB at hb
      simp [World.frozen?, hb]
    have HW := Lib.hid (h.set (.pointer (some ⟨r, 0, none⟩)))
    have HB := Lib.hid ((Below.refl B w).setCell (p := ⟨r, 0, none⟩) h.1 (.pointer (some ⟨r, 0, none⟩)))
    clear h
    go_enter Tryd.func100, Tryd.ntmps100
    go_wp2
    rw [Lib.run_to_unsafe w ⟨r, 0, none⟩ Tryd.underlying103 Tryd.underlying159 hj (by rw [hjs]; decide) hsh (Nat.zero_lt_succ 3)]
    simp only [Result.andThen]
    rw [Oper.upon_value]
    go_wp2
    rw [run_callFunc_extern Tryd.func104 (by kernel_rfl) (by kernel_rfl) (by kernel_rfl) (e := Extern.AbiNoEscape.same) (by kernel_rfl)]
    rw [Lib.run_noEscape]
    simp only [Result.andThen]
    rw [Oper.upon_value]
    go_wp2
    rw [Lib.run_from_unsafe w ⟨r, 0, none⟩ Tryd.underlying159 Tryd.underlying103 hj hsh hlies]
    simp only [Result.andThen]
    rw [Oper.upon_value]
    go_wp2
    go_end0
    exact ⟨rfl, HW.out, HB.out, Oth.setCell _ _ _ _⟩
  · have c0 : w.cell? ⟨r, 0, none⟩ = some (.pointer (some ⟨r, 0, none⟩)) := by
      obtain ⟨_, v, lv, hb, _⟩ := h
      unfold bdB at hb
      simp [World.cell?, hb]
    have HW := Lib.hid h
    clear h
    go_enter Tryd.func100, Tryd.ntmps100
    go_wp2
    rw [Lib.run_neq_ptr_same w _ Tryd.underlying103 hj]
    go_wp2
    go_end0
    exact ⟨rfl, HW.out, Below.refl B _, Oth.refl _ _⟩

set_option maxHeartbeats 2000000 in
set_option maxRecDepth 100000 in
theorem WriteString_calls (B r : Nat) (st : BSt) (s : ByteArray) (w : World) (h : Bd w B r st) (hlen : st.l.length + s.size ≤ 140737488355328) :
    Calls Tryd.prog 81 #[.pointer (some ⟨r, 0, none⟩), .string s] w fun e w' => e = .returned (.tuple #[.int .i64 s.size, .nilIface]) ∧ Bd w' B r ⟨st.l ++ s.data.toList, st.lines, st.sum⟩ ∧ Below B w w' ∧ Oth w w' r := by
  obtain ⟨i0, hi, hz0, hz1, hz2⟩ := info_parts u8info'
  have C := Lib.hid (copyCheck_calls B r st w h)
  have hBw : B ≤ w.heap.size := Nat.le_trans h.le (Nat.le_of_lt h.lt)
  clear h
  go_enter Tryd.func81, Tryd.ntmps81
  go_wp2_with fail
  refine C.out.mono ?_
  rintro e w1 ⟨rfl, h1, hb1, hot1⟩
  have HOT1 := Lib.hid hot1
  clear hot1
  have hlt := h1.lt
  have hBsz : B ≤ w1.heap.size := Nat.le_trans hBw hb1.size
  obtain ⟨hB, v, lv, hbk, hown, hlin⟩ := h1
  have n1 := own_neB hown hbk (by decide)
  have n2 := own_neB hlin hbk (by decide)
  have c1 : w1.cell? ⟨r, 1, none⟩ = some v := by
    unfold bdB at hbk
    simp [World.cell?, hbk]
  have HK := Lib.hid hbk
  have HO := Lib.hid hown
  have HLn := Lib.hid hlin
  have HB1 := Lib.hid hb1
  have N1 := Lib.hid n1
  have N2 := Lib.hid n2
  clear hbk hown hlin hb1 n1 n2
  go_wp2_with (at_builtin; refine Lib.wpList_append_own_string _ rfl _ _ 53 9 rfl B 5 i0 Tryd.underlying53 Tryd.underlying9 hi hz0 hz1 hz2 _ _ _ rfl HO.out s rfl ?c3 ?c4 ?c5 ?_)
  case c3 => unfold maxLen; omega
  case c4 => omega
  case c5 => exact hBsz
  intro v' w2 hown' hgrow _
  have hb2 : w2.heap[r]? = some (bdB (.pointer (some ⟨r, 0, none⟩)) v lv st.sum) := by
    rw [hgrow.block r hlt (fun e => N1.out e.symm)]
    exact HK.out
  have d0 : w2.cell? ⟨r, 1, none⟩ = some v := by
    have h := hb2
    unfold bdB at h
    simp [World.cell?, h]
  have f1 : w2.frozen? ⟨r, 1, none⟩ = false := by
    have h := hb2
    unfold bdB at h
    simp [World.frozen?, h]
  have hown2 : w2.ownsRow B 5 1 v' (st.l ++ s.data.toList).length (Lib.byteCells (st.l ++ s.data.toList)) := by
    have e1 : (st.l ++ s.data.toList).length = st.l.length + s.size := by rw [List.length_append]; rfl
    rw [e1, Lib.byteCells_append]
    exact hown'
  have hlin2 : w2.ownsRow B 134 7 lv st.lines.length (encL st.lines) := own_keepB HLn.out (fun g hg hlt' => hgrow.block g hlt' (fun e => own_ne HLn.out HO.out (by decide) g hg e.symm))
  have n3 := own_neB hown2 hb2 (by decide)
  have HW : Hid (Bd (w2.setCell ⟨r, 1, none⟩ v') B r ⟨st.l ++ s.data.toList, st.lines, st.sum⟩) := Lib.hid (.inr ⟨hB, v', lv, set_bd hb2 1 v', own_keepB hown2 (fun g hg _ => Below.heap_setCell _ _ _ _ (fun e => n3 (hg.trans (congrArg some e)))), own_keepB hlin2 (fun g hg _ => Below.heap_setCell _ _ _ _ (fun e => N2.out (hg.trans (congrArg some e))))⟩)
  have HBB := Lib.hid ((HB1.out.grown hgrow hBsz (fun k hk => (HO.out.lt k hk).1)).setCell (p := ⟨r, 1, none⟩) hB v')
  have HOT := Lib.hid ((HOT1.out.trans (Oth.grown hgrow HO.out)).trans (Oth.setCell w2 r 1 v'))
  obtain ⟨ao, n', cap, rfl⟩ : ∃ ao n' cap, v' = .slice ao n' cap := by
    rcases hown'.2 with ⟨hv, _⟩ | ⟨g, cap, cur, hv, _⟩
    · exact ⟨_, _, _, hv⟩
    · exact ⟨_, _, _, hv⟩
  clear hown' hown2 hb2 hgrow HO HK HLn hlin2 n3
  go_wp2
  go_ret2
  exact ⟨rfl, HW.out, HBB.out, HOT.out⟩

set_option maxRecDepth 100000 in
set_option maxHeartbeats 1000000 in
theorem Len_calls (B r : Nat) (st : BSt) (w : World) (h : Bd w B r st) :
    Calls Tryd.prog 85 #[.pointer (some ⟨r, 0, none⟩)] w fun e w' => e = .returned (.int .i64 st.l.length) ∧ w' = w := by
  obtain ⟨p, hB, v, lv, hbk, hown, _⟩ := h.ex
  obtain ⟨q, c, rfl, _⟩ := own_rd hown
  have c1 : w.cell? ⟨r, 1, none⟩ = some (.slice q st.l.length c) := by
    unfold bdB at hbk
    simp [World.cell?, hbk]
  clear hbk hown h
  go_enter Tryd.func85, Tryd.ntmps85
  go_wp2
  go_ret
  exact ⟨rfl, rfl⟩

set_option maxHeartbeats 1000000 in
set_option maxRecDepth 100000 in
theorem String_calls (B r : Nat) (st : BSt) (w : World) (h : Bd w B r st) (h0 : st.l ≠ []) :
    Calls Tryd.prog 61 #[.pointer (some ⟨r, 0, none⟩)] w fun e w' => e = .returned (.string ⟨st.l.toArray⟩) ∧ Below B w w' ∧ (∃ lv, w'.cell? ⟨r, 2, none⟩ = some lv ∧ w.cell? ⟨r, 2, none⟩ = some lv ∧ w'.ownsRow B 134 7 lv st.lines.length (encL st.lines)) := by
  obtain ⟨p, hB, v, lv, hbk, hown, hlin⟩ := h.ex
  have n1 := own_neB hown hbk (by decide)
  have hl0 : st.l.length ≠ 0 := by simpa using h0
  obtain ⟨g, cap, cur, rfl, hbg, hg, hnc, hcm, hcs, htake⟩ : ∃ g cap cur, v = .slice (some ⟨g, 0, none⟩) st.l.length cap ∧ B ≤ g ∧ w.heap[g]? = some (.cells cur 5 (0, 0)) ∧ st.l.length ≤ cap ∧ cap ≤ maxLen ∧ cur.size = cap * 1 ∧ cur.toList.take (st.l.length * 1) = Lib.byteCells st.l := by
    rcases hown.2 with ⟨_, hz⟩ | ⟨g, cap, cur, hv, r⟩
    · exact absurd hz hl0
    · exact ⟨g, cap, cur, hv, r⟩
  have c1 : w.drew.cell? ⟨r, 1, none⟩ = some (.slice (some ⟨g, 0, none⟩) st.l.length cap) := by
    have : w.drew.heap[r]? = some (bdB p (.slice (some ⟨g, 0, none⟩) st.l.length cap) lv st.sum) := hbk
    unfold bdB at this
    simp [World.cell?, this]
  have c2 : w.cell? ⟨r, 2, none⟩ = some lv := by
    unfold bdB at hbk
    simp [World.cell?, hbk]
  have hSD : (Builtin.unsafeSliceData_ #[53] 144 #[.slice (some ⟨g, 0, none⟩) st.l.length cap]).run Tryd.prog w.drew = .ok (.pointer (some ⟨g, 0, none⟩)) w.drew :=
    Lib.run_unsafeSliceData_row _ _ _ _ _ _ (by omega)
  have hUS : (Builtin.unsafeString_ #[144, 3] 9 #[.pointer (some ⟨g, 0, none⟩), .int .i64 st.l.length]).run Tryd.prog w.drew = .ok (.string ⟨st.l.toArray⟩) (w.drew.freeze ⟨g, 0, none⟩ st.l.length) := by
    refine Lib.run_unsafeString_row w.drew 144 3 9 5 Tryd.underlying144 (by kernel_rfl) g cur.size (by have hg' : w.drew.heap[g]? = some (.cells cur 5 (0, 0)) := hg; simp [World.shape?, hg']) st.l h0 (by omega) (by unfold maxLen at hcm; omega) ?_
    intro j x hx
    exact hown.cells (g := g) rfl j (.int .u8 x.toNat) (by simp [Lib.byteCells, hx])
  have hgr : g ≠ r := fun e => n1 (by rw [e]; rfl)
  have hfz : ∀ k, k ≠ g → (w.drew.freeze ⟨g, 0, none⟩ st.l.length).heap[k]? = w.heap[k]? := fun k hk => by
    unfold World.freeze
    split
    · rfl
    · simp only [Array.getElem?_modify]
      rw [if_neg (fun e => hk e.symm)]
      rfl
  have HL : Hid (∃ lv', (w.drew.freeze ⟨g, 0, none⟩ st.l.length).cell? ⟨r, 2, none⟩ = some lv' ∧ w.cell? ⟨r, 2, none⟩ = some lv' ∧ (w.drew.freeze ⟨g, 0, none⟩ st.l.length).ownsRow B 134 7 lv' st.lines.length (encL st.lines)) := Lib.hid ⟨lv, (World.cell?_of_block (a := ⟨r, 2, none⟩) (hfz r (fun e => hgr e.symm))).trans c2, c2, own_keepB hlin (fun k hk _ => hfz k (fun e => own_ne hown hlin (by decide) g rfl (e ▸ hk)))⟩
  have hbg' := Lib.hid hbg
  have mixed : Tryd.prog.follows .mixedOrders = true := by kernel_rfl
  clear hown hbk hg htake h hbg hlin n1 c2 hfz
  go_enter Tryd.func61, Tryd.ntmps61
  go_wp2
  go_region_o
  all_goals (go_wp2; go_ret; exact ⟨rfl, Lib.below_freeze (Below.drew (Below.refl B w)) (p := ⟨g, 0, none⟩) hbg'.out _, HL.out⟩)
end Go.Proofs.YtihgjihdmlomaaaDoor
