/-
  WALK: the word of several heads of one place.
-/
import Derived.Test.YtahdaccmokjgpaaMrgT
import Derived.Maps.OwnSet
import Derived.Laws.ResultCell
namespace Go.Proofs.Ytahdaccmokjgpaa
open Go.RowKit ArgK Go.Maps
set_option linter.unusedVariables false

def sLit (x : Hdv) : Lit := .int .i64 x.e.s

theorem lawInt : Keyed Try.prog 3 := int_keyed Try.underlying3

theorem zeroUnit (w : World) : (zeroValue 108).run Try.prog w = .ok (.agg #[]) w := by kernel_rfl

theorem has_sLit (l : List Hdv) (x : Hdv) : Maps.has (setOf (H := Unit) (.agg []) (l.map sLit)) (sLit x) = decide (x.e.s ∈ l.map (fun y => y.e.s)) := by
  rw [has_setOf _ _ _ (fun y hy => by obtain ⟨_, _, rfl⟩ := List.mem_map.1 hy; trivial)]
  rw [List.any_map, Bool.eq_iff_iff, List.any_eq_true, decide_eq_true_iff, List.mem_map]
  constructor
  · rintro ⟨y, hy, h⟩
    refine ⟨y, hy, ?_⟩
    have h2 : decide (IntKind.i64 = IntKind.i64 ∧ y.e.s = x.e.s) = true := h
    exact (of_decide_eq_true h2).2
  · rintro ⟨y, hy, h⟩
    refine ⟨y, hy, ?_⟩
    show decide (IntKind.i64 = IntKind.i64 ∧ y.e.s = x.e.s) = true
    simp [h]

theorem bestOf_snoc : ∀ (l : List Hdv) (b : Ent) (x : Hdv), bestOf b (l ++ [x]) = if (bestOf b l).s < x.e.s then x.e else bestOf b l
  | [], b, x => rfl
  | y :: l, b, x => by
    rw [List.cons_append, bestOf, bestOf_snoc l, bestOf]

/-- The block of an entry. -/
def eBlk (e : Ent) : Obj := .cells #[.int .i64 e.v, .string e.c, .int .i64 e.i, .int .i64 e.s, .bool e.d] 24 (0, 0)

/-- The block of a head. -/
def hBlk (x : Hdv) : Obj := .cells #[.int .i64 x.e.v, .string x.e.c, .int .i64 x.e.i, .int .i64 x.e.s, .bool x.e.d, .int .i64 x.n] 100 (0, 0)

/-- At the head of each round of word. -/
def WordRel (w : World) (b0 : Ent) (l : List Hdv) (k : Nat) (wr : World) : Prop :=
  k ≤ l.length ∧ wr.ownsMap Try.prog 3 unitElem (w.heap.size + 1 + 1) k (setOf (H := Unit) (.agg []) ((l.take k).map sLit)) ∧ ((l.take k).map (fun y => y.e.s)).Nodup ∧ wr.heap[w.heap.size]? = some (eBlk zeroE) ∧ wr.heap[w.heap.size + 1]? = some (eBlk (bestOf b0 (l.take k))) ∧ Below w.heap.size w wr

/-- What word leaves. -/
def WordPost (w : World) (l : List Hdv) (e : Ending) (w' : World) : Prop :=
  e = .returned (.tuple #[((wordOf l).getD zeroE).val, .int .i64 (if (wordOf l).isSome then 0 else 51)]) ∧ Below w.heap.size w w'

theorem take_get {l : List Hdv} {k : Nat} {x : Hdv} (h : l[k]? = some x) : l.take (k + 1) = l.take k ++ [x] := by
  rw [List.take_add_one, h]
  rfl

theorem wordOf_cons (x : Hdv) (l : List Hdv) : wordOf (x :: l) = if ((x :: l).map (fun y => y.e.s)).Nodup then some (bestOf x.e (x :: l)) else none := rfl

theorem word_twice {l : List Hdv} {k : Nat} {x : Hdv} (hx : l[k]? = some x) (h : x.e.s ∈ (l.take k).map (fun y => y.e.s)) : wordOf l = none := by
  cases l with
  | nil => rfl
  | cons y l =>
    rw [wordOf_cons, if_neg]
    intro hn
    have h2 : ((y :: l).take (k + 1)).map (fun y => y.e.s) = ((y :: l).take k).map (fun y => y.e.s) ++ [x.e.s] := by rw [take_get hx, List.map_append]; rfl
    have h3 : (((y :: l).take (k + 1)).map (fun y => y.e.s)).Nodup := by
      refine List.Nodup.sublist ?_ hn
      exact (List.take_sublist _ _).map _
    rw [h2, List.nodup_append] at h3
    exact h3.2.2 _ h _ (by simp) rfl

theorem WordRel.new {w : World} {b0 : Ent} {l : List Hdv} {k : Nat} {x : Hdv} {wr w1 w2 : World} (h : WordRel w b0 l k wr) (hx : l[k]? = some x) (hn : x.e.s ∉ (l.take k).map (fun y => y.e.s)) (ha : Below wr.heap.size wr w1) (hs : wr.heap.size ≤ w1.heap.size)
    (hm : w2.ownsMap Try.prog 3 unitElem (w.heap.size + 1 + 1) (k + 1) ((setOf (H := Unit) (.agg []) ((l.take k).map sLit)).put (sLit x) (.agg []))) (hg : w1.grownBy w2 (some (w.heap.size + 1 + 1))) (W : World) (hW : Fr w2 W [some (w.heap.size + 1)])
    (hb : W.heap[w.heap.size + 1]? = some (eBlk (if (bestOf b0 (l.take k)).s < x.e.s then x.e else bestOf b0 (l.take k)))) : WordRel w b0 l (k + 1) W := by
  obtain ⟨h1, h2, h3, h4, h5, h6⟩ := h
  have hlt := (Array.getElem?_eq_some_iff.1 h4).1
  have hlt5 := (Array.getElem?_eq_some_iff.1 h5).1
  have hkl := (List.getElem?_eq_some_iff.1 hx).1
  have hws := hg.size
  refine ⟨by omega, ?_, ?_, ?_, ?_, ?_⟩
  · rw [take_get hx, List.map_append, show [x].map sLit = [sLit x] from rfl, setOf_snoc]
    obtain ⟨es, clock, hb', r⟩ := hm
    exact ⟨es, clock, (hW.2.2.2.2 _ (Array.getElem?_eq_some_iff.1 hb').1 (by simp)).trans hb', r⟩
  · rw [take_get hx, List.map_append, List.nodup_append]
    refine ⟨h3, by simp, fun a ha b hb => ?_⟩
    simp only [List.map_cons, List.map_nil, List.mem_singleton] at hb
    subst hb
    exact fun e => hn (e ▸ ha)
  · refine (hW.2.2.2.2 _ (by omega) (by simp)).trans ((hg.block _ (by omega) (by simp; omega)).trans ((ha.block _ hlt).trans h4))
  · rw [take_get hx, bestOf_snoc]
    exact hb
  · refine (h6.trans (ha.mono h6.size)).trans ((show Below w.heap.size w1 w2 from ⟨hg.os, hg.tape, hg.output, hg.size, fun b hb => hg.block b (by omega) (by simp; omega)⟩).trans ?_)
    exact hW.below (by omega) (fun b hb => by simp at hb; omega)

theorem WordRel.done {w : World} {y : Hdv} {l : List Hdv} {wr : World} (h : WordRel w y.e (y :: l) (y :: l).length wr) : wordOf (y :: l) = some (bestOf y.e (y :: l)) := by
  obtain ⟨h1, h2, h3, h4, h5, h6⟩ := h
  rw [List.take_length] at h3
  rw [wordOf_cons, if_pos h3]

theorem set5_at {W : World} {b : Nat} {e : Ent} (h : W.heap[b]? = some (eBlk e)) (x : Ent) : (((((W.setCell ⟨b, 0, none⟩ (.int .i64 x.v)).setCell ⟨b, 1, none⟩ (.string x.c)).setCell ⟨b, 2, none⟩ (.int .i64 x.i)).setCell ⟨b, 3, none⟩ (.int .i64 x.s)).setCell ⟨b, 4, none⟩ (.bool x.d)).heap[b]? = some (eBlk x) := by
  unfold eBlk at h ⊢
  simp [World.setCell, Array.getElem?_modify, h]

set_option maxRecDepth 100000 in
set_option maxHeartbeats 2000000 in
theorem word_calls {w : World} {base g n c : Nat} {y : Hdv} {l : List Hdv} (h : w.ownsRow base 100 6 (.slice (some ⟨g, 0, none⟩) n c) n (encD (y :: l))) (hn : n ≤ 1024) (hwf : ∀ x ∈ y :: l, (Lit.int .i64 x.e.s).wf = true) :
    Calls Try.prog 55 #[.slice (some ⟨g, 0, none⟩) n c] w (WordPost w (y :: l)) := by
  have hmm := @run_makeMap Try.prog
  have hln := own_lenD h
  have HX : Hid (∀ k x, (y :: l)[k]? = some x → w.cell? ⟨g, k * 6, none⟩ = some (.int .i64 x.e.v) ∧ w.cell? ⟨g, k * 6 + 1, none⟩ = some (.string x.e.c) ∧ w.cell? ⟨g, k * 6 + 2, none⟩ = some (.int .i64 x.e.i) ∧ w.cell? ⟨g, k * 6 + 3, none⟩ = some (.int .i64 x.e.s) ∧ w.cell? ⟨g, k * 6 + 4, none⟩ = some (.bool x.e.d) ∧ w.cell? ⟨g, k * 6 + 5, none⟩ = some (.int .i64 x.n)) := Lib.hid (fun k x hx => own_sixD h hx)
  have hgl : g < w.heap.size := cell_lt (HX.out 0 y rfl).1
  obtain ⟨y0, y1, y2, y3, y4, y5⟩ := HX.out 0 y rfl
  simp only [Nat.zero_mul, Nat.zero_add] at y0 y1 y2 y3 y4 y5
  have hn0 : 0 < n := by rw [← hln]; simp
  have hn0i : (0 : Int) < (n : Int) := by omega
  have hbu : ∀ W : World, (Instr.build 24 #[]).run Try.prog W = .ok (.agg #[.int .i64 0, .string ⟨#[]⟩, .int .i64 0, .int .i64 0, .bool false]) W := fun W => run_build W _ _ _ (by kernel_rfl)
  have hbs : ∀ W : World, (Instr.build 108 #[]).run Try.prog W = .ok (.agg #[]) W := fun W => run_build W _ _ _ (by kernel_rfl)
  have HWF := Lib.hid hwf
  have HLN := Lib.hid hln
  clear h hwf hln
  go_enter Try.func55, Try.ntmps55
  go_wp2
  go_loopw [17] (fun i wr => ∃ k : Nat, i = .int .i64 k ∧ WordRel w y.e (y :: l) k wr) (fun i _ => n - (intOf i).toNat)
  case atStart =>
    refine ⟨0, rfl, Nat.zero_le _, ?_, by simp, ?_, ?_, ?_⟩
    · have := World.ownsMap_made (H := Unit) ((w.alloc (eBlk zeroE)).alloc (eBlk y.e)) Try.prog 3 unitElem
      have e : ((w.alloc (eBlk zeroE)).alloc (eBlk y.e)).heap.size = w.heap.size + 1 + 1 := by simp
      rw [e] at this
      exact this
    · exact (Below.heap_alloc _ _ _ (by simp; omega)).trans ((Below.heap_alloc _ _ _ (by simp)).trans (World.alloc_heap_new w (eBlk zeroE)))
    · have e : (w.alloc (eBlk zeroE)).heap.size = w.heap.size + 1 := by simp
      have := World.alloc_heap_new (w.alloc (eBlk zeroE)) (eBlk y.e)
      rw [e] at this
      exact (Below.heap_alloc _ _ _ (by simp)).trans this
    · exact (((Below.refl _ w).alloc (Nat.le_refl _) _).alloc (by simp) _).alloc (by simp; omega) _
  case round =>
    obtain ⟨k, rfl, hR⟩ := hrel
    have hkl := hR.1
    rw [HLN.out] at hkl
    obtain ⟨_, hown, hnd, hb0, hb1, hbl⟩ := hR
    have hsz := hbl.size
    have hlt1 := (Array.getElem?_eq_some_iff.1 hb1).1
    have hlt2 := hown.lt
    obtain ⟨B, hB⟩ : ∃ B, bestOf y.e ((y :: l).take k) = B := ⟨_, rfl⟩
    by_cases hk : k < n
    · obtain ⟨x, hx⟩ : ∃ x, (y :: l)[k]? = some x := ⟨_, List.getElem?_eq_getElem (by rw [HLN.out]; exact hk)⟩
      obtain ⟨x0, x1, x2, x3, x4, x5⟩ := HX.out k x hx
      have hc : ∀ o v, w.cell? ⟨g, o, none⟩ = some v → wr.cell? ⟨g, o, none⟩ = some v := fun o v h => (World.cell?_of_block (hbl.block g hgl)).trans h
      have x0 := hc _ _ x0
      have x1 := hc _ _ x1
      have x2 := hc _ _ x2
      have x3 := hc _ _ x3
      have x4 := hc _ _ x4
      have x5 := hc _ _ x5
      have i0 : (0 : Int) ≤ (k : Int) := by omega
      have i1 : (k : Int) < (n : Int) := by omega
      have hkey : keyOf Try.prog 3 (.int .i64 x.e.s) = some (.int .i64 x.e.s) := keyOf_int_mk Try.underlying3 (HWF.out x (List.mem_of_getElem? hx))
      obtain ⟨M, hM⟩ : ∃ M, setOf (H := Unit) (.agg []) (((y :: l).take k).map sLit) = M := ⟨_, rfl⟩
      have hhas := has_sLit ((y :: l).take k) x
      rw [hM] at hhas hown
      unfold sLit at hhas
      clear hc
      by_cases hin : x.e.s ∈ ((y :: l).take k).map (fun y => y.e.s)
      · have HTw := Lib.hid (word_twice hx hin)
        simp only [hin, decide_true] at hhas
        have c0 : ∀ o1 o2, ((wr.alloc o1).alloc o2).heap[w.heap.size]? = some (eBlk zeroE) := fun o1 o2 => (Below.heap_alloc _ _ _ (by simp; omega)).trans ((Below.heap_alloc _ _ _ (by omega)).trans hb0)
        have z0 : ∀ o1 o2, ((wr.alloc o1).alloc o2).cell? ⟨w.heap.size, 0, none⟩ = some (.int .i64 0) := fun o1 o2 => by rw [cell_of_row _ _ 0 _ _ _ (c0 o1 o2)]; rfl
        have z1 : ∀ o1 o2, ((wr.alloc o1).alloc o2).cell? ⟨w.heap.size, 1, none⟩ = some (.string ⟨#[]⟩) := fun o1 o2 => by rw [cell_of_row _ _ 1 _ _ _ (c0 o1 o2)]; rfl
        have z2 : ∀ o1 o2, ((wr.alloc o1).alloc o2).cell? ⟨w.heap.size, 2, none⟩ = some (.int .i64 0) := fun o1 o2 => by rw [cell_of_row _ _ 2 _ _ _ (c0 o1 o2)]; rfl
        have z3 : ∀ o1 o2, ((wr.alloc o1).alloc o2).cell? ⟨w.heap.size, 3, none⟩ = some (.int .i64 0) := fun o1 o2 => by rw [cell_of_row _ _ 3 _ _ _ (c0 o1 o2)]; rfl
        have z4 : ∀ o1 o2, ((wr.alloc o1).alloc o2).cell? ⟨w.heap.size, 4, none⟩ = some (.bool false) := fun o1 o2 => by rw [cell_of_row _ _ 4 _ _ _ (c0 o1 o2)]; rfl
        have zf : ∀ o1 o2 k, ((wr.alloc o1).alloc o2).frozen? ⟨w.heap.size, k, none⟩ = false := fun o1 o2 k => by
          have e := c0 o1 o2
          simp only [World.frozen?, e, eBlk]
          simp
        have HBL := Lib.hid hbl
        clear hM hx hnd hB hin c0 hbl
        go_wp2_with (at_lookup; refine wpList_lookup_own_unit _ rfl _ _ 107 rfl 3 108 lawInt Try.underlying107 (zeroUnit _) (w.heap.size + 1 + 1) k _ rfl (hown.alloc _) _ _ rfl hkey ?_)
        go_wp2
        refine bodyPost_ret (v := .tuple #[.agg #[.int .i64 0, .string ⟨#[]⟩, .int .i64 0, .int .i64 0, .bool false], .int .i64 51]) ?_ rfl ⟨by rw [HTw.out]; rfl, ?_⟩
        · rw [results_cell_tmp rfl]
          go_simp
        · exact ((((((HBL.out.alloc hsz _).alloc (by simp; omega) _).setCell (Nat.le_refl _) _).setCell (Nat.le_refl _) _).setCell (Nat.le_refl _) _).setCell (Nat.le_refl _) _).setCell (Nat.le_refl _) _
      · have HNew := Lib.hid (fun w1 w2 => WordRel.new (w := w) (b0 := y.e) (l := y :: l) (k := k) (x := x) (wr := wr) (w1 := w1) (w2 := w2) ⟨by rw [HLN.out]; omega, by rw [hM]; exact hown, hnd, hb0, hb1, hbl⟩ hx hin)
        simp only [hin, decide_false] at hhas
        rw [hM, hB] at HNew
        rw [hB] at hb1
        have HB1 := Lib.hid hb1
        have HB0 := Lib.hid (fun o => World.alloc_heap_new wr o)
        clear hM hx hnd hB hin hb1 hb0 hbl
        by_cases hlt : B.s < x.e.s
        · have hltd : decide (B.s < x.e.s) = true := by simpa using hlt
          rw [if_pos hlt] at HNew
          go_wp2_with (first
            | (at_lookup; refine wpList_lookup_own_unit _ rfl _ _ 107 rfl 3 108 lawInt Try.underlying107 (zeroUnit _) (w.heap.size + 1 + 1) k _ rfl (hown.alloc _) _ _ rfl hkey ?_)
            | (at_mapUpdate; refine wpList_mapUpdate_own _ rfl _ _ _ 107 rfl 3 108 lawInt Try.underlying107 (unitElem (H := Unit)) (w.heap.size + 1 + 1) k _ rfl ((hown.alloc _).alloc _) (by unfold maxLen; omega) _ _ _ rfl rfl hkey _ [] unitElem_mk ?_))
          intro w1 hown1 hgrow1
          have haB := ((Below.refl wr.heap.size wr).alloc (Nat.le_refl _) (hBlk x)).alloc (by simp) (.cells #[] 108)
          have hh : w1.heap[wr.heap.size]? = some (hBlk x) := (hgrow1.block _ (by simp; omega) (by simp; omega)).trans ((Below.heap_alloc _ _ _ (by simp)).trans (HB0.out (hBlk x)))
          have hbb : w1.heap[w.heap.size + 1]? = some (eBlk B) := (hgrow1.block _ (by simp; omega) (by simp)).trans ((haB.block _ hlt1).trans HB1.out)
          have HN2 := Lib.hid (HNew.out _ w1 haB (by simp; omega) hown1 hgrow1)
          have h0 : w1.cell? ⟨wr.heap.size, 0, none⟩ = some (.int .i64 x.e.v) := by rw [cell_of_row _ _ 0 _ _ _ hh]; rfl
          have h1 : w1.cell? ⟨wr.heap.size, 1, none⟩ = some (.string x.e.c) := by rw [cell_of_row _ _ 1 _ _ _ hh]; rfl
          have h2 : w1.cell? ⟨wr.heap.size, 2, none⟩ = some (.int .i64 x.e.i) := by rw [cell_of_row _ _ 2 _ _ _ hh]; rfl
          have h3 : w1.cell? ⟨wr.heap.size, 3, none⟩ = some (.int .i64 x.e.s) := by rw [cell_of_row _ _ 3 _ _ _ hh]; rfl
          have h4 : w1.cell? ⟨wr.heap.size, 4, none⟩ = some (.bool x.e.d) := by rw [cell_of_row _ _ 4 _ _ _ hh]; rfl
          have j0 : w1.cell? ⟨w.heap.size + 1, 0, none⟩ = some (.int .i64 B.v) := by rw [cell_of_row _ _ 0 _ _ _ hbb]; rfl
          have j1 : w1.cell? ⟨w.heap.size + 1, 1, none⟩ = some (.string B.c) := by rw [cell_of_row _ _ 1 _ _ _ hbb]; rfl
          have j2 : w1.cell? ⟨w.heap.size + 1, 2, none⟩ = some (.int .i64 B.i) := by rw [cell_of_row _ _ 2 _ _ _ hbb]; rfl
          have j3 : w1.cell? ⟨w.heap.size + 1, 3, none⟩ = some (.int .i64 B.s) := by rw [cell_of_row _ _ 3 _ _ _ hbb]; rfl
          have j4 : w1.cell? ⟨w.heap.size + 1, 4, none⟩ = some (.bool B.d) := by rw [cell_of_row _ _ 4 _ _ _ hbb]; rfl
          have jf : ∀ k, w1.frozen? ⟨w.heap.size + 1, k, none⟩ = false := fun k => by
            simp only [World.frozen?, hbb, eBlk]
            simp
          have HBB := Lib.hid hbb
          have n1 : ¬ (w.heap.size + 1 = wr.heap.size) := by omega
          have n2 : ¬ (wr.heap.size = w.heap.size + 1) := by omega
          clear haB hh hbb hown1 hgrow1 hown x0 x1 x2 x3 x4 x5
          go_wp2
          go_roundw
          case rel => exact ⟨k + 1, by go_num, HN2.out _ ((Fr.refl w1 _).set5 (fun _ => by simp) _ _ _ _ _) (set5_at HBB.out x.e)⟩
          case measure => simp [intOf]; omega
        · have hltd : decide (B.s < x.e.s) = false := by simpa using hlt
          rw [if_neg hlt] at HNew
          go_wp2_with (first
            | (at_lookup; refine wpList_lookup_own_unit _ rfl _ _ 107 rfl 3 108 lawInt Try.underlying107 (zeroUnit _) (w.heap.size + 1 + 1) k _ rfl (hown.alloc _) _ _ rfl hkey ?_)
            | (at_mapUpdate; refine wpList_mapUpdate_own _ rfl _ _ _ 107 rfl 3 108 lawInt Try.underlying107 (unitElem (H := Unit)) (w.heap.size + 1 + 1) k _ rfl ((hown.alloc _).alloc _) (by unfold maxLen; omega) _ _ _ rfl rfl hkey _ [] unitElem_mk ?_))
          intro w1 hown1 hgrow1
          have haB := ((Below.refl wr.heap.size wr).alloc (Nat.le_refl _) (hBlk x)).alloc (by simp) (.cells #[] 108)
          have hh : w1.heap[wr.heap.size]? = some (hBlk x) := (hgrow1.block _ (by simp; omega) (by simp; omega)).trans ((Below.heap_alloc _ _ _ (by simp)).trans (HB0.out (hBlk x)))
          have hbb : w1.heap[w.heap.size + 1]? = some (eBlk B) := (hgrow1.block _ (by simp; omega) (by simp)).trans ((haB.block _ hlt1).trans HB1.out)
          have HN2 := Lib.hid (HNew.out _ w1 haB (by simp; omega) hown1 hgrow1)
          have h0 : w1.cell? ⟨wr.heap.size, 0, none⟩ = some (.int .i64 x.e.v) := by rw [cell_of_row _ _ 0 _ _ _ hh]; rfl
          have h1 : w1.cell? ⟨wr.heap.size, 1, none⟩ = some (.string x.e.c) := by rw [cell_of_row _ _ 1 _ _ _ hh]; rfl
          have h2 : w1.cell? ⟨wr.heap.size, 2, none⟩ = some (.int .i64 x.e.i) := by rw [cell_of_row _ _ 2 _ _ _ hh]; rfl
          have h3 : w1.cell? ⟨wr.heap.size, 3, none⟩ = some (.int .i64 x.e.s) := by rw [cell_of_row _ _ 3 _ _ _ hh]; rfl
          have h4 : w1.cell? ⟨wr.heap.size, 4, none⟩ = some (.bool x.e.d) := by rw [cell_of_row _ _ 4 _ _ _ hh]; rfl
          have j0 : w1.cell? ⟨w.heap.size + 1, 0, none⟩ = some (.int .i64 B.v) := by rw [cell_of_row _ _ 0 _ _ _ hbb]; rfl
          have j1 : w1.cell? ⟨w.heap.size + 1, 1, none⟩ = some (.string B.c) := by rw [cell_of_row _ _ 1 _ _ _ hbb]; rfl
          have j2 : w1.cell? ⟨w.heap.size + 1, 2, none⟩ = some (.int .i64 B.i) := by rw [cell_of_row _ _ 2 _ _ _ hbb]; rfl
          have j3 : w1.cell? ⟨w.heap.size + 1, 3, none⟩ = some (.int .i64 B.s) := by rw [cell_of_row _ _ 3 _ _ _ hbb]; rfl
          have j4 : w1.cell? ⟨w.heap.size + 1, 4, none⟩ = some (.bool B.d) := by rw [cell_of_row _ _ 4 _ _ _ hbb]; rfl
          have jf : ∀ k, w1.frozen? ⟨w.heap.size + 1, k, none⟩ = false := fun k => by
            simp only [World.frozen?, hbb, eBlk]
            simp
          have HBB := Lib.hid hbb
          have n1 : ¬ (w.heap.size + 1 = wr.heap.size) := by omega
          have n2 : ¬ (wr.heap.size = w.heap.size + 1) := by omega
          clear haB hh hbb hown1 hgrow1 hown x0 x1 x2 x3 x4 x5
          go_wp2
          go_roundw
          case rel => exact ⟨k + 1, by go_num, HN2.out _ (Fr.refl w1 _) HBB.out⟩
          case measure => simp [intOf]; omega
    · obtain rfl : k = n := by omega
      have hBl : bestOf y.e (y :: l) = B := by
        rw [← hB, List.take_of_length_le (Nat.le_of_eq HLN.out)]
      have HD : Hid (wordOf (y :: l) = some B) := Lib.hid (by
        have h := WordRel.done (w := w) (y := y) (l := l) (wr := wr) (by rw [HLN.out]; exact ⟨Nat.le_of_eq HLN.out.symm, hown, hnd, hb0, hb1, hbl⟩)
        rw [h, hBl])
      rw [hB] at hb1
      have j0 : wr.cell? ⟨w.heap.size + 1, 0, none⟩ = some (.int .i64 B.v) := by rw [cell_of_row _ _ 0 _ _ _ hb1]; rfl
      have j1 : wr.cell? ⟨w.heap.size + 1, 1, none⟩ = some (.string B.c) := by rw [cell_of_row _ _ 1 _ _ _ hb1]; rfl
      have j2 : wr.cell? ⟨w.heap.size + 1, 2, none⟩ = some (.int .i64 B.i) := by rw [cell_of_row _ _ 2 _ _ _ hb1]; rfl
      have j3 : wr.cell? ⟨w.heap.size + 1, 3, none⟩ = some (.int .i64 B.s) := by rw [cell_of_row _ _ 3 _ _ _ hb1]; rfl
      have j4 : wr.cell? ⟨w.heap.size + 1, 4, none⟩ = some (.bool B.d) := by rw [cell_of_row _ _ 4 _ _ _ hb1]; rfl
      have z0 : wr.cell? ⟨w.heap.size, 0, none⟩ = some (.int .i64 0) := by rw [cell_of_row _ _ 0 _ _ _ hb0]; rfl
      have z1 : wr.cell? ⟨w.heap.size, 1, none⟩ = some (.string ⟨#[]⟩) := by rw [cell_of_row _ _ 1 _ _ _ hb0]; rfl
      have z2 : wr.cell? ⟨w.heap.size, 2, none⟩ = some (.int .i64 0) := by rw [cell_of_row _ _ 2 _ _ _ hb0]; rfl
      have z3 : wr.cell? ⟨w.heap.size, 3, none⟩ = some (.int .i64 0) := by rw [cell_of_row _ _ 3 _ _ _ hb0]; rfl
      have z4 : wr.cell? ⟨w.heap.size, 4, none⟩ = some (.bool false) := by rw [cell_of_row _ _ 4 _ _ _ hb0]; rfl
      have zf : ∀ k, wr.frozen? ⟨w.heap.size, k, none⟩ = false := fun k => by
        simp only [World.frozen?, hb0, eBlk]
        simp
      have HBL := Lib.hid hbl
      clear hbl hb0 hb1 hB hBl hown hnd
      go_wp2
      refine bodyPost_ret (v := .tuple #[.agg #[.int .i64 B.v, .string B.c, .int .i64 B.i, .int .i64 B.s, .bool B.d], .int .i64 0]) ?_ rfl ⟨by rw [HD.out]; rfl, ?_⟩
      · rw [results_cell_tmp rfl]
        go_simp
      · exact ((((HBL.out.setCell (Nat.le_refl _) _).setCell (Nat.le_refl _) _).setCell (Nat.le_refl _) _).setCell (Nat.le_refl _) _).setCell (Nat.le_refl _) _
end Go.Proofs.Ytahdaccmokjgpaa
