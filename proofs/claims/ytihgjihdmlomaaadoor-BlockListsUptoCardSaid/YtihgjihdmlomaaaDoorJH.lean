/-
  READING ARGUMENTS: a file's head.
  WALK: a list of entries once more, in new memory, with a mark behind its end (the law's own twin).
  THE LAW BlockBuild.
-/
import Derived.Test.YtihgjihdmlomaaaDoorJE
import Derived.Test.YtihgjihdmlomaaaDoorJF
import Derived.Test.YtihgjihdmlomaaaDoorJBmE
import Derived.Laws.AppendOwnNone
namespace Go.Proofs.YtihgjihdmlomaaaDoor
open Go.RowKit ArgK
set_option linter.unusedVariables false

/-- A head's cells. -/
def IsHd (cs : List Value) (x : Hd) : Prop := cs = x.cells
def bkHd (x : Hd) : Nat := 7
theorem rd_Head (W : World) : RdT Tryd.prog W 23 IsHd bkHd := by
  have e : Tryd.prog.cellsOf 23 = 6 := by kernel_rfl
  have e1 : Tryd.prog.cellsOf 3 = 1 := by kernel_rfl
  refine RdT.mono (rd_struct Tryd.underlying23 (rdf_cons (rd_int Tryd.underlying3) (rdf_cons (rd_int Tryd.underlying3) (rdf_cons (rd_int Tryd.underlying3) (rdf_cons (rd_int Tryd.underlying3) (rdf_cons (rd_int Tryd.underlying3) (rdf_cons (rd_int Tryd.underlying3) rdf_nil))))))) ?_
  rintro cs ⟨a, t, b, lo, hi, n, u⟩ ⟨hl, h0, h1, h2, h3, h4, h5, _⟩
  simp only [e1] at h0 h1 h2 h3 h4 h5
  rw [e] at hl
  match cs, hl with
  | [c0, c1, c2, c3, c4, c5], _ =>
    simp at h0 h1 h2 h3 h4 h5
    exact ⟨⟨a, t, b, lo, hi, n⟩, by rw [h0.1, h1.1, h2.1, h3.1, h4.1, h5.1]; rfl, by show 7 ≤ 1 + (1 + (1 + (1 + (1 + (1 + 0))))) + 1; omega⟩
end Go.Proofs.YtihgjihdmlomaaaDoor

namespace Go.Proofs.YtihgjihdmlomaaaDoor
open Go.RowKit ArgK
set_option linter.unusedVariables false

theorem wpList_append_opt {P : Program} {w : World} {ops : Array Oper} {rest : List Oper} {o : Oper} {a : Act} {Q : Exit → Act → World → Prop} (hgd : o.guard = none) (s x : Operand) (t : TypeId)
    (ho : o.op = .call { callee := .builtin .append, args := #[s, x], argTypes := #[t, t] })
    (base : Nat) (e : TypeId) (i : TypeInfo) (z : Value) (size bytes : Nat) (ht : P.underlying t = some (.slice e)) (hi : P.info? e = some i) (hz : i.zero = some z)
    (hsize : i.size = size) (hby : i.bytes = bytes) (hzs : z.cells.size = size) (hsz : 0 < size)
    (v : Value) (n : Nat) (xs : List Value) (hs : a.eval s = v) (hown : w.ownsRow base e size v n xs)
    (p : Option Addr) (m c : Nat) (news : List Value) (hx : a.eval x = .slice p m c) (hp : p = none → m = 0 ∧ c = 0) (hl : news.length = m * size) (hnews : ∀ j u, news[j]? = some u → ∃ ad, p = some ad ∧ w.cell? (ad.add j) = some u) (h1 : ∀ u ∈ news, u.oneCell' = true)
    (h63 : n + m ≤ maxLen) (hbytes : (n + m) * bytes ≤ 140737488355328) (hbase : base ≤ w.heap.size)
    (h : ∀ v' w', w'.ownsRow base e size v' (n + m) (xs ++ news) → w.grownBy w' v.ownBlock → wpList P ops Q rest (a.put o.dst v') w') : wpList P ops Q (o :: rest) a w := by
  cases p with
  | none =>
    obtain ⟨rfl, rfl⟩ := hp rfl
    have hn : news = [] := List.eq_nil_of_length_eq_zero (by simpa using hl)
    subst hn
    exact wpList_append_own_none hgd s x t ho base e i size ht hi v n xs hs hown hx (h v w (by simpa using hown) (grown_refl _ _))
  | some ad => exact wpList_append_own w hgd s x t ho base e i z size bytes ht hi hz hsize hby hzs hsz v n xs hs hown ad m c news hx hl (fun j u hj => by obtain ⟨a, e, h⟩ := hnews j u hj; cases e; exact h) h1 h63 hbytes hbase fun v' w' h2 h3 _ => h v' w' h2 h3

theorem entinfo6 : (Tryd.prog.info? 33).map (fun i => (i.zero, i.size, i.bytes)) = some (some (.agg #[.int .i64 0, .string ⟨#[]⟩, .int .i64 0, .int .i64 0, .bool false]), 5, 48) := by kernel_rfl

theorem encE_mem1 {L : List Ent} : ∀ u ∈ encE L, u.oneCell' = true := by
  intro u hu
  unfold encE at hu
  obtain ⟨x, _, hx⟩ := List.mem_flatMap.1 hu
  simp only [Ent.cells, List.mem_cons, List.not_mem_nil, or_false] at hx
  rcases hx with rfl | rfl | rfl | rfl | rfl <;> rfl

def mark6 : Ent := ⟨-9, ⟨#[]⟩, 0, 0, false⟩

/-- What a readable list's cells are. -/
theorem EL.news {w : World} {B : Nat} {p : Option Addr} {L : List Ent} (h : EL w B p L) : ∀ j u, (encE L)[j]? = some u → ∃ ad, p = some ad ∧ w.cell? (ad.add j) = some u := by
  intro j u hu
  have hj := (List.getElem?_eq_some_iff.1 hu).1
  rw [encE_length] at hj
  have hq : j / 5 < L.length := by omega
  obtain ⟨x, hx⟩ : ∃ x, L[j / 5]? = some x := ⟨_, List.getElem?_eq_getElem hq⟩
  obtain ⟨a, rfl, _, h0, h1, h2, h3, h4⟩ := h _ x hx
  refine ⟨a, rfl, ?_⟩
  have hk : j = j / 5 * 5 + j % 5 := by omega
  have hr : j % 5 < 5 := Nat.mod_lt _ (by decide)
  have hg := encE_get L (j / 5) x hx (j % 5) hr
  rw [← hk, hu] at hg
  rw [add_field _ _ _ (by decide)] at h1 h2 h3 h4
  rw [hk]
  generalize j / 5 * 5 = q at *
  generalize j % 5 = r at *
  rw [hg]
  rcases (show r = 0 ∨ r = 1 ∨ r = 2 ∨ r = 3 ∨ r = 4 by omega) with rfl | rfl | rfl | rfl | rfl
  · exact h0
  · exact h1
  · exact h2
  · exact h3
  · exact h4

theorem own_cap {w : World} {base : Nat} {e : TypeId} {size : Nat} {q : Option Addr} {n c : Nat} {xs : List Value} (h : w.ownsRow base e size (.slice q n c) n xs) : n ≤ c := by
  obtain ⟨q', c', e', h1, _⟩ := own_rd h
  simp only [Value.slice.injEq] at e'
  obtain ⟨_, _, rfl⟩ := e'
  exact h1

def TwinPost (w : World) (L : List Ent) (n : Nat) (e : Ending) (w' : World) : Prop :=
  ∃ g cap, e = .returned (.slice (some ⟨g, 0, none⟩) n cap) ∧ w'.ownsRow w.heap.size 33 5 (.slice (some ⟨g, 0, none⟩) (n + 1) cap) (n + 1) (encE (L ++ [mark6])) ∧ Below w.heap.size w w'

set_option maxRecDepth 100000 in
set_option maxHeartbeats 1000000 in
theorem twin_calls (p : Option Addr) (n c : Nat) (L : List Ent) (hn : L.length = n) (hm : n * 48 ≤ 140737488351232) (hp : p = none → n = 0 ∧ c = 0) (w : World) (hE : EL w w.heap.size p L) :
    Calls Tryd.prog 11 #[.slice p n c] w (TwinPost w L n) := by
  obtain ⟨i0, hi, hz0, hz1, hz2⟩ := info_parts entinfo6
  have HNews := Lib.hid hE.news
  have hl : (encE L).length = n * 5 := by rw [encE_length, hn]
  have HL := Lib.hid hl
  have HP := Lib.hid hp
  clear hE hl hp hn
  go_enter Tryd.func11, Tryd.ntmps11
  go_wp2_with (at_builtin; refine wpList_append_opt rfl _ _ 24 rfl w.heap.size 33 i0 _ 5 48 Tryd.underlying24 hi hz0 hz1 hz2 rfl (by decide) (.slice none 0 0) 0 [] rfl (World.ownsRow_nil _ _ _ _) p n c (encE L) rfl HP.out HL.out HNews.out encE_mem1 (by unfold maxLen; omega) (by omega) (Nat.le_refl _) ?_)
  intro v1 w1 hown1 hg1
  have hb1 : Below w.heap.size w w1 := ⟨hg1.os, hg1.tape, hg1.output, hg1.size, fun k hk => hg1.block k hk (by simp [Value.ownBlock])⟩
  have hown1 : w1.ownsRow w.heap.size 33 5 v1 n (encE L) := by simpa using hown1
  obtain ⟨p1, c1, rfl, _, _, _⟩ := own_rd hown1
  have HB1 := Lib.hid hb1
  have HO1 := Lib.hid hown1
  have hs1 := hb1.size
  have hlo : ∀ g, (Value.slice p1 n c1).ownBlock = some g → w.heap.size ≤ g := fun g hg => (hown1.lt g hg).1
  have HLO := Lib.hid hlo
  have hbu : ∀ W : World, (Instr.build 33 #[(0, .int .i64 (-9))]).run Tryd.prog W = .ok (.agg #[.int .i64 (-9), .string ⟨#[]⟩, .int .i64 0, .int .i64 0, .bool false]) W := fun W => run_build W _ _ _ (by kernel_rfl)
  have hva := hown1.alloc (.cells #[.int .i64 (-9), .string ⟨#[]⟩, .int .i64 0, .int .i64 0, .bool false] 33)
  have hnews := World.news_of_block (cs := #[.int .i64 (-9), .string ⟨#[]⟩, .int .i64 0, .int .i64 0, .bool false]) (t := 33) (fr := (0, 0)) (heap_alloc_new w1 (.cells #[.int .i64 (-9), .string ⟨#[]⟩, .int .i64 0, .int .i64 0, .bool false] 33))
  clear hown1 hg1 hb1 hlo
  go_wp2_with (at_builtin; refine wpList_append_lies _ rfl _ _ _ rfl w.heap.size 33 i0 _ 5 48 Tryd.underlying24 hi hz0 hz1 hz2 rfl (by decide) (.slice p1 n c1) n _ rfl hva ⟨w1.heap.size, 0, none⟩ 1 1 mark6.cells rfl rfl hnews (by simp [Value.oneCell', Ent.cells]) (by decide) (by unfold maxLen; omega) (by omega) (by simp; omega) (w1.heap.size + 1) (by simp) ?_; intro g2 cap2 w2 hown2 hgrow2 hat2 hlt2; have hcap := own_cap hown2; have hcap2 : n ≤ cap2 := (Nat.le_trans (Nat.le_succ n) hcap))
  go_ret
  have hb2 : Below w.heap.size w1 w2 := ⟨hgrow2.os, hgrow2.tape, hgrow2.output, by have := hgrow2.size; simp at this; omega, fun j hj => (hgrow2.block j (by simp; omega) (fun e' => by have := HLO.out j e'.symm; omega)).trans (Below.heap_alloc _ _ _ (by omega))⟩
  exact ⟨g2, cap2, rfl, by rw [encE_snoc]; exact hown2, HB1.out.trans hb2⟩
end Go.Proofs.YtihgjihdmlomaaaDoor

namespace Go.Proofs.YtihgjihdmlomaaaDoor
open Go.RowKit ArgK
set_option linter.unusedVariables false

def flpE (x : Ent) : Ent := ⟨x.v, x.c, x.i, x.s, !x.d⟩
/-- The list with its first k entries turned. -/
def flipK (z : List Ent) (k : Nat) : List Ent := (z.take k).map flpE ++ z.drop k

theorem flipK_zero (z : List Ent) : flipK z 0 = z := rfl
theorem flipK_all {z : List Ent} {n : Nat} (hn : z.length = n) : flipK z n = z.map flpE := by
  unfold flipK
  rw [← hn, List.take_length, List.drop_length, List.append_nil]
theorem flipK_length (z : List Ent) (k : Nat) : (flipK z k).length = z.length := by
  unfold flipK
  rw [List.length_append, List.length_map, List.length_take, List.length_drop]
  omega
theorem flipK_get {z : List Ent} {k : Nat} {x : Ent} (h : z[k]? = some x) : (flipK z k)[k]? = some x := by
  have hk := (List.getElem?_eq_some_iff.1 h).1
  unfold flipK
  rw [List.getElem?_append_right (by rw [List.length_map, List.length_take]; omega), List.length_map, List.length_take, Nat.min_eq_left (Nat.le_of_lt hk), Nat.sub_self, List.getElem?_drop]
  exact h
theorem flipK_succ {z : List Ent} {k : Nat} {x : Ent} (h : z[k]? = some x) : (flipK z k).set k (flpE x) = flipK z (k + 1) := by
  have hk := (List.getElem?_eq_some_iff.1 h).1
  have hx := (List.getElem?_eq_some_iff.1 h).2
  unfold flipK
  rw [List.set_append_right _ _ (by rw [List.length_map, List.length_take]; omega), List.length_map, List.length_take, Nat.min_eq_left (Nat.le_of_lt hk), Nat.sub_self, List.drop_eq_getElem_cons hk, List.set_cons_zero, List.take_add_one, h]
  simp

theorem encE_set4 : ∀ (F : List Ent) (j : Nat) (x : Ent) (b : Bool), F[j]? = some x → (encE F).set (j * 5 + 4) (.bool b) = encE (F.set j ⟨x.v, x.c, x.i, x.s, b⟩)
  | [], j, x, b, h => by simp at h
  | y :: F, 0, x, b, h => by
    obtain rfl : y = x := by simpa using h
    simp [encE, Ent.cells]
  | y :: F, j + 1, x, b, h => by
    have ih := encE_set4 F j x b (by simpa using h)
    rw [encE_cons, List.set_append_right _ _ (by simp [Ent.cells]; omega), show (j + 1) * 5 + 4 - y.cells.length = j * 5 + 4 by simp [Ent.cells]; omega, ih]
    rfl

/-- At the head of each round. -/
def FpRel (w : World) (bs bh : Nat) (h : Hd) (z : List Ent) (g cap n k : Nat) (wr : World) : Prop :=
  k ≤ n ∧ wr.ownsRow bs 33 5 (.slice (some ⟨g, 0, none⟩) (n + 1) cap) (n + 1) (encE (flipK z k ++ [mark6])) ∧ Below w.heap.size w wr ∧ wr.heap[bh]? = some (.cells #[.int .i64 h.w, .int .i64 h.t, .int .i64 h.b, .int .i64 h.lo, .int .i64 h.hi, .int .i64 h.n] 23 (0, 0))

theorem own_first {W : World} {base g n cap : Nat} {L : List Ent} (h : W.ownsRow base 33 5 (.slice (some ⟨g, 0, none⟩) (n + 1) cap) (n + 1) (encE (L ++ [mark6]))) (hn : L.length = n) :
    W.ownsRow base 33 5 (.slice (some ⟨g, 0, none⟩) n cap) n (encE L) := by
  have := own_takeE h (k := n) (by omega)
  rw [List.take_left' hn] at this
  exact this

theorem FpRel.step {w wr : World} {bs bh : Nat} {h : Hd} {z : List Ent} {g cap n k : Nat} {x : Ent} (hr : FpRel w bs bh h z g cap n k wr) (hz : z.length = n) (hx : z[k]? = some x) (hbs : w.heap.size ≤ bs) (hbh : bh < bs) :
    FpRel w bs bh h z g cap n (k + 1) (wr.setCell ⟨g, k * 5 + 4, none⟩ (.bool !x.d)) := by
  obtain ⟨hk, ho, hb, hh⟩ := hr
  have hkn := (List.getElem?_eq_some_iff.1 hx).1
  have hg := (ho.lt g rfl).1
  have hs := ho.stored (k * 5 + 4) (.bool !x.d)
  refine ⟨by omega, ?_, hb.grown hs.2 hb.size (fun b e => by cases e; omega), ?_⟩
  · have h1 := hs.1
    rw [encE_set4 _ k x _ (by rw [List.getElem?_append_left (by rw [flipK_length]; exact hkn)]; exact flipK_get hx), List.set_append_left _ _ (by rw [flipK_length]; exact hkn)] at h1
    rw [← flipK_succ hx]
    exact h1
  · rw [← hh]
    exact Below.heap_setCell wr ⟨g, k * 5 + 4, none⟩ _ bh (fun e => by have : bh = g := e; omega)

theorem hd_arg {sa : Array Value} {z : Hd} (h : IsHd sa.toList z) : sa = #[.int .i64 z.w, .int .i64 z.t, .int .i64 z.b, .int .i64 z.lo, .int .i64 z.hi, .int .i64 z.n] := by
  rw [← Array.toList_inj, h]
  rfl

/-- What the row says of a list of entries. -/
theorem el_arg {w : World} {v : Value} {z : List Ent} (h : IsSl w 5 48 IsEnt [v] z) : ∃ (p : Option Addr) (c : Nat), v = .slice p z.length c ∧ (p = none → z.length = 0 ∧ c = 0) ∧ z.length ≤ c ∧ z.length * 48 ≤ 140737488351232 ∧ EL w w.heap.size p z ∧ ∀ x ∈ z, x.c.size ≤ 140737488351232 := by
  obtain ⟨hz1, hz2⟩ := h
  rcases hz2 with ⟨h, rfl⟩ | ⟨a, cap, h, h1, h2, hc⟩
  · cases h
    exact ⟨none, 0, rfl, fun _ => ⟨rfl, rfl⟩, Nat.le_refl _, by simp, EL.nil, fun x hx => by simp at hx⟩
  · cases h
    refine ⟨some a, cap, rfl, (fun e => by cases e), by omega, by omega, fun i x hx => ?_, fun x hx => ?_⟩
    · obtain ⟨c, _, hr, hcell⟩ := hc i x hx
      obtain ⟨rfl, _⟩ := hr
      have h5 := Five.of hcell
      exact ⟨a, rfl, by have := h5.lt; rw [add_blockE] at this; exact this, h5⟩
    · obtain ⟨i, hi⟩ := List.getElem?_of_mem hx
      obtain ⟨c, _, hr, _⟩ := hc i x hi
      exact hr.2.2.1

set_option maxRecDepth 100000 in
set_option maxHeartbeats 4000000 in
theorem BlockBuild_walk (sa0 : Array Value) (h : Hd) (v : Value) (z : List Ent) (w : World) (h0 : IsHd sa0.toList h) (h1 : IsSl w 5 48 IsEnt [v] z) (hL : TabLaid w) :
    Calls Tryd.prog 3 #[.agg sa0, v] w fun e w' => e = .returned (.bool true) ∧ Below w.heap.size w w' := by
  obtain rfl := hd_arg h0
  obtain ⟨p, c, rfl, hp, hnc, hm, hE, hcs⟩ := el_arg h1
  have hT := tab_of_laid hL
  obtain ⟨n, hn⟩ : ∃ n, z.length = n := ⟨_, rfl⟩
  rw [hn] at hp hnc hm ⊢
  have HN := Lib.hid hn
  have HP := Lib.hid hp
  have HE := Lib.hid hE
  have HCS := Lib.hid hcs
  have HT := Lib.hid hT
  have HB0 : Hid (Below w.heap.size w (w.alloc (.cells #[.int .i64 h.w, .int .i64 h.t, .int .i64 h.b, .int .i64 h.lo, .int .i64 h.hi, .int .i64 h.n] 23))) := Lib.hid ((Below.refl _ w).alloc (Nat.le_refl _) _)
  have hz0 := World.alloc_heap_new w (.cells #[.int .i64 h.w, .int .i64 h.t, .int .i64 h.b, .int .i64 h.lo, .int .i64 h.hi, .int .i64 h.n] 23)
  have hsz0 : (w.alloc (.cells #[.int .i64 h.w, .int .i64 h.t, .int .i64 h.b, .int .i64 h.lo, .int .i64 h.hi, .int .i64 h.n] 23)).heap.size = w.heap.size + 1 := by simp
  have CT := twin_calls p n c z hn hm hp _ ((hE.below HB0.out (Nat.le_refl _)).mono HB0.out.size)
  have HCT := Lib.hid CT
  have HZ0 := Lib.hid hz0
  have HSZ := Lib.hid hsz0
  clear h0 h1 hL hn hp hE hcs hT CT hz0 hsz0
  go_enter Tryd.func3, Tryd.ntmps3
  go_wp2_with fail
  refine HCT.out.mono ?_
  rintro e w1 ⟨g, cap, rfl, ho1, hb1⟩
  rw [HSZ.out] at ho1 hb1
  have hbx1 := (hb1.block w.heap.size (by omega)).trans HZ0.out
  have HBl1 := Lib.hid (HB0.out.trans (hb1.mono (by omega)))
  have HO1 := Lib.hid ho1
  have hcap := own_cap ho1
  have hcap2 : n ≤ cap := by omega
  have hof1 := own_first ho1 HN.out
  have CB := Build_calls h (some ⟨g, 0, none⟩) n cap z HN.out (by omega) hcap2 HCS.out w1 (HT.out.below HBl1.out) (el_own hof1 HN.out)
  obtain ⟨r, hr⟩ : ∃ r, builtR h z = r := ⟨_, rfl⟩
  rw [hr] at CB
  unfold Hd.val at CB
  have HCB := Lib.hid CB
  have HR := Lib.hid hr
  obtain ⟨d0, d1, d2, d3, d4, d5⟩ := cells6 hbx1
  have HBx1 := Lib.hid hbx1
  clear CB hr ho1 hof1 hb1 hbx1
  go_wp2_with fail
  refine HCB.out.mono ?_
  rintro e w2 ⟨rfl, hb2⟩
  have hs1 := HBl1.out.size
  have hbl2 := HBl1.out.trans (hb2.mono hs1)
  have CR := RefBuild_calls h p n c z HN.out (by omega) HCS.out w2 ((HE.out.below hbl2 (Nat.le_refl _)).mono hbl2.size)
  rw [HR.out] at CR
  unfold Hd.val at CR
  obtain ⟨S, hS⟩ : ∃ S, (⟨r.1.toArray⟩ : ByteArray) = S := ⟨_, rfl⟩
  unfold BuildPost at CR
  rw [hS] at CR ⊢
  have HCR := Lib.hid CR
  have HBl2 := Lib.hid hbl2
  have HB2 := Lib.hid hb2
  have hbx2 := (hb2.block w.heap.size (by have := HBx1.out; exact (Array.getElem?_eq_some_iff.1 this).1)).trans HBx1.out
  have HBx2 := Lib.hid hbx2
  clear CR hS hb2 hbl2 d0 d1 d2 d3 d4 d5
  obtain ⟨d0, d1, d2, d3, d4, d5⟩ := cells6 hbx2
  clear hbx2
  go_wp2_with fail
  refine HCR.out.mono ?_
  rintro e w3 ⟨rfl, hb3⟩
  have hb13 := HB2.out.trans (hb3.mono HB2.out.size)
  have ho3 := own_belowAll HO1.out hb13
  have hbl3 := HBl2.out.trans (hb3.mono HBl2.out.size)
  have CS := sameE_true (.slice (some ⟨g, 0, none⟩) n cap) (.slice p n c) z (by rw [HN.out]; omega) w3 (ESl.of_own (own_first ho3 HN.out)) (by have := (HE.out.below hbl3 (Nat.le_refl _)).esl c; rw [HN.out] at this; exact this)
  have HCS3 := Lib.hid CS
  have HO3 := Lib.hid ho3
  have HBl3 := Lib.hid hbl3
  have HB13 := Lib.hid hb13
  clear CS ho3 hbl3 hb3 hb13 d0 d1 d2 d3 d4 d5
  go_wp2_with fail
  refine HCS3.out.mono ?_
  rintro e w4 ⟨rfl, hb4⟩
  have ho4 := own_belowAll HO3.out hb4
  have hm4 : w4.cell? ⟨g, n * 5, none⟩ = some (.int .i64 (-9)) := (own_fiveE ho4 (j := n) (x := mark6) (by rw [List.getElem?_append_right (by rw [HN.out]; exact Nat.le_refl _), HN.out, Nat.sub_self]; rfl)).1
  have HO4 := Lib.hid ho4
  have HBl4 := Lib.hid (HBl3.out.trans (hb4.mono HBl3.out.size))
  have HBx4 := Lib.hid ((hb4.block w.heap.size (by have := HBl3.out.size; have := HB13.out.size; have := (Array.getElem?_eq_some_iff.1 HBx1.out).1; omega)).trans ((HB13.out.block w.heap.size (Array.getElem?_eq_some_iff.1 HBx1.out).1).trans HBx1.out))
  have hnw : IntKind.i64.wrap ((n : Int) + 1) = ((n + 1 : Nat) : Int) := by rw [IntKind.wrap_i64]; omega
  clear ho4 hb4
  go_wp2
  have hs4 := HBl4.out.size
  have H0 : Hid (FpRel w (w.heap.size + 1) w.heap.size h z g cap n 0 w4) := Lib.hid ⟨Nat.zero_le _, by rw [flipK_zero]; exact HO4.out, HBl4.out, HBx4.out⟩
  clear hm4
  go_loopw [11] (fun i wr => ∃ k : Nat, i = .int .i64 k ∧ FpRel w (w.heap.size + 1) w.heap.size h z g cap n k wr) (fun i _ => n - (intOf i).toNat)
  case atStart => exact ⟨0, rfl, H0.out⟩
  case round =>
    obtain ⟨k, rfl, hrel⟩ := hrel
    by_cases hlt : k < n
    · obtain ⟨x, hx⟩ : ∃ x, z[k]? = some x := ⟨_, List.getElem?_eq_getElem (by rw [HN.out]; exact hlt)⟩
      have hstep := hrel.step HN.out hx (by omega) (by omega)
      have ho := hrel.2.1
      obtain ⟨x0, x1, x2, x3, x4⟩ := own_fiveE ho (j := k) (x := x) (by rw [List.getElem?_append_left (by rw [flipK_length, HN.out]; exact hlt)]; exact flipK_get hx)
      have hfz := ho.frozenAt (k * 5 + 4)
      have HStep := Lib.hid hstep
      have i0' : (0 : Int) ≤ (k : Int) := by omega
      have i1' : (k : Int) < (n : Int) := by omega
      clear hstep ho hx hrel
      go_wp2
      go_roundw
      case rel => exact ⟨k + 1, by go_num, HStep.out⟩
      case measure => simp [intOf]; omega
    · have hkn : k = n := by have := hrel.1; omega
      subst hkn
      obtain ⟨_, ho5, hbl5, hbx5⟩ := hrel
      rw [flipK_all HN.out] at ho5
      obtain ⟨y, hy⟩ : ∃ y, z.map flpE = y := ⟨_, rfl⟩
      rw [hy] at ho5
      have hyn : y.length = k := by rw [← hy, List.length_map, HN.out]
      have hyc : ∀ e ∈ y, e.c.size ≤ 140737488351232 := fun e he => by
        rw [← hy] at he
        obtain ⟨x, hx, rfl⟩ := List.mem_map.1 he
        exact HCS.out x hx
      have hof5 := own_first ho5 hyn
      have CT2 := twin_calls (some ⟨g, 0, none⟩) k cap y hyn hm (fun e => by cases e) wr (el_own hof5 hyn)
      have HCT2 := Lib.hid CT2
      have HO5 := Lib.hid ho5
      have HBl5 := Lib.hid hbl5
      have HBx5 := Lib.hid hbx5
      have HYN := Lib.hid hyn
      have HYC := Lib.hid hyc
      clear ho5 hbl5 hbx5 hyn hyc hof5 hy CT2
      go_wp2_with fail
      refine HCT2.out.mono ?_
      rintro e w6 ⟨g2, cap2, rfl, ho6, hb6⟩
      have ho6a := own_belowAll HO5.out hb6
      have hbx6 := (hb6.block w.heap.size (Array.getElem?_eq_some_iff.1 HBx5.out).1).trans HBx5.out
      have hbl6 := HBl5.out.trans (hb6.mono HBl5.out.size)
      have CB2 := Build_calls h (some ⟨g, 0, none⟩) k cap y HYN.out (by omega) hcap2 HYC.out w6 (HT.out.below hbl6) (el_own (own_first ho6a HYN.out) HYN.out)
      obtain ⟨r2, hr2⟩ : ∃ r, builtR h y = r := ⟨_, rfl⟩
      obtain ⟨S2, hS2⟩ : ∃ S, (⟨r2.1.toArray⟩ : ByteArray) = S := ⟨_, rfl⟩
      rw [hr2] at CB2
      unfold Hd.val BuildPost at CB2
      rw [hS2] at CB2
      obtain ⟨d0, d1, d2, d3, d4, d5⟩ := cells6 hbx6
      have HCB2 := Lib.hid CB2
      have HR2 := Lib.hid hr2
      have HS2 := Lib.hid hS2
      have HO6 := Lib.hid ho6
      have HO6a := Lib.hid ho6a
      have HBl6 := Lib.hid hbl6
      have HBx6 := Lib.hid hbx6
      clear CB2 hr2 hS2 ho6 ho6a hbl6 hb6 hbx6
      go_wp2_with fail
      refine HCB2.out.mono ?_
      rintro e w7 ⟨rfl, hb7⟩
      have ho7 := own_belowAll HO6.out hb7
      have hbx7 := (hb7.block w.heap.size (Array.getElem?_eq_some_iff.1 HBx6.out).1).trans HBx6.out
      have hcq := own_cap ho7
      have CR2 := RefBuild_calls h (some ⟨g2, 0, none⟩) k cap2 y HYN.out (by omega) HYC.out w7 (el_own (own_first ho7 HYN.out) HYN.out)
      rw [HR2.out] at CR2
      unfold Hd.val BuildPost at CR2
      rw [HS2.out] at CR2
      clear d0 d1 d2 d3 d4 d5
      obtain ⟨d0, d1, d2, d3, d4, d5⟩ := cells6 hbx7
      have HCR2 := Lib.hid CR2
      have HO7 := Lib.hid ho7
      have HO7a := Lib.hid (own_belowAll HO6a.out hb7)
      have HBl7 := Lib.hid (HBl6.out.trans (hb7.mono HBl6.out.size))
      clear CR2 ho7 hb7 hbx7
      go_wp2_with fail
      refine HCR2.out.mono ?_
      rintro e w8 ⟨rfl, hb8⟩
      have CS8 := sameE_true (.slice (some ⟨g, 0, none⟩) k cap) (.slice (some ⟨g2, 0, none⟩) k cap2) y (by rw [HYN.out]; omega) w8 (ESl.of_own (own_first (own_belowAll HO7a.out hb8) HYN.out)) (ESl.of_own (own_first (own_belowAll HO7.out hb8) HYN.out))
      have HCS8 := Lib.hid CS8
      have HBl8 := Lib.hid (HBl7.out.trans (hb8.mono HBl7.out.size))
      clear CS8 hb8 d0 d1 d2 d3 d4 d5
      go_wp2_with fail
      refine HCS8.out.mono ?_
      rintro e w9 ⟨rfl, hb9⟩
      have HBl9 := Lib.hid (HBl8.out.trans (hb9.mono HBl8.out.size))
      clear hb9
      go_wp2
      go_ret
      exact ⟨rfl, HBl9.out⟩
end Go.Proofs.YtihgjihdmlomaaaDoor
