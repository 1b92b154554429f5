/-
  WALK: a list of entries once more, in new memory, with a mark behind its end (the law's own twin).
-/
import Derived.Test.YtihgjihdmlomaaaDoorBmE
import Derived.Test.YtihgjihdmlomaaaDoorArgHd
import Derived.Laws.AppendOwnNone
namespace Go.Proofs.YtihgjihdmlomaaaDoor
open Go.RowKit ArgK
set_option linter.unusedVariables false

theorem wpList_append_opt {P : Program} {w : World} {ops : Array Oper} {rest : List Oper} {o : Oper} {a : Act} {Q : Exit → Act → World → Prop} (hgd : o.guard = none) (s x : Operand) (t : TypeId)
    (ho : o.op = .call { callee := .builtin .append, args := #[s, x], argTypes := #[t, t] })
    (base : Nat) (e : TypeId) (i : TypeInfo) (z : Value) (size bytes : Nat) (ht : P.underlying t = some (.slice e)) (hi : P.info? e = some i) (hz : i.zero = some z)
    (hsize : i.size = size) (hby : i.bytes = bytes) (hzs : z.cells.size = size) (hsz : 0 < size)
    (v : Value) (n : Nat) (xs : List Value) (hs : a.eval s = v) (hown : w.ownsRow base e size v n xs)
    (p : Option Addr) (m c : Nat) (news : List Value) (hx : a.eval x = .slice p m c) (hp : p = none → m = 0 ∧ c = 0) (hl : news.length = m * size) (hnews : ∀ j u, news[j]? = some u → ∃ ad, p = some ad ∧ w.cell? (ad.add j) = some u) (h1 : ∀ u ∈ news, u.oneCell' = true)
    (h63 : n + m ≤ maxLen) (hbytes : (n + m) * bytes ≤ 140737488355328) (hbase : base ≤ w.heap.size)
    (h : ∀ v' w', w'.ownsRow base e size v' (n + m) (xs ++ news) → w.grownBy w' v.ownBlock → wpList P ops Q rest (a.put o.dst v') w') : wpList P ops Q (o :: rest) a w := by
  cases p with
  | none =>
    obtain ⟨rfl, rfl⟩ := hp rfl
    have hn : news = [] := List.eq_nil_of_length_eq_zero (by simpa using hl)
    subst hn
    exact wpList_append_own_none hgd s x t ho base e i size ht hi v n xs hs hown hx (h v w (by simpa using hown) (grown_refl _ _))
  | some ad => exact wpList_append_own w hgd s x t ho base e i z size bytes ht hi hz hsize hby hzs hsz v n xs hs hown ad m c news hx hl (fun j u hj => by obtain ⟨a, e, h⟩ := hnews j u hj; cases e; exact h) h1 h63 hbytes hbase fun v' w' h2 h3 _ => h v' w' h2 h3

theorem entinfo6 : (Tryd.prog.info? 33).map (fun i => (i.zero, i.size, i.bytes)) = some (some (.agg #[.int .i64 0, .string ⟨#[]⟩, .int .i64 0, .int .i64 0, .bool false]), 5, 48) := by kernel_rfl

theorem encE_mem1 {L : List Ent} : ∀ u ∈ encE L, u.oneCell' = true := by
  intro u hu
  unfold encE at hu
  obtain ⟨x, _, hx⟩ := List.mem_flatMap.1 hu
  simp only [Ent.cells, List.mem_cons, List.not_mem_nil, or_false] at hx
  rcases hx with rfl | rfl | rfl | rfl | rfl <;> rfl

def mark6 : Ent := ⟨-9, ⟨#[]⟩, 0, 0, false⟩

/-- What a readable list's cells are. -/
theorem EL.news {w : World} {B : Nat} {p : Option Addr} {L : List Ent} (h : EL w B p L) : ∀ j u, (encE L)[j]? = some u → ∃ ad, p = some ad ∧ w.cell? (ad.add j) = some u := by
  intro j u hu
  have hj := (List.getElem?_eq_some_iff.1 hu).1
  rw [encE_length] at hj
  have hq : j / 5 < L.length := by omega
  obtain ⟨x, hx⟩ : ∃ x, L[j / 5]? = some x := ⟨_, List.getElem?_eq_getElem hq⟩
  obtain ⟨a, rfl, _, h0, h1, h2, h3, h4⟩ := h _ x hx
  refine ⟨a, rfl, ?_⟩
  have hk : j = j / 5 * 5 + j % 5 := by omega
  have hr : j % 5 < 5 := Nat.mod_lt _ (by decide)
  have hg := encE_get L (j / 5) x hx (j % 5) hr
  rw [← hk, hu] at hg
  rw [add_field _ _ _ (by decide)] at h1 h2 h3 h4
  rw [hk]
  generalize j / 5 * 5 = q at *
  generalize j % 5 = r at *
  rw [hg]
  rcases (show r = 0 ∨ r = 1 ∨ r = 2 ∨ r = 3 ∨ r = 4 by omega) with rfl | rfl | rfl | rfl | rfl
  · exact h0
  · exact h1
  · exact h2
  · exact h3
  · exact h4

theorem own_cap {w : World} {base : Nat} {e : TypeId} {size : Nat} {q : Option Addr} {n c : Nat} {xs : List Value} (h : w.ownsRow base e size (.slice q n c) n xs) : n ≤ c := by
  obtain ⟨q', c', e', h1, _⟩ := own_rd h
  simp only [Value.slice.injEq] at e'
  obtain ⟨_, _, rfl⟩ := e'
  exact h1

def TwinPost (w : World) (L : List Ent) (n : Nat) (e : Ending) (w' : World) : Prop :=
  ∃ g cap, e = .returned (.slice (some ⟨g, 0, none⟩) n cap) ∧ w'.ownsRow w.heap.size 33 5 (.slice (some ⟨g, 0, none⟩) (n + 1) cap) (n + 1) (encE (L ++ [mark6])) ∧ Below w.heap.size w w'

set_option maxRecDepth 100000 in
set_option maxHeartbeats 1000000 in
theorem twin_calls (p : Option Addr) (n c : Nat) (L : List Ent) (hn : L.length = n) (hm : n * 48 ≤ 140737488351232) (hp : p = none → n = 0 ∧ c = 0) (w : World) (hE : EL w w.heap.size p L) :
    Calls Tryd.prog 11 #[.slice p n c] w (TwinPost w L n) := by
  obtain ⟨i0, hi, hz0, hz1, hz2⟩ := info_parts entinfo6
  have HNews := Lib.hid hE.news
  have hl : (encE L).length = n * 5 := by rw [encE_length, hn]
  have HL := Lib.hid hl
  have HP := Lib.hid hp
  clear hE hl hp hn
  go_enter Tryd.func11, Tryd.ntmps11
  go_wp2_with (at_builtin; refine wpList_append_opt rfl _ _ 24 rfl w.heap.size 33 i0 _ 5 48 Tryd.underlying24 hi hz0 hz1 hz2 rfl (by decide) (.slice none 0 0) 0 [] rfl (World.ownsRow_nil _ _ _ _) p n c (encE L) rfl HP.out HL.out HNews.out encE_mem1 (by unfold maxLen; omega) (by omega) (Nat.le_refl _) ?_)
  intro v1 w1 hown1 hg1
  have hb1 : Below w.heap.size w w1 := ⟨hg1.os, hg1.tape, hg1.output, hg1.size, fun k hk => hg1.block k hk (by simp [Value.ownBlock])⟩
  have hown1 : w1.ownsRow w.heap.size 33 5 v1 n (encE L) := by simpa using hown1
  obtain ⟨p1, c1, rfl, _, _, _⟩ := own_rd hown1
  have HB1 := Lib.hid hb1
  have HO1 := Lib.hid hown1
  have hs1 := hb1.size
  have hlo : ∀ g, (Value.slice p1 n c1).ownBlock = some g → w.heap.size ≤ g := fun g hg => (hown1.lt g hg).1
  have HLO := Lib.hid hlo
  have hbu : ∀ W : World, (Instr.build 33 #[(0, .int .i64 (-9))]).run Tryd.prog W = .ok (.agg #[.int .i64 (-9), .string ⟨#[]⟩, .int .i64 0, .int .i64 0, .bool false]) W := fun W => run_build W _ _ _ (by kernel_rfl)
  have hva := hown1.alloc (.cells #[.int .i64 (-9), .string ⟨#[]⟩, .int .i64 0, .int .i64 0, .bool false] 33)
  have hnews := World.news_of_block (cs := #[.int .i64 (-9), .string ⟨#[]⟩, .int .i64 0, .int .i64 0, .bool false]) (t := 33) (fr := (0, 0)) (heap_alloc_new w1 (.cells #[.int .i64 (-9), .string ⟨#[]⟩, .int .i64 0, .int .i64 0, .bool false] 33))
  clear hown1 hg1 hb1 hlo
  go_wp2_with (at_builtin; refine wpList_append_lies _ rfl _ _ _ rfl w.heap.size 33 i0 _ 5 48 Tryd.underlying24 hi hz0 hz1 hz2 rfl (by decide) (.slice p1 n c1) n _ rfl hva ⟨w1.heap.size, 0, none⟩ 1 1 mark6.cells rfl rfl hnews (by simp [Value.oneCell', Ent.cells]) (by decide) (by unfold maxLen; omega) (by omega) (by simp; omega) (w1.heap.size + 1) (by simp) ?_; intro g2 cap2 w2 hown2 hgrow2 hat2 hlt2; have hcap := own_cap hown2; have hcap2 : n ≤ cap2 := (Nat.le_trans (Nat.le_succ n) hcap))
  go_ret
  have hb2 : Below w.heap.size w1 w2 := ⟨hgrow2.os, hgrow2.tape, hgrow2.output, by have := hgrow2.size; simp at this; omega, fun j hj => (hgrow2.block j (by simp; omega) (fun e' => by have := HLO.out j e'.symm; omega)).trans (Below.heap_alloc _ _ _ (by omega))⟩
  exact ⟨g2, cap2, rfl, by rw [encE_snoc]; exact hown2, HB1.out.trans hb2⟩
end Go.Proofs.YtihgjihdmlomaaaDoor
