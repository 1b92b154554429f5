/-
  MergeNexts: the argument read. WALK: the document's New.
-/
import Derived.Test.YtahdaccmokjgpaaNxF
import Derived.Test.YtahdaccmokjgpaaMrgO
import Derived.Test.YtahdaccmokjgpaaArgEn
namespace Go.Proofs.Ytahdaccmokjgpaa
open Go.RowKit ArgK
set_option linter.unusedVariables false

/-- A list's cells, as an argument. -/
def IsKl (W : World) (cs : List Value) (x : Kl) : Prop := cs = x.cells ∧ EL W W.heap.size x.q x.es ∧ x.es.length * 48 ≤ 140737488351232 ∧ (∀ e ∈ x.es, (Lit.int .i64 e.s).wf = true)
def bkKl (x : Kl) : Nat := (x.es.map bkEnt).sum + 6

/-- What the row says of a list of entries. (As in XLsA.) -/
theorem el_argN {w : World} {v : Value} {z : List Ent} (h : IsSl w 5 48 IsEnt [v] z) : ∃ (p : Option Addr) (c : Nat), v = .slice p z.length c ∧ EL w w.heap.size p z ∧ ∀ x ∈ z, (Lit.int .i64 x.s).wf = true := by
  obtain ⟨hz1, hz2⟩ := h
  rcases hz2 with ⟨h, rfl⟩ | ⟨a, cap, h, h1, h2, hc⟩
  · cases h
    exact ⟨none, 0, rfl, fun i x hx => by simp at hx, fun x hx => by simp at hx⟩
  · cases h
    refine ⟨some a, cap, rfl, fun i x hx => ?_, fun x hx => ?_⟩
    · obtain ⟨c, _, hr, hcell⟩ := hc i x hx
      obtain ⟨rfl, _⟩ := hr
      have h0 := hcell 0 (by decide)
      have hlt : a.block < w.heap.size := by have := cell_lt h0; rw [add_blockE] at this; exact this
      refine ⟨a, rfl, hlt, h0, ?_, ?_, ?_, ?_⟩
      · rw [add_field _ _ _ (by decide)]; exact hcell 1 (by decide)
      · rw [add_field _ _ _ (by decide)]; exact hcell 2 (by decide)
      · rw [add_field _ _ _ (by decide)]; exact hcell 3 (by decide)
      · rw [add_field _ _ _ (by decide)]; exact hcell 4 (by decide)
    · obtain ⟨i, hi⟩ := List.getElem?_of_mem hx
      obtain ⟨c, _, hr, _⟩ := hc i x hi
      exact hr.2.2.2.2

theorem rd_KList (W : World) : RdT Try.prog W 35 (IsKl W) bkKl := by
  have e : Try.prog.cellsOf 35 = 5 := by kernel_rfl
  have e1 : Try.prog.cellsOf 3 = 1 := by kernel_rfl
  have e2 : Try.prog.cellsOf 25 = 1 := by kernel_rfl
  have e3 : Try.prog.cellsOf 4 = 1 := by kernel_rfl
  refine RdT.mono (rd_struct Try.underlying35 (rdf_cons (rd_slice (size := 5) (bytes := 48) Try.underlying25 (by kernel_rfl) (by kernel_rfl) (rd_Entry W)) (rdf_cons (rd_int Try.underlying3) (rdf_cons (rd_bool Try.underlying4) (rdf_cons (rd_int Try.underlying3) (rdf_cons (rd_bool Try.underlying4) rdf_nil)))))) ?_
  rintro cs ⟨es, fin, mute, u3, dn, u⟩ ⟨hl, h0, h1, h2, h3, h4, _⟩
  simp only [e1, e2, e3] at h0 h1 h2 h3 h4
  rw [e] at hl
  match cs, hl with
  | [c0, c1, c2, c3, c4], _ =>
    simp at h0 h1 h2 h3 h4
    obtain ⟨p, c, hv, hE, hw⟩ := el_argN h0
    refine ⟨⟨p, c, es, fin, mute, u3, dn⟩, ⟨?_, hE, h0.1, hw⟩, ?_⟩
    · rw [hv, h1.1, h2, h3.1, h4]
      rfl
    · show (es.map bkEnt).sum + 6 ≤ ((es.map bkEnt).sum + 1) + (1 + (1 + (1 + (1 + 0)))) + 1
      omega

/-- The lists of the argument. -/
theorem kls_arg {w : World} {v : Value} {z : List Kl} (h : IsSl w 5 56 (IsKl w) [v] z) : ∃ (p : Option Addr) (c : Nat), v = .slice p z.length c ∧ (p = none → z.length = 0 ∧ c = 0) ∧ z.length * 56 ≤ 140737488351232 ∧ KLs w w.heap.size p z ∧ ∀ x ∈ z, ∀ e ∈ x.es, (Lit.int .i64 e.s).wf = true := by
  obtain ⟨hz1, hz2⟩ := h
  rcases hz2 with ⟨h, rfl⟩ | ⟨a, cap, h, h1, h2, hc⟩
  · cases h
    exact ⟨none, 0, rfl, fun _ => ⟨rfl, rfl⟩, by simp, fun i x hx => by simp at hx, fun x hx => by simp at hx⟩
  · cases h
    refine ⟨some a, cap, rfl, (fun e => by cases e), hz1, fun i x hx => ?_, fun x hx => ?_⟩
    · obtain ⟨c, _, hr, hcell⟩ := hc i x hx
      obtain ⟨rfl, hE, hb, _⟩ := hr
      refine ⟨a, rfl, ⟨hcell 0 (by decide), ?_, ?_, ?_, ?_⟩, hE, by omega⟩
      · rw [add_field _ _ _ (by decide)]; exact hcell 1 (by decide)
      · rw [add_field _ _ _ (by decide)]; exact hcell 2 (by decide)
      · rw [add_field _ _ _ (by decide)]; exact hcell 3 (by decide)
      · rw [add_field _ _ _ (by decide)]; exact hcell 4 (by decide)
    · obtain ⟨i, hi⟩ := List.getElem?_of_mem hx
      obtain ⟨c, _, hr, _⟩ := hc i x hi
      exact hr.2.2.2

theorem KLs.news {w : World} {B : Nat} {p : Option Addr} {L : List Kl} (h : KLs w B p L) : ∀ j u, (encK L)[j]? = some u → ∃ ad, p = some ad ∧ w.cell? (ad.add j) = some u := by
  intro j u hu
  have hj := (List.getElem?_eq_some_iff.1 hu).1
  rw [encK_length] at hj
  have hq : j / 5 < L.length := by omega
  obtain ⟨x, hx⟩ : ∃ x, L[j / 5]? = some x := ⟨_, List.getElem?_eq_getElem hq⟩
  obtain ⟨a, rfl, ⟨h0, h1, h2, h3, h4⟩, _⟩ := h _ x hx
  refine ⟨a, rfl, ?_⟩
  have hk : j = j / 5 * 5 + j % 5 := by omega
  have hr : j % 5 < 5 := Nat.mod_lt _ (by decide)
  have hg := encK_get L (j / 5) x hx (j % 5) hr
  rw [← hk, hu] at hg
  rw [add_field _ _ _ (by decide)] at h1 h2 h3 h4
  rw [hk]
  generalize j / 5 * 5 = q at *
  generalize j % 5 = r at *
  rw [hg]
  rcases (show r = 0 ∨ r = 1 ∨ r = 2 ∨ r = 3 ∨ r = 4 by omega) with rfl | rfl | rfl | rfl | rfl
  · exact h0
  · exact h1
  · exact h2
  · exact h3
  · exact h4

theorem encK_one : ∀ (L : List Kl), ∀ u ∈ encK L, u.oneCell' = true
  | [], u, h => by simp [encK] at h
  | x :: L, u, h => by
    rw [encK_cons, List.mem_append] at h
    rcases h with h | h
    · simp only [Kl.cells, List.mem_cons, List.not_mem_nil, or_false] at h
      rcases h with rfl | rfl | rfl | rfl | rfl <;> rfl
    · exact encK_one L u h

theorem klinfo : (Try.prog.info? 35).map (fun i => (i.zero, i.size, i.bytes)) = some (some (.agg #[.slice none 0 0, .int .i64 0, .bool false, .int .i64 0, .bool false]), 5, 56) := by kernel_rfl

/-- Lists in a row that is one's own. -/
theorem kls_ownB {W : World} {B B' n c : Nat} {p : Option Addr} {ks : List Kl} (h : W.ownsRow B 35 5 (.slice p n c) n (encK ks)) (hn : ks.length = n) (hE : ∀ x ∈ ks, EL W B' x.q x.es ∧ x.es.length ≤ 4398046511104) : KLs W B' p ks := by
  intro i x hx
  have hi := (List.getElem?_eq_some_iff.1 hx).1
  obtain ⟨q, d, e, _, _, hr⟩ := own_rd h
  simp only [Value.slice.injEq] at e
  obtain ⟨rfl, _, rfl⟩ := e
  obtain ⟨g, rfl, _, hg, hc, _⟩ := hr (by omega)
  have hcell : ∀ k, k < 5 → W.cell? ⟨g, i * 5 + k, none⟩ = x.cells[k]? := fun k hk => by rw [hc (i * 5 + k) (by omega), encK_get ks i x hx k hk]
  have ea : (⟨g, 0, none⟩ : Addr).add (i * 5) = ⟨g, i * 5, none⟩ := by unfold Addr.add; split <;> simp_all
  refine ⟨⟨g, 0, none⟩, rfl, ?_, (hE x (List.mem_of_getElem? hx)).1, (hE x (List.mem_of_getElem? hx)).2⟩
  rw [ea]
  exact ⟨hcell 0 (by decide), hcell 1 (by decide), hcell 2 (by decide), hcell 3 (by decide), hcell 4 (by decide)⟩

set_option maxRecDepth 100000 in
set_option maxHeartbeats 1000000 in
theorem RNew_many (p : Option Addr) (n c : Nat) (bottom : Bool) (hn : 1024 < n) (hm : n < 9223372036854775807) (w : World) : Calls Try.prog 37 #[.slice p n c, .bool bottom] w fun e w' => e = .returned (.pointer none) ∧ w' = w := by
  have h1 : decide ((1024 : Int) < (n : Int)) = true := by simp; omega
  have h2 : (1024 : Int) < (n : Int) := by omega
  go_enter Try.func37, Try.ntmps37
  go_wp2
  go_ret
  exact ⟨rfl, rfl⟩

set_option maxRecDepth 100000 in
set_option maxHeartbeats 2000000 in
theorem RNew_calls {w : World} {B : Nat} {p : Option Addr} {n c : Nat} {ls : List Kl} (bottom : Bool) (hn : ls.length = n) (h1024 : n ≤ 1024) (hp : p = none → n = 0 ∧ c = 0) (hK : KLs w B p ls) (hB : B ≤ w.heap.size) (hu : ∀ x ∈ ls, ∃ u : Nat, x.u3 = u) :
    Calls Try.prog 37 #[.slice p n c, .bool bottom] w fun e w' => ∃ rb p' c', e = .returned (.pointer (some ⟨rb, 0, none⟩)) ∧ Below w.heap.size w w' ∧ RmAt w' B rb p' n c' bottom ls false 0 ∧ w.heap.size ≤ rb ∧ w'.ownsRow w.heap.size 35 5 (.slice p' n c') n (encK ls) := by
  obtain ⟨i0, hi0, hz0, hz1, hz2⟩ := info_parts klinfo
  have hbu : ∀ (W : World) (q : Option Addr) (m k : Nat), (Instr.build 78 #[(0, .slice q m k), (1, .bool bottom)]).run Try.prog W = .ok (.agg #[.slice q m k, .bool bottom, .bool false, .int .i64 0]) W := fun W q m k => run_build W _ _ _ (by kernel_rfl)
  have hd : decide ((1024 : Int) < (n : Int)) = false := by simp; omega
  have hl : (encK ls).length = n * 5 := by rw [encK_length]; omega
  have chk1 : 0 + n ≤ maxLen := by unfold maxLen; omega
  have chk2 : (0 + n) * 56 ≤ 140737488355328 := by omega
  have HN := Lib.hid hn
  have HP := Lib.hid hp
  have HS := Lib.hid hK.news
  have H1 := Lib.hid (encK_one ls)
  have HL := Lib.hid hl
  have HE : Hid (∀ W, Below w.heap.size w W → ∀ x ∈ ls, EL W B x.q x.es ∧ x.es.length ≤ 4398046511104 ∧ ∃ u : Nat, x.u3 = u) := Lib.hid (fun W hW x hx => by
    obtain ⟨i, hi⟩ := List.getElem?_of_mem hx
    obtain ⟨_, _, _, h1, h2⟩ := hK i x hi
    exact ⟨h1.below hW hB, h2, hu x hx⟩)
  clear hn hp hK hl hu
  go_enter Try.func37, Try.ntmps37
  go_wp2_with (at_builtin; refine wpList_append_opt rfl _ _ 33 rfl w.heap.size 35 i0 _ 5 56 Try.underlying33 hi0 hz0 hz1 hz2 rfl (by decide) _ 0 [] rfl own_none p n c (encK ls) rfl HP.out HL.out HS.out H1.out chk1 chk2 (Nat.le_refl _) ?_)
  intro sv w1 hown hgrow
  have hb1 : Below w.heap.size w w1 := ⟨hgrow.os, hgrow.tape, hgrow.output, hgrow.size, fun k hk => hgrow.block k hk (by simp [Value.ownBlock])⟩
  have hown : w1.ownsRow w.heap.size 35 5 sv n (encK ls) := by simpa using hown
  obtain ⟨ps, cps, rfl, _, _, _⟩ := own_rd hown
  have HOWN := Lib.hid hown
  have HB1 := Lib.hid hb1
  clear hown hgrow hb1
  go_wp2
  go_ret
  have hs1 := HB1.out.size
  have hB1 : Below w1.heap.size w1 (w1.alloc (.cells #[.slice ps n cps, .bool bottom, .bool false, .int .i64 0] 78)) := (Below.refl _ w1).alloc (Nat.le_refl _) _
  have hb2 := HB1.out.trans (hB1.mono hs1)
  exact ⟨w1.heap.size, ps, cps, rfl, hb2, ⟨World.alloc_heap_new w1 _, by omega, own_le (own_belowAll HOWN.out hB1) hB, HE.out _ hb2⟩, hs1, own_belowAll HOWN.out hB1⟩
end Go.Proofs.Ytahdaccmokjgpaa
