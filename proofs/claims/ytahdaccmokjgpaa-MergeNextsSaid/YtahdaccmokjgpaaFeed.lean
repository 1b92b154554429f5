/-
  WALK: a feed's Next (the law's own feed).
  FEEDS: what is asked of a merger's sources is kept by them.
  WALK: sources that give lists (the law's own fed).
-/
import Derived.Test.YtahdaccmokjgpaaOf
import Derived.RegionTactic
import Derived.Deep.QuietTactic
import Derived.BigQuiet
import Derived.BigRegion
import Derived.StillTailTactics
import Derived.Outline
namespace Go.Proofs.Ytahdaccmokjgpaa
open Go.RowKit ArgK
set_option linter.unusedVariables false

/-- A feed's block. -/
def fdB (q : Option Addr) (n c : Nat) (fin : Int) (mute : Bool) (u3 : Int) (dn : Bool) (used : Int) : Obj := .cells #[.slice q n c, .int .i64 fin, .bool mute, .int .i64 u3, .bool dn, .int .i64 used] 66 (0, 0)

set_option maxRecDepth 100000 in
set_option maxHeartbeats 1000000 in
theorem feed_end {w : World} {b : Nat} {q : Option Addr} {n c : Nat} {fin : Int} {mute : Bool} {u3 : Int} {dn : Bool} {used : Nat} (hb : w.heap[b]? = some (fdB q n c fin mute u3 dn used)) (hu : n ≤ used) (hs : used ≤ 4398046511104) :
    Calls Try.prog 44 #[.pointer (some ⟨b, 0, none⟩)] w fun e w' => e = .returned (.tuple #[zeroE.val, .bool false, .int .i64 fin]) ∧ Fr w w' [some b] ∧ w'.heap[b]? = some (fdB q n c fin mute u3 dn (used + 1)) := by
  have hl : b < w.heap.size := (Array.getElem?_eq_some_iff.1 hb).1
  unfold fdB at hb
  have c0 : w.cell? ⟨b, 0, none⟩ = some (.slice q n c) := by simp [World.cell?, hb]
  have c1 : w.cell? ⟨b, 1, none⟩ = some (.int .i64 fin) := by simp [World.cell?, hb]
  have c5 : w.cell? ⟨b, 5, none⟩ = some (.int .i64 used) := by simp [World.cell?, hb]
  have f5 : w.frozen? ⟨b, 5, none⟩ = false := by simp [World.frozen?, hb]
  have HB := Lib.hid hb
  have hui : (n : Int) ≤ (used : Int) := by omega
  have hbu : ∀ W : World, (Instr.build 24 #[]).run Try.prog W = .ok (.agg #[.int .i64 0, .string ⟨#[]⟩, .int .i64 0, .int .i64 0, .bool false]) W := fun W => run_build W _ _ _ (by kernel_rfl)
  have n3 : ¬ (w.heap.size = b) := by omega
  have n4 : ¬ (b = w.heap.size) := by omega
  clear hb
  unfold zeroE Ent.val
  go_enter Try.func44, Try.ntmps44
  go_wp2
  go_quiet (fail)
  go_wp2
  go_region
  go_wp2
  have hF : ∀ (v5 : Value) (o : Obj) (k : Nat) (u0 u1 u2 u3 u4 : Value), Fr w (((((((w.setCell ⟨b, 5, none⟩ v5).alloc o).setCell ⟨w.heap.size, 0, none⟩ u0).setCell ⟨w.heap.size, 1, none⟩ u1).setCell ⟨w.heap.size, 2, none⟩ u2).setCell ⟨w.heap.size, 3, none⟩ u3).setCell ⟨w.heap.size, 4, none⟩ u4) [some b] := fun v5 o k u0 u1 u2 u3 u4 =>
    (((Fr.refl w _).setCell (p := ⟨b, 5, none⟩) (fun _ => by simp) v5).alloc o).set5 (fun h => absurd h (Nat.lt_irrefl _)) _ _ _ _ _
  have hH : ∀ (o : Obj) (u0 u1 u2 u3' u4 : Value), (((((((w.setCell ⟨b, 5, none⟩ (.int .i64 ((used : Int) + 1))).alloc o).setCell ⟨w.heap.size, 0, none⟩ u0).setCell ⟨w.heap.size, 1, none⟩ u1).setCell ⟨w.heap.size, 2, none⟩ u2).setCell ⟨w.heap.size, 3, none⟩ u3').setCell ⟨w.heap.size, 4, none⟩ u4).heap[b]? = some (fdB q n c fin mute u3 dn ((used : Int) + 1)) := fun o u0 u1 u2 u3' u4 => by
    rw [far5 _ n4, Below.heap_alloc _ _ _ (by simpa using hl)]
    have hb := HB.out
    simp [World.setCell, Array.getElem?_modify, hb, fdB]
  refine bodyPost_ret (v := .tuple #[.agg #[.int .i64 0, .string ⟨#[]⟩, .int .i64 0, .int .i64 0, .bool false], .bool false, .int .i64 fin]) ?_ rfl ⟨rfl, ?_, ?_⟩
  · rw [results_cell_tmp2 rfl]
    go_simp
  · exact hF _ _ 0 _ _ _ _ _
  · exact hH _ _ _ _ _ _

set_option maxRecDepth 100000 in
set_option maxHeartbeats 1000000 in
theorem feed_more {w : World} {b B : Nat} {q : Option Addr} {L : List Ent} {x : Ent} {n c : Nat} {fin : Int} {mute : Bool} {u3 : Int} {dn : Bool} {used : Nat} (hb : w.heap[b]? = some (fdB q n c fin mute u3 dn used)) (hn : L.length = n) (hE : EL w B q L) (hB : B ≤ b) (hx : L[used]? = some x) (hs : n ≤ 4398046511104) :
    Calls Try.prog 44 #[.pointer (some ⟨b, 0, none⟩)] w fun e w' => e = .returned (.tuple #[x.val, .bool true, .int .i64 0]) ∧ Fr w w' [some b] ∧ w'.heap[b]? = some (fdB q n c fin mute u3 dn (used + 1)) := by
  have hl : b < w.heap.size := (Array.getElem?_eq_some_iff.1 hb).1
  have hu : used < n := by rw [← hn]; exact (List.getElem?_eq_some_iff.1 hx).1
  obtain ⟨a, rfl, haB, y0, y1, y2, y3, y4⟩ := hE used x hx
  have hal : (a.add (used * 5)).block < w.heap.size := cell_lt y0
  have hab : ¬ ((a.add (used * 5)).block = b) := by rw [add_blockE]; omega
  have hba : ¬ (b = (a.add (used * 5)).block) := fun e => hab e.symm
  have has : ¬ (w.heap.size = (a.add (used * 5)).block) := by omega
  have hsa : ¬ ((a.add (used * 5)).block = w.heap.size) := by omega
  unfold fdB at hb
  have c0 : w.cell? ⟨b, 0, none⟩ = some (.slice (some a) n c) := by simp [World.cell?, hb]
  have c5 : w.cell? ⟨b, 5, none⟩ = some (.int .i64 used) := by simp [World.cell?, hb]
  have f5 : w.frozen? ⟨b, 5, none⟩ = false := by simp [World.frozen?, hb]
  have HB := Lib.hid hb
  have hui : (used : Int) < (n : Int) := by omega
  have n3 : ¬ (w.heap.size = b) := by omega
  have n4 : ¬ (b = w.heap.size) := by omega
  have hcw : ∀ (v : Value) (ob : Obj) (k : Nat) (p : Addr) (u : Value), p.block = (a.add (used * 5)).block → w.cell? p = some u → ((w.setCell ⟨b, 5, none⟩ v).alloc ob).cell? p = some u := fun v ob k p u hp hc => by
    rw [World.cell?_alloc_lt _ _ p (by simp; rw [hp]; exact hal)]
    exact (World.cell?_of_block (Below.heap_setCell w ⟨b, 5, none⟩ v p.block (by simp; rw [hp]; exact hab))).trans hc
  have HCW := Lib.hid hcw
  have x0 := fun (v : Value) (ob : Obj) => HCW.out v ob 0 (a.add (used * 5)) _ rfl y0
  have x1 := fun (v : Value) (ob : Obj) => HCW.out v ob 0 ⟨(a.add (used * 5)).block, (a.add (used * 5)).off + 1, none⟩ _ rfl y1
  have x2 := fun (v : Value) (ob : Obj) => HCW.out v ob 0 ⟨(a.add (used * 5)).block, (a.add (used * 5)).off + 2, none⟩ _ rfl y2
  have x3 := fun (v : Value) (ob : Obj) => HCW.out v ob 0 ⟨(a.add (used * 5)).block, (a.add (used * 5)).off + 3, none⟩ _ rfl y3
  have x4 := fun (v : Value) (ob : Obj) => HCW.out v ob 0 ⟨(a.add (used * 5)).block, (a.add (used * 5)).off + 4, none⟩ _ rfl y4
  clear hb hE hx hn hcw
  unfold Ent.val
  go_enter Try.func44, Try.ntmps44
  go_wp2
  go_quiet (fail)
  go_wp2
  go_region
  go_wp2
  have hF : ∀ (v5 : Value) (o : Obj) (k : Nat) (u0 u1 u2 u3 u4 : Value), Fr w (((((((w.setCell ⟨b, 5, none⟩ v5).alloc o).setCell ⟨w.heap.size, 0, none⟩ u0).setCell ⟨w.heap.size, 1, none⟩ u1).setCell ⟨w.heap.size, 2, none⟩ u2).setCell ⟨w.heap.size, 3, none⟩ u3).setCell ⟨w.heap.size, 4, none⟩ u4) [some b] := fun v5 o k u0 u1 u2 u3 u4 =>
    (((Fr.refl w _).setCell (p := ⟨b, 5, none⟩) (fun _ => by simp) v5).alloc o).set5 (fun h => absurd h (Nat.lt_irrefl _)) _ _ _ _ _
  have hH : ∀ (o : Obj) (u0 u1 u2 u3' u4 : Value), (((((((w.setCell ⟨b, 5, none⟩ (.int .i64 ((used : Int) + 1))).alloc o).setCell ⟨w.heap.size, 0, none⟩ u0).setCell ⟨w.heap.size, 1, none⟩ u1).setCell ⟨w.heap.size, 2, none⟩ u2).setCell ⟨w.heap.size, 3, none⟩ u3').setCell ⟨w.heap.size, 4, none⟩ u4).heap[b]? = some (fdB (some a) n c fin mute u3 dn ((used : Int) + 1)) := fun o u0 u1 u2 u3' u4 => by
    rw [far5 _ n4, Below.heap_alloc _ _ _ (by simpa using hl)]
    have hb := HB.out
    simp [World.setCell, Array.getElem?_modify, hb, fdB]
  refine bodyPost_ret (v := .tuple #[.agg #[.int .i64 x.v, .string x.c, .int .i64 x.i, .int .i64 x.s, .bool x.d], .bool true, .int .i64 0]) ?_ rfl ⟨rfl, ?_, ?_⟩
  · rw [results_cell_tmp2 rfl]
    go_simp
  · exact hF _ _ 0 _ _ _ _ _
  · exact hH _ _ _ _ _ _

/-- What a source's Next is: nil, or a feed's own. -/
def fdV (p : Nat × Bool) : Value := if p.2 then .nilFunc else .func (.func 44) #[.pointer (some ⟨p.1, 0, none⟩)] #[]

def ptV (p : Nat × Bool) : Value := .pointer (some ⟨p.1, 0, none⟩)

def fdT : List TypeId := [66]

theorem fdTok : TOk fdT := ⟨by decide, by decide, by decide, by decide, by decide⟩

/-- Feeds in memory. -/
def FdI (B : Nat) (ps : List (Nat × Bool)) (w : World) (S : List Sst) : Prop :=
  S.length = ps.length ∧ (ps.map Prod.fst).Nodup ∧ ∀ (i : Nat) (p : Nat × Bool) (st : Sst), ps[i]? = some p → S[i]? = some st → st.mute = p.2 ∧ st.es.length ≤ 4398046511104 ∧ B ≤ p.1 ∧ ∃ (q : Option Addr) (c : Nat) (u3 : Int) (dn : Bool), w.heap[p.1]? = some (fdB q st.es.length c st.fin st.mute u3 dn st.used) ∧ EL w B q st.es

theorem FdI.kp {B : Nat} {ps : List (Nat × Bool)} {w w' : World} {S : List Sst} {T : List TypeId} (h : FdI B ps w S) (k : Kp B T w w') (hT : 66 ∉ T) : FdI B ps w' S := by
  obtain ⟨h1, h2, h3⟩ := h
  refine ⟨h1, h2, fun i p st hp hs => ?_⟩
  obtain ⟨q1, q2, q3, q, c, u3, dn, q4, q5⟩ := h3 i p st hp hs
  exact ⟨q1, q2, q3, q, c, u3, dn, k.box q4 (.inl hT), q5.fr (fun g o hg ho => k.2.2.2.2 g o ho (.inl hg))⟩

theorem FdI.step {B : Nat} {ps : List (Nat × Bool)} {w w' : World} {S : List Sst} {i : Nat} {p : Nat × Bool} {st : Sst} (h : FdI B ps w S) (hp : ps[i]? = some p) (hs : S[i]? = some st) (k : Fr w w' [some p.1]) {q : Option Addr} {c : Nat} {u3 : Int} {dn : Bool}
    (hL : w'.heap[p.1]? = some (fdB q st.es.length c st.fin st.mute u3 dn (st.used + 1))) (hE : EL w B q st.es) : FdI B ps w' (S.set i st.next) := by
  obtain ⟨h1, h2, h3⟩ := h
  have hB := (h3 i p st hp hs).2.2.1
  have hEL : ∀ {q : Option Addr} {L : List Ent}, EL w B q L → EL w' B q L := fun {q L} hq => hq.fr (fun g o hg ho => (k.2.2.2.2 g (Array.getElem?_eq_some_iff.1 ho).1 (by simp; omega)).trans ho)
  refine ⟨by simpa using h1, h2, fun j c' t hj ht => ?_⟩
  by_cases hji : j = i
  · subst hji
    rw [hp] at hj
    cases hj
    rw [List.getElem?_set_self (List.getElem?_eq_some_iff.1 hs).1] at ht
    cases ht
    obtain ⟨q1, q2, q3, _⟩ := h3 j p st hp hs
    exact ⟨q1, q2, q3, q, c, u3, dn, hL, hEL hE⟩
  · rw [List.getElem?_set_ne (fun e => hji e.symm)] at ht
    obtain ⟨q1, q2, q3, q', c'', u3', dn', q4, q5⟩ := h3 j c' t hj ht
    refine ⟨q1, q2, q3, q', c'', u3', dn', (k.2.2.2.2 c'.1 (Array.getElem?_eq_some_iff.1 q4).1 ?_).trans q4, hEL q5⟩
    simp only [List.mem_singleton, Option.some.injEq]
    intro e
    have i1 := (List.getElem?_eq_some_iff.1 hj).1
    have i2 := (List.getElem?_eq_some_iff.1 hp).1
    have e1 : (ps.map Prod.fst)[j]'(by simpa using i1) = c'.1 := by rw [List.getElem_map, (List.getElem?_eq_some_iff.1 hj).2]
    have e2 : (ps.map Prod.fst)[i]'(by simpa using i2) = p.1 := by rw [List.getElem_map, (List.getElem?_eq_some_iff.1 hp).2]
    exact hji ((List.getElem_inj h2).1 (e1.trans (e.trans e2.symm)))

theorem kp_of_fr {w w' : World} {B b : Nat} {T : List TypeId} {cs : Array Value} {t : TypeId} {fr : Nat × Nat} (k : Fr w w' [some b]) (hb : w.heap[b]? = some (.cells cs t fr)) (hB : B ≤ b) (hT : t ∈ T) : Kp B T w w' := by
  refine ⟨k.1, k.2.1, k.2.2.1, k.2.2.2.1, fun g o ho' hx => (k.2.2.2.2 g (Array.getElem?_eq_some_iff.1 ho').1 ?_).trans ho'⟩
  simp only [List.mem_singleton, Option.some.injEq]
  rintro rfl
  rw [hb] at ho'
  cases ho'
  rcases hx with hx | hx
  · omega
  · exact hx _ rfl hT

theorem fdLaw (B : Nat) (ps : List (Nat × Bool)) : FeedLaw B fdT (ps.map fdV) (FdI B ps) where
  tok := fdTok
  len := fun h => by rw [h.1, List.length_map]
  keep := fun h k => h.kp k (by decide)
  mute := fun {w S i st} h hs hm => by
    have hi := (List.getElem?_eq_some_iff.1 hs).1
    rw [h.1] at hi
    have h2 := (h.2.2 i _ st (List.getElem?_eq_getElem hi) hs).1
    rw [List.getElem?_map, List.getElem?_eq_getElem hi]
    unfold fdV
    simp [← h2, hm]
  live := fun {w S i st} h hs hm hu => by
    have hi := (List.getElem?_eq_some_iff.1 hs).1
    rw [h.1] at hi
    obtain ⟨p, hp⟩ : ∃ p, ps[i]? = some p := ⟨_, List.getElem?_eq_getElem hi⟩
    obtain ⟨q1, q2, q3, q, c, u3, dn, q4, q5⟩ := h.2.2 i p st hp hs
    have hp2 : p.2 = false := by rw [← q1]; exact hm
    refine ⟨44, p.1, fdV p, by rw [List.getElem?_map, hp]; rfl, .inr (by unfold fdV; rw [hp2]; rfl), fun args W => by kernel_rfl, ?_⟩
    have hkp := fun w' (k : Fr w w' [some p.1]) => kp_of_fr (T := fdT) k q4 q3 (by unfold fdT; simp)
    cases ho : st.es[st.used]? with
    | none =>
      have ha : st.ans = (zeroE, false, st.fin) := by unfold Sst.ans; rw [ho]
      have hz := List.getElem?_eq_none_iff.1 ho
      refine (feed_end q4 hz (by omega)).mono ?_
      rintro e w' ⟨rfl, hF, hb⟩
      exact ⟨by rw [ha], h.step hp hs hF (by exact hb) q5, hkp _ hF⟩
    | some x =>
      have ha : st.ans = (x, true, 0) := by unfold Sst.ans; rw [ho]
      refine (feed_more q4 rfl q5 q3 ho q2).mono ?_
      rintro e w' ⟨rfl, hF, hb⟩
      exact ⟨by rw [ha], h.step hp hs hF (by exact hb) q5, hkp _ hF⟩

/-- A row that grows leaves what is of other types. -/
theorem kp_grown {W W' : World} {B : Nat} {e : TypeId} {size n : Nat} {v : Value} {xs : List Value} (h : W.ownsRow B e size v n xs) (hg : W.grownBy W' v.ownBlock) : Kp B [e] W W' := by
  refine ⟨hg.os, hg.tape, hg.output, hg.size, fun g o ho hx => (hg.block g (Array.getElem?_eq_some_iff.1 ho).1 (fun e => ?_)).trans ho⟩
  rcases h.2 with ⟨e', _⟩ | ⟨g', cap, cur, e', hg', hgh, _⟩
  · rw [e'] at e; cases e
  · rw [e'] at e
    have : g = g' := Option.some.inj e
    subst this
    rw [hgh] at ho
    cases ho
    rcases hx with hx | hx
    · omega
    · exact hx _ rfl (by simp)

theorem kp_alloc (B : Nat) (T : List TypeId) (W : World) (o : Obj) : Kp B T W (W.alloc o) := Kp.of_below ((Below.refl _ W).alloc (Nat.le_refl _) o)

/-- A feed more. -/
theorem FdI.new {B : Nat} {ps : List (Nat × Bool)} {w : World} {S : List Sst} (h : FdI B ps w S) (hB : B ≤ w.heap.size) {q : Option Addr} {c : Nat} {es : List Ent} {fin : Int} {mute : Bool} {u3 : Int} {dn : Bool} (hl : es.length ≤ 4398046511104) (hE : EL w B q es) :
    FdI B (ps ++ [(w.heap.size, mute)]) (w.alloc (fdB q es.length c fin mute u3 dn 0)) (S ++ [⟨es, fin, mute, 0⟩]) := by
  have hlt : ∀ p ∈ ps, p.1 < w.heap.size := fun p hp => by
    obtain ⟨i, hi⟩ := List.getElem?_of_mem hp
    have hil := (List.getElem?_eq_some_iff.1 hi).1
    obtain ⟨_, _, _, _, _, _, _, k, _⟩ := h.2.2 i p _ hi (List.getElem?_eq_getElem (by rw [h.1]; exact hil))
    exact (Array.getElem?_eq_some_iff.1 k).1
  have hk := h.kp (kp_alloc B [] w (fdB q es.length c fin mute u3 dn 0)) (by simp)
  obtain ⟨h1, h2, h3⟩ := hk
  refine ⟨by simp [h1], ?_, fun i p st hp hs => ?_⟩
  · rw [List.map_append, List.nodup_append]
    refine ⟨h2, by simp, fun x hx y hy => ?_⟩
    simp at hy
    subst hy
    obtain ⟨p, hp, rfl⟩ := List.mem_map.1 hx
    have := hlt p hp
    omega
  · rcases Nat.lt_or_ge i ps.length with hi | hi
    · rw [List.getElem?_append_left hi] at hp
      rw [List.getElem?_append_left (by omega)] at hs
      exact h3 i p st hp hs
    · rw [List.getElem?_append_right hi] at hp
      rw [List.getElem?_append_right (by omega)] at hs
      have h0 : i - ps.length = 0 := by
        have := (List.getElem?_eq_some_iff.1 hp).1
        simp at this
        omega
      rw [h0] at hp
      rw [show i - S.length = 0 by omega] at hs
      simp at hp hs
      subst hp hs
      exact ⟨rfl, hl, hB, q, c, u3, dn, World.alloc_heap_new w _, hE.fr (fun g o hg ho => (Below.heap_alloc w _ g (Array.getElem?_eq_some_iff.1 ho).1).trans ho)⟩

/-- A list as a source's, as it lies in memory. -/
structure Kl where
  q : Option Addr
  c : Nat
  es : List Ent
  fin : Int
  mute : Bool
  u3 : Int
  dn : Bool

def Kl.cells (x : Kl) : List Value := [.slice x.q x.es.length x.c, .int .i64 x.fin, .bool x.mute, .int .i64 x.u3, .bool x.dn]
def Kl.st (x : Kl) : Sst := ⟨x.es, x.fin, x.mute, 0⟩

def KFive (w : World) (p : Addr) (x : Kl) : Prop :=
  w.cell? p = some (.slice x.q x.es.length x.c) ∧ w.cell? ⟨p.block, p.off + 1, none⟩ = some (.int .i64 x.fin) ∧ w.cell? ⟨p.block, p.off + 2, none⟩ = some (.bool x.mute) ∧ w.cell? ⟨p.block, p.off + 3, none⟩ = some (.int .i64 x.u3) ∧ w.cell? ⟨p.block, p.off + 4, none⟩ = some (.bool x.dn)

theorem KFive.lt {w : World} {p : Addr} {x : Kl} (h : KFive w p x) : p.block < w.heap.size := cell_lt h.1

theorem KFive.below {w w' : World} {p : Addr} {x : Kl} (h : KFive w p x) (hb : Below w.heap.size w w') : KFive w' p x := by
  have hl := h.lt
  exact ⟨(hb.cell hl).trans h.1, (hb.cell (p := ⟨_, _, none⟩) hl).trans h.2.1, (hb.cell (p := ⟨_, _, none⟩) hl).trans h.2.2.1, (hb.cell (p := ⟨_, _, none⟩) hl).trans h.2.2.2.1, (hb.cell (p := ⟨_, _, none⟩) hl).trans h.2.2.2.2⟩

/-- A readable row of such lists. -/
def KLs (w : World) (B : Nat) (p : Option Addr) (ls : List Kl) : Prop :=
  ∀ (i : Nat) (x : Kl), ls[i]? = some x → ∃ a : Addr, p = some a ∧ KFive w (a.add (i * 5)) x ∧ EL w B x.q x.es ∧ x.es.length ≤ 4398046511104

theorem KLs.below {w w' : World} {B : Nat} {p : Option Addr} {ls : List Kl} (h : KLs w B p ls) (hB : B ≤ w.heap.size) (hb : Below w.heap.size w w') : KLs w' B p ls := by
  intro i x hx
  obtain ⟨a, e, h1, h2, h3⟩ := h i x hx
  exact ⟨a, e, h1.below hb, h2.below hb hB, h3⟩

theorem pfinfo : (Try.prog.info? 67).map (fun i => (i.zero, i.size, i.bytes)) = some (some (.pointer none), 1, 8) := by kernel_rfl

/-- At the head of each round. -/
def FeRel (w : World) (ls : List Kl) (k : Nat) (fv sv : Value) (wr : World) : Prop :=
  k ≤ ls.length ∧ ∃ ps : List (Nat × Bool), ps.length = k ∧ wr.ownsRow w.heap.size 67 1 fv k (ps.map ptV) ∧ wr.ownsRow w.heap.size 41 1 sv k (ps.map fdV) ∧ FdI w.heap.size ps wr ((ls.take k).map Kl.st) ∧ Below w.heap.size w wr

/-- What fed leaves. -/
def FedPost (w : World) (ls : List Kl) (e : Ending) (w' : World) : Prop :=
  ∃ (fp sp : Option Addr) (fc sc : Nat) (ps : List (Nat × Bool)), e = .returned (.tuple #[.slice fp ls.length fc, .slice sp ls.length sc]) ∧ Below w.heap.size w w' ∧ ps.length = ls.length ∧ w'.ownsRow w.heap.size 67 1 (.slice fp ls.length fc) ls.length (ps.map ptV) ∧ w'.ownsRow w.heap.size 41 1 (.slice sp ls.length sc) ls.length (ps.map fdV) ∧ FdI w.heap.size ps w' (ls.map Kl.st)

theorem FeRel.next {w wr : World} {ls : List Kl} {k : Nat} {fv sv fv' sv' : Value} {ps : List (Nat × Bool)} {x : Kl} (hx : ls[k]? = some x) (hps : ps.length = k) (hF : wr.ownsRow w.heap.size 67 1 fv k (ps.map ptV)) (hS : wr.ownsRow w.heap.size 41 1 sv k (ps.map fdV)) (hI : FdI w.heap.size ps wr ((ls.take k).map Kl.st)) (hb : Below w.heap.size w wr) (hl : x.es.length ≤ 4398046511104) (hE : EL wr w.heap.size x.q x.es)
    {w2 w3 : World} {o1 o2 : Obj} (hg2 : ((wr.alloc (fdB x.q x.es.length x.c x.fin x.mute x.u3 x.dn 0)).alloc o1).grownBy w2 fv.ownBlock) (hF2 : w2.ownsRow w.heap.size 67 1 fv' (k + 1) (ps.map ptV ++ [.pointer (some ⟨wr.heap.size, 0, none⟩)]))
    (hg3 : (w2.alloc o2).grownBy w3 sv.ownBlock) (hS3 : w3.ownsRow w.heap.size 41 1 sv' (k + 1) (ps.map fdV ++ [fdV (wr.heap.size, x.mute)])) : FeRel w ls (k + 1) fv' sv' w3 := by
  have hkl := (List.getElem?_eq_some_iff.1 hx).1
  have hI1 := hI.new hb.size (q := x.q) (c := x.c) (fin := x.fin) (mute := x.mute) (u3 := x.u3) (dn := x.dn) hl hE
  have k2 : Kp w.heap.size [67] ((wr.alloc (fdB x.q x.es.length x.c x.fin x.mute x.u3 x.dn 0)).alloc o1) w2 := kp_grown ((hF.alloc _).alloc _) hg2
  have hI2 := (hI1.kp (kp_alloc w.heap.size [] _ o1) (by simp)).kp k2 (by decide)
  have hS2 : (w2.alloc o2).ownsRow w.heap.size 41 1 sv k (ps.map fdV) := (k2.own ((hS.alloc _).alloc _) (.inl (by decide))).alloc _
  have k3 : Kp w.heap.size [41] (w2.alloc o2) w3 := kp_grown hS2 hg3
  have hI3 := (hI2.kp (kp_alloc w.heap.size [] _ o2) (by simp)).kp k3 (by decide)
  have hb1 := (hb.alloc hb.size (fdB x.q x.es.length x.c x.fin x.mute x.u3 x.dn 0)).alloc (by have := hb.size; simp; omega) o1
  have hb2 := hb1.trans (k2.below hb1.size)
  have hb3 := hb2.alloc hb2.size o2
  refine ⟨by omega, ps ++ [(wr.heap.size, x.mute)], by simp [hps], ?_, ?_, ?_, hb3.trans (k3.below hb3.size)⟩
  · rw [List.map_append]
    exact k3.own (hF2.alloc _) (.inl (by decide))
  · rw [List.map_append]
    exact hS3
  · rw [List.take_add_one, hx, List.map_append]
    exact hI3

set_option maxRecDepth 100000 in
set_option maxHeartbeats 2000000 in
theorem fed_calls {w : World} {p : Option Addr} {n c : Nat} {ls : List Kl} (hn : ls.length = n) (hm : n ≤ 2199023255552) (hK : KLs w w.heap.size p ls) :
    Calls Try.prog 30 #[.slice p n c] w (FedPost w ls) := by
  obtain ⟨i0, hi0, hz0, hz1, hz2⟩ := info_parts srcinfo
  obtain ⟨i1, hi1, hy0, hy1, hy2⟩ := info_parts pfinfo
  have hbu : ∀ (W : World) (q : Option Addr) (m k : Nat) (f : Int) (mu : Bool) (u3 : Int) (dn : Bool), (Instr.build 66 #[(0, .agg #[.slice q m k, .int .i64 f, .bool mu, .int .i64 u3, .bool dn])]).run Try.prog W = .ok (.agg #[.slice q m k, .int .i64 f, .bool mu, .int .i64 u3, .bool dn, .int .i64 0]) W := fun W q m k f mu u3 dn => run_build W _ _ _ (by kernel_rfl)
  have hbs : ∀ (W : World), (Instr.build 41 #[]).run Try.prog W = .ok (.agg #[.nilFunc]) W := fun W => run_build W _ _ _ (by kernel_rfl)
  have hbm : ∀ (W : World) (b : Nat), (Instr.build 41 #[(0, .func (.func 44) #[.pointer (some ⟨b, 0, none⟩)] #[])]).run Try.prog W = .ok (.agg #[.func (.func 44) #[.pointer (some ⟨b, 0, none⟩)] #[]]) W := fun W b => run_build W _ _ _ (by kernel_rfl)
  have HN := Lib.hid hn
  have HK := Lib.hid hK
  have H0 : Hid (FeRel w ls 0 (.slice none 0 0) (.slice none 0 0) w) := Lib.hid ⟨Nat.zero_le _, [], rfl, own_none, own_none, ⟨by simp, by simp, fun i p st h => by simp at h⟩, Below.refl _ _⟩
  clear hn hK
  go_enter Try.func30, Try.ntmps30
  go_wp2
  go_loopw [4, 5, 6] (fun fv sv i wr => ∃ k : Nat, i = .int .i64 k ∧ FeRel w ls k fv sv wr) (fun _ _ i _ => n - (intOf i).toNat)
  case atStart => exact ⟨0, rfl, H0.out⟩
  case round =>
    obtain ⟨fv, rfl⟩ : ∃ fv : Value, fv = u4 := ⟨_, rfl⟩
    obtain ⟨sv, rfl⟩ : ∃ sv : Value, sv = u5 := ⟨_, rfl⟩
    obtain ⟨k, rfl, hkn, ps, hps, hF, hS, hI, hbl⟩ := hrel
    obtain ⟨wo, rfl⟩ : ∃ wo : World, wo = wr := ⟨_, rfl⟩
    rw [HN.out] at hkn
    obtain ⟨fp, fc, rfl, _, _, _⟩ := own_rd hF
    obtain ⟨sp, sc, rfl, _, _, _⟩ := own_rd hS
    by_cases hlt : k < n
    · obtain ⟨x, hx⟩ : ∃ x, ls[k]? = some x := ⟨_, List.getElem?_eq_getElem (by rw [HN.out]; exact hlt)⟩
      obtain ⟨a, rfl, h5, hE, hel⟩ := HK.out.below (Nat.le_refl _) hbl k x hx
      have hNx := fun fv' sv' w2 w3 o1 o2 => FeRel.next (fv' := fv') (sv' := sv') (w2 := w2) (w3 := w3) (o1 := o1) (o2 := o2) hx hps hF hS hI hbl hel hE
      have HNx := Lib.hid hNx
      have H5 := Lib.hid h5
      have HBL := Lib.hid hbl
      have HS := Lib.hid hS
      obtain ⟨q, xc, es, fin, mute, u3, dn⟩ := x
      obtain ⟨x0, x1, x2, x3, x4⟩ := h5
      obtain ⟨nl, hnl⟩ : ∃ nl, es.length = nl := ⟨_, rfl⟩
      simp only at x0 x1 x2 x3 x4 hel
      simp only [hnl] at x0 hel HNx
      have z0 := cell_lt x0
      have hva := (hF.alloc (.cells #[.slice q nl xc, .int .i64 fin, .bool mute, .int .i64 u3, .bool dn, .int .i64 0] 66)).alloc (.cells #[.pointer (some ⟨wo.heap.size, 0, none⟩)] 67)
      have hnews := World.news_of_block (cs := #[.pointer (some ⟨wo.heap.size, 0, none⟩)]) (t := 67) (fr := (0, 0)) (heap_alloc_new (wo.alloc (.cells #[.slice q nl xc, .int .i64 fin, .bool mute, .int .i64 u3, .bool dn, .int .i64 0] 66)) (.cells #[.pointer (some ⟨wo.heap.size, 0, none⟩)] 67))
      have e3 : (wo.alloc (.cells #[.slice q nl xc, .int .i64 fin, .bool mute, .int .i64 u3, .bool dn, .int .i64 0] 66)).heap.size = wo.heap.size + 1 := by simp
      rw [e3] at hnews
      have hs := hbl.size
      have chk1 : k + 1 ≤ maxLen := by unfold maxLen; omega
      have chk2 : (k + 1) * 8 ≤ 140737488355328 := by omega
      have chk3 : w.heap.size ≤ ((wo.alloc (.cells #[.slice q nl xc, .int .i64 fin, .bool mute, .int .i64 u3, .bool dn, .int .i64 0] 66)).alloc (.cells #[.pointer (some ⟨wo.heap.size, 0, none⟩)] 67)).heap.size := by simp; omega
      have i0' : (0 : Int) ≤ (k : Int) := by omega
      have i1' : (k : Int) < (n : Int) := by omega
      have HKf := Lib.hid (fun w2 (hg : ((wo.alloc (.cells #[.slice q nl xc, .int .i64 fin, .bool mute, .int .i64 u3, .bool dn, .int .i64 0] 66)).alloc (.cells #[.pointer (some ⟨wo.heap.size, 0, none⟩)] 67)).grownBy w2 (Value.slice fp k fc).ownBlock) => kp_grown hva hg)
      have HX := Lib.hid hx
      have HEl := Lib.hid hnl
      clear hx hps hF hS hI hbl hE hNx e3 hnl
      go_wp2_with (at_builtin; refine wpList_append_own _ rfl _ _ 59 rfl w.heap.size 67 i1 (.pointer none) 1 8 Try.underlying59 hi1 hy0 hy1 hy2 rfl (by decide) (.slice fp k fc) k _ rfl hva ⟨wo.heap.size + 1, 0, none⟩ 1 1 [.pointer (some ⟨wo.heap.size, 0, none⟩)] rfl rfl hnews (by simp [Value.oneCell']) chk1 chk2 chk3 ?_)
      intro fv2 w2 hown2 hgrow2 _
      have hk2 := HKf.out w2 hgrow2
      have hb2 : Below w.heap.size w w2 := ((HBL.out.alloc HBL.out.size _).alloc (by simp; omega) _).trans (hk2.below chk3)
      have hS2 := hk2.own ((HS.out.alloc _).alloc _) (.inl (by decide))
      obtain ⟨a', e', h5', _, _⟩ := HK.out.below (Nat.le_refl _) hb2 k _ HX.out
      cases e'
      have y2 := h5'.2.2.1
      have z2 := cell_lt h5'.1
      simp only at y2
      have HNx2 := Lib.hid (fun sv' w3 o2 hg3 h3 => HNx.out fv2 sv' w2 w3 _ o2 hgrow2 hown2 hg3 h3)
      obtain ⟨fp2, fc2, rfl, _, _, _⟩ := own_rd hown2
      have hs2 := hb2.size
      have chk4 : w.heap.size ≤ (w2.alloc (.cells #[fdV (wo.heap.size, mute)] 41)).heap.size := by simp; omega
      have hva2 := hS2.alloc (.cells #[fdV (wo.heap.size, mute)] 41)
      have hnews2 := World.news_of_block (cs := #[fdV (wo.heap.size, mute)]) (t := 41) (fr := (0, 0)) (heap_alloc_new w2 (.cells #[fdV (wo.heap.size, mute)] 41))
      clear hk2 hb2 hS2 h5' hgrow2 hown2 hva hnews chk3 x0 x1 x2 x3 x4
      cases mute with
      | true =>
        have ev : fdV (wo.heap.size, true) = .nilFunc := rfl
        rw [ev] at chk4 hva2 hnews2
        clear ev
        go_wp2_with (at_builtin; refine wpList_append_own _ rfl _ _ 37 rfl w.heap.size 41 i0 _ 1 8 Try.underlying37 hi0 hz0 hz1 hz2 rfl (by decide) (.slice sp k sc) k _ rfl hva2 ⟨w2.heap.size, 0, none⟩ 1 1 [.nilFunc] rfl rfl hnews2 (by simp [Value.oneCell']) chk1 chk2 chk4 ?_)
        intro sv3 w3 hown3 hgrow3 _
        have HR := Lib.hid (HNx2.out sv3 w3 _ hgrow3 hown3)
        clear hown3 hgrow3 hva2 hnews2 chk4
        go_wp2
        go_roundw
        case rel => exact ⟨k + 1, by go_num, HR.out⟩
        case measure => simp [intOf]; omega
      | false =>
        have ev : fdV (wo.heap.size, false) = .func (.func 44) #[.pointer (some ⟨wo.heap.size, 0, none⟩)] #[] := rfl
        rw [ev] at chk4 hva2 hnews2
        clear ev
        go_wp2_with (at_builtin; refine wpList_append_own _ rfl _ _ 37 rfl w.heap.size 41 i0 _ 1 8 Try.underlying37 hi0 hz0 hz1 hz2 rfl (by decide) (.slice sp k sc) k _ rfl hva2 ⟨w2.heap.size, 0, none⟩ 1 1 [.func (.func 44) #[.pointer (some ⟨wo.heap.size, 0, none⟩)] #[]] rfl rfl hnews2 (by simp [Value.oneCell']) chk1 chk2 chk4 ?_)
        intro sv3 w3 hown3 hgrow3 _
        have HR := Lib.hid (HNx2.out sv3 w3 _ hgrow3 hown3)
        clear hown3 hgrow3 hva2 hnews2 chk4
        go_wp2
        go_roundw
        case rel => exact ⟨k + 1, by go_num, HR.out⟩
        case measure => simp [intOf]; omega
    · obtain rfl : k = n := by omega
      have hE : Hid (FedPost w ls (.returned (.tuple #[.slice fp k fc, .slice sp k sc])) wo) := Lib.hid (by
        rw [← HN.out, List.take_length] at hI
        rw [← HN.out] at hF hS ⊢
        exact ⟨fp, sp, fc, sc, ps, rfl, hbl, by rw [hps, HN.out], hF, hS, hI⟩)
      clear hps hF hS hI hbl
      go_wp2
      go_ret2
      exact hE.out
end Go.Proofs.Ytahdaccmokjgpaa
