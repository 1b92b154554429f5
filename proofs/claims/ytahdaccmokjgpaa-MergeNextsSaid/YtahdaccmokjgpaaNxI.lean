/-
  Both mergers in one state, from call to call (for the law's played).
-/
import Derived.Test.YtahdaccmokjgpaaNxH
namespace Go.Proofs.Ytahdaccmokjgpaa
open Go.RowKit ArgK
set_option linter.unusedVariables false

def plT : List TypeId := mT3 ++ fdT ++ rT

/-- Both mergers, between two calls. -/
def PlRel (w5 : World) (B mb hb : Nat) (sv : Value) (ps : List (Nat × Bool)) (bottom : Bool) (rb : Nat) (p : Option Addr) (n c : Nat) (wr : World) : Prop :=
  ∃ mm ks begun bad, MerAt wr B mb hb sv (ps.map fdV) bottom (FdI B ps) mm ∧ RmAt wr B rb p n c bottom ks begun bad ∧ Sim n mm ⟨ks.map Kl.rl, begun, bad⟩ ∧ Kp B plT w5 wr

/-- The program's was asked, the document's not yet. -/
def PlMid (w5 : World) (B mb hb : Nat) (sv : Value) (ps : List (Nat × Bool)) (bottom : Bool) (rb : Nat) (p : Option Addr) (n c : Nat) (R : (Ent × Bool × Int) × Mst) (wr : World) : Prop :=
  ∃ mm ks begun bad, mm.next bottom = R ∧ MerAt wr B mb hb sv (ps.map fdV) bottom (FdI B ps) R.2 ∧ RmAt wr B rb p n c bottom ks begun bad ∧ Sim n mm ⟨ks.map Kl.rl, begun, bad⟩ ∧ Kp B plT w5 wr

theorem PlRel.below {w5 wr W : World} {B mb hb : Nat} {sv : Value} {ps : List (Nat × Bool)} {bottom : Bool} {rb : Nat} {p : Option Addr} {n c : Nat} (h : PlRel w5 B mb hb sv ps bottom rb p n c wr) (k : Below wr.heap.size wr W) : PlRel w5 B mb hb sv ps bottom rb p n c W := by
  obtain ⟨mm, ks, begun, bad, h1, h2, h3, h4⟩ := h
  exact ⟨mm, ks, begun, bad, h1.kpE (fdLaw _ _) (Kp.of_below k), h2.below k, h3, h4.trans (Kp.of_below k)⟩

theorem PlMid.below {w5 wr W : World} {B mb hb : Nat} {sv : Value} {ps : List (Nat × Bool)} {bottom : Bool} {rb : Nat} {p : Option Addr} {n c : Nat} {R : (Ent × Bool × Int) × Mst} (h : PlMid w5 B mb hb sv ps bottom rb p n c R wr) (k : Below wr.heap.size wr W) : PlMid w5 B mb hb sv ps bottom rb p n c R W := by
  obtain ⟨mm, ks, begun, bad, h0, h1, h2, h3, h4⟩ := h
  exact ⟨mm, ks, begun, bad, h0, h1.kpE (fdLaw _ _) (Kp.of_below k), h2.below k, h3, h4.trans (Kp.of_below k)⟩

theorem PlRel.first {w5 wr : World} {B mb hb : Nat} {sv : Value} {ps : List (Nat × Bool)} {bottom : Bool} {rb : Nat} {p : Option Addr} {n c : Nat} (h : PlRel w5 B mb hb sv ps bottom rb p n c wr) (hps : ps.length = n) (hn : n ≤ 1024) (hB : B ≤ w5.heap.size) :
    ∃ R : (Ent × Bool × Int) × Mst, Calls Try.prog 32 #[.pointer (some ⟨mb, 0, none⟩)] wr fun e w' => e = .returned (.tuple #[R.1.1.val, .bool R.1.2.1, .int .i64 R.1.2.2]) ∧ PlMid w5 B mb hb sv ps bottom rb p n c R w' := by
  obtain ⟨mm, ks, begun, bad, h1, h2, h3, h4⟩ := h
  refine ⟨mm.next bottom, ?_⟩
  have hBw : B ≤ wr.heap.size := Nat.le_trans hB h4.size
  refine (Next_calls (fdLaw B ps) h1 (by rw [List.length_map, hps]; exact hn) hBw).mono ?_
  rintro e w' ⟨he, k1, k2⟩
  refine ⟨he, mm, ks, begun, bad, rfl, k1, h2.kp k2 (by decide) (by decide), h3, h4.trans (k2.mono (Nat.le_refl _) (fun t ht => ?_))⟩
  unfold plT
  exact List.mem_append.2 (.inl ht)

theorem PlMid.second {w5 wr : World} {B mb hb : Nat} {sv : Value} {ps : List (Nat × Bool)} {bottom : Bool} {rb : Nat} {p : Option Addr} {n c : Nat} {R : (Ent × Bool × Int) × Mst} (h : PlMid w5 B mb hb sv ps bottom rb p n c R wr) (hn : n ≤ 1024) (hB : B ≤ w5.heap.size) :
    Calls Try.prog 38 #[.pointer (some ⟨rb, 0, none⟩)] wr fun e w' => e = .returned (.tuple #[R.1.1.val, .bool R.1.2.1, .int .i64 R.1.2.2]) ∧ PlRel w5 B mb hb sv ps bottom rb p n c w' ∧ Kp B rT wr w' := by
  obtain ⟨mm, ks, begun, bad, rfl, h1, h2, h3, h4⟩ := h
  have hBw : B ≤ wr.heap.size := Nat.le_trans hB h4.size
  refine (RNext_calls h2 hBw h3 hn).mono ?_
  rintro e w' ⟨he, ⟨ks', begun', bad', k1, k2⟩, k3⟩
  refine ⟨he, ⟨_, ks', begun', bad', h1.kpR k3, k1, k2, h4.trans (k3.mono (Nat.le_refl _) (fun t ht => ?_))⟩, k3⟩
  unfold plT
  exact List.mem_append.2 (.inr ht)

/-- How often each was asked. -/
theorem PlRel.used {w5 wr : World} {B mb hb : Nat} {sv : Value} {ps : List (Nat × Bool)} {bottom : Bool} {rb : Nat} {p : Option Addr} {n c : Nat} (h : PlRel w5 B mb hb sv ps bottom rb p n c wr) {i : Nat} {q : Nat × Bool} (hq : ps[i]? = some q) (hi : i < n) :
    ∃ (u : Nat) (g : Nat), wr.cell? ⟨q.1, 5, none⟩ = some (.int .i64 u) ∧ wr.cell? ⟨rb, 0, none⟩ = some (.slice (some ⟨g, 0, none⟩) n c) ∧ wr.cell? ⟨g, i * 5 + 3, none⟩ = some (.int .i64 u) := by
  obtain ⟨mm, ks, begun, bad, h1, h2, h3, h4⟩ := h
  obtain ⟨x, hx⟩ : ∃ x, ks[i]? = some x := ⟨_, List.getElem?_eq_getElem (by rw [h2.len]; exact hi)⟩
  obtain ⟨_, _, u, hu⟩ := h2.ents x (List.mem_of_getElem? hx)
  obtain ⟨g, rfl, _, _, _, _, k3, _⟩ := h2.list hx
  have hs : mm.S[i]? = some x.rl.s := by
    rw [h3.S]
    simp only [List.getElem?_map, hx, Option.map_some]
  have hc := (h1.2.1.countN hq hs).1
  have hu2 : x.rl.s.used = u := by unfold Kl.rl; simp [hu]
  rw [hu2] at hc
  rw [hu] at k3
  exact ⟨u, g, hc, h2.cells.1, k3⟩

theorem take_drop_set {α : Type} {A V : List α} {i : Nat} {a : α} (ha : A[i]? = some a) (hv : i < V.length) : (A.take i ++ V.drop i).set i a = A.take (i + 1) ++ V.drop (i + 1) := by
  have hA := (List.getElem?_eq_some_iff.1 ha).1
  have hl : (A.take i).length = i := by rw [List.length_take]; omega
  rw [List.set_append_right _ _ (by omega), hl, Nat.sub_self, List.drop_eq_getElem_cons hv, List.set_cons_zero, List.take_add_one, ha]
  simp

theorem rep_drop_set {α : Type} {V : List α} {i : Nat} {a : α} (hv : i < V.length) : (List.replicate i a ++ V.drop i).set i a = List.replicate (i + 1) a ++ V.drop (i + 1) := by
  rw [List.set_append_right _ _ (by simp), List.length_replicate, Nat.sub_self, List.drop_eq_getElem_cons hv, List.set_cons_zero, List.replicate_succ']
  simp

theorem kl_new_take (ls : List Kl) {i : Nat} {x : Kl} (hx : ls[i]? = some x) : (ls.map Kl.new).take (i + 1) = (ls.map Kl.new).take i ++ [x.new] := by
  rw [List.take_add_one, List.getElem?_map, hx]
  rfl

theorem fdV_cases (p : Nat × Bool) : fdV p = .nilFunc ∨ fdV p = .func (.func 44) #[.pointer (some ⟨p.1, 0, none⟩)] #[] := by
  unfold fdV
  cases p.2
  · exact .inr rfl
  · exact .inl rfl

theorem kls_fr {w w' : World} {E0 gF : Nat} {p : Option Addr} {L : List Kl} (h : KLs w E0 p L) (k : Fr w w' [some gF]) (hE : E0 ≤ gF) (hp : ∀ a, p = some a → a.block ≠ gF) : KLs w' E0 p L := by
  intro i x hx
  obtain ⟨a, e, h5, hq, hl⟩ := h i x hx
  have hlt := h5.lt
  have hne : (a.add (i * 5)).block ≠ gF := by rw [add_blockE]; exact hp a e
  have hh := k.2.2.2.2 _ hlt (show some (a.add (i * 5)).block ∉ [some gF] by simpa using hne)
  refine ⟨a, e, ⟨?_, ?_, ?_, ?_, ?_⟩, hq.fr (fun g' o hg' ho' => (k.2.2.2.2 g' (Array.getElem?_eq_some_iff.1 ho').1 (by simp only [List.mem_singleton, Option.some.injEq]; omega)).trans ho'), hl⟩
  · exact (World.cell?_of_block hh).trans h5.1
  · exact (World.cell?_of_block (a := ⟨_, _, none⟩) hh).trans h5.2.1
  · exact (World.cell?_of_block (a := ⟨_, _, none⟩) hh).trans h5.2.2.1
  · exact (World.cell?_of_block (a := ⟨_, _, none⟩) hh).trans h5.2.2.2.1
  · exact (World.cell?_of_block (a := ⟨_, _, none⟩) hh).trans h5.2.2.2.2

theorem fr_below {a b c : World} {S : List (Option Nat)} (h : Fr a b S) (k : Below a.heap.size b c) : Fr a c S :=
  ⟨k.os.trans h.1, k.tape.trans h.2.1, k.output.trans h.2.2.1, Nat.le_trans h.size k.size, fun g hg hS => (k.block g hg).trans (h.2.2.2.2 g hg hS)⟩

theorem tok_nil : TOk [] := ⟨by simp, by simp, by simp, by simp, by simp⟩

/-- Both mergers, just made, behind the emptying of the list of sources. -/
theorem PlRel.start {w wv w3 w4 w5 : World} {E0 gF mb hb rb n c' : Nat} {sv vv : Value} {ps : List (Nat × Bool)} {bottom : Bool} {ls : List Kl} {p' : Option Addr} (hE0 : E0 ≤ gF) (hgF : gF < w.heap.size) (hwv : w.heap.size ≤ wv.heap.size) (hn : ls.length = n) (hps : ps.length = n) (hge : ∀ p ∈ ps, w.heap.size ≤ p.1)
    (hw : ∀ x ∈ ls, ∀ e ∈ x.es, (Lit.int .i64 e.s).wf = true) (hI : FdI E0 ps wv ((ls.map Kl.new).map Kl.st)) (ho : ∃ cs fr, wv.heap[gF]? = some (.cells cs 41 fr)) (hb3 : Below wv.heap.size wv w3) (hM : MrgIs w3 wv.heap.size mb hb sv (ps.map fdV) bottom false 0) (hP : PileD w3 wv.heap.size hb vv [])
    (hb4 : Below w3.heap.size w3 w4) (hR : RmAt w4 E0 rb p' n c' bottom (ls.map Kl.new) false 0) (hrb : w3.heap.size ≤ rb) (hrow : w4.ownsRow w3.heap.size 35 5 (.slice p' n c') n (encK (ls.map Kl.new))) (k : Fr w4 w5 [some gF]) : PlRel w5 w.heap.size mb hb sv ps bottom rb p' n c' w5 ∧ ∀ (i : Nat) (q : Nat × Bool), ps[i]? = some q → w5.cell? ⟨q.1, 5, none⟩ = some (.int .i64 0) := by
  obtain ⟨cs, fr, ho⟩ := ho
  have hgl := (Array.getElem?_eq_some_iff.1 ho).1
  have ho3 := (hb3.block gF hgl).trans ho
  have ho4 := (hb4.block gF (Array.getElem?_eq_some_iff.1 ho3).1).trans ho3
  have hs3 := hb3.size
  have hI4 := (hI.kp (Kp.of_below (B := E0) (T := []) hb3) (by simp)).kp (Kp.of_below (B := E0) (T := []) hb4) (by simp)
  have hI5 := (hI4.fr k hE0 ⟨cs, fr, ho4⟩).up (B' := w.heap.size) (by omega) hge
  have hM4 := hM.kp (Kp.of_below (B := 0) (T := []) hb4) tok_nil
  have hP4 := hP.kp2 (Kp.of_below (B := 0) (T := []) hb4) tok_nil
  have hM5 := hM4.fm (Fm.of_fr (B := 0) (T := []) k) tok_nil (by have := hM4.base; simp only [List.mem_singleton, Option.some.injEq]; omega) (fun g hg hm => by
    have := (hM4.row.lt g hg).1
    simp only [List.mem_singleton, Option.some.injEq] at hm
    omega)
  have hP5 : PileD w5 wv.heap.size hb vv [] := ⟨(k.2.2.2.2 hb (Array.getElem?_eq_some_iff.1 hP4.box).1 (by have := hP4.base; simp only [List.mem_singleton, Option.some.injEq]; omega)).trans hP4.box, hP4.base, k.own hP4.row (fun g hg hm => by
    have := (hP4.row.lt g hg).1
    simp only [List.mem_singleton, Option.some.injEq] at hm
    omega)⟩
  have hR5 := (hR.fr k hE0 ⟨cs, fr, ho4⟩).up (B' := w.heap.size) (by omega) (by omega) (own_le (k.own hrow (fun g hg hm => by
    have := (hrow.lt g hg).1
    simp only [List.mem_singleton, Option.some.injEq] at hm
    omega)) (by omega))
  have hsim := @sim_start ls
  rw [hn] at hsim
  refine ⟨?_, fun i q hq => by
    have hi := (List.getElem?_eq_some_iff.1 hq).1
    obtain ⟨x, hx⟩ : ∃ x, ls[i]? = some x := ⟨_, List.getElem?_eq_getElem (by omega)⟩
    exact (hI5.countN hq (st := x.new.st) (by rw [List.getElem?_map, List.getElem?_map, hx]; rfl)).1⟩
  refine ⟨_, ls.map Kl.new, false, 0, MerAt.startN hI5 (by simp [hps, hn]) ?_ ?_ ⟨hM5.box, Nat.le_trans hwv hM5.base, own_le hM5.row hwv⟩ ⟨hP5.box, Nat.le_trans hwv hP5.base, own_le hP5.row hwv⟩, hR5, hsim, Kp.refl _ _ _⟩
  · intro t ht e he
    obtain ⟨s, hs, rfl⟩ := List.mem_map.1 ht
    obtain ⟨y, hy, rfl⟩ := List.mem_map.1 hs
    obtain ⟨x, hx, rfl⟩ := List.mem_map.1 hy
    exact hw x hx e he
  · intro s hs
    obtain ⟨y, hy, rfl⟩ := List.mem_map.1 hs
    rfl
end Go.Proofs.Ytahdaccmokjgpaa
