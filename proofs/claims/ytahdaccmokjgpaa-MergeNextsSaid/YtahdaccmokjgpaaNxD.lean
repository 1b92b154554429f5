/-
  The rounds of the document's Next, plainly; what Next keeps.
-/
import Derived.Test.YtahdaccmokjgpaaNxC
namespace Go.Proofs.Ytahdaccmokjgpaa
open Go.RowKit ArgK
set_option linter.unusedVariables false

theorem rn_none {n f : Nat} {bottom : Bool} {mm : Mst} {r : Rmt} {R : (Ent × Bool × Int) × Mst} (hsim : Sim n mm r) (hb : r.begun = true) (h0 : r.bad = 0) (hgo : Mst.go bottom (f + 1) mm = R) (hlf : mm.left < f + 1) (hbt : bestTo r.R r.R.length = none) : ∃ m', Sim n m' r ∧ R = ((zeroE, false, 0), m') := by
  obtain ⟨h1, h2⟩ := step_sim hsim hb h0
  have e : r.step = (r, zeroE, false) := by unfold Rmt.step; rw [hbt]
  rw [e] at h1 h2
  obtain ⟨m', x, more, hst⟩ : ∃ m' x more, mm.step = (m', x, more) := ⟨_, _, _, rfl⟩
  rw [hst] at h1 h2
  simp only [Prod.mk.injEq] at h1
  obtain ⟨rfl, rfl⟩ := h1
  refine ⟨m', h2, ?_⟩
  cases step_way hsim.ok (hsim.bad.trans h0) hgo hlf hst with
  | bad q1 q2 => exact absurd (h2.bad.trans h0) q1
  | stop q1 q2 q3 => exact q3
  | on q1 q2 q3 q4 q5 q6 => cases q2

theorem rn_dup {n f b : Nat} {bottom : Bool} {mm : Mst} {r : Rmt} {R : (Ent × Bool × Int) × Mst} (hsim : Sim n mm r) (hb : r.begun = true) (h0 : r.bad = 0) (hgo : Mst.go bottom (f + 1) mm = R) (hlf : mm.left < f + 1) (hbt : bestTo r.R r.R.length = some b) (hd : Dup r.R (atR r.R b)) : ∃ m', Sim n m' { r with bad := 51 } ∧ R = ((zeroE, false, 51), m') := by
  obtain ⟨h1, h2⟩ := step_sim hsim hb h0
  have e : r.step = ({ r with bad := 51 }, zeroE, false) := by unfold Rmt.step; rw [hbt]; simp only; rw [if_pos hd]
  rw [e] at h1 h2
  obtain ⟨m', x, more, hst⟩ : ∃ m' x more, mm.step = (m', x, more) := ⟨_, _, _, rfl⟩
  rw [hst] at h1 h2
  refine ⟨m', h2, ?_⟩
  have hmb : m'.bad = 51 := h2.bad
  cases step_way hsim.ok (hsim.bad.trans h0) hgo hlf hst with
  | bad q1 q2 => rw [go_bad q1, hmb] at q2; exact q2.symm
  | stop q1 q2 q3 => rw [hmb] at q1; cases q1
  | on q1 q2 q3 q4 q5 q6 => rw [hmb] at q1; cases q1

theorem rn_after {n f b : Nat} {bottom : Bool} {mm : Mst} {r RS : Rmt} {R : (Ent × Bool × Int) × Mst} {out : Ent} (hsim : Sim n mm r) (hb : r.begun = true) (h0 : r.bad = 0) (hgo : Mst.go bottom (f + 1) mm = R) (hlf : mm.left < f + 1) (hbt : bestTo r.R r.R.length = some b) (hout : atR r.R b = out) (hd : ¬ Dup r.R out) (hRS : r.sweep out (List.range' 0 n) = RS) :
    ∃ m', Sim n m' RS ∧ (RS.bad ≠ 0 → Mst.go bottom f m' = R) ∧ (RS.bad = 0 → (bottom = false ∨ out.d = false) → R = ((out, true, 0), m')) ∧ (RS.bad = 0 → bottom = true → out.d = true → Mst.go bottom f m' = R ∧ m'.left < f) := by
  obtain ⟨h1, h2⟩ := step_sim hsim hb h0
  have e : r.step = if RS.bad = 0 then (RS, out, true) else (RS, zeroE, false) := by unfold Rmt.step; rw [hbt]; simp only; rw [hout, if_neg hd, hsim.len, hRS]
  have e1 : r.step.1 = RS := by rw [e]; split <;> rfl
  rw [e1] at h2
  obtain ⟨m', x, more, hst⟩ : ∃ m' x more, mm.step = (m', x, more) := ⟨_, _, _, rfl⟩
  rw [hst] at h1 h2
  have hmb : m'.bad = RS.bad := h2.bad
  refine ⟨m', h2, ?_⟩
  cases step_way hsim.ok (hsim.bad.trans h0) hgo hlf hst with
  | bad q1 q2 => exact ⟨fun _ => q2, fun k => absurd (hmb.trans k) q1, fun k => absurd (hmb.trans k) q1⟩
  | stop q1 q2 q3 =>
    have hz : RS.bad = 0 := hmb.symm.trans q1
    rw [e, if_pos hz] at h1
    simp only [Prod.mk.injEq] at h1
    obtain ⟨rfl, rfl⟩ := h1
    refine ⟨fun k => absurd hz k, fun _ _ => q3, fun _ k1 k2 => ?_⟩
    rcases q2 with q | q | q
    · cases q
    · rw [k1] at q; cases q
    · rw [k2] at q; cases q
  | on q1 q2 q3 q4 q5 q6 =>
    have hz : RS.bad = 0 := hmb.symm.trans q1
    rw [e, if_pos hz] at h1
    simp only [Prod.mk.injEq] at h1
    obtain ⟨rfl, _⟩ := h1
    refine ⟨fun k => absurd hz k, fun _ k => ?_, fun _ _ _ => ⟨q5, q6⟩⟩
    rcases k with k | k
    · rw [q3] at k; cases k
    · rw [q4] at k; cases k

theorem Rmt.ask_far (r : Rmt) {i j : Nat} (h : j ≠ i) : (r.ask i).R[j]? = r.R[j]? := by
  unfold Rmt.ask
  split
  · rfl
  · split
    · rfl
    · exact List.getElem?_set_ne (fun e => h e.symm)

theorem range'_cons {i n : Nat} (h : i < n) : List.range' i (n - i) = i :: List.range' (i + 1) (n - (i + 1)) := by
  rw [show n - i = (n - (i + 1)) + 1 by omega, List.range'_succ]

/-- What Next leaves. -/
def RNPost (w : World) (B rb : Nat) (p : Option Addr) (n c : Nat) (bottom : Bool) (R : (Ent × Bool × Int) × Mst) (e : Ending) (w' : World) : Prop :=
  e = .returned (.tuple #[R.1.1.val, .bool R.1.2.1, .int .i64 R.1.2.2]) ∧ (∃ ks begun bad, RmAt w' B rb p n c bottom ks begun bad ∧ Sim n R.2 ⟨ks.map Kl.rl, begun, bad⟩) ∧ Kp B rT w w'

/-- At the head of each round. -/
def RNRel (w : World) (B rb : Nat) (p : Option Addr) (n c : Nat) (bottom : Bool) (R : (Ent × Bool × Int) × Mst) (f : Nat) (wr : World) : Prop :=
  ∃ mm ks bad, RmAt wr B rb p n c bottom ks true bad ∧ Sim n mm ⟨ks.map Kl.rl, true, bad⟩ ∧ Mst.go bottom f mm = R ∧ (mm.bad = 0 → mm.left < f) ∧ wr.heap[w.heap.size]? = some (eBlk zeroE) ∧ Kp B rT w wr

theorem RNPost.stop {w wr W : World} {B rb : Nat} {p : Option Addr} {n c : Nat} {bottom : Bool} {R : (Ent × Bool × Int) × Mst} {m : Mst} {ks : List Kl} {begun b : Bool} {bad cd : Int} {x : Ent} (hB : B ≤ w.heap.size) (h : RmAt wr B rb p n c bottom ks begun bad) (hs : Sim n m ⟨ks.map Kl.rl, begun, bad⟩) (hR : R = ((x, b, cd), m)) (hZ : wr.heap[w.heap.size]? = some (eBlk zeroE)) (hk : Kp B rT w wr) (k : Fr wr W [some w.heap.size]) :
    RNPost w B rb p n c bottom R (.returned (.tuple #[x.val, .bool b, .int .i64 cd])) W := by
  subst hR
  have k1 : Kp B [24] wr W := kp_of_fr (cs := #[.int .i64 0, .string ⟨#[]⟩, .int .i64 0, .int .i64 0, .bool false]) (fr := (0, 0)) k hZ hB (by simp)
  refine ⟨rfl, ⟨ks, begun, bad, h.kp k1 (by decide) (by decide), hs⟩, ?_⟩
  refine ⟨k1.1.trans hk.1, k1.2.1.trans hk.2.1, k1.2.2.1.trans hk.2.2.1, Nat.le_trans hk.size k1.size, fun g o ho hx => ?_⟩
  have h1 := hk.2.2.2.2 g o ho hx
  have hg := (Array.getElem?_eq_some_iff.1 ho).1
  exact (k.2.2.2.2 g (Array.getElem?_eq_some_iff.1 h1).1 (by simp only [List.mem_singleton, Option.some.injEq]; omega)).trans h1

/-- At the head of each round of the sweep. -/
def SwRel (w : World) (B rb : Nat) (p : Option Addr) (n c : Nat) (bottom : Bool) (out : Ent) (bo : Nat) (RS : Rmt) (i : Nat) (wr : World) : Prop :=
  ∃ ks, RmAt wr B rb p n c bottom ks true 0 ∧ (⟨ks.map Kl.rl, true, 0⟩ : Rmt).sweep out (List.range' i (n - i)) = RS ∧ (∀ (j : Nat) (y : Rl), i ≤ j → (ks.map Kl.rl)[j]? = some y → Stn y) ∧ wr.heap[w.heap.size]? = some (eBlk zeroE) ∧ wr.heap[bo]? = some (eBlk out) ∧ Kp B rT w wr

/-- Where the sweep ends. -/
def SwEnd (w : World) (B rb : Nat) (p : Option Addr) (n c : Nat) (bottom : Bool) (out : Ent) (bo : Nat) (RS : Rmt) (bad : Int) (wr : World) : Prop :=
  ∃ ks, RmAt wr B rb p n c bottom ks true bad ∧ RS = ⟨ks.map Kl.rl, true, bad⟩ ∧ wr.heap[w.heap.size]? = some (eBlk zeroE) ∧ wr.heap[bo]? = some (eBlk out) ∧ Kp B rT w wr

theorem SwRel.ended {w wr : World} {B rb : Nat} {p : Option Addr} {n c : Nat} {bottom : Bool} {out : Ent} {bo : Nat} {RS : Rmt} (h : SwRel w B rb p n c bottom out bo RS n wr) : SwEnd w B rb p n c bottom out bo RS 0 wr := by
  obtain ⟨ks, h1, h2, h3, h4, h5, h6⟩ := h
  rw [Nat.sub_self] at h2
  exact ⟨ks, h1, h2.symm, h4, h5, h6⟩

theorem SwRel.skip {w wr W : World} {B rb : Nat} {p : Option Addr} {n c : Nat} {bottom : Bool} {out : Ent} {bo : Nat} {RS : Rmt} {i : Nat} {ks : List Kl} {x : Kl} (hi : i < n) (h1 : RmAt wr B rb p n c bottom ks true 0) (h2 : (⟨ks.map Kl.rl, true, 0⟩ : Rmt).sweep out (List.range' i (n - i)) = RS) (h3 : ∀ (j : Nat) (y : Rl), i ≤ j → (ks.map Kl.rl)[j]? = some y → Stn y) (h4 : wr.heap[w.heap.size]? = some (eBlk zeroE)) (h5 : wr.heap[bo]? = some (eBlk out)) (h6 : Kp B rT w wr)
    (hx : ks[i]? = some x) (hn : ¬ (x.rl.dn = false ∧ eat x.rl.top out)) (hb : Below wr.heap.size wr W) : SwRel w B rb p n c bottom out bo RS (i + 1) W := by
  refine ⟨ks, h1.below hb, ?_, fun j y hj hy => h3 j y (by omega) hy, (hb.block _ (Array.getElem?_eq_some_iff.1 h4).1).trans h4, (hb.block _ (Array.getElem?_eq_some_iff.1 h5).1).trans h5, h6.trans (Kp.of_below hb)⟩
  rw [range'_cons hi, Rmt.sweep] at h2
  have e : (⟨ks.map Kl.rl, true, 0⟩ : Rmt).tick out i = ⟨ks.map Kl.rl, true, 0⟩ := by
    unfold Rmt.tick
    simp only [List.getElem?_map, hx, Option.map_some]
    exact if_neg hn
  rw [e, if_neg (by simp)] at h2
  exact h2

theorem SwRel.ask {w wr W W' : World} {B rb : Nat} {p : Option Addr} {n c : Nat} {bottom : Bool} {out : Ent} {bo : Nat} {RS : Rmt} {i : Nat} {ks : List Kl} {x : Kl} {en : Ending} (hi : i < n) (h2 : (⟨ks.map Kl.rl, true, 0⟩ : Rmt).sweep out (List.range' i (n - i)) = RS) (h3 : ∀ (j : Nat) (y : Rl), i ≤ j → (ks.map Kl.rl)[j]? = some y → Stn y) (h4 : wr.heap[w.heap.size]? = some (eBlk zeroE)) (h5 : wr.heap[bo]? = some (eBlk out)) (h6 : Kp B rT w wr)
    (hx : ks[i]? = some x) (hn : x.rl.dn = false ∧ eat x.rl.top out) (hb : Below wr.heap.size wr W) (ha : RAskPost W B rb p n c bottom ks true 0 i en W') :
    en = .returned (.tuple #[]) ∧ ∃ bad, ((bad = 0 ∧ SwRel w B rb p n c bottom out bo RS (i + 1) W') ∨ (bad ≠ 0 ∧ SwEnd w B rb p n c bottom out bo RS bad W')) ∧ ∃ ks', RmAt W' B rb p n c bottom ks' true bad := by
  obtain ⟨he, ks', bad', a1, a2, a3⟩ := ha
  have hk : Kp B rT wr W' := (Kp.of_below hb).trans a3
  have z4 : W'.heap[w.heap.size]? = some (eBlk zeroE) := hk.box h4 (.inl (by decide))
  have z5 : W'.heap[bo]? = some (eBlk out) := hk.box h5 (.inl (by decide))
  rw [range'_cons hi, Rmt.sweep] at h2
  have e : (⟨ks.map Kl.rl, true, 0⟩ : Rmt).tick out i = (⟨ks.map Kl.rl, true, 0⟩ : Rmt).ask i := by
    unfold Rmt.tick
    simp only [List.getElem?_map, hx, Option.map_some]
    exact if_pos hn
  rw [e, ← a2] at h2
  refine ⟨he, bad', ?_, ks', a1⟩
  by_cases h0 : bad' = 0
  · left
    subst h0
    rw [if_neg (by simp)] at h2
    refine ⟨rfl, ks', a1, h2, fun j y hj hy => h3 j y (by omega) ?_, z4, z5, h6.trans hk⟩
    have := Rmt.ask_far (⟨ks.map Kl.rl, true, 0⟩ : Rmt) (i := i) (j := j) (by omega)
    rw [← a2] at this
    exact this.symm.trans hy
  · right
    rw [if_pos h0] at h2
    exact ⟨h0, ks', a1, h2.symm, z4, z5, h6.trans hk⟩

/-- The bound that ask wants. -/
theorem stn_bound {w : World} {B rb : Nat} {p : Option Addr} {n c : Nat} {bottom : Bool} {ks : List Kl} {begun : Bool} {bad : Int} (h : RmAt w B rb p n c bottom ks begun bad) {i : Nat} (hs : ∀ (j : Nat) (y : Rl), i ≤ j → (ks.map Kl.rl)[j]? = some y → Stn y) : ∀ x, ks[i]? = some x → x.dn = false → x.u3 ≤ x.es.length := fun x hx hd => by
  obtain ⟨_, _, u, hu⟩ := h.ents x (List.mem_of_getElem? hx)
  obtain ⟨h1, h2, _⟩ := (hs i x.rl (Nat.le_refl _) (by rw [List.getElem?_map, hx]; rfl)).top hd
  have hu2 : x.rl.s.used = u := by unfold Kl.rl; simp [hu]
  rw [hu2] at h1 h2
  have := (List.getElem?_eq_some_iff.1 h1).1
  have e : x.rl.s.es = x.es := rfl
  rw [e] at this
  omega
end Go.Proofs.Ytahdaccmokjgpaa
