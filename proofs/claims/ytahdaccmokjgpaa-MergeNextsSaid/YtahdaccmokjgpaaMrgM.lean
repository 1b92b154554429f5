/-
  A MERGER in memory; what its calls turn; what is asked of its sources.
-/
import Derived.Test.YtahdaccmokjgpaaMrgL
import Derived.Test.YtahdaccmokjgpaaSrc
namespace Go.Proofs.Ytahdaccmokjgpaa
open Go.RowKit ArgK
set_option linter.unusedVariables false

/-- But for blocks of some types (from a block on) and some blocks, all old ones are as they were. -/
def Fm (B : Nat) (T : List TypeId) (X : List (Option Nat)) (w w' : World) : Prop :=
  w'.os = w.os ∧ w'.tape = w.tape ∧ w'.output = w.output ∧ w.heap.size ≤ w'.heap.size ∧ ∀ b o, w.heap[b]? = some o → (b < B ∨ ∀ t, tyO o = some t → t ∉ T) → some b ∉ X → w'.heap[b]? = some o

theorem Fm.refl (B : Nat) (T : List TypeId) (X : List (Option Nat)) (w : World) : Fm B T X w w := ⟨rfl, rfl, rfl, Nat.le_refl _, fun _ _ h _ _ => h⟩

theorem Fm.size {B : Nat} {T : List TypeId} {X : List (Option Nat)} {w w' : World} (h : Fm B T X w w') : w.heap.size ≤ w'.heap.size := h.2.2.2.1

theorem Fm.of_kp {B : Nat} {T : List TypeId} {X : List (Option Nat)} {w w' : World} (h : Kp B T w w') : Fm B T X w w' := ⟨h.1, h.2.1, h.2.2.1, h.2.2.2.1, fun b o ho hx _ => h.2.2.2.2 b o ho hx⟩

theorem Fm.of_fr {B : Nat} {T : List TypeId} {X : List (Option Nat)} {w w' : World} (h : Fr w w' X) : Fm B T X w w' := ⟨h.1, h.2.1, h.2.2.1, h.2.2.2.1, fun b o ho _ hx => (h.2.2.2.2 b (Array.getElem?_eq_some_iff.1 ho).1 hx).trans ho⟩

theorem Fm.of_below {B : Nat} {T : List TypeId} {X : List (Option Nat)} {w w' : World} (h : Below w.heap.size w w') : Fm B T X w w' := Fm.of_kp (Kp.of_below h)

theorem Fm.trans {B : Nat} {T : List TypeId} {X Y : List (Option Nat)} {a b c : World} (h : Fm B T X a b) (k : Fm B T Y b c) (hY : ∀ x, some x ∈ Y → x < a.heap.size → some x ∈ X) : Fm B T X a c :=
  ⟨k.1.trans h.1, k.2.1.trans h.2.1, k.2.2.1.trans h.2.2.1, Nat.le_trans h.2.2.2.1 k.2.2.2.1, fun x o ho hx hX => k.2.2.2.2 x o (h.2.2.2.2 x o ho hx hX) hx (fun e => hX (hY x e (Array.getElem?_eq_some_iff.1 ho).1))⟩

theorem Fm.mono {B : Nat} {T T' : List TypeId} {X Y : List (Option Nat)} {a b : World} (h : Fm B T X a b) (hT : ∀ t ∈ T, t ∈ T') (hX : ∀ x ∈ X, x ∈ Y) : Fm B T' Y a b :=
  ⟨h.1, h.2.1, h.2.2.1, h.2.2.2.1, fun x o ho hx hY => h.2.2.2.2 x o ho (hx.imp id (fun hx t ht hm => hx t ht (hT t hm))) (fun e => hY (hX _ e))⟩

theorem Fm.own {B : Nat} {T : List TypeId} {X : List (Option Nat)} {w w' : World} (h : Fm B T X w w') {base : Nat} {e : TypeId} {size : Nat} {v : Value} {n : Nat} {xs : List Value} (hr : w.ownsRow base e size v n xs) (hx : e ∉ T) (hX : ∀ g, v.ownBlock = some g → some g ∉ X) : w'.ownsRow base e size v n xs := by
  refine ⟨hr.1, ?_⟩
  rcases hr.2 with hn | ⟨g, cap, cur, rfl, hb, hg, rest⟩
  · exact .inl hn
  · exact .inr ⟨g, cap, cur, rfl, hb, h.2.2.2.2 g _ hg (.inr (fun t ht => by cases ht; exact hx)) (hX g rfl), rest⟩

theorem Fm.box {B : Nat} {T : List TypeId} {X : List (Option Nat)} {w w' : World} (h : Fm B T X w w') {b : Nat} {cs : Array Value} {t : TypeId} {fr : Nat × Nat} (hb : w.heap[b]? = some (.cells cs t fr)) (hx : t ∉ T ∨ b < B) (hX : some b ∉ X) : w'.heap[b]? = some (.cells cs t fr) :=
  h.2.2.2.2 b _ hb (by
    rcases hx with hx | hx
    · exact .inr (fun t' ht => by cases ht; exact hx)
    · exact .inl hx) hX

/-- What a call on a merger turns besides what its sources turn: the box of the heads and their row. -/
def MK (B : Nat) (T : List TypeId) (hb : Nat) (w : World) (v : Value) (w' : World) (v' : Value) : Prop :=
  Fm B T [some hb, v.ownBlock] w w' ∧ (v'.ownBlock = v.ownBlock ∨ ∀ g, v'.ownBlock = some g → w.heap.size ≤ g)

theorem MK.of_kp {B : Nat} {T : List TypeId} {hb : Nat} {w w' : World} {v : Value} (h : Kp B T w w') : MK B T hb w v w' v := ⟨Fm.of_kp h, .inl rfl⟩

theorem MK.of_pk {B : Nat} {T : List TypeId} {hb : Nat} {w w' : World} {v v' : Value} (h : PKeep hb w v w' v') : MK B T hb w v w' v' := ⟨Fm.of_fr h.1, h.2⟩

theorem MK.refl (B : Nat) (T : List TypeId) (hb : Nat) (w : World) (v : Value) : MK B T hb w v w v := ⟨Fm.refl _ _ _ _, .inl rfl⟩

theorem MK.trans {B : Nat} {T : List TypeId} {hb : Nat} {a b c : World} {v v1 v2 : Value} (h : MK B T hb a v b v1) (k : MK B T hb b v1 c v2) : MK B T hb a v c v2 := by
  refine ⟨h.1.trans k.1 (fun x hx hlt => ?_), ?_⟩
  · simp only [List.mem_cons, List.not_mem_nil, or_false] at hx ⊢
    rcases hx with hx | hx
    · exact .inl hx
    · rcases h.2 with e | e
      · exact .inr (hx.trans e)
      · have := e x hx.symm; omega
  · rcases k.2 with e | e
    · rcases h.2 with e' | e'
      · exact .inl (e.trans e')
      · exact .inr (fun g hg => e' g (by rw [← e]; exact hg))
    · exact .inr (fun g hg => Nat.le_trans h.1.size (e g hg))

/-- A merger in memory, its heads besides. -/
structure MrgIs (w : World) (B mb hb : Nat) (sv : Value) (fs : List Value) (bottom begun : Bool) (code : Int) : Prop where
  box : w.heap[mb]? = some (.cells #[sv, .bool bottom, .bool begun, .iface 82 (.pointer (some ⟨hb, 0, none⟩)), .int .i64 code] 88 (0, 0))
  base : B ≤ mb
  row : w.ownsRow B 41 1 sv fs.length fs

/-- The types that a merger's own calls turn. -/
def mTypes : List TypeId := [88, 84, 100, 24]

/-- What sources turn is none of a merger's. -/
structure TOk (T : List TypeId) : Prop where
  a : 88 ∉ T
  b : 84 ∉ T
  c : 100 ∉ T
  d : 41 ∉ T
  e : 24 ∉ T

theorem MrgIs.cells {w : World} {B mb hb : Nat} {sv : Value} {fs : List Value} {bottom begun : Bool} {code : Int} (h : MrgIs w B mb hb sv fs bottom begun code) :
    w.cell? ⟨mb, 0, none⟩ = some sv ∧ w.cell? ⟨mb, 1, none⟩ = some (.bool bottom) ∧ w.cell? ⟨mb, 2, none⟩ = some (.bool begun) ∧ w.cell? ⟨mb, 3, none⟩ = some (.iface 82 (.pointer (some ⟨hb, 0, none⟩))) ∧ w.cell? ⟨mb, 4, none⟩ = some (.int .i64 code) ∧ ∀ k, w.frozen? ⟨mb, k, none⟩ = false := by
  have e := h.box
  exact ⟨by simp [World.cell?, e], by simp [World.cell?, e], by simp [World.cell?, e], by simp [World.cell?, e], by simp [World.cell?, e], fun k => by simp [World.frozen?, e]⟩

theorem MrgIs.lt {w : World} {B mb hb : Nat} {sv : Value} {fs : List Value} {bottom begun : Bool} {code : Int} (h : MrgIs w B mb hb sv fs bottom begun code) : mb < w.heap.size := (Array.getElem?_eq_some_iff.1 h.box).1

theorem MrgIs.fm {w w' : World} {B B' mb hb : Nat} {sv : Value} {fs : List Value} {bottom begun : Bool} {code : Int} {T : List TypeId} {X : List (Option Nat)} (h : MrgIs w B mb hb sv fs bottom begun code) (k : Fm B' T X w w') (hT : TOk T) (h1 : some mb ∉ X) (h2 : ∀ g, sv.ownBlock = some g → some g ∉ X) : MrgIs w' B mb hb sv fs bottom begun code :=
  ⟨k.box h.box (.inl hT.a) h1, h.base, k.own h.row hT.d h2⟩

theorem MrgIs.kp {w w' : World} {B B' mb hb : Nat} {sv : Value} {fs : List Value} {bottom begun : Bool} {code : Int} {T : List TypeId} (h : MrgIs w B mb hb sv fs bottom begun code) (k : Kp B' T w w') (hT : TOk T) : MrgIs w' B mb hb sv fs bottom begun code :=
  h.fm (X := []) (Fm.of_kp k) hT (by simp) (by simp)

/-- A merger's block and its row are none of its heads'. -/
theorem MrgIs.apart {w : World} {B mb hb : Nat} {sv v : Value} {fs : List Value} {bottom begun : Bool} {code : Int} {L : List Hdv} (h : MrgIs w B mb hb sv fs bottom begun code) (hP : PileD w B hb v L) :
    some mb ∉ [some hb, v.ownBlock] ∧ ∀ g, sv.ownBlock = some g → some g ∉ [some hb, v.ownBlock] := by
  have hne : mb ≠ hb := fun e => by
    have h1 := h.box
    rw [e, hP.box] at h1
    cases h1
  have h2 : v.ownBlock ≠ some mb := fun e => by
    rcases hP.row.2 with ⟨k, _⟩ | ⟨g, c, cur, k, _, k2, _⟩
    · rw [k] at e; cases e
    · rw [k] at e
      cases e
      rw [h.box] at k2
      cases k2
  refine ⟨fun hm => ?_, fun g hg hm => ?_⟩
  · simp only [List.mem_cons, List.not_mem_nil, or_false, Option.some.injEq] at hm
    rcases hm with hm | hm
    · exact hne hm
    · exact h2 hm.symm
  · simp only [List.mem_cons, List.not_mem_nil, or_false, Option.some.injEq] at hm
    rcases hm with hm | hm
    · subst hm
      rcases h.row.2 with ⟨k, _⟩ | ⟨g', c, cur, k, _, k2, _⟩
      · rw [k] at hg; cases hg
      · rw [k] at hg
        cases hg
        rw [hP.box] at k2
        cases k2
    · exact own_ne h.row hP.row (by decide) g hg hm.symm

theorem MrgIs.keeps {w w' : World} {B mb hb : Nat} {sv v v' : Value} {fs : List Value} {bottom begun : Bool} {code : Int} {L : List Hdv} {T : List TypeId} (h : MrgIs w B mb hb sv fs bottom begun code) (hP : PileD w B hb v L) (hT : TOk T) (k : MK B T hb w v w' v') : MrgIs w' B mb hb sv fs bottom begun code :=
  h.fm k.1 hT (h.apart hP).1 (h.apart hP).2

theorem PileD.kp2 {w w' : World} {B B' hb : Nat} {v : Value} {L : List Hdv} {T : List TypeId} (h : PileD w B hb v L) (hk : Kp B' T w w') (hT : TOk T) : PileD w' B hb v L := h.keep hk hT.b hT.c

/-- What is asked of sources: what they are in memory lives through a merger's own calls; each, asked, answers and turns blocks of some types only. -/
structure FeedLaw (B : Nat) (T : List TypeId) (fs : List Value) (I : World → List Sst → Prop) : Prop where
  tok : TOk T
  len : ∀ {w S}, I w S → S.length = fs.length
  keep : ∀ {w w' S}, I w S → Kp B mTypes w w' → I w' S
  mute : ∀ {w : World} {S : List Sst} {i : Nat} {st : Sst}, I w S → S[i]? = some st → st.mute = true → fs[i]? = some Value.nilFunc
  live : ∀ {w : World} {S : List Sst} {i : Nat} {st : Sst}, I w S → S[i]? = some st → st.mute = false → st.used ≤ st.es.length → ∃ (f b : Nat) (fv : Value), fs[i]? = some fv ∧ (fv = .func (.func f) #[] #[.pointer (some ⟨b, 0, none⟩)] ∨ fv = .func (.func f) #[.pointer (some ⟨b, 0, none⟩)] #[]) ∧ (∀ args W, (callFunc f args).run Try.prog W = .ok (.enter f args) W) ∧
    Calls Try.prog f #[.pointer (some ⟨b, 0, none⟩)] w fun e w' => e = .returned (.tuple #[st.ans.1.val, .bool st.ans.2.1, .int .i64 st.ans.2.2]) ∧ I w' (S.set i st.next) ∧ Kp B T w w'

/-- What ask leaves. -/
def AskPost (w : World) (B : Nat) (T : List TypeId) (hb : Nat) (v : Value) (L : List Hdv) (I : World → List Sst → Prop) (S : List Sst) (i : Nat) (st : Sst) (e : Ending) (w' : World) : Prop :=
  e = .returned (.int .i64 st.asked.2.1) ∧ I w' (S.set i st.asked.1) ∧ ∃ v' L', PileD w' B hb v' L' ∧ HeapG abv L' ∧ L'.Perm (match st.asked.2.2 with | none => L | some x => ⟨x, i⟩ :: L) ∧ MK B T hb w v w' v'

/-- The last argument of ask. -/
def LastIs (w : World) (lv : Value) (l : Option Ent) : Prop :=
  (l = none ∧ lv = .pointer none) ∨ ∃ (x : Ent) (lb n : Nat), l = some x ∧ lv = .pointer (some ⟨lb, 0, none⟩) ∧ w.heap[lb]? = some (.cells #[.int .i64 x.v, .string x.c, .int .i64 x.i, .int .i64 x.s, .bool x.d, .int .i64 n] 100 (0, 0))
end Go.Proofs.Ytahdaccmokjgpaa
