/-
  HITS: what they are in memory, their order, lists in order, heaps, as plain Lean.
-/
import Derived.Test.YtmfanldekjkbiaaDoorRows2
import Derived.Test.YtmfanldekjkbiaaDoorApp
namespace Go.Proofs.YtmfanldekjkbiaaDoor
open Go.RowKit
set_option linter.unusedVariables false

/-- A hit: distance, pair, code. -/
structure Hv where
  d : Int
  i : Int
  c : ByteArray
deriving DecidableEq

instance : Inhabited Hv := ⟨⟨0, 0, ⟨#[]⟩⟩⟩

def Hv.cells (x : Hv) : List Value := [.int .i64 x.d, .int .i64 x.i, .string x.c]

def Hv.val (x : Hv) : Value := .agg #[.int .i64 x.d, .int .i64 x.i, .string x.c]

/-- The order of texts. -/
def sless (a b : ByteArray) : Bool := Op.bytesLess a.toList b.toList

theorem bl_irrefl : ∀ a : List UInt8, Op.bytesLess a a = false
  | [] => rfl
  | a :: x => by simp [Op.bytesLess, bl_irrefl x]

theorem bl_trans : ∀ a b c : List UInt8, Op.bytesLess a b = true → Op.bytesLess b c = true → Op.bytesLess a c = true
  | [], [], _, h, _ => by simp [Op.bytesLess] at h
  | _ :: _, [], _, h, _ => by simp [Op.bytesLess] at h
  | _, _ :: _, [], _, h => by simp [Op.bytesLess] at h
  | [], _ :: _, _ :: _, _, _ => rfl
  | a :: x, b :: y, c :: z, h1, h2 => by
    simp only [Op.bytesLess, Bool.or_eq_true, Bool.and_eq_true, decide_eq_true_eq, beq_iff_eq] at h1 h2 ⊢
    rcases h1 with h1 | ⟨rfl, h1⟩
    · rcases h2 with h2 | ⟨rfl, h2⟩
      · exact .inl (UInt8.lt_trans h1 h2)
      · exact .inl h1
    · rcases h2 with h2 | ⟨rfl, h2⟩
      · exact .inl h2
      · exact .inr ⟨rfl, bl_trans x y z h1 h2⟩

theorem bl_total : ∀ a b : List UInt8, Op.bytesLess a b = false → Op.bytesLess b a = false → a = b
  | [], [], _, _ => rfl
  | [], _ :: _, h, _ => by simp [Op.bytesLess] at h
  | _ :: _, [], _, h => by simp [Op.bytesLess] at h
  | a :: x, b :: y, h1, h2 => by
    simp only [Op.bytesLess, Bool.or_eq_false_iff, Bool.and_eq_false_iff, decide_eq_false_iff_not, beq_eq_false_iff_ne] at h1 h2
    have hab : a = b := by
      have h3 := h1.1
      have h4 := h2.1
      exact UInt8.le_antisymm (UInt8.not_lt.1 h4) (UInt8.not_lt.1 h3)
    subst hab
    have h3 : Op.bytesLess x y = false := by rcases h1.2 with h | h; exact absurd rfl h; exact h
    have h4 : Op.bytesLess y x = false := by rcases h2.2 with h | h; exact absurd rfl h; exact h
    rw [bl_total x y h3 h4]

theorem toList_inj {a b : ByteArray} (h : a.toList = b.toList) : a = b := by
  rw [ByteArray.toList_eq, ByteArray.toList_eq] at h
  cases a; cases b; simp_all

theorem sless_irrefl (a : ByteArray) : sless a a = false := bl_irrefl _

theorem sless_trans {a b c : ByteArray} (h : sless a b = true) (k : sless b c = true) : sless a c = true := bl_trans _ _ _ h k

theorem sless_total {a b : ByteArray} (h : sless a b = false) (k : sless b a = false) : a = b := toList_inj (bl_total _ _ h k)

theorem sless_gtr (a b : ByteArray) : (!(Op.bytesLess a.toList b.toList || a.toList == b.toList)) = sless b a := by
  unfold sless
  cases h : Op.bytesLess a.toList b.toList
  · cases h2 : Op.bytesLess b.toList a.toList
    · have := bl_total _ _ h h2
      simp [this]
    · have : a.toList ≠ b.toList := fun e => by rw [e, bl_irrefl] at h2; cases h2
      simp [this]
  · cases h2 : Op.bytesLess b.toList a.toList
    · rfl
    · have := bl_trans _ _ _ h h2
      rw [bl_irrefl] at this
      cases this

def cmpI (a b : Int) : Int := if a < b then -1 else if b < a then 1 else 0

def cmpS (a b : ByteArray) : Int := if sless a b then -1 else if sless b a then 1 else 0

/-- The order of hits: below 0, 0, above 0. -/
def ordH (a b : Hv) : Int := if cmpI a.d b.d ≠ 0 then cmpI a.d b.d else if cmpI a.i b.i ≠ 0 then cmpI a.i b.i else cmpS a.c b.c

/-- a stands ahead of b. -/
def hless (a b : Hv) : Prop := a.d < b.d ∨ (a.d = b.d ∧ (a.i < b.i ∨ (a.i = b.i ∧ sless a.c b.c = true)))

instance (a b : Hv) : Decidable (hless a b) := by unfold hless; infer_instance

theorem hless_irrefl (a : Hv) : ¬ hless a a := by
  unfold hless
  rw [sless_irrefl]
  rintro (h | ⟨_, h | ⟨_, h⟩⟩)
  · omega
  · omega
  · cases h

theorem hless_trans {a b c : Hv} (h : hless a b) (k : hless b c) : hless a c := by
  unfold hless at *
  rcases h with h | ⟨h1, h | ⟨h2, h⟩⟩ <;> rcases k with k | ⟨k1, k | ⟨k2, k⟩⟩
  · exact .inl (by omega)
  · exact .inl (by omega)
  · exact .inl (by omega)
  · exact .inl (by omega)
  · exact .inr ⟨by omega, .inl (by omega)⟩
  · exact .inr ⟨by omega, .inl (by omega)⟩
  · exact .inl (by omega)
  · exact .inr ⟨by omega, .inl (by omega)⟩
  · exact .inr ⟨by omega, .inr ⟨by omega, sless_trans h k⟩⟩

theorem hless_asymm {a b : Hv} (h : hless a b) : ¬ hless b a := fun k => hless_irrefl a (hless_trans h k)

theorem hless_tri (a b : Hv) : hless a b ∨ a = b ∨ hless b a := by
  unfold hless
  by_cases h1 : a.d < b.d
  · exact .inl (.inl h1)
  by_cases h2 : b.d < a.d
  · exact .inr (.inr (.inl h2))
  have h3 : a.d = b.d := by omega
  by_cases h7 : a.i < b.i
  · exact .inl (.inr ⟨h3, .inl h7⟩)
  by_cases h8 : b.i < a.i
  · exact .inr (.inr (.inr ⟨h3.symm, .inl h8⟩))
  have h9 : a.i = b.i := by omega
  cases h4 : sless a.c b.c
  · cases h5 : sless b.c a.c
    · have h6 := sless_total h4 h5
      refine .inr (.inl ?_)
      cases a; cases b; simp_all
    · exact .inr (.inr (.inr ⟨h3.symm, .inr ⟨h9.symm, rfl⟩⟩))
  · exact .inl (.inr ⟨h3, .inr ⟨h9, rfl⟩⟩)

theorem not_hless {a b : Hv} (h : ¬ hless a b) : a = b ∨ hless b a := by
  rcases hless_tri a b with k | k | k
  · exact absurd k h
  · exact .inl k
  · exact .inr k

/-- Not ahead goes on. -/
theorem nless_trans {a b c : Hv} (h : ¬ hless a b) (k : ¬ hless b c) : ¬ hless a c := by
  rcases not_hless h with rfl | h'
  · exact k
  · rcases not_hless k with rfl | k'
    · exact h
    · exact hless_asymm (hless_trans k' h')

theorem ordH_lt {a b : Hv} (h : hless a b) : ordH a b = -1 := by
  unfold ordH cmpI cmpS
  rcases h with h | ⟨h1, h | ⟨h2, h3⟩⟩
  · simp [h]
  · simp [h1, h]
  · simp [h1, h2, h3]

theorem ordH_gt {a b : Hv} (h : hless b a) : ordH a b = 1 := by
  unfold ordH cmpI cmpS
  rcases h with h | ⟨h1, h | ⟨h2, h3⟩⟩
  · have : ¬ a.d < b.d := by omega
    simp [h, this]
  · have : ¬ a.i < b.i := by omega
    simp [h1, h, this]
  · have : sless a.c b.c = false := by
      cases h' : sless a.c b.c
      · rfl
      · have := sless_trans h3 h'; rw [sless_irrefl] at this; cases this
    simp [h1, h2, h3, this]

theorem ordH_refl (a : Hv) : ordH a a = 0 := by
  unfold ordH cmpI cmpS
  simp [sless_irrefl]

theorem ordH_pos {a b : Hv} : 0 < ordH a b ↔ hless b a := by
  rcases hless_tri a b with h | h | h
  · rw [ordH_lt h]; simp; exact hless_asymm h
  · subst h; rw [ordH_refl]; simp; exact hless_irrefl a
  · rw [ordH_gt h]; simp [h]

theorem ordH_neg {a b : Hv} : ordH a b < 0 ↔ hless a b := by
  rcases hless_tri a b with h | h | h
  · rw [ordH_lt h]; simp [h]
  · subst h; rw [ordH_refl]; simp; exact hless_irrefl a
  · rw [ordH_gt h]; simp; exact hless_asymm h

/-- Lists in order, without doubles. -/
def Ris (S : List Hv) : Prop := S.Pairwise hless

/-- A list in order, with a hit put in. -/
def insH : List Hv → Hv → List Hv
  | [], h => [h]
  | x :: S, h => if hless x h then x :: insH S h else if x = h then x :: S else h :: x :: S

theorem mem_insH (S : List Hv) (h x : Hv) : x ∈ insH S h ↔ x ∈ S ∨ x = h := by
  induction S with
  | nil => simp [insH]
  | cons y S ih =>
    unfold insH
    split
    · rw [List.mem_cons, ih, List.mem_cons, or_assoc]
    · split
      · rename_i e
        subst e
        constructor
        · exact .inl
        · rintro (k | rfl)
          · exact k
          · exact List.mem_cons_self
      · rw [List.mem_cons, or_comm]

theorem ris_insH {S : List Hv} (hS : Ris S) (h : Hv) : Ris (insH S h) := by
  induction S with
  | nil => simp [insH, Ris]
  | cons y S ih =>
    unfold Ris at *
    obtain ⟨h1, h2⟩ := List.pairwise_cons.1 hS
    unfold insH
    split
    · rename_i k
      refine List.pairwise_cons.2 ⟨fun z hz => ?_, ih h2⟩
      rcases (mem_insH S h z).1 hz with hz | rfl
      · exact h1 z hz
      · exact k
    · rename_i k
      split
      · exact hS
      · rename_i k2
        have k3 : hless h y := (not_hless k).resolve_left k2
        refine List.pairwise_cons.2 ⟨fun z hz => ?_, hS⟩
        rcases List.mem_cons.1 hz with rfl | hz
        · exact k3
        · exact hless_trans k3 (h1 z hz)

theorem ris_nodup {S : List Hv} (hS : Ris S) : S.Nodup := by
  refine List.Pairwise.imp ?_ hS
  rintro a b h rfl
  exact hless_irrefl a h

/-- Two lists in order with the same members are one. -/
theorem ris_ext : ∀ {S T : List Hv}, Ris S → Ris T → (∀ x, x ∈ S ↔ x ∈ T) → S = T
  | [], [], _, _, _ => rfl
  | [], y :: T, _, _, h => absurd ((h y).2 List.mem_cons_self) (by simp)
  | x :: S, [], _, _, h => absurd ((h x).1 List.mem_cons_self) (by simp)
  | x :: S, y :: T, hS, hT, h => by
    obtain ⟨h1, h2⟩ := List.pairwise_cons.1 hS
    obtain ⟨k1, k2⟩ := List.pairwise_cons.1 hT
    have e : x = y := by
      have a1 := (h x).1 List.mem_cons_self
      have a2 := (h y).2 List.mem_cons_self
      rcases List.mem_cons.1 a1 with rfl | a1
      · rfl
      rcases List.mem_cons.1 a2 with rfl | a2
      · rfl
      exact absurd (h1 y a2) (hless_asymm (k1 x a1))
    subst e
    have : S = T := ris_ext h2 k2 (fun z => by
      constructor
      · intro hz
        rcases List.mem_cons.1 ((h z).1 (List.mem_cons_of_mem _ hz)) with rfl | hz'
        · exact absurd (h1 z hz) (hless_irrefl z)
        · exact hz'
      · intro hz
        rcases List.mem_cons.1 ((h z).2 (List.mem_cons_of_mem _ hz)) with rfl | hz'
        · exact absurd (k1 z hz) (hless_irrefl z)
        · exact hz')
    rw [this]

theorem ris_perm {S T : List Hv} (hS : Ris S) (hT : Ris T) (h : S.Perm T) : S = T := ris_ext hS hT (fun x => h.mem_iff)

theorem insH_mem {S : List Hv} (hS : Ris S) {h : Hv} (hm : h ∈ S) : insH S h = S :=
  ris_ext (ris_insH hS h) hS (fun x => by rw [mem_insH]; exact ⟨fun k => k.elim id (fun e => e ▸ hm), .inl⟩)

theorem insH_perm {S : List Hv} {h : Hv} (hm : h ∉ S) : (insH S h).Perm (h :: S) := by
  induction S with
  | nil => exact List.Perm.refl _
  | cons y S ih =>
    have h1 : y ≠ h := fun e => hm (e ▸ List.mem_cons_self)
    have h2 : h ∉ S := fun k => hm (List.mem_cons_of_mem _ k)
    unfold insH
    split
    · exact ((ih h2).cons y).trans (List.Perm.swap _ _ _)
    · exact List.Perm.refl _

theorem insH_length {S : List Hv} (hS : Ris S) (h : Hv) : (insH S h).length = if h ∈ S then S.length else S.length + 1 := by
  split
  · rename_i hm; rw [insH_mem hS hm]
  · rename_i hm; rw [(insH_perm hm).length_eq]; rfl

theorem ris_take {S : List Hv} (hS : Ris S) (k : Nat) : Ris (S.take k) := List.Pairwise.sublist (List.take_sublist k S) hS

/-- The first k: of what stands behind nothing is wanted. -/
theorem take_insH : ∀ (S : List Hv) (k : Nat) (h : Hv), (insH S h).take k = (insH (S.take k) h).take k
  | [], _, _ => by simp
  | y :: S, 0, h => by simp
  | y :: S, k + 1, h => by
    rw [List.take_succ_cons]
    unfold insH
    split
    · rw [List.take_succ_cons, List.take_succ_cons, take_insH S k h]
    · split
      · rw [List.take_succ_cons, List.take_succ_cons, List.take_take, Nat.min_self]
      · rw [List.take_succ_cons, List.take_succ_cons]
        cases k with
        | zero => simp
        | succ k => rw [List.take_succ_cons, List.take_succ_cons, List.take_take]; congr 3; omega

/-- All hits handed in, in order. -/
def allH (hits : List Hv) : List Hv := hits.foldl insH []

theorem foldl_ris (hits : List Hv) : ∀ S, Ris S → Ris (hits.foldl insH S) := by
  induction hits with
  | nil => exact fun S h => h
  | cons x l ih => exact fun S h => ih _ (ris_insH h x)

theorem allH_ris (hits : List Hv) : Ris (allH hits) := foldl_ris hits [] List.Pairwise.nil

theorem foldl_mem (hits : List Hv) : ∀ S x, x ∈ hits.foldl insH S ↔ x ∈ S ∨ x ∈ hits := by
  induction hits with
  | nil => intro S x; simp
  | cons y l ih =>
    intro S x
    rw [List.foldl_cons, ih, mem_insH, List.mem_cons, or_assoc]

theorem allH_mem (hits : List Hv) (x : Hv) : x ∈ allH hits ↔ x ∈ hits := by
  unfold allH
  rw [foldl_mem]
  simp

theorem allH_snoc (hits : List Hv) (h : Hv) : allH (hits ++ [h]) = insH (allH hits) h := by
  unfold allH
  rw [List.foldl_append]
  rfl

/-- What one more does to the first k. -/
theorem top_snoc (k : Nat) (hits : List Hv) (h : Hv) : (allH (hits ++ [h])).take k = (insH ((allH hits).take k) h).take k := by
  rw [allH_snoc, take_insH]
end Go.Proofs.YtmfanldekjkbiaaDoor
