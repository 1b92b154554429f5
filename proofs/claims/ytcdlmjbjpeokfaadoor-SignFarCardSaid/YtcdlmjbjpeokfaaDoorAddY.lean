/-
  PLAIN LAWS and contracts for SignAdds and SignLength. Printed by sagen.py.
-/
import Derived.Test.YtcdlmjbjpeokfaaDoorAddB
namespace Go.Proofs.YtcdlmjbjpeokfaaDoor
open Go.RowKit ArgK
set_option linter.unusedVariables false

def LPostN (w : World) (L : List (Int × Int)) (n : Nat) (e : Ending) (w' : World) : Prop := ∃ p cap, e = .returned (.slice p n cap) ∧ PL w' p L ∧ Below w.heap.size w w'

theorem LPost.n {w w' : World} {L : List (Int × Int)} {n : Nat} {e : Ending} (hl : L.length = n) (h : LPost w L e w') : LPostN w L n e w' := by
  obtain ⟨p, c, he, h1, h2⟩ := h
  exact ⟨p, c, by rw [he, hl], h1, h2⟩

theorem addL_get (u v : List (Int × Int)) (k : Nat) (x y : Int × Int) (hx : u[k]? = some x) (hy : v[k]? = some y) : (addL u v)[k]? = some (x.1 + y.1, x.2 + y.2) := by
  obtain ⟨hk, rfl⟩ := List.getElem?_eq_some_iff.1 hx
  simp [addL, hk, List.getD, hy]

theorem mul_bound (c x : Int) (a b : Nat) (hc : -(a : Int) ≤ c ∧ c ≤ a) (hx : -(b : Int) ≤ x ∧ x ≤ b) : -((a * b : Nat) : Int) ≤ c * x ∧ c * x ≤ ((a * b : Nat) : Int) := by
  have h1 : (c * x).natAbs = c.natAbs * x.natAbs := Int.natAbs_mul c x
  have h2 : c.natAbs * x.natAbs ≤ a * b := Nat.mul_le_mul (by omega) (by omega)
  omega

theorem fits_of {L : List (Int × Int)} (h : ∀ x ∈ L, (-1048576 ≤ x.1 ∧ x.1 ≤ 1048576) ∧ (-1048576 ≤ x.2 ∧ x.2 ≤ 1048576)) : L.all fitsP = true := by
  rw [List.all_eq_true]
  intro x hx
  obtain ⟨h1, h2⟩ := h x hx
  unfold fitsP
  rw [Bool.and_eq_true]
  exact ⟨fitP_iff.2 h1, fitP_iff.2 h2⟩

theorem addL_bound {u v : List (Int × Int)} (hl : v.length = u.length) (hu : ∀ x ∈ u, (-1000 ≤ x.1 ∧ x.1 ≤ 1000) ∧ (-1000 ≤ x.2 ∧ x.2 ≤ 1000)) (hv : ∀ x ∈ v, (-1000 ≤ x.1 ∧ x.1 ≤ 1000) ∧ (-1000 ≤ x.2 ∧ x.2 ≤ 1000)) : ∀ x ∈ addL u v, (-1048576 ≤ x.1 ∧ x.1 ≤ 1048576) ∧ (-1048576 ≤ x.2 ∧ x.2 ≤ 1048576) := by
  intro z hz
  obtain ⟨k, hk, rfl⟩ := List.getElem_of_mem hz
  have hk' : k < u.length := by rw [addL_length] at hk; exact hk
  have e := addL_get u v k _ _ (List.getElem?_eq_getElem hk') (List.getElem?_eq_getElem (show k < v.length by omega))
  rw [List.getElem?_eq_getElem hk] at e
  have e2 := Option.some.inj e
  rw [e2]
  have h1 := hu _ (List.getElem_mem hk')
  have h2 := hv _ (List.getElem_mem (show k < v.length by omega))
  refine ⟨⟨?_, ?_⟩, ⟨?_, ?_⟩⟩ <;> simp only <;> omega

theorem mulL_bound {u : List (Int × Int)} {c : Int} (a b : Nat) (hc : -(a : Int) ≤ c ∧ c ≤ a) (hu : ∀ x ∈ u, (-(b : Int) ≤ x.1 ∧ x.1 ≤ b) ∧ (-(b : Int) ≤ x.2 ∧ x.2 ≤ b)) : ∀ x ∈ mulL c u, (-((a * b : Nat) : Int) ≤ x.1 ∧ x.1 ≤ ((a * b : Nat) : Int)) ∧ (-((a * b : Nat) : Int) ≤ x.2 ∧ x.2 ≤ ((a * b : Nat) : Int)) := by
  intro z hz
  unfold mulL at hz
  rw [List.mem_map] at hz
  obtain ⟨x, hx, rfl⟩ := hz
  exact ⟨mul_bound c x.1 a b hc (hu x hx).1, mul_bound c x.2 a b hc (hu x hx).2⟩

theorem turnL_bound {u : List (Int × Int)} (b : Int) (hu : ∀ x ∈ u, (-b ≤ x.1 ∧ x.1 ≤ b) ∧ (-b ≤ x.2 ∧ x.2 ≤ b)) : ∀ x ∈ turnL u, (-b ≤ x.1 ∧ x.1 ≤ b) ∧ (-b ≤ x.2 ∧ x.2 ≤ b) := by
  intro z hz
  unfold turnL at hz
  rw [List.mem_map] at hz
  obtain ⟨x, hx, rfl⟩ := hz
  have := hu x hx
  refine ⟨⟨?_, ?_⟩, ⟨?_, ?_⟩⟩ <;> simp only <;> omega

theorem sgL_bound_i {sd : Int} {h : Nat} {zs : List (Int × Int)} (hm : zs.length ≤ 1024) (hfit : zs.all fitsP = true) : ∀ x ∈ sgL sd h zs, (-1073741824 ≤ x.1 ∧ x.1 ≤ 1073741824) ∧ (-1073741824 ≤ x.2 ∧ x.2 ≤ 1073741824) := by
  intro x hx
  have := sgL_bound (sd := sd) (h := h) hm hfit x hx
  omega

/-- What signed answers, with a length laid open. -/
def SgPost (w : World) (h : Nat) (Z : ByteArray) (L : List (Int × Int)) (e : Ending) (w' : World) : Prop := ∃ a p' cap', e = .returned (.tuple #[.pointer (some a), .slice p' h cap', .string Z, .bool true]) ∧ PL w' p' L ∧ Below w.heap.size w w'

theorem signedN (h n : Nat) (WD sd : Int) (hWD : ((2 * h : Nat) : Int) = WD) (hh1 : 32 ≤ h) (hh2 : h ≤ 512) (hh3 : h % 32 = 0) (hn : 1 ≤ n ∧ n ≤ 1024) (L : List (Int × Int)) (hl : L.length = n) (hb : ∀ x ∈ L, (-1048576 ≤ x.1 ∧ x.1 ≤ 1048576) ∧ (-1048576 ≤ x.2 ∧ x.2 ≤ 1048576)) (p : Option Addr) (cap : Nat) (W : World) (hz : PL W p L) :
    Calls Tryd.prog 8 #[.int .i64 WD, .int .u64 sd, .slice p n cap] W (SgPost W h (cdC sd h L) (sgL sd h L)) := by
  have hE : newE ((2 * h : Nat) : Int) L.length = 0 := by
    have hb : widthB ((2 * h : Nat) : Int) = true := by unfold widthB; simp; omega
    unfold newE
    rw [if_pos hb, if_pos (by omega)]
  have := signed_calls h sd p cap L hE hh2 (by omega) (by omega) (fits_of hb) W hz
  rw [hl, hWD] at this
  exact this

end Go.Proofs.YtcdlmjbjpeokfaaDoor
