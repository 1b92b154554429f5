/-
  PLAIN LAWS on whole frames with something behind them (no program in sight).
-/
import Derived.Test.YtebbmifpidbdlaaDoorFramesP
import Derived.Test.YtebbmifpidbdlaaDoorSealLaws
import Derived.Test.YtebbmifpidbdlaaDoorArgFr
namespace Go.Proofs.YtebbmifpidbdlaaDoor
set_option linter.unusedVariables false

/-- Whole frames, one behind the other. -/
def concF (gs : List (Nat × List UInt8)) : List UInt8 := gs.flatMap fun g => frameB g.1 g.2
def placed : Nat → List (Nat × List UInt8) → List (Int × List UInt8 × Nat)
  | _, [] => []
  | a, g :: gs => ((g.1 : Int), g.2, a) :: placed (a + g.2.length + 14) gs
theorem placed_length : ∀ (a : Nat) (gs : List (Nat × List UInt8)), (placed a gs).length = gs.length
  | _, [] => rfl
  | a, g :: gs => by simp [placed, placed_length]
theorem placed_get : ∀ (gs : List (Nat × List UInt8)) (a i : Nat) (g : Nat × List UInt8), gs[i]? = some g → ∃ y, (placed a gs)[i]? = some ((g.1 : Int), g.2, y)
  | [], _, _, _, h => by simp at h
  | x :: gs, a, 0, g, h => by
    simp at h; subst h
    exact ⟨a, rfl⟩
  | x :: gs, a, i + 1, g, h => placed_get gs _ i g (by simpa using h)
def okG (g : Nat × List UInt8) : Prop := 1 ≤ g.1 ∧ g.1 ≤ 255 ∧ g.2.length ≤ 65536
theorem frames_all : ∀ (gs : List (Nat × List UInt8)) (pre t : List UInt8) (n : Nat), (∀ g ∈ gs, okG g) → (parseR (pre ++ (concF gs ++ t)) ((pre.length + (concF gs).length : Nat) : Int)).2.2.2 ≠ 0 → gs.length ≤ n →
    frGo (pre ++ (concF gs ++ t)) n pre.length = (placed pre.length gs, pre.length + (concF gs).length)
  | [], pre, t, n, _, h, _ => by
    rw [frGo_end _ _ _ (by simpa [concF] using h)]
    rfl
  | g :: gs, pre, t, 0, _, _, hn => by simp at hn
  | g :: gs, pre, t, n + 1, hg, h, hn => by
    obtain ⟨h1, h2, h3⟩ := hg g (by simp)
    have hT : pre ++ (concF (g :: gs) ++ t) = pre ++ (frameB g.1 g.2 ++ (concF gs ++ t)) := by simp [concF]
    have hT2 : pre ++ (concF (g :: gs) ++ t) = (pre ++ frameB g.1 g.2) ++ (concF gs ++ t) := by simp [concF]
    have hp := parseR_frame pre g.1 g.2 (concF gs ++ t) h1 h2 h3
    rw [← hT] at hp
    have hl : (pre ++ frameB g.1 g.2).length = pre.length + g.2.length + 14 := by rw [List.length_append, frameB_length]; omega
    have hcl : (concF (g :: gs)).length = g.2.length + 14 + (concF gs).length := by
      show (frameB g.1 g.2 ++ concF gs).length = _
      rw [List.length_append, frameB_length]
    rw [frGo_step _ _ _ (by rw [hp]), hp]
    have ih := frames_all gs (pre ++ frameB g.1 g.2) t n (fun x hx => hg x (by simp [hx])) (by
      rw [← hT2, hl]
      rw [hcl] at h
      rw [show pre.length + g.2.length + 14 + (concF gs).length = pre.length + (g.2.length + 14 + (concF gs).length) by omega]
      exact h) (by simpa using hn)
    rw [← hT2, hl] at ih
    simp only
    rw [ih, hcl]
    simp only [placed]
    congr 1
    omega
theorem concF_len : ∀ gs : List (Nat × List UInt8), 14 * gs.length ≤ (concF gs).length
  | [] => by simp
  | g :: gs => by
    have := concF_len gs
    show _ ≤ (frameB g.1 g.2 ++ concF gs).length
    rw [List.length_append, frameB_length, List.length_cons]
    omega
theorem framesR_torn (gs : List (Nat × List UInt8)) (t : List UInt8) (hg : ∀ g ∈ gs, okG g) (ht : ∀ a, (parseAt a t).2.2.2 ≠ 0) :
    framesR (concF gs ++ t) = (placed 0 gs, (concF gs).length) := by
  have h := frames_all gs [] t ((concF gs ++ t).length + 1) hg (by
    unfold parseR
    rw [if_neg (by simp; omega)]
    simp only [List.nil_append, List.length_nil, Nat.zero_add, Int.toNat_natCast, List.drop_left]
    exact ht _) (by have := concF_len gs; simp; omega)
  simpa [framesR] using h

/-- The frames that go, of a list. -/
def goodL (z : List (Int × ByteArray × Int)) : List (Nat × List UInt8) := z.filterMap fun x => if (frameR x.1 x.2.1.data.toList).2 = 0 then some (x.1.toNat, x.2.1.data.toList) else none
theorem goodL_ok (z : List (Int × ByteArray × Int)) : ∀ g ∈ goodL z, okG g := by
  intro g hg
  obtain ⟨x, hx, h⟩ := List.mem_filterMap.1 hg
  split at h
  · rename_i h0
    obtain ⟨k, hk, h1, h2, h3, _⟩ := frameR_is _ _ h0
    cases h
    refine ⟨?_, ?_, h3⟩ <;> simp [hk] <;> omega
  · cases h
theorem goodL_snoc (z : List (Int × ByteArray × Int)) (x : Int × ByteArray × Int) : goodL (z ++ [x]) = goodL z ++ (if (frameR x.1 x.2.1.data.toList).2 = 0 then [(x.1.toNat, x.2.1.data.toList)] else []) := by
  unfold goodL
  rw [List.filterMap_append]
  congr 1
  by_cases h : (frameR x.1 x.2.1.data.toList).2 = 0 <;> simp [h]
theorem concF_append (a b : List (Nat × List UInt8)) : concF (a ++ b) = concF a ++ concF b := by simp [concF]
theorem goodL_bulk : ∀ z : List (Int × ByteArray × Int), (concF (goodL z)).length ≤ 4 * (z.map bkFramed).sum
  | [] => by simp [goodL, concF]
  | x :: z => by
    have ih := goodL_bulk z
    have hx : goodL (x :: z) = (if (frameR x.1 x.2.1.data.toList).2 = 0 then [(x.1.toNat, x.2.1.data.toList)] else []) ++ goodL z := by
      by_cases h : (frameR x.1 x.2.1.data.toList).2 = 0 <;> simp [goodL, h]
    rw [hx, concF_append, List.length_append, List.map_cons, List.sum_cons]
    have hs : x.2.1.data.toList.length = x.2.1.size := rfl
    unfold bkFramed at ih ⊢
    split
    · have : (concF [(x.1.toNat, x.2.1.data.toList)]).length = x.2.1.size + 14 := by simp [concF, frameB_length]
      omega
    · have : (concF []).length = 0 := rfl
      omega
theorem goodL_len (z : List (Int × ByteArray × Int)) : (goodL z).length ≤ z.length := List.length_filterMap_le _ _
theorem concF_le : ∀ gs : List (Nat × List UInt8), (∀ g ∈ gs, okG g) → (concF gs).length ≤ 65550 * gs.length
  | [], _ => by simp [concF]
  | g :: gs, h => by
    have h1 := concF_le gs (fun x hx => h x (by simp [hx]))
    have h2 := (h g (by simp)).2.2
    show (frameB g.1 g.2 ++ concF gs).length ≤ _
    rw [List.length_append, frameB_length, List.length_cons]
    omega
theorem sum_take (z : List (Int × ByteArray × Int)) (i : Nat) : ((z.take i).map bkFramed).sum ≤ (z.map bkFramed).sum := by
  have h : (z.map bkFramed).sum = ((z.take i).map bkFramed).sum + ((z.drop i).map bkFramed).sum := by rw [← List.sum_append, ← List.map_append, List.take_append_drop]
  omega
theorem goodL_at (z : List (Int × ByteArray × Int)) (j : Nat) (x : Int × ByteArray × Int) (hx : z[j]? = some x) (h0 : (frameR x.1 x.2.1.data.toList).2 = 0) : (goodL z)[(goodL (z.take j)).length]? = some (x.1.toNat, x.2.1.data.toList) := by
  have hj := (List.getElem?_eq_some_iff.1 hx).1
  have hd : z = z.take j ++ x :: z.drop (j + 1) := by
    have h1 := List.getElem?_eq_getElem hj
    rw [h1] at hx
    cases hx
    rw [List.getElem_cons_drop, List.take_append_drop]
  have he : goodL z = goodL (z.take j) ++ goodL (x :: z.drop (j + 1)) := by
    conv => lhs; rw [hd]
    unfold goodL
    rw [List.filterMap_append]
  rw [he, List.getElem?_append_right (Nat.le_refl _), Nat.sub_self]
  simp [goodL, h0]
end Go.Proofs.YtebbmifpidbdlaaDoor
