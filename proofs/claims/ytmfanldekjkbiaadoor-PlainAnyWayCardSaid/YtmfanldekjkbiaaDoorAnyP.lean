/-
  FOR PlainAnyWay: pairs put once more; updates that all go; two rows of numbers held against each other.
-/
import Derived.Test.YtmfanldekjkbiaaDoorCopyM
import Derived.Test.YtmfanldekjkbiaaDoorPlayP
import Derived.Test.YtmfanldekjkbiaaDoorLooksP
namespace Go.Proofs.YtmfanldekjkbiaaDoor
open Go.RowKit
set_option linter.unusedVariables false

theorem fitB_same {c : ByteArray} {n : Nat} (h : c.size = n) : fitB c n = c := by
  have hl : c.data.toList.length = n := h
  unfold fitB fitL
  rw [hl, Nat.sub_self, List.replicate_zero, List.append_nil, List.take_of_length_le (by omega)]

theorem fillL_all {W : Nat} : ∀ (z acc : List Pv), FitP W z → ((acc ++ z).map (·.i)).Nodup → (acc ++ z).length ≤ 80 → fillL (W / 8) acc z = acc ++ z
  | [], acc, _, _, _ => by rw [fillL_nil, List.append_nil]
  | p :: ps, acc, hF, hn, hl => by
    obtain ⟨h1, h2, h3⟩ := hF p (by simp)
    have hne : hasId acc p.i = false := by
      cases hb : hasId acc p.i with
      | false => rfl
      | true =>
        obtain ⟨r, hr, e⟩ := hasId_iff.1 hb
        rw [List.map_append, List.nodup_append] at hn
        exact absurd e (hn.2.2 r.i (List.mem_map.2 ⟨r, hr, rfl⟩) p.i (by simp))
    have ha : addF (W / 8) acc p = acc ++ [p] := by
      unfold addF
      rw [if_neg (by rw [hne]; simp [h1, h2]), fitB_same h3]
    have hlt : acc.length < 80 := by rw [List.length_append, List.length_cons] at hl; omega
    rw [fillL, if_pos hlt, ha, fillL_all ps (acc ++ [p]) (fun r hr => hF r (by simp [hr])) (by simpa using hn) (by simpa using hl)]
    simp

/-- The updates that put these pairs. -/
def upsOf (R : List Pv) : List Uv := (List.range R.length).map fun (j : Nat) => ⟨(j : Int) + 1, 1, (R.getD j default).i, (R.getD j default).c⟩

theorem upsOf_length (R : List Pv) : (upsOf R).length = R.length := by simp [upsOf]

theorem upsOf_get {R : List Pv} {j : Nat} (h : j < R.length) : (upsOf R).getD j default = ⟨(j : Int) + 1, 1, (R.getD j default).i, (R.getD j default).c⟩ := by
  rw [List.getD_eq_getElem?_getD]
  simp [upsOf, h]

theorem ups_go {W : Nat} {R : List Pv} (hF : FitP W R) (hn : (R.map (·.i)).Nodup) (hl : R.length ≤ 80) : ∀ a, a ≤ R.length → stL W 0 [] (upsOf R) a = R.take a ∧ Went W 0 [] (upsOf R) a
  | 0, _ => ⟨rfl, fun b hb => absurd hb (Nat.not_lt_zero _)⟩
  | a + 1, ha => by
    obtain ⟨h1, h2⟩ := ups_go hF hn hl a (by omega)
    have hr : R[a]? = some (R.getD a default) := by rw [List.getD_eq_getElem?_getD, List.getElem?_eq_getElem (by omega)]; rfl
    obtain ⟨p, hp⟩ : ∃ p, R.getD a default = p := ⟨_, rfl⟩
    rw [hp] at hr
    obtain ⟨b1, b2, b3⟩ := hF p (List.mem_of_getElem? hr)
    have hne : hasId (R.take a) p.i = false := by
      cases hb : hasId (R.take a) p.i with
      | false => rfl
      | true =>
        obtain ⟨r, hrm, e⟩ := hasId_iff.1 hb
        obtain ⟨j, hj, e2⟩ := List.getElem_of_mem hrm
        rw [List.length_take] at hj
        have hj2 : R[j]? = some r := by
          rw [List.getElem_take] at e2
          rw [List.getElem?_eq_getElem (by omega), e2]
        have hpw := List.pairwise_map.1 hn
        obtain ⟨x1, y1⟩ := List.getElem?_eq_some_iff.1 hj2
        obtain ⟨x2, y2⟩ := List.getElem?_eq_some_iff.1 hr
        have := List.pairwise_iff_getElem.1 hpw j a x1 x2 (by omega)
        rw [y1, y2] at this
        exact absurd e this
    have hc : plyCode W (0 + (a : Int)) (stL W 0 [] (upsOf R) a) ((upsOf R).getD a default) = 0 := by
      rw [upsOf_get (by omega), h1, hp]
      unfold plyCode
      rw [if_neg (by simp)]
      simp only [if_true]
      unfold insCode
      have hlt : (R.take a).length = a := by rw [List.length_take]; omega
      rw [if_neg (by simp [b1, b2]), if_neg (by simp [b3]), if_neg (by simp [hne]), if_neg (by rw [hlt]; omega)]
    refine ⟨?_, h2.step hc⟩
    show plyL W (0 + (a : Int)) (stL W 0 [] (upsOf R) a) ((upsOf R).getD a default) = _
    unfold plyL
    rw [if_pos hc, upsOf_get (by omega), h1, hp, List.take_add_one, hr]
    simp

/-- A readable row of numbers. -/
def IL (w : World) (p : Option Addr) (zs : List Int) : Prop := ∀ i d, zs[i]? = some d → ∃ a, p = some a ∧ w.cell? (a.add i) = some (.int .i64 d)

theorem IL.gr {w w' : World} {p : Option Addr} {zs : List Int} (h : IL w p zs) (hb : Below w.heap.size w w') : IL w' p zs := fun i d hd => by
  obtain ⟨a, e, h1⟩ := h i d hd
  exact ⟨a, e, (hb.cell (cell_ltH h1)).trans h1⟩

set_option maxRecDepth 100000 in
set_option maxHeartbeats 1000000 in
theorem sameI_calls (p1 p2 : Option Addr) (c1 c2 : Nat) (zs : List Int) (n : Nat) (hn : zs.length = n) (hzl : n ≤ 4611686018427387904) (w : World) (h1 : IL w p1 zs) (h2 : IL w p2 zs) :
    Calls Tryd.prog 22 #[.slice p1 n c1, .slice p2 n c2] w fun x w' => x = .returned (.bool true) ∧ Gr w w' := by
  have HN := Lib.hid hn
  have H1 := Lib.hid h1
  have H2 := Lib.hid h2
  clear h1 h2 hn
  go_enter Tryd.func22, Tryd.ntmps22
  go_wp2
  go_loopw [5] (fun i ws => ∃ k : Nat, k ≤ n ∧ i = .int .i64 k ∧ Gr w ws) (fun i _ => n - (intOf i).toNat)
  case atStart => exact ⟨0, Nat.zero_le _, rfl, Gr.refl _⟩
  case round =>
    obtain ⟨k, hk, rfl, HB⟩ := hrel
    by_cases hlt : k < n
    · obtain ⟨x, hx⟩ : ∃ x, zs[k]? = some x := ⟨_, List.getElem?_eq_getElem (by rw [HN.out]; exact hlt)⟩
      obtain ⟨a1, rfl, u0⟩ := (H1.out.gr HB.below) k x hx
      obtain ⟨a2, rfl, v0⟩ := (H2.out.gr HB.below) k x hx
      have hki : (k : Int) < (n : Int) := by omega
      have hk0 : (0 : Int) ≤ (k : Int) := by omega
      have hq : (x != x) = false := by simp
      clear hx
      go_wp2
      go_quiet (fail)
      have HB2 := HB.drewN nq
      go_wp2
      go_roundw
      case rel => exact ⟨k + 1, by omega, by go_num, HB2⟩
      case measure => simp [intOf]; omega
    · obtain rfl : k = n := by omega
      go_wp2
      go_ret
      exact ⟨rfl, HB⟩
end Go.Proofs.YtmfanldekjkbiaaDoor
