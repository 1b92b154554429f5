/-
  WALK: Play of a map of pairs: updates, up to the first that is refused.
-/
import Derived.Test.YtmfanldekjkbiaaDoorUpdP
namespace Go.Proofs.YtmfanldekjkbiaaDoor
open Go.RowKit
set_option linter.unusedVariables false

/-- The pairs behind a updates. -/
def stL (W : Nat) (S : Int) (L : List Pv) (z : List Uv) : Nat → List Pv
  | 0 => L
  | a + 1 => plyL W (S + (a : Int)) (stL W S L z a) (z.getD a default)

/-- Do the first a of them go? -/
def Went (W : Nat) (S : Int) (L : List Pv) (z : List Uv) (a : Nat) : Prop := ∀ b, b < a → plyCode W (S + (b : Int)) (stL W S L z b) (z.getD b default) = 0

theorem Went.step {W : Nat} {S : Int} {L : List Pv} {z : List Uv} {a : Nat} (h : Went W S L z a) (k : plyCode W (S + (a : Int)) (stL W S L z a) (z.getD a default) = 0) : Went W S L z (a + 1) := fun b hb => by
  by_cases e : b = a
  · subst e; exact k
  · exact h b (by omega)

/-- What Play leaves. -/
def PlaysPost (w : World) (mb pb W : Nat) (S : Int) (L : List Pv) (z : List Uv) (e : Ending) (w' : World) : Prop :=
  ∃ (a : Nat) (x : Int), e = .returned (.tuple #[.int .i64 (a : Int), .int .i64 x]) ∧ a ≤ z.length ∧ Went W S L z a ∧ ((a = z.length ∧ x = 0) ∨ (a < z.length ∧ x = plyCode W (S + (a : Int)) (stL W S L z a) (z.getD a default) ∧ x ≠ 0)) ∧
    MapIs w' mb pb W (S + (a : Int)) (stL W S L z a) ∧ FrP w w' (MapB mb pb)

theorem UL.frp {w w' : World} {mb pb : Nat} {p : Option Addr} {z : List Uv} (h : UL w p z) (hf : FrP w w' (MapB mb pb)) (hp : ∀ a, p = some a → 0 < z.length → a.block ≠ mb ∧ a.block ≠ pb) : UL w' p z := by
  intro i x hx
  have hi := (List.getElem?_eq_some_iff.1 hx).1
  obtain ⟨a, e, h1, h2, h3, h4⟩ := h i x hx
  obtain ⟨n1, n2⟩ := hp a e (by omega)
  have hb : (a.add (i * 4)).block = a.block := by unfold Addr.add; split <;> rfl
  have hlt := cell_ltH h1
  rw [hb] at hlt
  have hk : w'.heap[a.block]? = w.heap[a.block]? := hf.2.2.2.2 _ hlt (fun k => by rcases k with k | k; exact n1 k; exact n2 k)
  have hc : ∀ q : Addr, q.block = a.block → w'.cell? q = w.cell? q := fun q hq => World.cell?_of_block (by rw [hq]; exact hk)
  exact ⟨a, e, (hc _ hb).trans h1, (hc ⟨(a.add (i * 4)).block, (a.add (i * 4)).off + 1, none⟩ hb).trans h2, (hc ⟨(a.add (i * 4)).block, (a.add (i * 4)).off + 2, none⟩ hb).trans h3, (hc ⟨(a.add (i * 4)).block, (a.add (i * 4)).off + 3, none⟩ hb).trans h4⟩

set_option maxRecDepth 100000 in
set_option maxHeartbeats 4000000 in
theorem Play_calls {w : World} {mb pb W : Nat} {S : Int} {L : List Pv} (h : MapIs w mb pb W S L) (hS : 0 ≤ S ∧ S ≤ 1152921504606846976) (hW : W ≤ 1024) (p : Option Addr) (cap : Nat) (z : List Uv) (hz : z.length * 40 ≤ 140737488351232) (hg : ∀ x ∈ z, GoodU x) (hU : UL w p z)
    (hp : ∀ a, p = some a → 0 < z.length → a.block ≠ mb ∧ a.block ≠ pb) :
    Calls Tryd.prog 21 #[.pointer (some ⟨mb, 0, none⟩), .slice p z.length cap] w (PlaysPost w mb pb W S L z) := by
  have HM := Lib.hid h
  have HU := Lib.hid hU
  have HP := Lib.hid hp
  have HG := Lib.hid hg
  obtain ⟨n, hn⟩ : ∃ n, z.length = n := ⟨_, rfl⟩
  have HN := Lib.hid hn
  rw [hn] at hz ⊢
  clear h hU hp hg hn
  go_enter Tryd.func21, Tryd.ntmps21
  go_wp2
  go_loopw [11] (fun i ws => ∃ a : Nat, a ≤ n ∧ i = .int .i64 a ∧ Went W S L z a ∧ MapIs ws mb pb W (S + (a : Int)) (stL W S L z a) ∧ FrP w ws (MapB mb pb)) (fun i _ => n - (intOf i).toNat)
  case atStart => exact ⟨0, Nat.zero_le _, rfl, fun b hb => absurd hb (Nat.not_lt_zero _), by simpa [stL] using HM.out, FrP.refl _ _⟩
  case round =>
    obtain ⟨a, ha, rfl, hWt, hMa, hF⟩ := hrel
    obtain ⟨wo, rfl⟩ : ∃ wo : World, wo = wr := ⟨_, rfl⟩
    have HWt := Lib.hid hWt
    have HMa := Lib.hid hMa
    have HF := Lib.hid hF
    clear hWt hMa hF
    by_cases hat : a < n
    · have hal : a < z.length := by rw [HN.out]; exact hat
      obtain ⟨u, hu⟩ : ∃ u, z[a]? = some u := ⟨_, List.getElem?_eq_getElem hal⟩
      have hgu := HG.out u (List.mem_of_getElem? hu)
      have hgD : z.getD a default = u := by rw [List.getD_eq_getElem?_getD, hu]; rfl
      obtain ⟨pa, rfl, u0, u1, u2, u3⟩ := (HU.out.frp HF.out HP.out) a u hu
      have HPl := Lib.hid (fun X (hX : Gr wo X) => play_calls (HMa.out.gr hX) (by omega) hW u hgu)
      obtain ⟨c, hc⟩ : ∃ c, plyCode W (S + (a : Int)) (stL W S L z a) u = c := ⟨_, rfl⟩
      have HC := Lib.hid hc
      have HD := Lib.hid hgD
      have i0 : (0 : Int) ≤ (a : Int) := by omega
      have i1 : (a : Int) < (n : Int) := by omega
      have hG1 : Gr wo (wo.alloc (.cells #[.int .i64 u.s, .int .i64 u.k, .int .i64 u.i, .string u.c] 51)) := (Gr.refl _).alloc _
      have HG1 := Lib.hid hG1
      clear hu hgu hgD hc hal hG1
      go_wp2_with fail
      refine (HPl.out _ HG1.out).mono ?_
      rintro e w3 ⟨he, hM3, hF3⟩
      rw [HC.out] at he
      subst he
      rw [HC.out] at hM3
      have HF3 := Lib.hid ((HF.out.trans_gr HG1.out).trans hF3 (fun _ k => .inl k))
      have HM3 := Lib.hid hM3
      clear hF3 hM3
      by_cases h0 : c = 0
      · have HR : Hid (Went W S L z (a + 1) ∧ MapIs w3 mb pb W (S + ((a + 1 : Nat) : Int)) (stL W S L z (a + 1))) := Lib.hid (by
          refine ⟨HWt.out.step (by rw [HD.out, HC.out]; exact h0), ?_⟩
          have := HM3.out
          rw [if_pos h0] at this
          show MapIs w3 mb pb W (S + ((a + 1 : Nat) : Int)) (plyL W (S + (a : Int)) (stL W S L z a) (z.getD a default))
          rw [HD.out]
          have e1 : S + ((a + 1 : Nat) : Int) = S + (a : Int) + 1 := by omega
          rw [e1]
          exact this)
        rw [h0]
        go_wp2
        go_roundw
        case rel => exact ⟨a + 1, by omega, by go_num, HR.out.1, HR.out.2, HF3.out⟩
        case measure => simp [intOf]; omega
      · have hne : (c != 0) = true := by rw [bne_iff_ne]; exact h0
        have HE : Hid (PlaysPost w mb pb W S L z (.returned (.tuple #[.int .i64 (a : Int), .int .i64 c])) w3) := Lib.hid (by
          refine ⟨a, c, rfl, by rw [HN.out]; omega, HWt.out, .inr ⟨by rw [HN.out]; omega, by rw [HD.out, HC.out], h0⟩, ?_, HF3.out⟩
          have := HM3.out
          rw [if_neg h0] at this
          unfold plyL at this
          rw [HC.out, if_neg h0] at this
          exact this)
        clear h0
        go_wp2
        go_ret2
        exact HE.out
    · obtain rfl : a = n := by omega
      have HE : Hid (PlaysPost w mb pb W S L z (.returned (.tuple #[.int .i64 (a : Int), .int .i64 0])) wo) := Lib.hid
        ⟨a, 0, rfl, by rw [HN.out]; exact Nat.le_refl _, HWt.out, .inl ⟨HN.out.symm, rfl⟩, HMa.out, HF.out⟩
      go_wp2
      go_ret2
      exact HE.out

/-- Whoever plays on from where it was refused is refused again. -/
theorem plays_again {W : Nat} {S : Int} {L : List Pv} {z : List Uv} {a : Nat} {x : Int} (h : (a = z.length ∧ x = 0) ∨ (a < z.length ∧ x = plyCode W (S + (a : Int)) (stL W S L z a) (z.getD a default) ∧ x ≠ 0)) {b : Nat} {y : Int}
    (hb : b ≤ (z.drop a).length) (hw : Went W (S + (a : Int)) (stL W S L z a) (z.drop a) b) (hy : (b = (z.drop a).length ∧ y = 0) ∨ (b < (z.drop a).length ∧ y = plyCode W (S + (a : Int) + (b : Int)) (stL W (S + (a : Int)) (stL W S L z a) (z.drop a) b) ((z.drop a).getD b default) ∧ y ≠ 0)) :
    b = 0 ∧ y = x := by
  rcases h with ⟨h1, rfl⟩ | ⟨h1, h2, h3⟩
  · rw [List.length_drop] at hb hy
    obtain rfl : b = 0 := by omega
    refine ⟨rfl, ?_⟩
    rcases hy with ⟨_, hy⟩ | ⟨hy, _⟩
    · exact hy
    · omega
  · have hd : (z.drop a).getD 0 default = z.getD a default := by
      rw [List.getD_eq_getElem?_getD, List.getD_eq_getElem?_getD, List.getElem?_drop, Nat.add_zero]
    have hb0 : b = 0 := by
      rcases Nat.eq_zero_or_pos b with h | h
      · exact h
      · have := hw 0 h
        rw [hd] at this
        simp only [stL, Int.natCast_zero, Int.add_zero] at this
        exact absurd (h2.trans this) h3
    subst hb0
    refine ⟨rfl, ?_⟩
    rcases hy with ⟨hy, _⟩ | ⟨_, hy, _⟩
    · rw [List.length_drop] at hy; omega
    · rw [hy, h2, hd]
      simp [stL]
end Go.Proofs.YtmfanldekjkbiaaDoor
