/-
  WALKS: container/heap over a merger's heads: Push.
-/
import Derived.Test.YtahdaccmokjgpaaHup
namespace Go.Proofs.Ytahdaccmokjgpaa
open Go.RowKit ArgK
set_option linter.unusedVariables false

/-- What a call on the heads leaves. -/
def HeapPost (w : World) (B hb : Nat) (v : Value) (M : List Hdv) (r : Value) (e : Ending) (w' : World) : Prop :=
  e = .returned r ∧ ∃ v' L', PileD w' B hb v' L' ∧ HeapG abv L' ∧ L'.Perm M ∧ PKeep hb w v w' v'

/-- At the head of each round of up. -/
def UpRelD (w : World) (B hb : Nat) (v0 : Value) (M : List Hdv) (f : Nat) (si : Value) (wr : World) : Prop :=
  ∃ (k : Nat) (Lk : List Hdv) (v : Value), si = .int .i64 k ∧ PileD wr B hb v Lk ∧ UpG abv Lk k ∧ k < Lk.length ∧ Lk.Perm M ∧ PKeep hb w v0 wr v ∧ k + 1 ≤ f

theorem upRelD_swap {w w' : World} {v0 : Value} {B hb g c k p n : Nat} {M Lk : List Hdv} (hP : PileD w' B hb (.slice (some ⟨g, 0, none⟩) n c) Lk) (hn : Lk.length = n) (hU : UpG abv Lk k) (hk : 0 < k) (hkl : k < n) (hp : (k - 1) / 2 = p) (hl : hdless (hdG Lk k) (hdG Lk p)) (hM : Lk.Perm M) (hK : PKeep hb w v0 w' (.slice (some ⟨g, 0, none⟩) n c)) :
    UpRelD w B hb v0 M (p + 1) (.int .i64 p) (setD (setD w' g p (hdG Lk k)) g k (hdG Lk p)).drew := by
  have hpl : p < n := by omega
  obtain ⟨h1, h2⟩ := hP.swap hn (i := p) (j := k) hpl hkl
  have hU2 := upG_step ordD hU (by omega) hk (by rw [hp]; exact hl)
  rw [hp] at hU2
  have e : swpG Lk p k = swpG Lk k p := by
    unfold swpG
    rw [List.set_comm _ _ (by omega)]
  rw [e] at h1
  exact ⟨p, swpG Lk k p, _, rfl, h1, hU2, by rw [swpG_length]; omega, (swpG_perm (by omega) (by omega)).trans hM, hK.trans h2, Nat.le_refl _⟩

set_option maxRecDepth 100000 in
set_option maxHeartbeats 2000000 in
theorem up_calls {w : World} {B hb k : Nat} {v0 : Value} {L : List Hdv} (h : PileD w B hb v0 L) (hn : L.length ≤ 1000001) (hU : UpG abv L k) (hk : k < L.length) :
    Calls Try.prog 58 #[.iface 82 (.pointer (some ⟨hb, 0, none⟩)), .int .i64 k] w (HeapPost w B hb v0 L (.tuple #[])) := by
  have HP := Lib.hid h
  have HU := Lib.hid hU
  go_enter Try.func58, Try.ntmps58
  clear h hU
  go_wp2
  go_loopg [1] (L.length + 1) (fun f si wr => UpRelD w B hb v0 L f si wr)
  case atStart => exact ⟨k, L, v0, rfl, HP.out, HU.out, hk, List.Perm.refl _, PKeep.refl _ _ _, by omega⟩
  case round =>
    obtain ⟨k, Lk, v, rfl, hPk, hUk, hkl, hpk, hKk, hfk⟩ := hrel
    obtain ⟨wo, rfl⟩ : ∃ wo : World, wo = wr := ⟨_, rfl⟩
    clear HP HU hk
    have hll := hpk.length_eq
    have HPost : Hid (HeapG abv Lk → ∀ W, Below wo.heap.size wo W → HeapPost w B hb v0 L (.tuple #[]) (.returned (.tuple #[])) W) := Lib.hid (fun hH W hb => ⟨rfl, v, Lk, hPk.keep (T := []) (Kp.of_below (B := B) hb) (by simp) (by simp), hH, hpk, hKk.trans (PKeep.of_below hb)⟩)
    by_cases hk0 : k = 0
    · subst hk0
      have HH := Lib.hid (upG_stop hUk (.inl rfl))
      clear hPk hUk hKk hpk
      go_wp2
      go_end0
      exact HPost.out HH.out _ (Below.refl _ _)
    · obtain ⟨g, c, rfl⟩ := hPk.at hkl
      obtain ⟨n, hn2⟩ : ∃ n, Lk.length = n := ⟨_, rfl⟩
      obtain ⟨p, hp⟩ : ∃ p, (k - 1) / 2 = p := ⟨_, rfl⟩
      rw [hn2] at hPk hkl hll
      have hnn : n ≤ 1000001 := by omega
      clear hll
      have k1 : (1 : Int) ≤ (k : Int) := by omega
      have k2 : (k : Int) ≤ 1000001 := by omega
      have e2 : ((k : Int) - 1) / 2 = (p : Nat) := by omega
      have hpl : p < n := by omega
      have hne : ((p : Int) == (k : Int)) = false := by rw [beq_eq_false_iff_ne]; omega
      obtain ⟨c0, c1⟩ := hPk.cell
      have hrw := hPk.row
      rw [hn2] at hrw
      have CL := Lib.hid (Less_calls hrw (by omega) (i := k) (j := p) hkl hpl)
      have M1 := meth_Less c0 (.int .i64 k) (.int .i64 p)
      by_cases hl : hdless (hdG Lk k) (hdG Lk p)
      · have CS := Lib.hid (fun W (hW : PileD W B hb (.slice (some ⟨g, 0, none⟩) n c) Lk) => Swap_calls (by have := hW.row; rw [hn2] at this; exact this) (by omega) (i := p) (j := k) hpl hkl (by omega))
        have HStep := Lib.hid (fun W (hb : Below wo.heap.size wo W) => upRelD_swap (w := w) (w' := W) (hPk.keep (T := []) (Kp.of_below (B := B) hb) (by simp) (by simp)) hn2 hUk (by omega) hkl hp hl hpk (hKk.trans (PKeep.of_below hb)))
        have HPk := Lib.hid hPk
        simp only [hl, decide_true] at CL
        clear hPk hUk hKk hpk hrw HPost hn2 hp
        go_wp2_with fail
        refine CL.out.mono ?_
        rintro e w1 ⟨rfl, hb1⟩
        have hP1 := HPk.out.keep (T := []) (Kp.of_below (B := B) hb1) (by simp) (by simp)
        have M2 := meth_Swap hP1.cell.1 (.int .i64 p) (.int .i64 k)
        have CS1 := Lib.hid (CS.out w1 hP1)
        have HS1 := Lib.hid (HStep.out w1 hb1)
        clear hP1 hb1 M1 c0 c1
        go_wp2_with fail
        refine CS1.out.mono ?_
        rintro e w2 ⟨rfl, rfl⟩
        go_wp2
        go_roundg (p + 1)
        case measure => omega
        case rel => exact HS1.out
      · have HH := Lib.hid (upG_stop hUk (.inr (by rw [hp]; exact hl)))
        simp only [hl, decide_false] at CL
        clear hPk hUk hKk hpk hrw hn2 hp
        go_wp2_with fail
        refine CL.out.mono ?_
        rintro e w1 ⟨rfl, hb1⟩
        have HB1 := Lib.hid hb1
        clear hb1
        go_wp2
        go_end0
        exact HPost.out HH.out _ HB1.out
end Go.Proofs.Ytahdaccmokjgpaa
