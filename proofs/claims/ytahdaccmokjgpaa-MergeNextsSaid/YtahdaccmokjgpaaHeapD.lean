/-
  WALKS: container/heap over a merger's heads: down, Pop.
-/
import Derived.Test.YtahdaccmokjgpaaHeapW
import Derived.Deep.DeepCutAuto
namespace Go.Proofs.Ytahdaccmokjgpaa
open Go.RowKit ArgK
set_option linter.unusedVariables false

theorem hdG_take {α : Type} [Inhabited α] {L : List α} {n j : Nat} (h : j < n) : hdG (L.take n) j = hdG L j := by
  unfold hdG
  simp only [List.getD, List.getElem?_take_of_lt h]

theorem swpG_take {α : Type} [Inhabited α] {L : List α} {n i j : Nat} (hi : i < n) (hj : j < n) : (swpG L i j).take n = swpG (L.take n) i j := by
  unfold swpG
  rw [hdG_take hi, hdG_take hj, List.take_set, List.take_set]

theorem hdG_swp_far {α : Type} [Inhabited α] {L : List α} {i j k : Nat} (hi : i < L.length) (hj : j < L.length) (h1 : k ≠ i) (h2 : k ≠ j) : hdG (swpG L i j) k = hdG L k := by
  rw [hdG_swp hi hj, if_neg h2, if_neg h1]

/-- What down leaves: of the first n a heap, the last as it was. -/
def DownPost (w : World) (B hb n : Nat) (v : Value) (T : List Hdv) (z : Hdv) (e : Ending) (w' : World) : Prop :=
  (∃ b, e = .returned (.bool b)) ∧ ∃ v' L', PileD w' B hb v' L' ∧ L'.length = n + 1 ∧ HeapG abv (L'.take n) ∧ (L'.take n).Perm T ∧ hdG L' n = z ∧ PKeep hb w v w' v'

/-- At the head of each round of down. -/
def DnRelD (w : World) (B hb n : Nat) (v0 : Value) (T : List Hdv) (z : Hdv) (f : Nat) (si : Value) (wr : World) : Prop :=
  ∃ (k : Nat) (Lk : List Hdv) (v : Value), si = .int .i64 k ∧ PileD wr B hb v Lk ∧ Lk.length = n + 1 ∧ DnG abv (Lk.take n) k ∧ (k < n ∨ n = 0 ∧ k = 0) ∧ (Lk.take n).Perm T ∧ hdG Lk n = z ∧ PKeep hb w v0 wr v ∧ n - k + 1 ≤ f

theorem dnRelD_swap {w w' : World} {v0 : Value} {B hb g c k x n : Nat} {T Lk : List Hdv} {z : Hdv} (hP : PileD w' B hb (.slice (some ⟨g, 0, none⟩) (n + 1) c) Lk) (hn : Lk.length = n + 1) (hD : DnG abv (Lk.take n) k) (hk : k < n) (hx : x < n) (hx1 : x = 2 * k + 1 ∨ x = 2 * k + 2) (hl : hdless (hdG Lk x) (hdG Lk k))
    (hmin : ∀ j, j < n → j = 2 * k + 1 ∨ j = 2 * k + 2 → ¬ hdless (hdG Lk j) (hdG Lk x)) (hT : (Lk.take n).Perm T) (hz : hdG Lk n = z) (hK : PKeep hb w v0 w' (.slice (some ⟨g, 0, none⟩) (n + 1) c)) :
    DnRelD w B hb n v0 T z (n - x + 1) (.int .i64 x) (setD (setD w' g k (hdG Lk x)) g x (hdG Lk k)).drew := by
  obtain ⟨h1, h2⟩ := hP.swap hn (i := k) (j := x) (by omega) (by omega)
  have htl : (Lk.take n).length = n := by rw [List.length_take, hn]; omega
  refine ⟨x, swpG Lk k x, _, rfl, h1, by rw [swpG_length]; exact hn, ?_, .inl hx, ?_, ?_, hK.trans h2, Nat.le_refl _⟩
  · rw [swpG_take hk hx]
    refine dnG_step ordD hD (by omega) (by omega) (by omega) ?_ ?_
    · rw [hdG_take hk, hdG_take hx]; exact hl
    · intro j j0 hj hp
      rw [hdG_take (by omega), hdG_take (by omega)]
      exact hmin j (by omega) (by omega)
  · rw [swpG_take hk hx]
    exact (swpG_perm (by omega) (by omega)).trans hT
  · rw [hdG_swp_far (by omega) (by omega) (by omega) (by omega)]; exact hz

theorem child_of (Lk : List Hdv) {k n : Nat} (h : 2 * k + 1 < n) : ∃ c, c < n ∧ (∀ j, j < n → j = 2 * k + 1 ∨ j = 2 * k + 2 → ¬ hdless (hdG Lk j) (hdG Lk c)) ∧
    ((2 * k + 2 < n ∧ hdless (hdG Lk (2 * k + 2)) (hdG Lk (2 * k + 1)) ∧ c = 2 * k + 2) ∨ (2 * k + 2 < n ∧ ¬ hdless (hdG Lk (2 * k + 2)) (hdG Lk (2 * k + 1)) ∧ c = 2 * k + 1) ∨ (¬ 2 * k + 2 < n ∧ c = 2 * k + 1)) := by
  by_cases h1 : 2 * k + 2 < n
  · by_cases h2 : hdless (hdG Lk (2 * k + 2)) (hdG Lk (2 * k + 1))
    · refine ⟨2 * k + 2, h1, fun j hj hc => ?_, .inl ⟨h1, h2, rfl⟩⟩
      rcases hc with rfl | rfl
      · exact hdless_asymm h2
      · exact hdless_irrefl _
    · refine ⟨2 * k + 1, h, fun j hj hc => ?_, .inr (.inl ⟨h1, h2, rfl⟩)⟩
      rcases hc with rfl | rfl
      · exact hdless_irrefl _
      · exact h2
  · refine ⟨2 * k + 1, h, fun j hj hc => ?_, .inr (.inr ⟨h1, rfl⟩)⟩
    rcases hc with rfl | rfl
    · exact hdless_irrefl _
    · omega

set_option maxRecDepth 100000 in
set_option maxHeartbeats 2000000 in
theorem down_calls {w : World} {B hb n : Nat} {v0 : Value} {L : List Hdv} (h : PileD w B hb v0 L) (hn : n ≤ 1000001) (hl : L.length = n + 1) (hD : DnG abv (L.take n) 0) :
    Calls Try.prog 59 #[.iface 82 (.pointer (some ⟨hb, 0, none⟩)), .int .i64 0, .int .i64 n] w (DownPost w B hb n v0 (L.take n) (hdG L n)) := by
  have HR0 : Hid (DnRelD w B hb n v0 (L.take n) (hdG L n) (n + 1) (.int .i64 0) w) := Lib.hid ⟨0, L, v0, rfl, h, hl, hD, by omega, List.Perm.refl _, rfl, PKeep.refl _ _ _, by omega⟩
  generalize L.take n = T at HR0 ⊢
  generalize hdG L n = z at HR0 ⊢
  clear h hl hD
  go_enter Try.func59, Try.ntmps59
  go_wp2
  go_loopg [7] (n + 1) (fun f si wr => DnRelD w B hb n v0 T z f si wr)
  case atStart => exact HR0.out
  case round =>
    obtain ⟨k, Lk, v, rfl, hPk, hlk, hDk, hkn, hpk, hz, hKk, hfk⟩ := hrel
    obtain ⟨wo, rfl⟩ : ∃ wo : World, wo = wr := ⟨_, rfl⟩
    clear HR0
    have k0 : (0 : Int) ≤ (k : Int) := by omega
    have k2 : (k : Int) ≤ 1000001 := by omega
    have htl : (Lk.take n).length = n := by rw [List.length_take, hlk]; omega
    have HPost : Hid ((∀ j, j < n → j = 2 * k + 1 ∨ j = 2 * k + 2 → ¬ hdless (hdG Lk j) (hdG Lk k)) → ∀ W b, Below wo.heap.size wo W → DownPost w B hb n v0 T z (.returned (.bool b)) W) := Lib.hid (fun hH W b hb => ⟨⟨b, rfl⟩, v, Lk, hPk.keep (T := []) (Kp.of_below (B := B) hb) (by simp) (by simp), hlk, dnG_stop hDk (fun j j0 hj hp => by
      rw [htl] at hj
      rw [hdG_take (by omega), hdG_take (by omega)]
      exact hH j hj (by omega)), hpk, hz, hKk.trans (PKeep.of_below hb)⟩)
    by_cases hA : n ≤ 2 * k + 1
    · have HH : ∀ b, DownPost w B hb n v0 T z (.returned (.bool b)) wo := fun b => HPost.out (fun j hj hc => by omega) wo b (Below.refl _ _)
      have HH := Lib.hid HH
      have hi : (n : Int) ≤ 2 * (k : Int) + 1 := by omega
      clear hPk hDk hKk hpk hlk htl hz HPost hkn
      go_wp2
      go_ret
      exact HH.out _
    · obtain ⟨c, hcn, hmin, hc⟩ := child_of Lk (k := k) (n := n) (by omega)
      obtain ⟨g, cp, rfl⟩ := hPk.at (j := n) (by omega)
      rw [hlk] at hPk
      obtain ⟨c0, c1⟩ := hPk.cell
      have hrw := hPk.row
      rw [hlk] at hrw
      have hi : (2 : Int) * (k : Int) + 1 < (n : Int) := by omega
      have HPk := Lib.hid hPk
      have HDk := Lib.hid hDk
      have HKk := Lib.hid hKk
      have HLk := Lib.hid hlk
      have HTk := Lib.hid hpk
      have HMin := Lib.hid hmin
      have HRw := Lib.hid hrw
      have HZ := Lib.hid hz
      clear hPk hDk hKk hpk hlk htl hz hmin hrw
      have hc2 : c = 2 * k + 1 ∨ c = 2 * k + 2 := by omega
      rcases hc with ⟨h1, h2, h3⟩ | ⟨h1, h2, h3⟩ | ⟨h1, h3⟩
      case' inl =>
        have CL := Less_calls HRw.out (by omega) (i := 2 * k + 2) (j := 2 * k + 1) (by omega) (by omega)
        simp only [h2, decide_true] at CL
        have M1 := meth_Less c0 (.int .i64 (2 * k + 2 : Nat)) (.int .i64 (2 * k + 1 : Nat))
        have e3 : 2 * (k : Int) + 1 + 1 = (c : Int) := by omega
        have e1 : ((2 * k + 2 : Nat) : Int) = (c : Int) := by omega
        have e2 : ((2 * k + 1 : Nat) : Int) = 2 * (k : Int) + 1 := by omega
        have hi2 : (c : Int) < (n : Int) := by omega
        rw [e1, e2] at CL M1
        have HC := Lib.hid CL
        clear CL e1 e2 h1 h2 h3 hc2
        go_wp2_with fail
        refine HC.out.mono ?_
        rintro e wx ⟨rfl, hb1⟩
        have hc2 : c = 2 * k + 1 ∨ c = 2 * k + 2 := by omega
      case' inr.inl =>
        have CL := Less_calls HRw.out (by omega) (i := 2 * k + 2) (j := 2 * k + 1) (by omega) (by omega)
        simp only [h2, decide_false] at CL
        have M1 := meth_Less c0 (.int .i64 (2 * k + 2 : Nat)) (.int .i64 (2 * k + 1 : Nat))
        have e3 : 2 * (k : Int) + 1 = (c : Int) := by omega
        have e1 : ((2 * k + 2 : Nat) : Int) = (c : Int) + 1 := by omega
        have e2 : ((2 * k + 1 : Nat) : Int) = (c : Int) := by omega
        have hi2 : (c : Int) + 1 < (n : Int) := by omega
        rw [e1, e2] at CL M1
        rw [e3] at hi
        have HC := Lib.hid CL
        clear CL e1 e2 h1 h2 h3 hc2
        go_wp2_with fail
        refine HC.out.mono ?_
        rintro e wx ⟨rfl, hb1⟩
        have hc2 : c = 2 * k + 1 ∨ c = 2 * k + 2 := by omega
      case' inr.inr =>
        have hi2 : ¬ ((c : Int) + 1 < (n : Int)) := by omega
        have e3 : 2 * (k : Int) + 1 = (c : Int) := by omega
        rw [e3] at hi
        obtain ⟨wx, hwx, hb1⟩ : ∃ wx, wo = wx ∧ Below wo.heap.size wo wx := ⟨wo, rfl, Below.refl _ _⟩
        rw [hwx]
        clear hwx h1 h3
      all_goals
        have hP1 := HPk.out.keep (T := []) (Kp.of_below (B := B) hb1) (by simp) (by simp)
        have hr1 := hP1.row
        rw [HLk.out] at hr1
        have CL := Less_calls hr1 (by omega) (i := c) (j := k) (by omega) (by omega)
        have M1 := meth_Less hP1.cell.1 (.int .i64 c) (.int .i64 k)
        by_cases hlt : hdless (hdG Lk c) (hdG Lk k)
        · simp only [hlt, decide_true] at CL
          have CS := Lib.hid (fun W (hW : PileD W B hb (.slice (some ⟨g, 0, none⟩) (n + 1) cp) Lk) => Swap_calls (by have := hW.row; rw [HLk.out] at this; exact this) (by omega) (i := k) (j := c) (by omega) (by omega) (by omega))
          have HStep := Lib.hid (fun W (hb : Below wo.heap.size wo W) => dnRelD_swap (w := w) (w' := W) (HPk.out.keep (T := []) (Kp.of_below (B := B) hb) (by simp) (by simp)) HLk.out HDk.out (by omega) hcn hc2 hlt HMin.out HTk.out HZ.out (HKk.out.trans (PKeep.of_below hb)))
          have HC := Lib.hid CL
          have HB1 := Lib.hid hb1
          clear CL hb1 hP1 hr1 HPost hc2 c0 c1
          go_wp2_with fail
          refine HC.out.mono ?_
          rintro e w1 ⟨rfl, hb2⟩
          have hb12 := HB1.out.trans (hb2.mono HB1.out.size)
          have hP2 := HPk.out.keep (T := []) (Kp.of_below (B := B) hb12) (by simp) (by simp)
          have M2 := meth_Swap hP2.cell.1 (.int .i64 k) (.int .i64 c)
          have CS1 := Lib.hid (CS.out w1 hP2)
          have HS1 := Lib.hid (HStep.out w1 hb12)
          clear hP2 hb2 hb12 M1 HC
          go_wp2_with fail
          refine CS1.out.mono ?_
          rintro e w2 ⟨rfl, rfl⟩
          go_wp2
          go_roundg (n - c + 1)
          case measure => omega
          case rel => exact HS1.out
        · simp only [hlt, decide_false] at CL
          have HC := Lib.hid CL
          have HB1 := Lib.hid hb1
          have HH : ∀ W, Below wo.heap.size wo W → ∀ b, DownPost w B hb n v0 T z (.returned (.bool b)) W := fun W hW b => HPost.out (fun j hj hjc hlj => HMin.out j hj hjc (by
            rcases not_hdless hlt with q | q
            · exact hdless_trans hlj q
            · exact (hdless_same q).2.1 hlj)) W b hW
          have HH := Lib.hid HH
          clear CL hb1 hP1 hr1 HPost hc2 c0 c1
          go_wp2_with fail
          refine HC.out.mono ?_
          rintro e w1 ⟨rfl, hb2⟩
          have HE := Lib.hid (HH.out w1 (HB1.out.trans (hb2.mono HB1.out.size)))
          clear hb2
          go_wp2
          go_ret
          exact HE.out _
end Go.Proofs.Ytahdaccmokjgpaa
