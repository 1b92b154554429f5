/-
  CONTRACT of best.First: the first k of the hits of several lists.
-/
import Derived.Test.YtahceakghgmpkaaArgHb
namespace Go.Proofs.Ytahceakghgmpkaa
open Go.RowKit ArgK
set_option linter.unusedVariables false

/-- A readable list of lists of hits. -/
def HLL (w : World) (p : Option Addr) (zz : List (List Hv)) : Prop := ∀ i z, zz[i]? = some z → ∃ a q c, p = some a ∧ w.cell? (a.add i) = some (.slice q z.length c) ∧ HL w q z ∧ (q = none → z.length = 0 ∧ c = 0)

theorem HLL.below {w w' : World} {p : Option Addr} {zz : List (List Hv)} (h : HLL w p zz) (hb : Below w.heap.size w w') : HLL w' p zz := by
  intro i z hz
  obtain ⟨a, q, c, e, h1, h2, h3⟩ := h i z hz
  exact ⟨a, q, c, e, (hb.cell (cell_ltH h1)).trans h1, h2.below hb, h3⟩

theorem HLL.gr {w w' : World} {p : Option Addr} {zz : List (List Hv)} (h : HLL w p zz) (hg : Gr w w') : HLL w' p zz := h.below hg.below

/-- Lists of lists that are not too long, of hits that may be. -/
def GoodLL (zz : List (List Hv)) : Prop := ∀ z ∈ zz, z.length ≤ 4611686018427387904 ∧ ∀ x ∈ z, GoodH x

/-- What First leaves. -/
def FirstPost (w : World) (T : List Hv) (e : Ending) (w' : World) : Prop :=
  ∃ v', e = .returned (.tuple #[v', .int .i64 0]) ∧ w'.ownsRow w.heap.size 34 3 v' T.length (encH T) ∧ Below w.heap.size w w'

theorem flat_snoc {zz : List (List Hv)} {a : Nat} {z : List Hv} (h : zz[a]? = some z) : (zz.take (a + 1)).flatten = (zz.take a).flatten ++ z := by
  rw [List.take_add_one, h]; simp

theorem flat_step {z : List Hv} {b : Nat} (S : List Hv) (h : b < z.length) : S ++ z.take (b + 1) = (S ++ z.take b) ++ [hd z b] := by
  rw [List.take_add_one, hd_get h]; simp

set_option maxRecDepth 100000 in
set_option maxHeartbeats 2000000 in
theorem bestFirst_calls (p : Option Addr) (cap : Nat) (zz : List (List Hv)) (k : Nat) (hk : k ≤ 4096) (hzl : zz.length ≤ 4611686018427387904) (hll : GoodLL zz) (w : World) (h1 : HLL w p zz) :
    Calls Try.prog 32 #[.int .i64 (k : Int), .slice p zz.length cap] w (FirstPost w ((allH zz.flatten).take k)) := by
  obtain ⟨m, hm⟩ : ∃ m, zz.length = m := ⟨_, rfl⟩
  rw [hm] at hzl ⊢
  have HM := Lib.hid hm
  have H1 := Lib.hid h1
  have HGd := Lib.hid hll
  have C := newTop_ok (k : Int) (by omega) (by omega) w
  clear h1 hm hll
  go_enter Try.func32, Try.ntmps32
  go_wp2_with fail
  refine C.mono ?_
  rintro e w1 ⟨tb, F, rfl, hT, hG, hF⟩
  have HO := Lib.hid (Owned.of_new (Below.refl w.heap.size w) hT hG hF)
  clear hT hG hF
  go_wp2
  go_loopw [22] (fun i ws => ∃ a : Nat, a ≤ m ∧ i = .int .i64 a ∧ Owned 68 w tb (k : Int) ((allH (zz.take a).flatten).take k) ws) (fun i _ => m - (intOf i).toNat)
  case atStart => exact ⟨0, Nat.zero_le _, rfl, by simpa [allH] using HO.out⟩
  case round =>
    obtain ⟨a, ha, rfl, hO⟩ := hrel
    obtain ⟨wo, rfl⟩ : ∃ wo : World, wo = wr := ⟨_, rfl⟩
    have HB : Below w.heap.size w wo := by obtain ⟨_, _, h, _⟩ := hO; exact h
    have HOw := Lib.hid hO
    clear hO HO
    by_cases hlt : a < m
    · have hal : a < zz.length := by rw [HM.out]; exact hlt
      obtain ⟨z, hz⟩ : ∃ z, zz[a]? = some z := ⟨_, List.getElem?_eq_getElem hal⟩
      have hzm : z ∈ zz := List.mem_of_getElem? hz
      obtain ⟨hzn, hzg⟩ := HGd.out z hzm
      obtain ⟨pa, q, c, hpa, hu0, hq, _⟩ := H1.out a z hz
      obtain rfl := hpa
      have hu := (HB.cell (cell_ltH hu0)).trans hu0
      obtain ⟨n, hn⟩ : ∃ n, z.length = n := ⟨_, rfl⟩
      rw [hn] at hu hzn
      have i0 : (0 : Int) ≤ (a : Int) := by omega
      have i1 : (a : Int) < (m : Int) := by omega
      have HZ := Lib.hid hz
      have HN := Lib.hid hn
      have HQ := Lib.hid hq
      have HG := Lib.hid hzg
      clear hz hzm hn hq hzg hal HB hu0
      go_wp2
      go_loopw [28] (fun j ws => ∃ b : Nat, b ≤ n ∧ j = .int .i64 b ∧ Owned 68 w tb (k : Int) ((allH ((zz.take a).flatten ++ z.take b)).take k) ws) (fun j _ => n - (intOf j).toNat)
      case atStart => exact ⟨0, Nat.zero_le _, rfl, by simpa using HOw.out⟩
      case round =>
        obtain ⟨b, hb, rfl, hO⟩ := hrel
        obtain ⟨wo2, rfl⟩ : ∃ wo : World, wo = wr := ⟨_, rfl⟩
        have HO2 := Lib.hid hO
        clear hO
        by_cases hbt : b < n
        · have hbl : b < z.length := by rw [HN.out]; exact hbt
          have HJ : Below w.heap.size w wo2 := by obtain ⟨_, _, h, _⟩ := HO2.out; exact h
          obtain ⟨pb, hpb, v0, v1, v2⟩ := (HQ.out.below HJ) b _ (hd_get hbl)
          obtain rfl := hpb
          have b0 : (0 : Int) ≤ (b : Int) := by omega
          have b1 : (b : Int) < (n : Int) := by omega
          have hgd : GoodH (hd z b) := HG.out _ (List.mem_of_getElem? (hd_get hbl))
          have hA := Lib.hid (fun W (hW : Gr wo2 W) => owned_add (HO2.out.gr hW) hk (hd z b) hgd)
          rw [← flat_step _ hbl] at hA
          clear HJ hgd hbl
          go_wp2_with fail
          refine (hA.out _ (Gr.alloc (Gr.refl wo2) _)).mono ?_
          rintro e w2 ⟨rfl, hO2⟩
          have HO3 := Lib.hid hO2
          clear hO2
          go_wp2
          go_roundw
          case rel => exact ⟨b + 1, by omega, by go_num, HO3.out⟩
          case measure => simp [intOf]; omega
        · obtain rfl : b = n := by omega
          have ez : z.take b = z := List.take_of_length_le (by rw [HN.out]; exact Nat.le_refl _)
          rw [ez, ← flat_snoc HZ.out] at HO2
          clear ez
          go_wp2
          go_roundw
          case rel => exact ⟨a + 1, by omega, by go_num, HO2.out⟩
          case measure => simp [intOf]; omega
    · obtain rfl : a = m := by omega
      have hfull : zz.take a = zz := List.take_of_length_le (by rw [HM.out]; exact Nat.le_refl _)
      have HOf := HOw.out
      rw [hfull] at HOf
      have HL := Lib.hid HOf
      clear HOf hfull HB
      go_wp2_with fail
      refine (HL.out.list (by simp; omega)).mono ?_
      rintro e w9 ⟨l, rfl, ho9, hb9⟩
      have hs := HL.out
      have HE : Hid (FirstPost w ((allH zz.flatten).take k) (.returned (.tuple #[l, .int .i64 0])) w9) := Lib.hid (by
        obtain ⟨_, _, h, _⟩ := hs
        exact ⟨l, rfl, own_le ho9 h.size, h.trans (hb9.mono h.size)⟩)
      clear hs ho9 hb9
      go_wp2
      go_ret2
      exact HE.out
end Go.Proofs.Ytahceakghgmpkaa
