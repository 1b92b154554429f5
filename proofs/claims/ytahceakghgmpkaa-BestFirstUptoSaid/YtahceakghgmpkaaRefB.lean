/-
  CONTRACTS: First of the document and of the program, whatever k.
-/
import Derived.Test.YtahceakghgmpkaaPartsP
import Derived.Test.YtahceakghgmpkaaNear
namespace Go.Proofs.Ytahceakghgmpkaa
open Go.RowKit ArgK
set_option linter.unusedVariables false

/-- A top of the document's, in memory of the call's own. -/
def ROwned (w : World) (ub : Nat) (n : Int) (S : List Hv) (wr : World) : Prop :=
  ∃ G, RefIs 77 wr ub n S G ∧ Below w.heap.size w wr ∧ ∀ b, G b → w.heap.size ≤ b

theorem ROwned.gr {w w1 w2 : World} {ub : Nat} {n : Int} {S : List Hv} (h : ROwned w ub n S w1) (hg : Gr w1 w2) : ROwned w ub n S w2 := by
  obtain ⟨G, h1, h2, h3⟩ := h
  exact ⟨G, h1.below hg.below, h2.trans (hg.below.mono h2.size), h3⟩

theorem ROwned.add {w w1 : World} {ub k : Nat} {H : List Hv} (h1 : ROwned w ub (k : Int) (allH H) w1) (hk : k ≤ 4096) (h : Hv) (hN : ((allH H).length + 1) * 32 ≤ 140737488355328) :
    Calls Try.prog 28 #[.pointer (some ⟨ub, 0, none⟩), h.val] w1 fun e w2 => (∃ b, e = .returned (.bool b)) ∧ ROwned w ub (k : Int) (allH (H ++ [h])) w2 := by
  obtain ⟨G, k1, k2, k3⟩ := h1
  rw [allH_snoc]
  refine (rTop_add k1 hk h hN).mono ?_
  rintro e w2 ⟨rfl, G', g1, g2, g3⟩
  refine ⟨⟨_, rfl⟩, G', g1, k2.trans (g2.below k2.size k3), fun x hx => ?_⟩
  rcases g3 x hx with h | h
  · exact k3 x h
  · exact Nat.le_trans k2.size h

set_option maxRecDepth 100000 in
set_option maxHeartbeats 2000000 in
theorem rFirst_ok (p : Option Addr) (cap : Nat) (zz : List (List Hv)) (k : Nat) (hk : k ≤ 4096) (hzl : zz.length ≤ 1048576) (hfl : zz.flatten.length ≤ 1048576) (hll : GoodLL zz) (w : World) (h1 : HLL w p zz) :
    Calls Try.prog 31 #[.int .i64 (k : Int), .slice p zz.length cap] w (FirstPost w ((allH zz.flatten).take k)) := by
  obtain ⟨m, hm⟩ : ∃ m, zz.length = m := ⟨_, rfl⟩
  have hlen : ∀ H : List Hv, H.length ≤ zz.flatten.length → ((allH H).length + 1) * 32 ≤ 140737488355328 := fun H hH => by
    have := allH_length H; omega
  have hflt := fun a => flat_take_le zz a
  have HLn := Lib.hid hlen
  have HFlt := Lib.hid hflt
  rw [hm] at hzl ⊢
  have HM := Lib.hid hm
  have H1 := Lib.hid h1
  have HGd := Lib.hid hll
  have C := rNewTop_ok (k : Int) (by omega) (by omega) w
  clear h1 hm hll hflt hlen
  go_enter Try.func31, Try.ntmps31
  go_wp2_with fail
  refine C.mono ?_
  rintro e w1 ⟨ub, F, rfl, hT, hG, hF⟩
  have HO : Hid (ROwned w ub (k : Int) (allH []) w1) := Lib.hid ⟨F, hT, hG.below, hF⟩
  clear hT hG hF
  go_wp2
  go_loopw [8] (fun i ws => ∃ a : Nat, a ≤ m ∧ i = .int .i64 a ∧ ROwned w ub (k : Int) (allH (zz.take a).flatten) ws) (fun i _ => m - (intOf i).toNat)
  case atStart => exact ⟨0, Nat.zero_le _, rfl, by simpa using HO.out⟩
  case round =>
    obtain ⟨a, ha, rfl, hO⟩ := hrel
    obtain ⟨wo, rfl⟩ : ∃ wo : World, wo = wr := ⟨_, rfl⟩
    have HB : Below w.heap.size w wo := by obtain ⟨_, _, h, _⟩ := hO; exact h
    have HOw := Lib.hid hO
    clear hO HO
    by_cases hlt : a < m
    · have hal : a < zz.length := by rw [HM.out]; exact hlt
      obtain ⟨z, hz⟩ : ∃ z, zz[a]? = some z := ⟨_, List.getElem?_eq_getElem hal⟩
      have hzm : z ∈ zz := List.mem_of_getElem? hz
      obtain ⟨hzn, hzg⟩ := HGd.out z hzm
      obtain ⟨pa, q, c, hpa, hu0, hq, _⟩ := H1.out a z hz
      obtain rfl := hpa
      obtain ⟨n, hn⟩ : ∃ n, z.length = n := ⟨_, rfl⟩
      rw [hn] at hu0 hzn
      have i0 : (0 : Int) ≤ (a : Int) := by omega
      have i1 : (a : Int) < (m : Int) := by omega
      have HZ := Lib.hid hz
      have HN := Lib.hid hn
      have HQ := Lib.hid hq
      have HG := Lib.hid hzg
      have HU0 := Lib.hid hu0
      clear hz hzm hn hq hzg hal HB hu0
      go_wp2
      go_loopw [9] (fun j ws => ∃ b : Nat, b ≤ n ∧ j = .int .i64 b ∧ ROwned w ub (k : Int) (allH ((zz.take a).flatten ++ z.take b)) ws) (fun j _ => n - (intOf j).toNat)
      case atStart => exact ⟨0, Nat.zero_le _, rfl, by simpa using HOw.out⟩
      case round =>
        obtain ⟨b, hb, rfl, hO⟩ := hrel
        obtain ⟨wo2, rfl⟩ : ∃ wo : World, wo = wr := ⟨_, rfl⟩
        have HO2 := Lib.hid hO
        have HJ : Below w.heap.size w wo2 := by obtain ⟨_, _, h, _⟩ := hO; exact h
        have hu := (HJ.cell (cell_ltH HU0.out)).trans HU0.out
        clear hO
        by_cases hbt : b < n
        · have hbl : b < z.length := by rw [HN.out]; exact hbt
          obtain ⟨pb, hpb, v0, v1, v2⟩ := (HQ.out.below HJ) b _ (hd_get hbl)
          obtain rfl := hpb
          have b0 : (0 : Int) ≤ (b : Int) := by omega
          have b1 : (b : Int) < (n : Int) := by omega
          have hle : ((zz.take a).flatten ++ z.take b).length ≤ zz.flatten.length := by
            have := HFlt.out (a + 1)
            rw [flat_snoc HZ.out, List.length_append] at this
            rw [List.length_append, List.length_take]
            omega
          have hA := Lib.hid (fun W (hW : Gr wo2 W) => (HO2.out.gr hW).add hk (hd z b) (HLn.out _ hle))
          rw [← flat_step _ hbl] at hA
          clear HJ hbl hle
          go_wp2_with fail
          refine (hA.out _ (Gr.refl wo2)).mono ?_
          rintro e w2 ⟨⟨bb, rfl⟩, hO2⟩
          have HO3 := Lib.hid hO2
          clear hO2
          go_wp2
          go_roundw
          case rel => exact ⟨b + 1, by omega, by go_num, HO3.out⟩
          case measure => simp [intOf]; omega
        · obtain rfl : b = n := by omega
          have ez : z.take b = z := List.take_of_length_le (by rw [HN.out]; exact Nat.le_refl _)
          rw [ez, ← flat_snoc HZ.out] at HO2
          clear ez
          go_wp2
          go_roundw
          case rel => exact ⟨a + 1, by omega, by go_num, HO2.out⟩
          case measure => simp [intOf]; omega
    · obtain rfl : a = m := by omega
      have hfull : zz.take a = zz := List.take_of_length_le (by rw [HM.out]; exact Nat.le_refl _)
      have HOf := HOw.out
      rw [hfull] at HOf
      obtain ⟨G, g1, g2, g3⟩ := HOf
      have HG1 := Lib.hid g1
      have HG2 := Lib.hid g2
      clear hfull HB g1 g2 g3
      go_wp2_with fail
      refine (rTop_list HG1.out hk (by have := HLn.out zz.flatten (Nat.le_refl _); omega)).mono ?_
      rintro e w9 ⟨l, rfl, ho9, hb9⟩
      have HE : Hid (FirstPost w ((allH zz.flatten).take k) (.returned (.tuple #[l, .int .i64 0])) w9) := Lib.hid (by
        exact ⟨l, rfl, own_le ho9 HG2.out.size, HG2.out.trans (hb9.mono HG2.out.size)⟩)
      clear ho9 hb9
      go_wp2
      go_ret2
      exact HE.out

set_option maxRecDepth 100000 in
theorem rFirst_bad (v : Value) (k : Int) (h : k < 0 ∨ 4096 < k) (w : World) :
    Calls Try.prog 31 #[.int .i64 k, v] w fun e w' => e = .returned (.tuple #[.slice none 0 0, .int .i64 100]) ∧ w' = w := by
  have C := rNewTop_bad k h w
  go_enter Try.func31, Try.ntmps31
  go_wp2_with fail
  refine C.mono ?_
  rintro e w1 ⟨rfl, rfl⟩
  go_wp2
  go_ret2
  exact ⟨rfl, rfl⟩

set_option maxRecDepth 100000 in
theorem bestFirst_bad (v : Value) (k : Int) (h : k < 0 ∨ 4096 < k) (w : World) :
    Calls Try.prog 32 #[.int .i64 k, v] w fun e w' => e = .returned (.tuple #[.slice none 0 0, .int .i64 100]) ∧ w' = w := by
  have C := newTop_bad k h w
  go_enter Try.func32, Try.ntmps32
  go_wp2_with fail
  refine C.mono ?_
  rintro e w1 ⟨rfl, rfl⟩
  go_wp2
  go_ret2
  exact ⟨rfl, rfl⟩
end Go.Proofs.Ytahceakghgmpkaa
