/-
  WALK: moved: the lists, each hit of another distance.
-/
import Derived.Test.YtahceakghgmpkaaRefB
namespace Go.Proofs.Ytahceakghgmpkaa
open Go.RowKit ArgK
set_option linter.unusedVariables false

def movedH (i : Nat) (x : Hv) : Hv := ⟨wrap64 (wrap64 (x.d.tdiv 2) + (i : Int)), x.i, x.c⟩

def movedZ (i : Nat) (z : List Hv) : List Hv := z.map (movedH i)

def movedOf (zz : List (List Hv)) : List (List Hv) := (List.range zz.length).map fun i => movedZ i (zz.getD i [])

theorem movedZ_step {i c : Nat} {z : List Hv} (h : c < z.length) : (movedZ i z).take (c + 1) = (movedZ i z).take c ++ [movedH i (hd z c)] := by
  unfold movedZ
  rw [List.take_add_one, List.getElem?_map, hd_get h]
  rfl

/-- The head of the inner loop. -/
def MovIn (w : World) (i : Nat) (z : List Hv) (c : Nat) (v : Value) (wr : World) : Prop :=
  wr.ownsRow w.heap.size 34 3 v c (encH ((movedZ i z).take c)) ∧ Below w.heap.size w wr

set_option maxRecDepth 100000 in
set_option maxHeartbeats 4000000 in
theorem moved_calls (p : Option Addr) (cap : Nat) (zz : List (List Hv)) (hfb : zz.flatten.length + zz.length ≤ 1048576) (w : World) (h1 : HLL w p zz) :
    Calls Try.prog 30 #[.slice p zz.length cap] w fun e w' => ∃ l L, e = .returned l ∧ Below w.heap.size w w' ∧
      Lists w' w.heap.size 23 34 3 zz.length l L (fun j => (zz.getD j []).length) (fun j => encH (movedZ j (zz.getD j []))) := by
  obtain ⟨m, hm⟩ : ∃ m, zz.length = m := ⟨_, rfl⟩
  have hzl : ∀ (b : Nat) (z : List Hv), zz[b]? = some z → z.length ≤ 1048576 := fun b z hz => by
    have h2 := flat_take_le zz (b + 1)
    rw [flat_snoc hz, List.length_append] at h2
    omega
  rw [hm] at hfb ⊢
  have HM := Lib.hid hm
  have H1 := Lib.hid h1
  have HZl := Lib.hid hzl
  clear h1 hm hzl
  obtain ⟨i0, hi, hz0, hz1, hz2⟩ := info_parts hitinfo
  obtain ⟨i1, hj, hy0, hy1, hy2⟩ := info_parts hitsinfo
  have hm1 : m ≤ 1048576 := by omega
  clear hfb
  go_enter Try.func30, Try.ntmps30
  go_wp2
  go_loopw [3, 4] (fun l i ws => ∃ (b : Nat) (L : Nat → Value) (lv : Value), b ≤ m ∧ i = .int .i64 b ∧ lv = l ∧ Below w.heap.size w ws ∧ Hid (Lists ws w.heap.size 23 34 3 b l L (fun j => (zz.getD j []).length) (fun j => encH (movedZ j (zz.getD j []))))) (fun _ i _ => m - (intOf i).toNat)
  case atStart => exact ⟨0, fun _ => undef, _, Nat.zero_le _, rfl, rfl, Below.refl _ _, Lib.hid (Lists.none_ _ _ _ _ _ _ _ _)⟩
  case round =>
    obtain ⟨b, L, lv, hb, rfl, rfl, hbl, HH⟩ := hrel
    obtain ⟨wo, rfl⟩ : ∃ wo : World, wo = wr := ⟨_, rfl⟩
    by_cases hbt : b < m
    · have hbz : b < zz.length := by rw [HM.out]; exact hbt
      obtain ⟨z, hz⟩ : ∃ z, zz[b]? = some z := ⟨_, List.getElem?_eq_getElem hbz⟩
      have hzn := HZl.out b z hz
      obtain ⟨pa, q, c, hpa, hu, hq, hqn⟩ := (H1.out.below hbl) b z hz
      obtain rfl := hpa
      have hgD : zz.getD b [] = z := by rw [List.getD_eq_getElem?_getD, hz]; rfl
      obtain ⟨n, hn⟩ : ∃ n, z.length = n := ⟨_, rfl⟩
      rw [hn] at hu hzn
      have j0 : (0 : Int) ≤ (b : Int) := by omega
      have j1 : (b : Int) < (m : Int) := by omega
      have HGD := Lib.hid hgD
      have HN := Lib.hid hn
      have HQ := Lib.hid hq
      have HU := Lib.hid hu
      have HBl := Lib.hid hbl
      have hsz := hbl.size
      clear hgD hn hq hu hbl hz hbz hqn
      go_wp2
      go_loopw [5, 6] (fun v j ws => ∃ (c : Nat) (lv' : Value), c ≤ n ∧ j = .int .i64 c ∧ lv' = v ∧ MovIn wo b z c lv' ws) (fun _ j _ => n - (intOf j).toNat)
      case atStart => exact ⟨0, _, Nat.zero_le _, rfl, rfl, ⟨rfl, .inl ⟨rfl, rfl⟩⟩, Below.refl _ _⟩
      case round =>
        obtain ⟨e, v', he, rfl, rfl, hv, hbw⟩ := hrel
        obtain ⟨wi, rfl⟩ : ∃ wo : World, wo = wr := ⟨_, rfl⟩
        have hu := (hbw.cell (cell_ltH HU.out)).trans HU.out
        by_cases het : e < n
        · have hel : e < z.length := by rw [HN.out]; exact het
          obtain ⟨pb, hpb, v0, v1, v2⟩ := (HQ.out.below hbw) e _ (hd_get hel)
          obtain rfl := hpb
          have b0 : (0 : Int) ≤ (e : Int) := by omega
          have b1 : (e : Int) < (n : Int) := by omega
          have hva := (hv.alloc (.cells #[.int .i64 (movedH b (hd z e)).d, .int .i64 (movedH b (hd z e)).i, .string (movedH b (hd z e)).c] 34)).alloc (.cells #[.int .i64 (movedH b (hd z e)).d, .int .i64 (movedH b (hd z e)).i, .string (movedH b (hd z e)).c] 34)
          have hnews := World.news_of_block (cs := #[.int .i64 (movedH b (hd z e)).d, .int .i64 (movedH b (hd z e)).i, .string (movedH b (hd z e)).c]) (t := 34) (fr := (0, 0)) (heap_alloc_new (wi.alloc (.cells #[.int .i64 (movedH b (hd z e)).d, .int .i64 (movedH b (hd z e)).i, .string (movedH b (hd z e)).c] 34)) (.cells #[.int .i64 (movedH b (hd z e)).d, .int .i64 (movedH b (hd z e)).i, .string (movedH b (hd z e)).c] 34))
          rw [show (wi.alloc (.cells #[.int .i64 (movedH b (hd z e)).d, .int .i64 (movedH b (hd z e)).i, .string (movedH b (hd z e)).c] 34)).heap.size = wi.heap.size + 1 by simp] at hnews
          have hsw := hbw.size
          have HBW := Lib.hid (((Below.refl wo.heap.size wi).alloc hsw (.cells #[.int .i64 (movedH b (hd z e)).d, .int .i64 (movedH b (hd z e)).i, .string (movedH b (hd z e)).c] 34)).alloc (by simp; omega) (.cells #[.int .i64 (movedH b (hd z e)).d, .int .i64 (movedH b (hd z e)).i, .string (movedH b (hd z e)).c] 34))
          have HNT := Lib.hid (movedZ_step (i := b) hel)
          have HGO := Lib.hid (fun g (hg : v'.ownBlock = some g) => (hv.lt g hg).1)
          have HB0 := Lib.hid hbw
          clear hbw hel
          go_wp2_with (at_builtin; refine wpList_append_two _ rfl _ _ 23 rfl wo.heap.size 34 i0 _ 3 32 Try.underlying23 hi hz0 hz1 hz2 rfl (by decide) v' e _ rfl hva ⟨wi.heap.size + 1, 0, none⟩ 1 1 (movedH b (hd z e)).cells rfl rfl hnews (by simp [Value.oneCell', Hv.cells]) (by decide) (by unfold maxLen; omega) (by omega) (by simp; omega) ?_; intro g' capn y3 hown' hold hlies hlt2)
          have HM2 : Hid (MovIn wo b z (e + 1) (.slice (some ⟨g', 0, none⟩) (e + 1) capn) y3) := Lib.hid (by
            refine ⟨?_, hlies.below (HB0.out.trans HBW.out) (by simp; omega) (fun q hq => HGO.out q hq)⟩
            rw [HNT.out, encH_snoc]
            exact hown')
          clear hown' hold hlies hlt2 hva hnews
          go_wp2
          go_roundw
          case rel => exact ⟨e + 1, _, by omega, by go_num, rfl, HM2.out⟩
          case measure => simp [intOf]; omega
        · obtain rfl : e = n := by omega
          have ez : (movedZ b z).take e = movedZ b z := List.take_of_length_le (by unfold movedZ; rw [List.length_map, HN.out]; exact Nat.le_refl _)
          rw [ez, ← HGD.out] at hv
          obtain ⟨pv, cv, rfl, _⟩ := own_rd hv
          have hl2 := HH.out.below hbw
          have hnew := HH.out.fresh (va := .slice pv e cv) (H := wo.heap.size) (Nat.le_refl _) (fun b hb => (hv.lt b hb).1)
          have hb2' := HBl.out.trans (hbw.mono hsz)
          have hz2 := hbw.size
          have hraB := own_le (base' := w.heap.size) hv hsz
          have HR := Lib.hid (And.intro hl2 (And.intro hraB hnew))
          have hlr := hl2.1
          have HNb : Hid ((zz.getD b []).length = e) := Lib.hid (by rw [HGD.out]; exact HN.out)
          clear hv hl2 hnew hbw hraB ez
          go_wp2_with (at_builtin; refine wpList_append_two _ rfl _ _ 50 rfl w.heap.size 23 i1 (.slice none 0 0) 1 24 Try.underlying50 hj hy0 hy1 hy2 rfl (by decide) lv b _ rfl (hlr.alloc _) ⟨wi.heap.size, 0, none⟩ 1 1 [.slice pv e cv] rfl rfl (World.news_of_block (heap_alloc_new wi _)) (by simp [Value.oneCell']) (by decide) (by unfold maxLen; omega) (by omega) (by simp; omega) ?_; intro g' capn y3 hown' hold hlies hlt2)
          have hln := Lists.step HR.out.1 (by show wi.ownsRow w.heap.size 34 3 (.slice pv e cv) (zz.getD b []).length _; rw [HNb.out]; exact HR.out.2.1) HR.out.2.2 (by decide) _ hown' hlies
          have hbn : Below w.heap.size w y3 := hlies.below (hb2'.alloc (by omega) _) (by simp; omega) (fun b hb => (hlr.lt b hb).1)
          have HLN := Lib.hid hln
          have HBN := Lib.hid hbn
          clear hln hbn hown' hold hlies hlt2
          go_wp2
          go_roundw
          case rel => exact ⟨b + 1, _, _, by omega, by go_num, rfl, HBN.out, Lib.hid HLN.out⟩
          case measure => simp [intOf]; omega
    · obtain rfl : b = m := by omega
      have HE := Lib.hid hbl
      clear hbl
      go_wp2
      go_ret
      exact ⟨_, L, rfl, HE.out, HH.out⟩
end Go.Proofs.Ytahceakghgmpkaa
