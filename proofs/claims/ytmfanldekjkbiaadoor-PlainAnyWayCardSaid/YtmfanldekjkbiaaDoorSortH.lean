/-
  THE LIBRARY AT HITS: slices.SortFunc and slices.Clone, laid out of the shelf; the list of a pile, sorted.
-/
import Derived.Test.YtmfanldekjkbiaaDoorDropW
import Derived.Test.YtmfanldekjkbiaaDoorSortG
import Derived.Shelf.SlSortCmp.NoneTotal
import Derived.Shelf.SlicesE.Clone
namespace Go.Proofs.YtmfanldekjkbiaaDoor
open Go.Shelf Go.RowKit Go.Lib Go.Sort
set_option linter.unusedVariables false

def sortHit_ren : Go.Shelf.Ren := ⟨fun | 6 => 57 | 14 => 70 | 15 => 51 | 20 => 77 | 21 => 78 | 22 => 79 | 23 => 80 | 24 => 81 | 25 => 82 | 26 => 83 | 27 => 84 | 28 => 68 | 29 => 69 | 46 => 86 | 47 => 73 | 48 => 74 | 49 => 87 | 50 => 88 | 57 => 89 | n => n, fun | 0 => 0 | 3 => 3 | 4 => 4 | 5 => 5 | 9 => 9 | 22 => 32 | 24 => 36 | 25 => 100 | 39 => 87 | 45 => 109 | 46 => 110 | 50 => 114 | 53 => 117 | 55 => 119 | 66 => 122 | 70 => 126 | 76 => 133 | 77 => 134 | n => n, fun n => n⟩

theorem sortHit : SlLaysF0.n6 Tryd.prog sortHit_ren := {
  mixed := by kernel_rfl,
  f6 := ⟨Tryd.f57.name, by decide, Tryd.func57.trans (congrArg some (by kernel_rfl))⟩,
  f14 := ⟨Tryd.f70.name, by decide, Tryd.func70.trans (congrArg some (by kernel_rfl))⟩,
  f15 := Tryd.func51.trans (congrArg some (by kernel_rfl)),
  f20 := ⟨Tryd.f77.name, by decide, Tryd.func77.trans (congrArg some (by kernel_rfl))⟩,
  f21 := ⟨Tryd.f78.name, by decide, Tryd.func78.trans (congrArg some (by kernel_rfl))⟩,
  f22 := ⟨Tryd.f79.name, by decide, Tryd.func79.trans (congrArg some (by kernel_rfl))⟩,
  f23 := ⟨Tryd.f80.name, by decide, Tryd.func80.trans (congrArg some (by kernel_rfl))⟩,
  f24 := ⟨Tryd.f81.name, by decide, Tryd.func81.trans (congrArg some (by kernel_rfl))⟩,
  f25 := ⟨Tryd.f82.name, by decide, Tryd.func82.trans (congrArg some (by kernel_rfl))⟩,
  f26 := ⟨Tryd.f83.name, by decide, Tryd.func83.trans (congrArg some (by kernel_rfl))⟩,
  f27 := ⟨Tryd.f84.name, by decide, Tryd.func84.trans (congrArg some (by kernel_rfl))⟩,
  f28 := Tryd.func68.trans (congrArg some (by kernel_rfl)),
  f29 := Tryd.func69.trans (congrArg some (by kernel_rfl)),
  f46 := ⟨Tryd.f86.name, by decide, Tryd.func86.trans (congrArg some (by kernel_rfl))⟩,
  f47 := Tryd.func73.trans (congrArg some (by kernel_rfl)),
  f48 := Tryd.func74.trans (congrArg some (by kernel_rfl)),
  f49 := ⟨Tryd.f87.name, by decide, Tryd.func87.trans (congrArg some (by kernel_rfl))⟩,
  f50 := ⟨Tryd.f88.name, by decide, Tryd.func88.trans (congrArg some (by kernel_rfl))⟩,
  f57 := ⟨Tryd.f89.name, by decide, Tryd.func89.trans (congrArg some (by kernel_rfl))⟩,
  t0 := Tryd.underlying0,
  a0 := Tryd.isAgg0,
  z0 := Tryd.sizeOf0,
  v0 := Tryd.zeroValue0,
  t3 := Tryd.underlying3,
  a3 := Tryd.isAgg3,
  z3 := Tryd.sizeOf3,
  v3 := Tryd.zeroValue3,
  t4 := Tryd.underlying4,
  a4 := Tryd.isAgg4,
  z4 := Tryd.sizeOf4,
  v4 := Tryd.zeroValue4,
  t5 := Tryd.underlying5,
  a5 := Tryd.isAgg5,
  z5 := Tryd.sizeOf5,
  v5 := Tryd.zeroValue5,
  t9 := Tryd.underlying9,
  a9 := Tryd.isAgg9,
  z9 := Tryd.sizeOf9,
  v9 := Tryd.zeroValue9,
  t22 := Tryd.underlying32,
  a22 := Tryd.isAgg32,
  z22 := Tryd.sizeOf32,
  v22 := Tryd.zeroValue32,
  t25 := Tryd.underlying100,
  a25 := Tryd.isAgg100,
  z25 := Tryd.sizeOf100,
  v25 := Tryd.zeroValue100,
  t39 := Tryd.underlying87,
  a39 := Tryd.isAgg87,
  z39 := Tryd.sizeOf87,
  v39 := Tryd.zeroValue87,
  t45 := Tryd.underlying109,
  a45 := Tryd.isAgg109,
  z45 := Tryd.sizeOf109,
  v45 := Tryd.zeroValue109,
  t46 := Tryd.underlying110,
  a46 := Tryd.isAgg110,
  z46 := Tryd.sizeOf110,
  v46 := Tryd.zeroValue110,
  t50 := Tryd.underlying114,
  a50 := Tryd.isAgg114,
  z50 := Tryd.sizeOf114,
  v50 := Tryd.zeroValue114,
  t53 := Tryd.underlying117,
  a53 := Tryd.isAgg117,
  z53 := Tryd.sizeOf117,
  v53 := Tryd.zeroValue117,
  t55 := Tryd.underlying119,
  a55 := Tryd.isAgg119,
  z55 := Tryd.sizeOf119,
  v55 := Tryd.zeroValue119,
  t66 := Tryd.underlying122,
  a66 := Tryd.isAgg122,
  z66 := Tryd.sizeOf122,
  v66 := Tryd.zeroValue122,
  t70 := Tryd.underlying126,
  a70 := Tryd.isAgg126,
  z70 := Tryd.sizeOf126,
  v70 := Tryd.zeroValue126,
  t76 := Tryd.underlying133,
  a76 := Tryd.isAgg133,
  z76 := Tryd.sizeOf133,
  v76 := Tryd.zeroValue133,
  t77 := Tryd.underlying134,
  a77 := Tryd.isAgg134,
  z77 := Tryd.sizeOf134,
  v77 := Tryd.zeroValue134 }

def cloneHit_ren : Go.Shelf.Ren := ⟨fun | 41 => 56 | n => n, fun | 4 => 4 | 22 => 32 | 23 => 36 | n => n, fun n => n⟩

theorem cloneHit : SlLaysE0.n41 Tryd.prog cloneHit_ren := {
  mixed := by kernel_rfl,
  f41 := ⟨Tryd.f56.name, by decide, Tryd.func56.trans (congrArg some (by kernel_rfl))⟩,
  t4 := Tryd.underlying4,
  a4 := Tryd.isAgg4,
  z4 := Tryd.sizeOf4,
  v4 := Tryd.zeroValue4,
  t22 := Tryd.underlying32,
  a22 := Tryd.isAgg32,
  z22 := Tryd.sizeOf32,
  v22 := Tryd.zeroValue32 }

theorem swoH : SWO (ltOf ordH) := by
  have e : ∀ x y, ltOf ordH x y = decide (hless x y) := fun x y => by unfold ltOf; rw [decide_eq_decide]; exact ordH_neg
  refine ⟨fun x => ?_, fun x y z h1 h2 => ?_, fun x y z h1 h2 => ?_⟩
  · rw [e]; simp; exact hless_irrefl x
  · rw [e] at *; simp at *; exact hless_trans h1 h2
  · rw [e] at *; simp at *
    intro h3
    rcases not_hless h1 with rfl | h1'
    · exact h2 h3
    · exact h2 (hless_trans h1' h3)

theorem orderLays (blk off size : Nat) (w : World) : CmpLays Tryd.prog 48 #[] Hv.cells 3 ordH blk off size w :=
  fun _ _ _ _ x y => order_calls x y _

theorem sizeHit (w : World) : (Go.sizeOf 36).run Tryd.prog w = .ok 3 w := Tryd.sizeOf36 w

theorem cellsOne (x : Hv) : ∀ v ∈ x.cells, v.oneCell' = true := by intro v hv; simp [Hv.cells] at hv; rcases hv with rfl | rfl | rfl <;> rfl

/-- slices.SortFunc(list, order) over a row of the call's own. -/
theorem sortH_calls {w : World} {base : Nat} {p : Option Addr} {m cap : Nat} {L : List Hv} (h : w.ownsRow base 36 3 (.slice p m cap) m (encH L)) (hnd : L.Nodup) (hsz : m < 4611686018427387904) :
    Calls Tryd.prog 57 #[.slice p m cap, .func (.func 48) #[] #[]] w fun e w' =>
      e = .returned (.tuple #[]) ∧ ∃ T, w'.ownsRow base 36 3 (.slice p m cap) m (encH T) ∧ T.Perm L ∧ Ris T ∧ w.grownBy w' (Value.slice p m cap).ownBlock := by
  have hlen := own_lenH h
  rcases h.2 with ⟨h', _⟩ | ⟨g, cap', cur, h', hb, hg, hnc, hcm, hcs, htake⟩
  · simp only [Value.slice.injEq] at h'
    obtain ⟨rfl, rfl, rfl⟩ := h'
    have hL : L = [] := List.eq_nil_of_length_eq_zero hlen
    subst hL
    have C := AnyF.slices_SortFunc_none sortHit none 0 (.func (.func 48) #[] #[]) w
    change Calls Tryd.prog 57 _ _ _ at C
    exact C.mono fun e w' ⟨he, hw⟩ => ⟨he, [], by rw [hw]; exact h, List.Perm.refl _, List.Pairwise.nil, by rw [hw]; exact grown_refl w _⟩
  · simp only [Value.slice.injEq] at h'
    obtain ⟨rfl, _, rfl⟩ := h'
    have eg : ∀ args w, (callFunc 48 args).run Tryd.prog w = .ok (.enter 48 args) w := enters_of Tryd.func48 (by kernel_rfl) rfl
    have hH := own_holdsK Hv.cells 3 (fun _ => rfl) h
    have C := AnyQ.slices_SortFunc sortHit 3 Tryd.isAgg36 sizeHit Hv.cells (fun _ => rfl) cellsOne ordH swoH 48 #[] g 0 cap L.toArray w eg (orderLays _ _ _ _) hH (Array.getElem?_eq_some_iff.1 hg).1 (by simp; omega)
    change Calls Tryd.prog 57 _ _ _ at C
    have es : L.toArray.size = m := by simp [hlen]
    rw [es] at C
    refine C.mono ?_
    rintro e w' ⟨he, d', n, os, hp, hs, rfl⟩
    rw [← es] at hp hs
    have hp' := permIn_list hp
    have hsz' : d'.size = L.toArray.size := hp.1
    have hs' := sortedIn_list (d := d') (lt := ltOf ordH) (by rw [hsz']; exact hs)
    have hq := own_sortedK (n := n) Hv.cells 3 (fun _ => rfl) h d'.toList (by simpa using hsz') os
    refine ⟨he, d'.toList, hq.1, by simpa using hp', ?_, hq.2⟩
    have hnd' : d'.toList.Nodup := (hp'.nodup_iff).2 (by simpa using hnd)
    refine (hs'.and hnd').imp ?_
    rintro x y ⟨h1, h2⟩
    have : ¬ hless y x := by
      intro h3
      unfold ltOf at h1
      simp at h1
      have := ordH_neg.2 h3
      omega
    exact (not_hless this).resolve_left (fun e => h2 (by first | exact e.symm | exact e))

theorem runClone {w : World} {base : Nat} {v : Value} {m : Nat} {L : List Hv} (h : w.ownsRow base 36 3 v m (encH L)) (hb : m * 32 ≤ 140737488355328) :
    Calls Tryd.prog 56 #[v] w fun e w' => ∃ v', e = .returned v' ∧ w'.ownsRow w.heap.size 36 3 v' m (encH L) ∧ Below w.heap.size w w' := by
  obtain ⟨i0, hi0, hz0, hz1, hz2⟩ := info_parts hitinfo
  rcases h.2 with ⟨rfl, rfl⟩ | ⟨g, cap, cur, rfl, hbg, hg, hnc, hcm, hcs, htake⟩
  · have C := AnyE.slices_Clone_nil cloneHit 0 0 w
    change Calls Tryd.prog 56 _ _ _ at C
    have hL : L = [] := List.eq_nil_of_length_eq_zero (own_lenH h)
    subst hL
    exact C.mono fun e w' ⟨he, hw⟩ => ⟨_, he, by rw [hw]; exact ⟨rfl, .inl ⟨rfl, rfl⟩⟩, by rw [hw]; exact Below.refl _ _⟩
  · have C := AnyE.slices_Clone cloneHit i0 _ 3 32 hi0 hz0 hz1 hz2 rfl (by decide) sizeHit g 0 m cap (encH L) w h.1 (by omega) hb
      (fun j u hj => by
        have hj' := (List.getElem?_eq_some_iff.1 hj).1
        rw [Nat.zero_add, h.cellAt j (by rw [← h.1]; exact hj')]; exact hj)
      (fun u hu => by
        obtain ⟨x, _, hx⟩ := List.mem_flatMap.1 hu
        exact cellsOne x u hx)
    change Calls Tryd.prog 56 _ _ _ at C
    exact C.mono fun e w' ⟨v', he, ho, _, hbl⟩ => ⟨v', he, ho, hbl⟩

/-- The hits of a pile, in order. -/
def SortedPost (w : World) (L : List Hv) (e : Ending) (w' : World) : Prop :=
  ∃ v' T, e = .returned v' ∧ w'.ownsRow w.heap.size 36 3 v' L.length (encH T) ∧ T.Perm L ∧ Ris T ∧ Below w.heap.size w w'

set_option maxRecDepth 100000 in
set_option maxHeartbeats 1000000 in
theorem sorted_calls (pb mb : Nat) (v : Value) (L : List Hv) (hN : L.length * 32 ≤ 140737488355328) (w : World) (hP : PileIs w pb mb v L) :
    Calls Tryd.prog 47 #[.pointer (some ⟨pb, 0, none⟩)] w (SortedPost w L) := by
  have c0 := hP.cells.1
  have C := runClone hP.row hN
  have hnd := hP.nodup
  have HC := Lib.hid C
  have HN := Lib.hid hN
  have HD := Lib.hid hnd
  clear C hN hnd hP
  go_enter Tryd.func47, Tryd.ntmps47
  go_wp2_with fail
  refine HC.out.mono ?_
  rintro e w1 ⟨v1, rfl, ho, hb⟩
  obtain ⟨p, cap, rfl, _⟩ := own_rd ho
  have S := Lib.hid (sortH_calls ho HD.out (by have := HN.out; omega))
  have HO := Lib.hid ho
  have HB := Lib.hid hb
  clear ho hb c0
  go_wp2_with fail
  refine S.out.mono ?_
  rintro e w2 ⟨rfl, T, ho2, hp, hr, hg⟩
  have HO2 := Lib.hid ho2
  have HP := Lib.hid hp
  have HR := Lib.hid hr
  have HG := Lib.hid hg
  clear ho2 hp hr hg
  go_wp2
  go_ret
  exact ⟨_, T, rfl, HO2.out, HP.out, HR.out, grown_below HB.out HG.out HB.out.size (fun k hk => ((HO.out).lt k hk).1)⟩
end Go.Proofs.YtmfanldekjkbiaaDoor
