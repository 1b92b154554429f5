/-
  THE LIBRARY AT HITS: slices.SortFunc and slices.Clone, laid out of the shelf; the list of a pile, sorted.
-/
import Derived.Test.YtahceakghgmpkaaDropW
import Derived.Test.YtahceakghgmpkaaSortG
import Derived.Shelf.SlSortCmp.NoneTotal
import Derived.Shelf.SlicesE.Clone
namespace Go.Proofs.Ytahceakghgmpkaa
open Go.Shelf Go.RowKit Go.Lib Go.Sort
set_option linter.unusedVariables false

def sortHit_ren : Go.Shelf.Ren := ⟨fun | 6 => 49 | 14 => 53 | 15 => 54 | 20 => 57 | 21 => 58 | 22 => 59 | 23 => 60 | 24 => 61 | 25 => 62 | 26 => 63 | 27 => 64 | 28 => 65 | 29 => 66 | 46 => 67 | 47 => 68 | 48 => 69 | 49 => 70 | 50 => 71 | 57 => 72 | n => n, fun | 0 => 0 | 3 => 3 | 4 => 4 | 5 => 5 | 9 => 9 | 22 => 23 | 24 => 34 | 25 => 75 | 39 => 86 | 45 => 91 | 46 => 92 | 50 => 47 | 53 => 98 | 55 => 100 | 66 => 101 | 70 => 105 | 76 => 107 | 77 => 108 | n => n, fun n => n⟩

theorem sortHit : SlLaysF0.n6 Try.prog sortHit_ren := {
  mixed := by kernel_rfl,
  f6 := ⟨Try.f49.name, by decide, Try.func49.trans (congrArg some (by kernel_rfl))⟩,
  f14 := ⟨Try.f53.name, by decide, Try.func53.trans (congrArg some (by kernel_rfl))⟩,
  f15 := Try.func54.trans (congrArg some (by kernel_rfl)),
  f20 := ⟨Try.f57.name, by decide, Try.func57.trans (congrArg some (by kernel_rfl))⟩,
  f21 := ⟨Try.f58.name, by decide, Try.func58.trans (congrArg some (by kernel_rfl))⟩,
  f22 := ⟨Try.f59.name, by decide, Try.func59.trans (congrArg some (by kernel_rfl))⟩,
  f23 := ⟨Try.f60.name, by decide, Try.func60.trans (congrArg some (by kernel_rfl))⟩,
  f24 := ⟨Try.f61.name, by decide, Try.func61.trans (congrArg some (by kernel_rfl))⟩,
  f25 := ⟨Try.f62.name, by decide, Try.func62.trans (congrArg some (by kernel_rfl))⟩,
  f26 := ⟨Try.f63.name, by decide, Try.func63.trans (congrArg some (by kernel_rfl))⟩,
  f27 := ⟨Try.f64.name, by decide, Try.func64.trans (congrArg some (by kernel_rfl))⟩,
  f28 := Try.func65.trans (congrArg some (by kernel_rfl)),
  f29 := Try.func66.trans (congrArg some (by kernel_rfl)),
  f46 := ⟨Try.f67.name, by decide, Try.func67.trans (congrArg some (by kernel_rfl))⟩,
  f47 := Try.func68.trans (congrArg some (by kernel_rfl)),
  f48 := Try.func69.trans (congrArg some (by kernel_rfl)),
  f49 := ⟨Try.f70.name, by decide, Try.func70.trans (congrArg some (by kernel_rfl))⟩,
  f50 := ⟨Try.f71.name, by decide, Try.func71.trans (congrArg some (by kernel_rfl))⟩,
  f57 := ⟨Try.f72.name, by decide, Try.func72.trans (congrArg some (by kernel_rfl))⟩,
  t0 := Try.underlying0,
  a0 := Try.isAgg0,
  z0 := Try.sizeOf0,
  v0 := Try.zeroValue0,
  t3 := Try.underlying3,
  a3 := Try.isAgg3,
  z3 := Try.sizeOf3,
  v3 := Try.zeroValue3,
  t4 := Try.underlying4,
  a4 := Try.isAgg4,
  z4 := Try.sizeOf4,
  v4 := Try.zeroValue4,
  t5 := Try.underlying5,
  a5 := Try.isAgg5,
  z5 := Try.sizeOf5,
  v5 := Try.zeroValue5,
  t9 := Try.underlying9,
  a9 := Try.isAgg9,
  z9 := Try.sizeOf9,
  v9 := Try.zeroValue9,
  t22 := Try.underlying23,
  a22 := Try.isAgg23,
  z22 := Try.sizeOf23,
  v22 := Try.zeroValue23,
  t25 := Try.underlying75,
  a25 := Try.isAgg75,
  z25 := Try.sizeOf75,
  v25 := Try.zeroValue75,
  t39 := Try.underlying86,
  a39 := Try.isAgg86,
  z39 := Try.sizeOf86,
  v39 := Try.zeroValue86,
  t45 := Try.underlying91,
  a45 := Try.isAgg91,
  z45 := Try.sizeOf91,
  v45 := Try.zeroValue91,
  t46 := Try.underlying92,
  a46 := Try.isAgg92,
  z46 := Try.sizeOf92,
  v46 := Try.zeroValue92,
  t50 := Try.underlying47,
  a50 := Try.isAgg47,
  z50 := Try.sizeOf47,
  v50 := Try.zeroValue47,
  t53 := Try.underlying98,
  a53 := Try.isAgg98,
  z53 := Try.sizeOf98,
  v53 := Try.zeroValue98,
  t55 := Try.underlying100,
  a55 := Try.isAgg100,
  z55 := Try.sizeOf100,
  v55 := Try.zeroValue100,
  t66 := Try.underlying101,
  a66 := Try.isAgg101,
  z66 := Try.sizeOf101,
  v66 := Try.zeroValue101,
  t70 := Try.underlying105,
  a70 := Try.isAgg105,
  z70 := Try.sizeOf105,
  v70 := Try.zeroValue105,
  t76 := Try.underlying107,
  a76 := Try.isAgg107,
  z76 := Try.sizeOf107,
  v76 := Try.zeroValue107,
  t77 := Try.underlying108,
  a77 := Try.isAgg108,
  z77 := Try.sizeOf108,
  v77 := Try.zeroValue108 }

def cloneHit_ren : Go.Shelf.Ren := ⟨fun | 41 => 48 | n => n, fun | 4 => 4 | 22 => 23 | 23 => 34 | n => n, fun n => n⟩

theorem cloneHit : SlLaysE0.n41 Try.prog cloneHit_ren := {
  mixed := by kernel_rfl,
  f41 := ⟨Try.f48.name, by decide, Try.func48.trans (congrArg some (by kernel_rfl))⟩,
  t4 := Try.underlying4,
  a4 := Try.isAgg4,
  z4 := Try.sizeOf4,
  v4 := Try.zeroValue4,
  t22 := Try.underlying23,
  a22 := Try.isAgg23,
  z22 := Try.sizeOf23,
  v22 := Try.zeroValue23 }

theorem swoH : SWO (ltOf ordH) := by
  have e : ∀ x y, ltOf ordH x y = decide (hless x y) := fun x y => by unfold ltOf; rw [decide_eq_decide]; exact ordH_neg
  refine ⟨fun x => ?_, fun x y z h1 h2 => ?_, fun x y z h1 h2 => ?_⟩
  · rw [e]; simp; exact hless_irrefl x
  · rw [e] at *; simp at *; exact hless_trans h1 h2
  · rw [e] at *; simp at *
    intro h3
    rcases not_hless h1 with rfl | h1'
    · exact h2 h3
    · exact h2 (hless_trans h1' h3)

theorem orderLays (blk off size : Nat) (w : World) : CmpLays Try.prog 42 #[] Hv.cells 3 ordH blk off size w :=
  fun _ _ _ _ x y => order_calls x y _

theorem sizeHit (w : World) : (Go.sizeOf 34).run Try.prog w = .ok 3 w := Try.sizeOf34 w

theorem cellsOne (x : Hv) : ∀ v ∈ x.cells, v.oneCell' = true := by intro v hv; simp [Hv.cells] at hv; rcases hv with rfl | rfl | rfl <;> rfl

/-- slices.SortFunc(list, order) over a row of the call's own. -/
theorem sortH_calls {w : World} {base : Nat} {p : Option Addr} {m cap : Nat} {L : List Hv} (h : w.ownsRow base 34 3 (.slice p m cap) m (encH L)) (hnd : L.Nodup) (hsz : m < 4611686018427387904) :
    Calls Try.prog 49 #[.slice p m cap, .func (.func 42) #[] #[]] w fun e w' =>
      e = .returned (.tuple #[]) ∧ ∃ T, w'.ownsRow base 34 3 (.slice p m cap) m (encH T) ∧ T.Perm L ∧ Ris T ∧ w.grownBy w' (Value.slice p m cap).ownBlock := by
  have hlen := own_lenH h
  rcases h.2 with ⟨h', _⟩ | ⟨g, cap', cur, h', hb, hg, hnc, hcm, hcs, htake⟩
  · simp only [Value.slice.injEq] at h'
    obtain ⟨rfl, rfl, rfl⟩ := h'
    have hL : L = [] := List.eq_nil_of_length_eq_zero hlen
    subst hL
    have C := AnyF.slices_SortFunc_none sortHit none 0 (.func (.func 42) #[] #[]) w
    change Calls Try.prog 49 _ _ _ at C
    exact C.mono fun e w' ⟨he, hw⟩ => ⟨he, [], by rw [hw]; exact h, List.Perm.refl _, List.Pairwise.nil, by rw [hw]; exact grown_refl w _⟩
  · simp only [Value.slice.injEq] at h'
    obtain ⟨rfl, _, rfl⟩ := h'
    have eg : ∀ args w, (callFunc 42 args).run Try.prog w = .ok (.enter 42 args) w := enters_of Try.func42 (by kernel_rfl) rfl
    have hH := own_holdsK Hv.cells 3 (fun _ => rfl) h
    have C := AnyQ.slices_SortFunc sortHit 3 Try.isAgg34 sizeHit Hv.cells (fun _ => rfl) cellsOne ordH swoH 42 #[] g 0 cap L.toArray w eg (orderLays _ _ _ _) hH (Array.getElem?_eq_some_iff.1 hg).1 (by simp; omega)
    change Calls Try.prog 49 _ _ _ at C
    have es : L.toArray.size = m := by simp [hlen]
    rw [es] at C
    refine C.mono ?_
    rintro e w' ⟨he, d', n, os, hp, hs, rfl⟩
    rw [← es] at hp hs
    have hp' := permIn_list hp
    have hsz' : d'.size = L.toArray.size := hp.1
    have hs' := sortedIn_list (d := d') (lt := ltOf ordH) (by rw [hsz']; exact hs)
    have hq := own_sortedK (n := n) Hv.cells 3 (fun _ => rfl) h d'.toList (by simpa using hsz') os
    refine ⟨he, d'.toList, hq.1, by simpa using hp', ?_, hq.2⟩
    have hnd' : d'.toList.Nodup := (hp'.nodup_iff).2 (by simpa using hnd)
    refine (hs'.and hnd').imp ?_
    rintro x y ⟨h1, h2⟩
    have : ¬ hless y x := by
      intro h3
      unfold ltOf at h1
      simp at h1
      have := ordH_neg.2 h3
      omega
    exact (not_hless this).resolve_left (fun e => h2 (by first | exact e.symm | exact e))

theorem runClone {w : World} {base : Nat} {v : Value} {m : Nat} {L : List Hv} (h : w.ownsRow base 34 3 v m (encH L)) (hb : m * 32 ≤ 140737488355328) :
    Calls Try.prog 48 #[v] w fun e w' => ∃ v', e = .returned v' ∧ w'.ownsRow w.heap.size 34 3 v' m (encH L) ∧ Below w.heap.size w w' := by
  obtain ⟨i0, hi0, hz0, hz1, hz2⟩ := info_parts hitinfo
  rcases h.2 with ⟨rfl, rfl⟩ | ⟨g, cap, cur, rfl, hbg, hg, hnc, hcm, hcs, htake⟩
  · have C := AnyE.slices_Clone_nil cloneHit 0 0 w
    change Calls Try.prog 48 _ _ _ at C
    have hL : L = [] := List.eq_nil_of_length_eq_zero (own_lenH h)
    subst hL
    exact C.mono fun e w' ⟨he, hw⟩ => ⟨_, he, by rw [hw]; exact ⟨rfl, .inl ⟨rfl, rfl⟩⟩, by rw [hw]; exact Below.refl _ _⟩
  · have C := AnyE.slices_Clone cloneHit i0 _ 3 32 hi0 hz0 hz1 hz2 rfl (by decide) sizeHit g 0 m cap (encH L) w h.1 (by omega) hb
      (fun j u hj => by
        have hj' := (List.getElem?_eq_some_iff.1 hj).1
        rw [Nat.zero_add, h.cellAt j (by rw [← h.1]; exact hj')]; exact hj)
      (fun u hu => by
        obtain ⟨x, _, hx⟩ := List.mem_flatMap.1 hu
        exact cellsOne x u hx)
    change Calls Try.prog 48 _ _ _ at C
    exact C.mono fun e w' ⟨v', he, ho, _, hbl⟩ => ⟨v', he, ho, hbl⟩

/-- The hits of a pile, in order. -/
def SortedPost (w : World) (L : List Hv) (e : Ending) (w' : World) : Prop :=
  ∃ v' T, e = .returned v' ∧ w'.ownsRow w.heap.size 34 3 v' L.length (encH T) ∧ T.Perm L ∧ Ris T ∧ Below w.heap.size w w'

set_option maxRecDepth 100000 in
set_option maxHeartbeats 1000000 in
theorem sorted_calls (pb mb : Nat) (v : Value) (L : List Hv) (hN : L.length * 32 ≤ 140737488355328) (w : World) (hP : PileIs w pb mb v L) :
    Calls Try.prog 40 #[.pointer (some ⟨pb, 0, none⟩)] w (SortedPost w L) := by
  have c0 := hP.cells.1
  have C := runClone hP.row hN
  have hnd := hP.nodup
  have HC := Lib.hid C
  have HN := Lib.hid hN
  have HD := Lib.hid hnd
  clear C hN hnd hP
  go_enter Try.func40, Try.ntmps40
  go_wp2_with fail
  refine HC.out.mono ?_
  rintro e w1 ⟨v1, rfl, ho, hb⟩
  obtain ⟨p, cap, rfl, _⟩ := own_rd ho
  have S := Lib.hid (sortH_calls ho HD.out (by have := HN.out; omega))
  have HO := Lib.hid ho
  have HB := Lib.hid hb
  clear ho hb c0
  go_wp2_with fail
  refine S.out.mono ?_
  rintro e w2 ⟨rfl, T, ho2, hp, hr, hg⟩
  have HO2 := Lib.hid ho2
  have HP := Lib.hid hp
  have HR := Lib.hid hr
  have HG := Lib.hid hg
  clear ho2 hp hr hg
  go_wp2
  go_ret
  exact ⟨_, T, rfl, HO2.out, HP.out, HR.out, grown_below HB.out HG.out HB.out.size (fun k hk => ((HO.out).lt k hk).1)⟩
end Go.Proofs.Ytahceakghgmpkaa
