/-
  THE LIBRARY AT PAIRS: slices.SortFunc, laid out of the shelf; Pairs of a map.
-/
import Derived.Test.YtmfanldekjkbiaaDoorPairR
import Derived.Test.YtmfanldekjkbiaaDoorSortG
import Derived.Shelf.SlSortCmp.NoneTotal
namespace Go.Proofs.YtmfanldekjkbiaaDoor
open Go.Shelf Go.RowKit Go.Lib Go.Sort
set_option linter.unusedVariables false

def sortPair_ren : Go.Shelf.Ren := ⟨fun | 6 => 39 | 14 => 50 | 15 => 51 | 20 => 60 | 21 => 61 | 22 => 62 | 23 => 63 | 24 => 64 | 25 => 65 | 26 => 66 | 27 => 67 | 28 => 68 | 29 => 69 | 46 => 72 | 47 => 73 | 48 => 74 | 49 => 75 | 50 => 76 | 57 => 85 | n => n, fun | 0 => 0 | 3 => 3 | 4 => 4 | 5 => 5 | 9 => 9 | 22 => 22 | 24 => 49 | 25 => 83 | 39 => 87 | 45 => 109 | 46 => 110 | 50 => 114 | 53 => 117 | 55 => 119 | 66 => 122 | 70 => 126 | 76 => 133 | 77 => 134 | n => n, fun n => n⟩

theorem sortPair : SlLaysF0.n6 Tryd.prog sortPair_ren := {
  mixed := by kernel_rfl,
  f6 := ⟨Tryd.f39.name, by decide, Tryd.func39.trans (congrArg some (by kernel_rfl))⟩,
  f14 := ⟨Tryd.f50.name, by decide, Tryd.func50.trans (congrArg some (by kernel_rfl))⟩,
  f15 := Tryd.func51.trans (congrArg some (by kernel_rfl)),
  f20 := ⟨Tryd.f60.name, by decide, Tryd.func60.trans (congrArg some (by kernel_rfl))⟩,
  f21 := ⟨Tryd.f61.name, by decide, Tryd.func61.trans (congrArg some (by kernel_rfl))⟩,
  f22 := ⟨Tryd.f62.name, by decide, Tryd.func62.trans (congrArg some (by kernel_rfl))⟩,
  f23 := ⟨Tryd.f63.name, by decide, Tryd.func63.trans (congrArg some (by kernel_rfl))⟩,
  f24 := ⟨Tryd.f64.name, by decide, Tryd.func64.trans (congrArg some (by kernel_rfl))⟩,
  f25 := ⟨Tryd.f65.name, by decide, Tryd.func65.trans (congrArg some (by kernel_rfl))⟩,
  f26 := ⟨Tryd.f66.name, by decide, Tryd.func66.trans (congrArg some (by kernel_rfl))⟩,
  f27 := ⟨Tryd.f67.name, by decide, Tryd.func67.trans (congrArg some (by kernel_rfl))⟩,
  f28 := Tryd.func68.trans (congrArg some (by kernel_rfl)),
  f29 := Tryd.func69.trans (congrArg some (by kernel_rfl)),
  f46 := ⟨Tryd.f72.name, by decide, Tryd.func72.trans (congrArg some (by kernel_rfl))⟩,
  f47 := Tryd.func73.trans (congrArg some (by kernel_rfl)),
  f48 := Tryd.func74.trans (congrArg some (by kernel_rfl)),
  f49 := ⟨Tryd.f75.name, by decide, Tryd.func75.trans (congrArg some (by kernel_rfl))⟩,
  f50 := ⟨Tryd.f76.name, by decide, Tryd.func76.trans (congrArg some (by kernel_rfl))⟩,
  f57 := ⟨Tryd.f85.name, by decide, Tryd.func85.trans (congrArg some (by kernel_rfl))⟩,
  t0 := Tryd.underlying0,
  a0 := Tryd.isAgg0,
  z0 := Tryd.sizeOf0,
  v0 := Tryd.zeroValue0,
  t3 := Tryd.underlying3,
  a3 := Tryd.isAgg3,
  z3 := Tryd.sizeOf3,
  v3 := Tryd.zeroValue3,
  t4 := Tryd.underlying4,
  a4 := Tryd.isAgg4,
  z4 := Tryd.sizeOf4,
  v4 := Tryd.zeroValue4,
  t5 := Tryd.underlying5,
  a5 := Tryd.isAgg5,
  z5 := Tryd.sizeOf5,
  v5 := Tryd.zeroValue5,
  t9 := Tryd.underlying9,
  a9 := Tryd.isAgg9,
  z9 := Tryd.sizeOf9,
  v9 := Tryd.zeroValue9,
  t22 := Tryd.underlying22,
  a22 := Tryd.isAgg22,
  z22 := Tryd.sizeOf22,
  v22 := Tryd.zeroValue22,
  t25 := Tryd.underlying83,
  a25 := Tryd.isAgg83,
  z25 := Tryd.sizeOf83,
  v25 := Tryd.zeroValue83,
  t39 := Tryd.underlying87,
  a39 := Tryd.isAgg87,
  z39 := Tryd.sizeOf87,
  v39 := Tryd.zeroValue87,
  t45 := Tryd.underlying109,
  a45 := Tryd.isAgg109,
  z45 := Tryd.sizeOf109,
  v45 := Tryd.zeroValue109,
  t46 := Tryd.underlying110,
  a46 := Tryd.isAgg110,
  z46 := Tryd.sizeOf110,
  v46 := Tryd.zeroValue110,
  t50 := Tryd.underlying114,
  a50 := Tryd.isAgg114,
  z50 := Tryd.sizeOf114,
  v50 := Tryd.zeroValue114,
  t53 := Tryd.underlying117,
  a53 := Tryd.isAgg117,
  z53 := Tryd.sizeOf117,
  v53 := Tryd.zeroValue117,
  t55 := Tryd.underlying119,
  a55 := Tryd.isAgg119,
  z55 := Tryd.sizeOf119,
  v55 := Tryd.zeroValue119,
  t66 := Tryd.underlying122,
  a66 := Tryd.isAgg122,
  z66 := Tryd.sizeOf122,
  v66 := Tryd.zeroValue122,
  t70 := Tryd.underlying126,
  a70 := Tryd.isAgg126,
  z70 := Tryd.sizeOf126,
  v70 := Tryd.zeroValue126,
  t76 := Tryd.underlying133,
  a76 := Tryd.isAgg133,
  z76 := Tryd.sizeOf133,
  v76 := Tryd.zeroValue133,
  t77 := Tryd.underlying134,
  a77 := Tryd.isAgg134,
  z77 := Tryd.sizeOf134,
  v77 := Tryd.zeroValue134 }

def ordP (a b : Pv) : Int := cmpI a.i b.i

theorem ordP_neg {a b : Pv} : ordP a b < 0 ↔ a.i < b.i := by
  unfold ordP cmpI
  constructor
  · intro h; split at h
    · assumption
    · split at h <;> omega
  · intro h; rw [if_pos h]; omega

theorem swoP : SWO (ltOf ordP) := by
  have e : ∀ x y, ltOf ordP x y = decide (x.i < y.i) := fun x y => by unfold ltOf; rw [decide_eq_decide]; exact ordP_neg
  refine ⟨fun x => ?_, fun x y z h1 h2 => ?_, fun x y z h1 h2 => ?_⟩
  · rw [e]; simp
  · rw [e] at *; simp at *; omega
  · rw [e] at *; simp at *; omega

set_option maxRecDepth 100000 in
theorem pairs1_calls (a b : Pv) (w : World) : Calls Tryd.prog 40 #[.agg #[.int .i64 a.i, .string a.c], .agg #[.int .i64 b.i, .string b.c]] w fun e w' => e = .returned (.int .i64 (ordP a b)) ∧ Gr w w' := by
  have C := Lib.hid (fun W => CmpInt_calls a.i b.i W)
  have HG := Lib.hid (((Gr.refl w).alloc (.cells #[.int .i64 a.i, .string a.c] 49)).alloc (.cells #[.int .i64 b.i, .string b.c] 49))
  have x0 := alloc2_fst w #[.int .i64 a.i, .string a.c] #[.int .i64 b.i, .string b.c] 49 49 0
  have y0 := alloc2_snd w #[.int .i64 a.i, .string a.c] #[.int .i64 b.i, .string b.c] 49 49 0
  simp at x0 y0
  go_enter Tryd.func40, Tryd.ntmps40
  go_wp2_with fail
  refine (C.out _).mono ?_
  rintro e w1 ⟨rfl, rfl⟩
  go_wp2
  go_ret
  exact ⟨rfl, HG.out⟩

theorem orderLaysP (blk off size : Nat) (w : World) : CmpLays Tryd.prog 40 #[] Pv.cells 2 ordP blk off size w :=
  fun _ _ _ _ x y => pairs1_calls x y _

theorem sizePair (w : World) : (Go.sizeOf 49).run Tryd.prog w = .ok 2 w := Tryd.sizeOf49 w

theorem cellsOneP (x : Pv) : ∀ v ∈ x.cells, v.oneCell' = true := by intro v hv; simp [Pv.cells] at hv; rcases hv with rfl | rfl <;> rfl

def RisP (T : List Pv) : Prop := T.Pairwise (fun a b => a.i < b.i)

theorem sortP_calls {w : World} {base : Nat} {p : Option Addr} {m cap : Nat} {L : List Pv} (h : w.ownsRow base 49 2 (.slice p m cap) m (encP L)) (hnd : (L.map (·.i)).Nodup) (hsz : m < 4611686018427387904) :
    Calls Tryd.prog 39 #[.slice p m cap, .func (.func 40) #[] #[]] w fun e w' =>
      e = .returned (.tuple #[]) ∧ ∃ T, w'.ownsRow base 49 2 (.slice p m cap) m (encP T) ∧ T.Perm L ∧ RisP T ∧ w.grownBy w' (Value.slice p m cap).ownBlock := by
  have hlen := own_lenP h
  rcases h.2 with ⟨h', _⟩ | ⟨g, cap', cur, h', hb, hg, hnc, hcm, hcs, htake⟩
  · simp only [Value.slice.injEq] at h'
    obtain ⟨rfl, rfl, rfl⟩ := h'
    have hL : L = [] := List.eq_nil_of_length_eq_zero hlen
    subst hL
    have C := AnyF.slices_SortFunc_none sortPair none 0 (.func (.func 40) #[] #[]) w
    change Calls Tryd.prog 39 _ _ _ at C
    exact C.mono fun e w' ⟨he, hw⟩ => ⟨he, [], by rw [hw]; exact h, List.Perm.refl _, List.Pairwise.nil, by rw [hw]; exact grown_refl w _⟩
  · simp only [Value.slice.injEq] at h'
    obtain ⟨rfl, _, rfl⟩ := h'
    have eg : ∀ args w, (callFunc 40 args).run Tryd.prog w = .ok (.enter 40 args) w := enters_of Tryd.func40 (by kernel_rfl) rfl
    have hH := own_holdsK Pv.cells 2 (fun _ => rfl) h
    have C := AnyQ.slices_SortFunc sortPair 2 Tryd.isAgg49 sizePair Pv.cells (fun _ => rfl) cellsOneP ordP swoP 40 #[] g 0 cap L.toArray w eg (orderLaysP _ _ _ _) hH (Array.getElem?_eq_some_iff.1 hg).1 (by simp; omega)
    change Calls Tryd.prog 39 _ _ _ at C
    have es : L.toArray.size = m := by simp [hlen]
    rw [es] at C
    refine C.mono ?_
    rintro e w' ⟨he, d', n, os, hp, hs, rfl⟩
    rw [← es] at hp hs
    have hp' := permIn_list hp
    have hsz' : d'.size = L.toArray.size := hp.1
    have hs' := sortedIn_list (d := d') (lt := ltOf ordP) (by rw [hsz']; exact hs)
    have hq := own_sortedK (n := n) Pv.cells 2 (fun _ => rfl) h d'.toList (by simpa using hsz') os
    have hp2 : d'.toList.Perm L := by simpa using hp'
    refine ⟨he, d'.toList, hq.1, hp2, ?_, hq.2⟩
    have hnd' : d'.toList.Pairwise (fun a b => a.i ≠ b.i) := List.pairwise_map.1 ((hp2.map (fun p : Pv => p.i)).nodup_iff.2 hnd)
    refine (hs'.and hnd').imp ?_
    rintro x y ⟨h1, h2⟩
    have : ¬ y.i < x.i := by
      intro h3
      unfold ltOf at h1
      simp at h1
      have := ordP_neg.2 h3
      omega
    omega

theorem risP_perm {T U : List Pv} (hT : RisP T) (hU : RisP U) (h : T.Perm U) : T = U := by
  refine List.Perm.eq_of_pairwise (fun a b _ _ h1 h2 => ?_) hT hU h
  omega
end Go.Proofs.YtmfanldekjkbiaaDoor
