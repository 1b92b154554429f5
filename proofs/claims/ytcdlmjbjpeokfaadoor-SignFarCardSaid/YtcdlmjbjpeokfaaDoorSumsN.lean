/-
  WALK: vectors that sums refuses.
-/
import Derived.Test.YtcdlmjbjpeokfaaDoorSumsF
namespace Go.Proofs.YtcdlmjbjpeokfaaDoor
open Go.RowKit Go.Shelf
set_option linter.unusedVariables false

set_option maxRecDepth 100000 in
theorem sums_dims (Bs : Nat) (wd dm sd : Int) (p : Option Addr) (m cap : Nat) (hne : (m : Int) ≠ dm) (w : World) (hs : Sg w 48 Bs wd dm sd) :
    Calls Tryd.prog 17 #[.pointer (some ⟨Bs, 0, none⟩), .slice p m cap] w fun e w' => e = .returned (.tuple #[.slice none 0 0, .int .i64 190]) ∧ Below w.heap.size w w' := by
  obtain ⟨s0, s1, s2⟩ := hs.cells
  have hd : ((m : Int) != dm) = true := by rw [bne_iff_ne]; exact hne
  clear hne hs
  go_enter Tryd.func17, Tryd.ntmps17
  go_wp2
  go_ret2
  exact ⟨rfl, Below.refl _ _⟩

set_option maxRecDepth 100000 in
set_option maxHeartbeats 1000000 in
theorem sums_part (Bs : Nat) (wd sd : Int) (p : Option Addr) (cap : Nat) (zs : List (Int × Int)) (hm : zs.length ≤ 1024) (hbad : ∃ (k : Nat) (x : Int × Int), zs[k]? = some x ∧ fitsP x = false) (w : World) (hz : PL w p zs) (hs : Sg w 48 Bs wd zs.length sd) :
    Calls Tryd.prog 17 #[.pointer (some ⟨Bs, 0, none⟩), .slice p zs.length cap] w fun e w' => e = .returned (.tuple #[.slice none 0 0, .int .i64 191]) ∧ Below w.heap.size w w' := by
  obtain ⟨i0, hi, hy0, hy1, hy2⟩ := info_parts c128info
  obtain ⟨m, hmm⟩ : ∃ m, zs.length = m := ⟨_, rfl⟩
  rw [hmm] at hm hs ⊢
  obtain ⟨s0, s1, s2⟩ := hs.cells
  have hmk := fun W : World => run_make (P := Tryd.prog) W 49 52 i0 _ Tryd.underlying49 hi hy0 .i64 .i64 0 m (by omega) (by omega) (by rw [hy2]; omega) (by omega)
  have HM := Lib.hid hmm
  have HZ := Lib.hid hz
  have HBAD := Lib.hid hbad
  clear hz hs hmm hbad
  go_enter Tryd.func17, Tryd.ntmps17
  go_wp2
  obtain ⟨W0, hW0⟩ : ∃ W0, ((w.alloc (.cells (madeCells #[.complex .f64 0 0] m) 52)).alloc (.cells #[.slice (some ⟨w.heap.size, 0, none⟩) 0 m] 49)) = W0 := ⟨_, rfl⟩
  have hbox : Boxed W0 (w.heap.size + 1) 49 (.slice (some ⟨w.heap.size, 0, none⟩) 0 m) := by
    rw [← hW0]
    have := Boxed.new (w.alloc (.cells (madeCells #[.complex .f64 0 0] m) 52)) 49 (.slice (some ⟨w.heap.size, 0, none⟩) 0 m)
    simp only [World.size_alloc] at this
    exact this
  have hrow : W0.ownsRow w.heap.size 52 1 (.slice (some ⟨w.heap.size, 0, none⟩) 0 m) 0 [] := by
    rw [← hW0]
    refine World.ownsRow.alloc (h := ?_) _
    exact World.ownsRow_made (base := w.heap.size) (e := 52) (size := 1) w (madeCells #[.complex .f64 0 0] m) m (by simp) (by unfold maxLen; omega) (by simp [madeCells])
  have hB0 : Below w.heap.size w W0 := by
    rw [← hW0]; exact ((Below.refl _ w).alloc (Nat.le_refl _) _).alloc (by simp) _
  rw [hW0]
  clear hW0 hmk
  have HB0 := Lib.hid hB0
  have HX0 := Lib.hid hbox
  have HW0 := Lib.hid hrow
  clear hB0 hbox hrow
  go_loopw [25] (fun i ws => ∃ (k : Nat) (v : Value), k ≤ m ∧ i = .int .i64 k ∧ Hid (Boxed ws (w.heap.size + 1) 49 v) ∧ Hid (ws.ownsRow w.heap.size 52 1 v k ((zs.map pW).take k)) ∧ Hid (Below w.heap.size w ws) ∧ Hid (∀ (q : Nat) (x : Int × Int), q < k → zs[q]? = some x → fitsP x = true)) (fun i _ => m - (intOf i).toNat)
  case atStart => exact ⟨0, _, Nat.zero_le _, rfl, HX0, HW0, HB0, Lib.hid (fun q x hq => absurd hq (Nat.not_lt_zero _))⟩
  case round =>
    obtain ⟨k, v, hk, rfl, HX, HV, HB, HG⟩ := hrel
    clear HX0 HW0 HB0
    by_cases hlt : k < m
    · have hki : (k : Int) < (m : Int) := by omega
      have hk0 : (0 : Int) ≤ (k : Int) := by omega
      obtain ⟨x, hx⟩ : ∃ x, zs[k]? = some x := ⟨_, List.getElem?_eq_getElem (by rw [HM.out]; exact hlt)⟩
      obtain ⟨pv, cv, rfl, _⟩ := own_rd HV.out
      obtain ⟨a, rfl, u0, u1⟩ := (HZ.out.below HB.out) k x hx
      have HTK : Hid ((zs.map pW).take (k + 1) = (zs.map pW).take k ++ [pW x]) := Lib.hid (by rw [List.take_add_one]; simp [hx])
      have IP1 := Lib.hid (fun W => isPart_calls x.1 W)
      have IP2 := Lib.hid (fun W => isPart_calls x.2 W)
      have HX1 := Lib.hid (HX.out.alloc (.cells #[.int .i64 x.1, .int .i64 x.2] 36))
      have HV1 := Lib.hid (HV.out.alloc (.cells #[.int .i64 x.1, .int .i64 x.2] 36))
      have HB1 := Lib.hid (HB.out.alloc HB.out.size (.cells #[.int .i64 x.1, .int .i64 x.2] 36))
      have c6 := HX1.out.cell
      have chk1 : w.heap.size ≤ (wr.alloc (.cells #[.int .i64 x.1, .int .i64 x.2] 36)).heap.size := HB1.out.size
      have chk3 := cell_one_new (wr.alloc (.cells #[.int .i64 x.1, .int .i64 x.2] 36)) (pW x) 52
      rw [World.size_alloc] at chk3
      have HXX := Lib.hid hx
      clear hx
      cases f1 : fitP x.1 with
      | false =>
        rw [f1] at IP1
        clear f1
        go_wp2_with fail
        refine (IP1.out _).mono ?_
        rintro _ _ ⟨rfl, rfl⟩
        go_wp2
        go_ret2
        exact ⟨rfl, HB1.out⟩
      | true =>
        cases f2 : fitP x.2 with
        | false =>
          rw [f1] at IP1
          rw [f2] at IP2
          clear f1 f2
          go_wp2_with fail
          refine (IP1.out _).mono ?_
          rintro _ _ ⟨rfl, rfl⟩
          go_wp2_with fail
          refine (IP2.out _).mono ?_
          rintro _ _ ⟨rfl, rfl⟩
          go_wp2
          go_ret2
          exact ⟨rfl, HB1.out⟩
        | true =>
          have HG2 : Hid (∀ (q : Nat) (y : Int × Int), q < k + 1 → zs[q]? = some y → fitsP y = true) := Lib.hid (fun q y hq hy => by
            by_cases e : q = k
            · subst e
              rw [HXX.out] at hy
              cases hy
              unfold fitsP
              rw [f1, f2]; rfl
            · exact HG.out q y (by omega) hy)
          rw [f1] at IP1
          rw [f2] at IP2
          clear f1 f2
          go_wp2_with fail
          refine (IP1.out _).mono ?_
          rintro _ _ ⟨rfl, rfl⟩
          go_wp2_with fail
          refine (IP2.out _).mono ?_
          rintro _ _ ⟨rfl, rfl⟩
          go_wp2_with (at_builtin; refine wpList_append_own _ rfl _ _ 49 rfl w.heap.size 52 i0 (.complex .f64 0 0) 1 16 Tryd.underlying49 hi hy0 hy1 hy2 rfl (by decide) (.slice pv k cv) k _ rfl (HV1.out.alloc _) ⟨wr.heap.size + 1, 0, none⟩ 1 1 [pW x] rfl rfl chk3 (by simp [Value.oneCell', pW]) (by unfold maxLen; omega) (by omega) (by rw [World.size_alloc]; omega) ?_)
          intro v' y2 hown' hgrow _
          obtain ⟨g', cap', rfl⟩ := ownsRow_succ hown'
          obtain ⟨hv1, hv2, hr2, hk2, hb2⟩ := HX1.out.appended (by decide) HV1.out chk1 (by omega) hown' hgrow
          have hc1 := hv1.cell
          have hf1 := hv1.frozen
          go_wp2
          go_roundw
          case rel => exact ⟨k + 1, _, hlt, by go_num, Lib.hid hv2, Lib.hid (by rw [HTK.out]; exact hr2), Lib.hid (HB1.out.trans hb2), HG2⟩
          case measure => simp [intOf]; omega
    · exfalso
      obtain ⟨q, x, hq, hf⟩ := HBAD.out
      have hql := (List.getElem?_eq_some_iff.1 hq).1
      rw [HM.out] at hql
      have := HG.out q x (by omega) hq
      rw [hf] at this
      cases this

theorem sums_calls (Bs h : Nat) (sd : Int) (p : Option Addr) (cap : Nat) (zs : List (Int × Int)) (hh : h ≤ 512) (hm : zs.length ≤ 1024) (hm0 : 1 ≤ zs.length) (hfit : zs.all fitsP = true) (w : World) (hz : PL w p zs) (hs : Sg w 48 Bs ((2 * h : Nat) : Int) zs.length sd) :
    Calls Tryd.prog 17 #[.pointer (some ⟨Bs, 0, none⟩), .slice p zs.length cap] w fun e w' => ∃ v, e = .returned (.tuple #[v, .int .i64 0]) ∧ Below w.heap.size w w' ∧ ∃ xs, w'.ownsRow w.heap.size 52 1 v h xs ∧ (∀ i, i < h → ∃ a b, xs[i]? = some (.complex .f64 a b) ∧ IsW a (sumS sd i (fun q => zs.getD q (0, 0)) (frS zs.length zs.length)).1 ∧ IsW b (sumS sd i (fun q => zs.getD q (0, 0)) (frS zs.length zs.length)).2) :=
  callsIn_wide.1 (sums_in 6 (Nat.le_refl _) Bs h sd p cap zs hh hm hm0 (fun x hx => by
    have := List.all_eq_true.1 hfit x hx
    unfold fitsP at this
    simpa using this) w hz hs)

/-- What a vector is refused with. -/
def sgE (dm : Int) (zs : List (Int × Int)) : Int := if (zs.length : Int) ≠ dm then 190 else if zs.all fitsP then 0 else 191

/-- The sums of a vector. -/
def sgL (sd : Int) (h : Nat) (zs : List (Int × Int)) : List (Int × Int) := (List.range h).map fun i => sumS sd i (fun q => zs.getD q (0, 0)) (frS zs.length zs.length)

theorem sgL_length (sd : Int) (h : Nat) (zs : List (Int × Int)) : (sgL sd h zs).length = h := by simp [sgL]

theorem sgL_get (sd : Int) (h : Nat) (zs : List (Int × Int)) (i : Nat) (hi : i < h) : (sgL sd h zs)[i]? = some (sumS sd i (fun q => zs.getD q (0, 0)) (frS zs.length zs.length)) := by simp [sgL, hi]

theorem sgL_bound {sd : Int} {h : Nat} {zs : List (Int × Int)} (hm : zs.length ≤ 1024) (hfit : zs.all fitsP = true) : ∀ x ∈ sgL sd h zs, x.1.natAbs ≤ 1073741824 ∧ x.2.natAbs ≤ 1073741824 := by
  intro x hx
  unfold sgL at hx
  rw [List.mem_map] at hx
  obtain ⟨i, _, rfl⟩ := hx
  have hb := sumS_bound sd i (fun q => zs.getD q (0, 0)) (m := zs.length) (fun q hq => by
    have e : zs.getD q (0, 0) = zs[q] := by simp [List.getD, hq]
    have := List.all_eq_true.1 hfit _ (List.getElem_mem hq)
    unfold fitsP at this
    rw [Bool.and_eq_true] at this
    rw [e]
    exact ⟨fitP_iff.1 this.1, fitP_iff.1 this.2⟩) (frS zs.length zs.length)
  rw [frS_length _ _ (Nat.le_refl _)] at hb
  omega

theorem sgE_cases (dm : Int) (zs : List (Int × Int)) : ((zs.length : Int) ≠ dm ∧ sgE dm zs = 190) ∨ ((zs.length : Int) = dm ∧ zs.all fitsP = true ∧ sgE dm zs = 0) ∨ ((zs.length : Int) = dm ∧ (∃ (k : Nat) (x : Int × Int), zs[k]? = some x ∧ fitsP x = false) ∧ sgE dm zs = 191) := by
  unfold sgE
  by_cases h1 : (zs.length : Int) ≠ dm
  · exact .inl ⟨h1, by rw [if_pos h1]⟩
  · have h1' : (zs.length : Int) = dm := by omega
    rw [if_neg h1]
    by_cases h2 : zs.all fitsP = true
    · exact .inr (.inl ⟨h1', h2, by rw [if_pos h2]⟩)
    · refine .inr (.inr ⟨h1', ?_, by rw [if_neg h2]⟩)
      have h3 : ∃ x, x ∈ zs ∧ ¬ (fitsP x = true) := by
        simpa using h2
      obtain ⟨x, hx, hf⟩ := h3
      obtain ⟨k, hk, e⟩ := List.getElem_of_mem hx
      exact ⟨k, x, by rw [List.getElem?_eq_getElem hk, e], by simpa using hf⟩
end Go.Proofs.YtcdlmjbjpeokfaaDoor
