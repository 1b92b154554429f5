/-
  THE LAW BitsFlips: bits turned one after the other. Conditions: the text and the list are within the reach; the table is laid.
-/
import Derived.Test.YtldcfgifimdmmaaDoorMetric
import Derived.Test.YtldcfgifimdmmaaDoorFlipsP
import Derived.Test.YtldcfgifimdmmaaDoorKit
namespace Go.Proofs.YtldcfgifimdmmaaDoor
open Go.RowKit XKit
set_option linter.unusedVariables false

/-- The place that a number names. -/
def placeOf (x : Int) (m : Nat) : Nat := (x % (m : Int)).toNat
theorem placeOf_lt (x : Int) (m : Nat) (hm : 0 < m) : placeOf x m < m := by
  unfold placeOf
  have h1 := Int.emod_nonneg x (b := (m : Int)) (by omega)
  have h2 := Int.emod_lt_of_pos x (b := (m : Int)) (by omega)
  omega
theorem place_tmod (x : Int) (m : Nat) (hm : 0 < m) : (0 ≤ Int.tmod x m ∧ Int.tmod x m = (placeOf x m : Int)) ∨ (Int.tmod x m < 0 ∧ Int.tmod x m + m = (placeOf x m : Int)) := by
  unfold placeOf
  have h1 := Int.emod_nonneg x (b := (m : Int)) (by omega)
  have h2 := Int.emod_lt_of_pos x (b := (m : Int)) (by omega)
  rcases Int.lt_or_le x 0 with hx | hx
  · obtain ⟨y, hy⟩ := Int.eq_ofNat_of_zero_le (show 0 ≤ -x by omega)
    obtain rfl : x = -(y : Int) := by omega
    have e : Int.tmod (-(y : Int)) m = -((y % m : Nat) : Int) := by
      rw [Int.neg_tmod, Int.ofNat_tmod]
    rw [e]
    have hd := Int.emod_add_mul_ediv (-(y : Int)) m
    have hn := Nat.mod_add_div y m
    by_cases hz : y % m = 0
    · left
      refine ⟨by omega, ?_⟩
      have : (-(y : Int)) % m = 0 := Int.emod_eq_zero_of_dvd (Int.dvd_neg.2 (Int.natCast_dvd_natCast.2 (Nat.dvd_of_mod_eq_zero hz)))
      rw [this, hz]; rfl
    · right
      have hl := Nat.mod_lt y hm
      refine ⟨by omega, ?_⟩
      have e2 : (-(y : Int)) % m = (m : Int) - ((y % m : Nat) : Int) := by
        have : (-(y : Int)) = ((m : Int) - ((y % m : Nat) : Int)) + m * (-((y / m : Nat) : Int) - 1) := by
          have hh : (y : Int) = ((y % m : Nat) : Int) + (m : Int) * ((y / m : Nat) : Int) := by
            rw [← Int.natCast_mul, ← Int.natCast_add]; exact congrArg Int.ofNat hn.symm
          rw [Int.mul_sub, Int.mul_neg, Int.mul_one]
          omega
        rw [this, Int.add_mul_emod_self_left]
        exact Int.emod_eq_of_lt (by omega) (by omega)
      rw [e2]
      omega
  · obtain ⟨y, rfl⟩ := Int.eq_ofNat_of_zero_le hx
    left
    rw [Int.tmod_eq_emod_of_nonneg hx]
    omega

theorem bits_ok (s : ByteArray) (i : Nat) (h : i < 8 * s.size) : bitR s.data.toList i = ((bitB s.data.toList i).toNat, 0) := by
  have hl : s.data.toList.length = s.size := rfl
  unfold bitR; rw [if_neg (by rw [hl]; omega)]; simp
theorem flips_ok (s : ByteArray) (i : Nat) (h : i < 8 * s.size) : flipR s.data.toList i = (flipB s.data.toList i, 0) := by
  have hl : s.data.toList.length = s.size := rfl
  unfold flipR; rw [if_neg (by rw [hl]; omega)]; simp
theorem bool_nat_eq (p q : Bool) : ((p.toNat : Int) == (q.toNat : Int)) = (p == q) := by cases p <;> cases q <;> rfl

theorem flip_ok (t : ByteArray) (i : Nat) (hs : t.size ≤ 140737488351232) (h : i < 8 * t.size) (W : World) :
    ∃ u : ByteArray, u.data.toList = flipB t.data.toList i ∧ u.size = t.size ∧ Calls Tryd.prog 11 #[.string t, .int .i64 i] W fun e w' => e = .returned (.tuple #[.string u, .int .i64 0]) ∧ Below W.heap.size W w' := by
  have := Flip_calls t hs i W
  rw [flips_ok t i h] at this
  refine ⟨⟨(flipB t.data.toList i).toArray⟩, rfl, ?_, this⟩
  show (flipB t.data.toList i).toArray.size = _
  simp [flipB_length]
theorem flip_ok2 (t u : ByteArray) (i : Nat) (hs : u.size ≤ 140737488351232) (hu : u.data.toList = flipB t.data.toList i) (hz : u.size = t.size) (h : i < 8 * t.size) (W : World) :
    Calls Tryd.prog 11 #[.string u, .int .i64 i] W fun e w' => e = .returned (.tuple #[.string t, .int .i64 0]) ∧ Below W.heap.size W w' := by
  have := Flip_calls u hs i W
  rw [flips_ok u i (by rw [hz]; exact h), hu, flipB_flipB t.data.toList i (by show i < 8 * t.size; exact h)] at this
  exact this
theorem bit_ok (t : ByteArray) (i : Nat) (hs : t.size ≤ 140737488351232) (h : i < 8 * t.size) (W : World) :
    Calls Tryd.prog 12 #[.string t, .int .i64 i] W fun e w' => e = .returned (.tuple #[.int .i64 ((bitB t.data.toList i).toNat : Nat), .int .i64 0]) ∧ W = w' := by
  have := Bit_calls t hs i W
  rw [bits_ok t i h] at this
  exact this
theorem dist_ok (s t : ByteArray) (hs : s.size ≤ 140737488351232) (h : t.size = s.size) (W : World) (hT : OnesTab W) :
    Calls Tryd.prog 8 #[.string s, .string t] W fun e w' => e = .returned (.tuple #[.int .i64 (wt (xorL s.data.toList t.data.toList) : Nat), .int .i64 0]) ∧ Below W.heap.size W w' := by
  have := Distance_below s t hs (by omega) W hT
  rw [show distR s.data.toList t.data.toList = (wt (xorL s.data.toList t.data.toList), 0) by
    unfold distR; rw [if_neg (by show ¬ (s.size ≠ t.size); omega)]] at this
  exact this

set_option maxRecDepth 100000 in
set_option maxHeartbeats 2000000 in
theorem BitsFlips_walk (a0 : ByteArray) (s0 : a0.size ≤ 140737488351232) (a1 : Value) (z1 : List Int) (w : World) (hR : IsRow w a1 z1) (hL : TabLaid w) :
    Calls Tryd.prog 4 #[.string a0, a1] w fun e w' => e = .returned (.bool true) ∧ Below w.heap.size w w' := by
  have hT := tab_of_laid hL
  clear hL
  obtain ⟨hz1, hz2, hz3⟩ := hR
  by_cases hs0 : a0.size = 0
  · have C := Flip_calls a0 s0 0 w
    rw [show flipR a0.data.toList 0 = ([], 13) by unfold flipR; rw [if_pos (by show _ ∨ 8 * (a0.size : Int) ≤ 0; omega)]] at C
    have hz : ((8 * (a0.size : Int)) == 0) = true := by simp; omega
    clear hs0 hz3 hT hz1 hz2
    go_enter Tryd.func4, Tryd.ntmps4
    go_wp2_with fail
    refine C.mono ?_
    rintro e w1 ⟨rfl, h⟩
    go_wp2
    go_ret
    exact ⟨rfl, h⟩
  have hz : ((8 * (a0.size : Int)) == 0) = false := by rw [beq_eq_false_iff_ne]; omega
  obtain ⟨p, cap, rfl, hp⟩ : ∃ (p : Option Addr) (cap : Nat), a1 = .slice p z1.length cap ∧ ∀ i, i < z1.length → ∃ a, p = some a ∧ w.cell? (a.add i) = some (.int .i64 (z1.getD i 0)) := by
    rcases hz3 with ⟨rfl, rfl⟩ | ⟨a, cap, rfl, _, _, hc⟩
    · exact ⟨none, 0, rfl, fun i hi => absurd hi (Nat.not_lt_zero _)⟩
    · exact ⟨some a, cap, rfl, fun i hi => ⟨a, rfl, hc i hi⟩⟩
  clear hz3
  obtain ⟨len, hlen⟩ : ∃ len, z1.length = len := ⟨_, rfl⟩
  have HZ : Hid (∀ i, i < len → (Lit.int .i64 (z1.getD i 0)).wf = true) := Lib.hid (fun i hi => hz2 _ (by rw [← hlen] at hi; simp [List.getD, hi]))
  rw [hlen] at hp hz1
  rw [hlen]
  have HP := Lib.hid hp
  clear hz2 hp hlen
  have hself : wt (xorL a0.data.toList a0.data.toList) = 0 := xorL_self _
  have HSELF := Lib.hid hself
  clear hself
  go_enter Tryd.func4, Tryd.ntmps4
  go_wp2
  go_loopw [5, 6, 10] (fun t far i wr => ∃ (k : Nat) (T : ByteArray), k ≤ len ∧ k ≤ 300 ∧ i = .int .i64 k ∧ t = .string T ∧ T.size = a0.size ∧ far = .int .i64 (wt (xorL a0.data.toList T.data.toList) : Nat) ∧ Below w.heap.size w wr) (fun _ _ i _ => len - (intOf i).toNat)
  case atStart => exact ⟨0, a0, Nat.zero_le _, Nat.zero_le _, rfl, rfl, rfl, by rw [HSELF.out]; rfl, Below.refl _ _⟩
  case round =>
    obtain ⟨k, T, hk, hk3, rfl, rfl, hTs, rfl, hbl⟩ := hrel
    have hTr := hT.below hbl
    by_cases hlt : k < len ∧ k < 300
    · obtain ⟨hk1, hk2⟩ := hlt
      obtain ⟨a, rfl, hc⟩ := HP.out k hk1
      have hc' : wr.cell? (a.add k) = some (.int .i64 (z1.getD k 0)) := (hbl.cell (by exact cell_lt hc)).trans hc
      have hw := wf_bounds_i64 (HZ.out k hk1)
      obtain ⟨x, hx⟩ : ∃ x, z1.getD k 0 = x := ⟨_, rfl⟩
      rw [hx] at hc' hw
      clear hc hx
      obtain ⟨hx1, hx2⟩ := hw
      have hpl := place_tmod x (8 * a0.size) (by omega)
      have hjl := placeOf_lt x (8 * a0.size) (by omega)
      obtain ⟨j, hj⟩ : ∃ j, placeOf x (8 * a0.size) = j := ⟨_, rfl⟩
      rw [hj] at hpl hjl
      rw [show ((8 * a0.size : Nat) : Int) = 8 * (a0.size : Int) by omega] at hpl
      obtain ⟨u, hu, huz, hC3⟩ := flip_ok T j (by omega) (by omega) wr
      have hC1 := bit_ok a0 j s0 hjl
      have hC2 := bit_ok T j (by omega) (by omega)
      have hC4 := flip_ok2 T u j (by omega) hu huz (by omega)
      have hC5 := dist_ok a0 u s0 (by omega)
      have hC6 := Weight_below u (by omega)
      have hC7 := Weight_below T (by omega)
      have hfar := far_flip a0.data.toList T.data.toList j (by show a0.size = T.size; omega) (by show j < 8 * a0.size; omega)
      have hwt := wt_flip T.data.toList j (by show j < 8 * T.size; omega)
      rw [← hu] at hfar hwt
      have hb1 := wt_le (xorL a0.data.toList T.data.toList)
      rw [xorL_length _ _ (by show a0.size = T.size; omega)] at hb1
      have hb2 := wt_le T.data.toList
      have hla : a0.data.toList.length = a0.size := rfl
      have hlT : T.data.toList.length = T.size := rfl
      rw [hla] at hb1
      rw [hlT] at hb2
      clear hla hlT
      have he : (T.toList == T.toList) = true := by simp
      obtain ⟨fr, hfr⟩ : ∃ fr, wt (xorL a0.data.toList T.data.toList) = fr := ⟨_, rfl⟩
      obtain ⟨fu, hfu⟩ : ∃ fu, wt (xorL a0.data.toList u.data.toList) = fu := ⟨_, rfl⟩
      obtain ⟨wT, hwT⟩ : ∃ wT, wt T.data.toList = wT := ⟨_, rfl⟩
      obtain ⟨wU, hwU⟩ : ∃ wU, wt u.data.toList = wU := ⟨_, rfl⟩
      rw [hfr] at hfar hb1
      rw [hfu] at hfar hC5
      rw [hwT] at hwt hb2 hC7
      rw [hwU] at hwt hC6
      rw [hfr]
      have HF := Lib.hid hfu
      have HC1 := Lib.hid hC1
      have HC2 := Lib.hid hC2
      have HC3 := Lib.hid hC3
      have HC4 := Lib.hid hC4
      have HC5 := Lib.hid hC5
      have HC6 := Lib.hid hC6
      have HC7 := Lib.hid hC7
      clear hC1 hC2 hC3 hC4 hC5 hC6 hC7 hfr hfu hwT hwU hj hu
      obtain ⟨r, hr⟩ : ∃ r, Int.tmod x (8 * (a0.size : Int)) = r := ⟨_, rfl⟩
      rw [hr] at hpl
      rcases hpq : bitB a0.data.toList j with _ | _
      all_goals rcases hqq : bitB T.data.toList j with _ | _
      all_goals
        rw [hpq, hqq] at hfar
        rw [hqq] at hwt
        simp at hfar hwt
        have K1 := HC1.out
        have K2 := HC2.out
        rw [hpq] at K1
        rw [hqq] at K2
        clear hpq hqq HC1 HC2
        have HK1 := Lib.hid K1
        have HK2 := Lib.hid K2
        clear K1 K2
        rcases hpl with ⟨hp0, rfl⟩ | ⟨hp0, hp1⟩
        all_goals
          go_wp2_with fail
          refine (HK1.out wr).mono ?_
          rintro e w1 ⟨rfl, rfl⟩
          go_wp2_with fail
          refine (HK2.out wr).mono ?_
          rintro e w1 ⟨rfl, rfl⟩
          go_wp2_with fail
          refine HC3.out.mono ?_
          rintro e w1 ⟨rfl, h1⟩
          have hT1 := hTr.below h1
          go_wp2_with fail
          refine (HC4.out w1).mono ?_
          rintro e w2 ⟨rfl, h2⟩
          have hT2 := hT1.below h2
          go_wp2_with fail
          refine (HC5.out w2 hT2).mono ?_
          rintro e w3 ⟨rfl, h3⟩
          have hT3 := hT2.below h3
          go_wp2_with fail
          refine (HC6.out w3 hT3).mono ?_
          rintro e w4 ⟨rfl, h4⟩
          have hT4 := hT3.below h4
          go_wp2_with fail
          refine (HC7.out w4 hT4).mono ?_
          rintro e w5 ⟨rfl, h5⟩
          have hB1 := hbl.trans (h1.mono hbl.size)
          have hB2 := hB1.trans (h2.mono hB1.size)
          have hB3 := hB2.trans (h3.mono hB2.size)
          have hB4 := hB3.trans (h4.mono hB3.size)
          have hB := hB4.trans (h5.mono hB4.size)
          clear h1 h2 h3 h4 h5 hT1 hT2 hT3 hT4 hB1 hB2 hB3 hB4
          go_wp2
          go_roundw
          case rel => exact ⟨k + 1, u, by omega, by omega, by go_num, rfl, by omega, by rw [HF.out]; congr 1; omega, hB⟩
          case measure => simp [intOf]; omega
    · have hC := dist_ok a0 T s0 (by omega) wr hTr
      by_cases hk1 : k < len
      · have hk2 : 300 ≤ k := by omega
        clear hlt
        go_wp2_with fail
        refine hC.mono ?_
        rintro e w1 ⟨rfl, h1⟩
        have hB := hbl.trans (h1.mono hbl.size)
        clear h1
        go_wp2
        go_ret
        exact ⟨by simp, hB⟩
      · clear hlt
        go_wp2_with fail
        refine hC.mono ?_
        rintro e w1 ⟨rfl, h1⟩
        have hB := hbl.trans (h1.mono hbl.size)
        clear h1
        go_wp2
        go_ret
        exact ⟨by simp, hB⟩
end Go.Proofs.YtldcfgifimdmmaaDoor
