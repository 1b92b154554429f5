/-
  WALKS: seal.On, seal.Sum and the document's answer's: each returns the sum of XCrc. Conditions: the text is within the reach; the table holds its sixteen numbers.
-/
import Derived.Test.YtihgjihdmlomaaaDoorProg
import Derived.Test.YtihgjihdmlomaaaDoorCrc
import Derived.WalkKit
import Derived.WalkLawsBesides
import Derived.Lib.Hide
import Derived.Lib.LaidTab
import Derived.Outline
namespace Go.Proofs.YtihgjihdmlomaaaDoor
open Go.RowKit

/-- The sixteen cells of the table. -/
def Tab (w : World) : Prop := ∀ i : Nat, i < 16 → w.cell? ⟨1, i, none⟩ = some (.int .u32 (Crc.T.getD i 0 : Nat))

theorem take_snoc (s : ByteArray) (k : Nat) (h : k < s.size) : s.data.toList.take (k + 1) = s.data.toList.take k ++ [s[k]] := by
  rw [List.take_succ_eq_append_getElem (by simpa using h)]; rfl

theorem crc_step (s : ByteArray) (r k : Nat) (h : k < s.size) : Crc.crc r (s.data.toList.take (k + 1)) = Crc.rb8 (Crc.crc r (s.data.toList.take k) ^^^ s[k].toNat) := by
  rw [take_snoc s k h, Crc.crc_snoc]

theorem lt_of_cell {w : World} {a : Addr} {v : Value} (h : w.cell? a = some v) : a.block < w.heap.size := by
  rcases Nat.lt_or_ge a.block w.heap.size with hlt | hge
  · exact hlt
  · simp [World.cell?, Array.getElem?_eq_none hge] at h
theorem Tab.below {w w' : World} (h : Tab w) (hb : Below w.heap.size w w') : Tab w' := fun i hi => (hb.cell (p := ⟨1, i, none⟩) (lt_of_cell (h i hi))).trans (h i hi)
theorem Tab.alloc {w : World} (h : Tab w) (o : Obj) : Tab (w.alloc o) := h.below ((Below.refl _ _).alloc (Nat.le_refl _) _)

theorem and15 (x : Nat) (h : x < 4294967296) : bits .and .u32 (x : Int) 15 = ((x % 16 : Nat) : Int) := by
  have := u32_and_nat x 15 h (by decide)
  rw [nat_mask4] at this; exact this
theorem xor32 (x y : Nat) (h : x < 4294967296) (h2 : y < 4294967296) : bits .xor .u32 (x : Int) (y : Int) = ((x ^^^ y : Nat) : Int) := u32_xor_nat x y h h2

set_option maxHeartbeats 1000000 in
theorem On_calls (s : Nat) (hs : s < 4294967296) (b : ByteArray) (hb : b.size ≤ 9223372036854775807) (w : World) (hT : Tab w) :
    Calls Tryd.prog 101 #[.int .u32 s, .string b] w fun e w' => e = .returned (.int .u32 (Crc.on s b.data.toList : Nat)) ∧ w = w' := by
  have hM : bits .xor .u32 IntKind.u32.max (s : Int) = ((4294967295 ^^^ s : Nat) : Int) := xor32 4294967295 s (by decide) hs
  obtain ⟨r, hr⟩ : ∃ r, 4294967295 ^^^ s = r := ⟨_, rfl⟩
  have hrl : r < 4294967296 := by rw [← hr]; exact Crc.xor_lt _ _ (by decide) hs
  have HR := Lib.hid hr
  rw [hr] at hM
  clear hr
  go_enter Tryd.func101, Tryd.ntmps101
  go_wp2
  go_loop [5, 6, 11] (fun v u i => ∃ k : Nat, k ≤ b.size ∧ i = .int .i64 k ∧ v = .int .u32 (Crc.crc r (b.data.toList.take k) : Nat)) (fun _ _ i => b.size - (intOf i).toNat)
  case atStart => exact ⟨0, Nat.zero_le _, rfl, rfl⟩
  case round =>
    obtain ⟨k, hk, rfl, hv⟩ := hrel
    have hvl := Crc.crc_lt (b.data.toList.take k) r hrl
    by_cases hlt : k < b.size
    · have HS := Lib.hid (crc_step b r k hlt)
      obtain ⟨v, hvv⟩ : ∃ v, Crc.crc r (b.data.toList.take k) = v := ⟨_, rfl⟩
      rw [hvv] at hv hvl HS
      subst hv
      clear hvv
      have hc := b[k].toNat_lt
      have e1 := xor32 v b[k].toNat hvl (by omega)
      obtain ⟨x, hx⟩ : ∃ x, v ^^^ b[k].toNat = x := ⟨_, rfl⟩
      have hxl : x < 4294967296 := by rw [← hx]; exact Crc.xor_lt _ _ hvl (by omega)
      rw [hx] at e1 HS
      clear hx
      have e2 := and15 x hxl
      have c1 := hT (x % 16) (by omega)
      have e3 : bits .xor .u32 ((x : Int) / 16) (Crc.T.getD (x % 16) 0 : Nat) = _ := xor32 (x / 16) (Crc.T.getD (x % 16) 0) (by omega) (Crc.T_lt _ (by omega))
      obtain ⟨y, hy⟩ : ∃ y, (x / 16) ^^^ (Crc.T.getD (x % 16) 0) = y := ⟨_, rfl⟩
      have hyl : y < 4294967296 := by rw [← hy]; exact Crc.half_lt x hxl
      have HY := Lib.hid hy
      rw [hy] at e3
      clear hy
      have e4 := and15 y hyl
      have c2 := hT (y % 16) (by omega)
      have e5 : bits .xor .u32 ((y : Int) / 16) (Crc.T.getD (y % 16) 0 : Nat) = _ := xor32 (y / 16) (Crc.T.getD (y % 16) 0) (by omega) (Crc.T_lt _ (by omega))
      have HZ : Hid ((y / 16) ^^^ (Crc.T.getD (y % 16) 0) = Crc.rb8 x) := Lib.hid (by rw [← Crc.half_half, show Crc.half x = y from HY.out]; rfl)
      obtain ⟨t1, ht1⟩ : ∃ t, Crc.T.getD (x % 16) 0 = t := ⟨_, rfl⟩
      obtain ⟨t2, ht2⟩ : ∃ t, Crc.T.getD (y % 16) 0 = t := ⟨_, rfl⟩
      rw [ht1] at c1 e3
      rw [ht2] at c2 e5 HZ
      clear ht1 ht2 hT HY
      go_wp2
      go_round
      case rel => exact ⟨k + 1, by omega, by go_num, by rw [HS.out, HZ.out]⟩
      case measure => simp [intOf]; omega
    · obtain rfl : k = b.size := by omega
      rw [List.take_of_length_le (by simp)] at hv hvl
      subst hv
      have hF : bits .xor .u32 IntKind.u32.max (Crc.crc r b.data.toList : Nat) = ((4294967295 ^^^ Crc.crc r b.data.toList : Nat) : Int) := xor32 4294967295 _ (by decide) hvl
      have hfin : 4294967295 ^^^ Crc.crc r b.data.toList = Crc.on s b.data.toList := by
        unfold Crc.on
        rw [← HR.out, Nat.xor_comm s, Nat.xor_comm _ Crc.M]; rfl
      rw [hfin] at hF
      have Hfin := Lib.hid hfin
      clear hfin
      go_wp2
      go_ret
      exact ⟨rfl, rfl⟩

set_option maxHeartbeats 1000000 in
theorem Sum_calls (b : ByteArray) (hb : b.size ≤ 9223372036854775807) (w : World) (hT : Tab w) :
    Calls Tryd.prog 102 #[.string b] w fun e w' => e = .returned (.int .u32 (Crc.on 0 b.data.toList : Nat)) ∧ w = w' := by
  go_enter Tryd.func102, Tryd.ntmps102
  go_wp2_with fail
  refine (On_calls 0 (by decide) b hb w hT).mono ?_
  rintro e w' ⟨rfl, rfl⟩
  go_wp2
  go_ret
  exact ⟨rfl, rfl⟩

/-- j bits of the register. -/
def rbs : Nat → Nat → Nat
  | 0, x => x
  | j + 1, x => rbs j (Crc.rb x)
theorem rbs_succ (j x : Nat) : rbs (j + 1) x = Crc.rb (rbs j x) := by
  induction j generalizing x with
  | zero => rfl
  | succ j ih => exact ih (Crc.rb x)
theorem rbs_lt (j x : Nat) (h : x < 4294967296) : rbs j x < 4294967296 := by
  induction j generalizing x with
  | zero => exact h
  | succ j ih => exact ih _ (Crc.rb_lt x h)
theorem rbs_8 (x : Nat) : rbs 8 x = Crc.rb8 x := rfl
theorem and1 (x : Nat) (h : x < 4294967296) : bits .and .u32 (x : Int) 1 = ((x % 2 : Nat) : Int) := by
  have := u32_and_nat x 1 h (by decide)
  rw [nat_mask1] at this; exact this
theorem rb_one (x : Nat) (h : x % 2 = 1) : (x / 2) ^^^ 2197175160 = Crc.rb x := by unfold Crc.rb; rw [if_pos h]; rfl
theorem rb_none (x : Nat) (h : ¬ x % 2 = 1) : x / 2 = Crc.rb x := by unfold Crc.rb; rw [if_neg h]; simp

set_option maxHeartbeats 2000000 in
theorem RefOn_calls (s : Nat) (hs : s < 4294967296) (b : ByteArray) (hb : b.size ≤ 9223372036854775807) (w : World) :
    Calls Tryd.prog 43 #[.int .u32 s, .string b] w fun e w' => e = .returned (.int .u32 (Crc.on s b.data.toList : Nat)) ∧ w = w' := by
  have hM : bits .xor .u32 (s : Int) 4294967295 = ((s ^^^ 4294967295 : Nat) : Int) := xor32 s 4294967295 hs (by decide)
  obtain ⟨r, hr⟩ : ∃ r, s ^^^ 4294967295 = r := ⟨_, rfl⟩
  have hrl : r < 4294967296 := by rw [← hr]; exact Crc.xor_lt _ _ hs (by decide)
  have HR := Lib.hid hr
  rw [hr] at hM
  clear hr
  go_enter Tryd.func43, Tryd.ntmps43
  go_wp2
  go_loop [5, 6, 7, 8] (fun v i _ _ => ∃ k : Nat, k ≤ b.size ∧ i = .int .i64 k ∧ v = .int .u32 (Crc.crc r (b.data.toList.take k) : Nat)) (fun _ i _ _ => b.size - (intOf i).toNat)
  case atStart => exact ⟨0, Nat.zero_le _, rfl, rfl⟩
  case round =>
    obtain ⟨k, hk, rfl, hv⟩ := hrel
    have hvl := Crc.crc_lt (b.data.toList.take k) r hrl
    by_cases hlt : k < b.size
    · have HS := Lib.hid (crc_step b r k hlt)
      obtain ⟨v, hvv⟩ : ∃ v, Crc.crc r (b.data.toList.take k) = v := ⟨_, rfl⟩
      rw [hvv] at hv hvl HS
      subst hv
      clear hvv
      have hc := b[k].toNat_lt
      have e1 := xor32 v b[k].toNat hvl (by omega)
      obtain ⟨x, hx⟩ : ∃ x, v ^^^ b[k].toNat = x := ⟨_, rfl⟩
      have hxl : x < 4294967296 := by rw [← hx]; exact Crc.xor_lt _ _ hvl (by omega)
      rw [hx] at e1 HS
      clear hx
      go_wp2
      go_loop [5, 7, 8] (fun v j _ => ∃ m : Nat, m ≤ 8 ∧ j = .int .i64 m ∧ v = .int .u32 (rbs m x : Nat)) (fun _ j _ => 8 - (intOf j).toNat)
      case atStart => exact ⟨0, Nat.zero_le _, rfl, rfl⟩
      case round =>
        obtain ⟨m, hm, rfl, hv2⟩ := hrel
        have hyl := rbs_lt m x hxl
        by_cases hm8 : m < 8
        · have HQ := Lib.hid (rbs_succ m x)
          obtain ⟨y, hy⟩ : ∃ y, rbs m x = y := ⟨_, rfl⟩
          rw [hy] at hv2 hyl HQ
          subst hv2
          clear hy
          have e2 := and1 y hyl
          have e3 : bits .xor .u32 ((y : Int) / 2) 2197175160 = _ := xor32 (y / 2) 2197175160 (by omega) (by decide)
          by_cases ho : y % 2 = 1
          · have HO := Lib.hid (rb_one y ho)
            have ho' : ((y : Int) % 2 == 1) = true := by simp; omega
            clear ho
            go_wp2
            go_round
            case rel => exact ⟨m + 1, by omega, by go_num, by rw [HQ.out, ← HO.out]⟩
            case measure => simp [intOf]; omega
          · have HO := Lib.hid (rb_none y ho)
            have ho' : ((y : Int) % 2 == 1) = false := by simp; omega
            clear ho
            go_wp2
            go_round
            case rel => exact ⟨m + 1, by omega, by go_num, by rw [HQ.out, ← HO.out]; go_num⟩
            case measure => simp [intOf]; omega
        · obtain rfl : m = 8 := by omega
          rw [rbs_8] at hv2
          subst hv2
          go_wp2
          go_round
          case rel => exact ⟨k + 1, by omega, by go_num, by rw [HS.out]⟩
          case measure => simp [intOf]; omega
    · obtain rfl : k = b.size := by omega
      rw [List.take_of_length_le (by simp)] at hv hvl
      subst hv
      have hF : bits .xor .u32 (Crc.crc r b.data.toList : Nat) 4294967295 = ((Crc.crc r b.data.toList ^^^ 4294967295 : Nat) : Int) := xor32 _ 4294967295 hvl (by decide)
      have hfin : Crc.crc r b.data.toList ^^^ 4294967295 = Crc.on s b.data.toList := by
        unfold Crc.on
        rw [← HR.out]; rfl
      rw [hfin] at hF
      have Hfin := Lib.hid hfin
      clear hfin
      go_wp2
      go_ret
      exact ⟨rfl, rfl⟩

theorem RefSum_calls (b : ByteArray) (hb : b.size ≤ 9223372036854775807) (w : World) :
    Calls Tryd.prog 90 #[.string b] w fun e w' => e = .returned (.int .u32 (Crc.on 0 b.data.toList : Nat)) ∧ w = w' := by
  go_enter Tryd.func90, Tryd.ntmps90
  go_wp2_with fail
  refine (RefOn_calls 0 (by decide) b hb w).mono ?_
  rintro e w' ⟨rfl, rfl⟩
  go_wp2
  go_ret
  exact ⟨rfl, rfl⟩

theorem u32_bounds {a : Int} (h : (Lit.int .u32 a).wf = true) : 0 ≤ a ∧ a < 4294967296 := by
  simp [Lit.wf, IntKind.min, IntKind.max, IntKind.signed, IntKind.bits] at h; omega

/-- The table as the row lists it. -/
def TabLaid (w : World) : Prop := Lib.TabIs Tryd.prog w "kindred/seal.table" .u32 [0, 274646895, 549293790, 820201905, 1098587580, 1361435347, 1640403810, 1905808397, 2197175160, 2460548119, 2722870694, 2987750089, 3280807620, 3553878443, 3811616794, 4084100981]

theorem tab_of_laid {w : World} (h : TabLaid w) : Tab w := by
  intro i hi
  have hg : Tryd.prog.globalNamed "kindred/seal.table" = some 1 := by kernel_rfl
  have := h.cell hg i (by simpa using hi)
  rw [this]
  have e : ∀ i : Fin 16, ([0, 274646895, 549293790, 820201905, 1098587580, 1361435347, 1640403810, 1905808397, 2197175160, 2460548119, 2722870694, 2987750089, 3280807620, 3553878443, 3811616794, 4084100981] : List Int).getD i.val 0 = ((Crc.T.getD i.val 0 : Nat) : Int) := by decide +kernel
  exact congrArg (fun z => some (Value.int .u32 z)) (e ⟨i, hi⟩)

end Go.Proofs.YtihgjihdmlomaaaDoor
