/-
  WALKS: a text brought to a length; the law BitsMetric. Conditions: the texts are within the reach; the table is laid.
-/
import Derived.Test.YtldcfgifimdmmaaDoorDist
namespace Go.Proofs.YtldcfgifimdmmaaDoor
open Go.RowKit
set_option linter.unusedVariables false

theorem u8info : (Tryd.prog.info? 5).map (fun i => (i.zero, i.size, i.bytes)) = some (some (.int .u8 0), 1, 1) := by kernel_rfl

set_option maxHeartbeats 2000000 in
theorem fit_calls (s : ByteArray) (hs : s.size ≤ 140737488351232) (n : Nat) (hn : n ≤ 140737488351232) (w : World) :
    Calls Tryd.prog 7 #[.string s, .int .i64 n] w fun e w' => e = .returned (.string ⟨(fitL s.data.toList n).toArray⟩) ∧ Below w.heap.size w w' := by
  obtain ⟨i0, hi, hz0, hz1, hz2⟩ := info_parts u8info
  have hmk := fun W : World => run_make_bytes (P := Tryd.prog) 53 5 i0 Tryd.underlying53 hi hz0 hz1 hz2 n (by omega) W
  have hls : s.data.toList.length = s.size := rfl
  have HLS := Lib.hid hls
  clear hls
  go_enter Tryd.func7, Tryd.ntmps7
  go_wp2
  obtain ⟨W0, hW0⟩ : ∃ W0, w.alloc (.cells (madeCells #[.int .u8 0] n) 5) = W0 := ⟨_, rfl⟩
  have hB0 : Bys W0 w.heap.size 5 (fitK s.data.toList n 0) := by
    have : fitK s.data.toList n 0 = List.replicate n 0 := by simp [fitK]
    rw [this, ← hW0]; exact Bys.made w _ n
  have hbel : Below w.heap.size w W0 := by rw [← hW0]; exact (Below.refl _ _).alloc (Nat.le_refl _) _
  rw [hW0]
  clear hW0 hmk
  go_loopw [6] (fun i wr => ∃ k : Nat, k ≤ n ∧ k ≤ s.size ∧ i = .int .i64 k ∧ Bys wr w.heap.size 5 (fitK s.data.toList n k) ∧ Below w.heap.size w wr) (fun i _ => n - (intOf i).toNat)
  case atStart => exact ⟨0, Nat.zero_le _, Nat.zero_le _, rfl, hB0, hbel⟩
  case round =>
    obtain ⟨k, hk, hks, rfl, hB, hbl⟩ := hrel
    have hlen := fitK_length s.data.toList n k hk (by rw [HLS.out]; exact hks)
    by_cases hlt : k < n ∧ k < s.size
    · obtain ⟨h1, h2⟩ := hlt
      have hset := fitK_set s.data.toList n k h1 (by rw [HLS.out]; exact h2)
      have hsk : s.data.toList.getD k 0 = s[k] := by simp [List.getD, h2]; rfl
      have hc := hB.cell (i := k) (by omega)
      have hf := hB.frozen (i := k) (by omega)
      have hP := hB.put k (s.data.toList.getD k 0)
      rw [hset, hsk] at hP
      clear hset hlen hsk
      go_wp2
      go_roundw
      case rel => exact ⟨k + 1, by omega, by omega, by go_num, hP, hbl.setCell (p := ⟨w.heap.size, k, none⟩) (Nat.le_refl _) _⟩
      case measure => simp [intOf]; omega
    · have hs := hB.toStr (P := Tryd.prog) 53 9 5 Tryd.underlying53 Tryd.underlying5 Tryd.underlying9 n n hlen.symm
      rw [fitK_end s.data.toList n k hk (by rw [HLS.out]; exact hks) (by rw [HLS.out]; exact hlt)] at hs
      clear hlen
      by_cases h1 : k < n
      · have h2 : s.size ≤ k := by omega
        clear hlt
        go_wp2
        go_ret
        exact ⟨rfl, hbl⟩
      · clear hlt
        go_wp2
        go_ret
        exact ⟨rfl, hbl⟩

theorem toList_inj' (a b : ByteArray) : (a.data.toList = b.data.toList) ↔ a = b := by
  constructor
  · intro h; exact ByteArray.ext (Array.ext' h)
  · rintro rfl; rfl

theorem bytes_beq (a b : ByteArray) : (a.toList == b.toList) = decide (a.data.toList = b.data.toList) := by
  rw [ByteArray.toList_eq, ByteArray.toList_eq]
  by_cases h : a.data.toList = b.data.toList
  · simp [h]
  · simp [h]
    exact fun e => h (by rw [e])

set_option maxHeartbeats 4000000 in
theorem BitsMetric_walk (a0 : ByteArray) (s0 : a0.size ≤ 140737488351232) (a1 : ByteArray) (s1 : a1.size ≤ 140737488351232) (a2 : ByteArray) (s2 : a2.size ≤ 140737488351232) (w : World) (hL : TabLaid w) :
    Calls Tryd.prog 3 #[.string a0, .string a1, .string a2] w fun e w' => e = .returned (.bool true) ∧ Below w.heap.size w w' := by
  have hT := tab_of_laid hL
  clear hL
  have hla : a0.data.toList.length = a0.size := rfl
  have k1 := fit_calls a1 s1 a0.size s0 w
  have lb := fitL_length a1.data.toList a0.size
  have lc := fitL_length a2.data.toList a0.size
  obtain ⟨b, hb⟩ : ∃ b : ByteArray, (⟨(fitL a1.data.toList a0.size).toArray⟩ : ByteArray) = b := ⟨_, rfl⟩
  obtain ⟨c, hc⟩ : ∃ c : ByteArray, (⟨(fitL a2.data.toList a0.size).toArray⟩ : ByteArray) = c := ⟨_, rfl⟩
  have db : b.data.toList = fitL a1.data.toList a0.size := by rw [← hb]
  have dc : c.data.toList = fitL a2.data.toList a0.size := by rw [← hc]
  have zb : b.size = a0.size := by rw [← lb, ← db]; rfl
  have zc : c.size = a0.size := by rw [← lc, ← dc]; rfl
  have K1 := fun W => fit_calls a1 s1 a0.size s0 W
  have K2 := fun W => fit_calls a2 s2 a0.size s0 W
  simp only [hb] at K1
  simp only [hc] at K2
  have llb : b.data.toList.length = a0.size := zb
  have llc : c.data.toList.length = a0.size := zc
  have dv : ∀ p q : ByteArray, p.data.toList.length = q.data.toList.length → distR p.data.toList q.data.toList = (wt (xorL p.data.toList q.data.toList), 0) := by
    intro p q h; unfold distR; rw [if_neg (by simpa using h)]
  have xv : ∀ p q : ByteArray, p.data.toList.length = q.data.toList.length → xorR p.data.toList q.data.toList = (xorL p.data.toList q.data.toList, 0) := by
    intro p q h; unfold xorR; rw [if_neg (by simpa using h)]
  have hab : a0.data.toList.length = b.data.toList.length := by rw [hla, llb]
  have hac : a0.data.toList.length = c.data.toList.length := by rw [hla, llc]
  have hcb : c.data.toList.length = b.data.toList.length := by rw [llc, llb]
  have D1 := fun W h => Distance_below a0 b s0 (by omega) W h
  have D2 := fun W h => Distance_below b a0 (by omega) (by omega) W h
  have D3 := fun W h => Distance_below a0 c s0 (by omega) W h
  have D4 := fun W h => Distance_below c b (by omega) (by omega) W h
  have X1 := fun W => Xor_calls a0 b s0 (by omega) W
  rw [dv _ _ hab] at D1
  rw [dv _ _ hab.symm, xorL_comm b.data.toList] at D2
  rw [dv _ _ hac] at D3
  rw [dv _ _ hcb] at D4
  simp only [xv _ _ hab] at X1
  obtain ⟨x, hx⟩ : ∃ x : ByteArray, (⟨(xorL a0.data.toList b.data.toList).toArray⟩ : ByteArray) = x := ⟨_, rfl⟩
  have dx : x.data.toList = xorL a0.data.toList b.data.toList := by rw [← hx]
  have llx : x.data.toList.length = a0.size := by rw [dx, xorL_length _ _ hab, hla]
  have zx : x.size = a0.size := llx
  have hax : a0.data.toList.length = x.data.toList.length := by rw [hla, llx]
  simp only [hx] at X1
  have X2 := fun W => Xor_calls a0 x s0 (by omega) W
  simp only [xv _ _ hax] at X2
  have hxx : (⟨(xorL a0.data.toList x.data.toList).toArray⟩ : ByteArray) = b := by
    rw [dx, xorL_xorL _ _ hab]
  simp only [hxx] at X2
  have W1 := fun W h => Weight_below x (by omega) W h
  rw [dx] at W1
  have ht := wt_tri a0.data.toList b.data.toList c.data.toList hab hac
  have hz := wt_xor_zero a0.data.toList b.data.toList hab
  have hle := wt_le (xorL a0.data.toList b.data.toList)
  rw [xorL_length _ _ hab, hla] at hle
  have hle2 := wt_le (xorL a0.data.toList c.data.toList)
  rw [xorL_length _ _ hac, hla] at hle2
  have hle3 := wt_le (xorL c.data.toList b.data.toList)
  rw [xorL_length _ _ hcb, llc] at hle3
  have hbe := bytes_beq a0 b
  have hbb : (b.toList == b.toList) = true := by simp
  have ax : (a0 ++ (⟨#[120]⟩ : ByteArray)).size = a0.size + 1 := by rw [ByteArray.size_append]; rfl
  have D5 := fun W h => Distance_below a0 (a0 ++ ⟨#[120]⟩) s0 (by rw [ax]; omega) W h
  have dv5 : distR a0.data.toList (a0 ++ (⟨#[120]⟩ : ByteArray)).data.toList = (0, 11) := by
    unfold distR; rw [if_pos (by
      have : (a0 ++ (⟨#[120]⟩ : ByteArray)).data.toList.length = a0.size + 1 := ax
      rw [hla, this]; omega)]
  rw [dv5] at D5
  obtain ⟨ab, hab'⟩ : ∃ ab, wt (xorL a0.data.toList b.data.toList) = ab := ⟨_, rfl⟩
  obtain ⟨ac, hac'⟩ : ∃ ac, wt (xorL a0.data.toList c.data.toList) = ac := ⟨_, rfl⟩
  obtain ⟨cb, hcb'⟩ : ∃ cb, wt (xorL c.data.toList b.data.toList) = cb := ⟨_, rfl⟩
  simp only [hab', hac', hcb'] at D1 D2 D3 D4 W1 ht hz hle hle2 hle3
  have heq : ((ab : Int) == 0) = (a0.toList == b.toList) := by
    rw [hbe]
    by_cases h : ab = 0
    · simp [h, hz.1 h]
    · have : ¬ a0.data.toList = b.data.toList := fun e => h (hz.2 e)
      simp [h, this]
  obtain ⟨same, hsame⟩ : ∃ same, (a0.toList == b.toList) = same := ⟨_, rfl⟩
  rw [hsame] at heq
  have C1 := Lib.hid K1
  have C2 := Lib.hid K2
  have E1 := Lib.hid D1
  have E2 := Lib.hid D2
  have E3 := Lib.hid D3
  have E4 := Lib.hid D4
  have E5 := Lib.hid D5
  have F1 := Lib.hid X1
  have F2 := Lib.hid X2
  have G1 := Lib.hid W1
  clear K1 K2 D1 D2 D3 D4 D5 X1 X2 W1 k1 lb lc hb hc db dc llb llc dv xv hab hac hcb hx dx llx hax hxx hbe hab' hac' hcb' hz dv5 hla ax
  go_enter Tryd.func3, Tryd.ntmps3
  go_wp2_with fail
  refine (C1.out w).mono ?_
  rintro e w1 ⟨rfl, h1⟩
  have hT1 := hT.below h1
  go_wp2_with fail
  refine (C2.out w1).mono ?_
  rintro e w2 ⟨rfl, h2⟩
  have hT2 := hT1.below h2
  go_wp2_with fail
  refine (E1.out w2 hT2).mono ?_
  rintro e w3 ⟨rfl, h3⟩
  have hT3 := hT2.below h3
  go_wp2_with fail
  refine (E2.out w3 hT3).mono ?_
  rintro e w4 ⟨rfl, h4⟩
  have hT4 := hT3.below h4
  go_wp2_with fail
  refine (E3.out w4 hT4).mono ?_
  rintro e w5 ⟨rfl, h5⟩
  have hT5 := hT4.below h5
  go_wp2_with fail
  refine (E4.out w5 hT5).mono ?_
  rintro e w6 ⟨rfl, h6⟩
  have hT6 := hT5.below h6
  go_wp2_with fail
  refine (F1.out w6).mono ?_
  rintro e w7 ⟨rfl, h7⟩
  have hT7 := hT6.below h7
  go_wp2_with fail
  refine (F2.out w7).mono ?_
  rintro e w8 ⟨rfl, h8⟩
  have hT8 := hT7.below h8
  have hB2 := h1.trans (h2.mono h1.size)
  have hB3 := hB2.trans (h3.mono hB2.size)
  have hB4 := hB3.trans (h4.mono hB3.size)
  have hB5 := hB4.trans (h5.mono hB4.size)
  have hB6 := hB5.trans (h6.mono hB5.size)
  have hB7 := hB6.trans (h7.mono hB6.size)
  have hB8 := hB7.trans (h8.mono hB7.size)
  clear h1 h2 h3 h4 h5 h6 h7 h8 hT hT1 hT2 hT3 hT4 hT5 hT6 hT7 C1 C2 E1 E2 E3 E4 F1 F2 hB2 hB3 hB4 hB5 hB6 hB7
  go_wp2_with fail
  refine (E5.out w8 hT8).mono ?_
  rintro e w9 ⟨rfl, h9⟩
  have hT9 := hT8.below h9
  have hB9 := hB8.trans (h9.mono hB8.size)
  clear hB8 hT8 h9
  go_wp2_with fail
  refine (G1.out w9 hT9).mono ?_
  rintro e w10 ⟨rfl, h10⟩
  have hB := hB9.trans (h10.mono hB9.size)
  clear E5 G1 hT9 h10 hB9
  go_wp2
  go_ret
  exact ⟨by simp; omega, hB⟩
end Go.Proofs.YtldcfgifimdmmaaDoor
