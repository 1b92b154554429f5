/-
  WALK: the law BitsPigeon: the distance is the sum over the chunks, one of which has a part of it at most.
-/
import Derived.Test.YtldcfgifimdmmaaDoorPigeonP
import Derived.Test.YtldcfgifimdmmaaDoorArgs
import Derived.Test.YtldcfgifimdmmaaDoorJoin2
import Derived.Test.YtldcfgifimdmmaaDoorCodes
namespace Go.Proofs.YtldcfgifimdmmaaDoor
open Go.RowKit XKit
set_option linter.unusedVariables false

set_option maxHeartbeats 1000000 in
theorem ones_calls (v : Nat) (hv : v < 4294967296) (w : World) :
    Calls Tryd.prog 22 #[.int .i64 v] w fun e w' => e = .returned (.int .i64 (popB v 32 : Nat)) ∧ w = w' := by
  have HV := Lib.hid hv
  go_enter Tryd.func22, Tryd.ntmps22
  go_wp2
  go_loop [0, 3] (fun x n => ∃ t : Nat, t ≤ 32 ∧ x = .int .i64 ((v / 2 ^ t : Nat) : Int) ∧ n = .int .i64 (popB v t : Nat)) (fun x _ => (intOf x).toNat)
  case atStart => exact ⟨0, by omega, by simp, rfl⟩
  case round =>
    obtain ⟨t, ht, rfl, rfl⟩ := hrel
    obtain ⟨q, hq⟩ : ∃ q, v / 2 ^ t = q := ⟨_, rfl⟩
    have hql : q ≤ v := by rw [← hq]; exact Nat.div_le_self _ _
    have hpl := popB_le v t
    by_cases hpos : 0 < q
    · have ht32 : t < 32 := by
        rcases Nat.lt_or_ge t 32 with h | h
        · exact h
        · have : v < 2 ^ t := Nat.lt_of_lt_of_le hv (Nat.pow_le_pow_right (n := 2) (by omega) h)
          rw [Nat.div_eq_of_lt this] at hq
          omega
      have hand := and_one_i64 q (by omega)
      have hb : q % 2 = (v.testBit t).toNat := by
        rw [Nat.testBit_eq_decide_div_mod_eq, hq]
        rcases Nat.mod_two_eq_zero_or_one q with e | e <;> rw [e] <;> rfl
      have hb1 : (v.testBit t).toNat ≤ 1 := by cases v.testBit t <;> decide
      have HP : Hid (popB v (t + 1) = popB v t + (v.testBit t).toNat) := Lib.hid rfl
      have HQ : Hid (v / 2 ^ (t + 1) = q / 2) := Lib.hid (by rw [Nat.pow_succ, ← Nat.div_div_eq_div_mul, hq])
      rw [hb] at hand
      obtain ⟨o, ho⟩ : ∃ o, (v.testBit t).toNat = o := ⟨_, rfl⟩
      obtain ⟨n, hn⟩ : ∃ n, popB v t = n := ⟨_, rfl⟩
      rw [ho] at hand hb1 HP
      rw [hn] at hpl HP
      rw [hq, hn]
      clear hb ho hn hq hv
      go_wp2
      go_round
      case rel => exact ⟨t + 1, by omega, by rw [HQ.out]; go_num, by rw [HP.out]; go_num⟩
      case measure => simp [intOf]; omega
    · obtain rfl : q = 0 := by omega
      have hlt : v < 2 ^ t := by
        rcases Nat.lt_or_ge v (2 ^ t) with h | h
        · exact h
        · have := Nat.div_pos h (Nat.two_pow_pos t)
          omega
      have hs := popB_stop v t hlt (32 - t)
      rw [show t + (32 - t) = 32 by omega] at hs
      have HS := Lib.hid hs
      clear hs hlt hv
      rw [hq, show ((0 : Nat) : Int) = 0 from rfl]
      clear hq hpos
      go_wp2
      go_ret
      exact ⟨by rw [HS.out]; rfl, rfl⟩

theorem splitV_at (l : List UInt8) (w m j : Nat) (h : j < m) : (splitV l w m m)[j]? = some (.int .i64 (numOf (bitsOf l (cF w m j) (cN w m j)) : Nat)) := by
  have hf : (fr m m)[j]? = some ⟨j, h⟩ := by unfold fr; simp [h]
  unfold splitV
  rw [List.getElem?_map, hf]; rfl
def valL (l : List UInt8) (w m : Nat) : List Int := (List.range m).map fun j => ((numOf (bitsOf l (cF w m j) (cN w m j)) : Nat) : Int)
theorem valL_length (l : List UInt8) (w m : Nat) : (valL l w m).length = m := by simp [valL]
theorem valL_get (l : List UInt8) (w m j : Nat) (h : j < m) : (valL l w m).getD j 0 = ((numOf (bitsOf l (cF w m j) (cN w m j)) : Nat) : Int) := by simp [valL, List.getD, h]
theorem chunkC_at2 (w m : Nat) : ∀ (n j : Nat), j < n → (chunkC w m n)[j * 2]? = some (.int .i64 (cF w m j : Int)) ∧ (chunkC w m n)[j * 2 + 1]? = some (.int .i64 (cN w m j : Int))
  | 0, j, h => by omega
  | n + 1, j, h => by
    have hl : ∀ n, (chunkC w m n).length = 2 * n := fun n => by
      induction n with
      | zero => rfl
      | succ n ih => rw [chunkC_succ, List.length_append, ih]; simp; omega
    rw [chunkC_succ]
    have hl := hl n
    by_cases hj : j < n
    · rw [List.getElem?_append_left (by omega), List.getElem?_append_left (by omega)]; exact chunkC_at2 w m n j hj
    · obtain rfl : j = n := by omega
      rw [List.getElem?_append_right (by omega), List.getElem?_append_right (by omega), hl]
      simp [show j * 2 + 1 - 2 * j = 1 by omega, show j * 2 - 2 * j = 0 by omega]
theorem cN_bounds (w m j : Nat) (h1 : 64 ≤ w) (h2 : w ≤ 1024) (h4 : (w + 31) / 32 ≤ m) (h5 : m ≤ w / 8) : 8 ≤ cN w m j ∧ cN w m (j + 1) ≤ cN w m j ∧ cN w m 0 ≤ cN w m j + 1 := by
  have hm : 0 < m := by omega
  have h8 : 8 ≤ w / m := (Nat.le_div_iff_mul_le hm).2 (by omega)
  unfold cN
  refine ⟨by omega, ?_, ?_⟩
  · split
    · split <;> omega
    · omega
  · split <;> split <;> omega
theorem xor_i64 (a b : Nat) (ha : a < 9223372036854775808) (hb : b < 9223372036854775808) : bits .xor .i64 (a : Int) (b : Int) = ((a ^^^ b : Nat) : Int) := by
  have hx : a ^^^ b < 2 ^ 63 := Nat.xor_lt_two_pow (by omega) (by omega)
  have o : ∀ a : Nat, a < 9223372036854775808 → (BitVec.ofInt 64 (a : Int)).toNat = a := fun a ha => by rw [BitVec.ofInt_natCast, BitVec.toNat_ofNat]; exact Nat.mod_eq_of_lt (by omega)
  show IntKind.i64.wrap ((BitVec.ofInt 64 (a : Int) ^^^ BitVec.ofInt 64 (b : Int)).toNat : Int) = _
  rw [BitVec.toNat_xor, o a ha, o b hb, IntKind.wrap_i64]
  omega
attribute [local irreducible] chunkC splitV valL

set_option maxRecDepth 100000 in
set_option maxHeartbeats 4000000 in
theorem BitsPigeon_walk (a0 : Int) (w0 : (Lit.int .i64 a0).wf = true) (a1 : Int) (w1 : (Lit.int .i64 a1).wf = true) (a2 : ByteArray) (s2 : a2.size ≤ 140737488351232) (a3 : ByteArray) (s3 : a3.size ≤ 140737488351232) (w : World) (hL : TabLaid w) :
    Calls Tryd.prog 6 #[.int .i64 a0, .int .i64 a1, .string a2, .string a3] w fun e w' => e = .returned (.bool true) ∧ Below w.heap.size w w' := by
  have hT := tab_of_laid hL
  have hok := wOf_ok a0 a1
  have hck := wOf_chunked a0 a1
  have CW := widths_calls a0 a1 w
  obtain ⟨W, hW⟩ : ∃ W, wOf a0 = W := ⟨_, rfl⟩
  obtain ⟨M, hM⟩ : ∃ M, mOf a0 a1 = M := ⟨_, rfl⟩
  rw [hW, hM] at hck CW hok
  have HCK := Lib.hid hck
  obtain ⟨g1, g2, g3, g4, g5⟩ := hok
  obtain ⟨nb, hnb⟩ : ∃ nb, W / 8 = nb := ⟨_, rfl⟩
  have hnbi : (W : Int) / 8 = (nb : Int) := by omega
  have hnb2 : nb ≤ 128 := by omega
  have CF1 := fit_calls a2 s2 nb (by omega)
  have CF2 := fit_calls a3 s3 nb (by omega)
  obtain ⟨A, hA, hAl⟩ : ∃ s : ByteArray, (⟨(fitL a2.data.toList nb).toArray⟩ : ByteArray) = s ∧ s.size = nb := ⟨_, rfl, by rw [size_data]; simp [fitL_length]⟩
  obtain ⟨B, hB, hBl⟩ : ∃ s : ByteArray, (⟨(fitL a3.data.toList nb).toArray⟩ : ByteArray) = s ∧ s.size = nb := ⟨_, rfl, by rw [size_data]; simp [fitL_length]⟩
  rw [hA] at CF1
  rw [hB] at CF2
  have H1 := Lib.hid CF1
  have H2 := Lib.hid CF2
  have HNB := Lib.hid hnb
  clear hL hW hM hck hnb CF1 CF2 hA hB
  go_enter Tryd.func6, Tryd.ntmps6
  go_wp2_with fail
  refine CW.mono ?_
  rintro e x1 ⟨rfl, b1⟩
  clear CW
  go_wp2_with fail
  refine (H1.out x1).mono ?_
  rintro e x2 ⟨rfl, b2'⟩
  have b2 := b1.trans (b2'.mono b1.size)
  go_wp2_with fail
  refine (H2.out x2).mono ?_
  rintro e x3 ⟨rfl, b3'⟩
  have b3 := b2.trans (b3'.mono b2.size)
  clear b1 b2 b2' b3' H1 H2
  go_wp2_with fail
  refine (Chunks_ok W M HCK.out x3).mono ?_
  rintro e x4 ⟨vc, rfl, hrow, b4'⟩
  go_wp2_with fail
  refine (Split_ok W M A HCK.out (by rw [HNB.out]; exact hAl) x4).mono ?_
  rintro e x5 ⟨vx, rfl, hx, b5'⟩
  go_wp2_with fail
  refine (Split_ok W M B HCK.out (by rw [HNB.out]; exact hBl) x5).mono ?_
  rintro e x6 ⟨vy, rfl, hy, b6'⟩
  have hrow6 := own_belowAll (own_belowAll hrow b5') b6'
  have hx6 := own_belowAll hx b6'
  have b4 := b3.trans (b4'.mono b3.size)
  have b5 := b4.trans (b5'.mono b4.size)
  have b6 := b5.trans (b6'.mono b5.size)
  have CD := Distance_below A B (by omega) (by omega) x6 (hT.below b6)
  have hdist : distR A.data.toList B.data.toList = (wt (xorL A.data.toList B.data.toList), 0) := by
    unfold distR; rw [if_neg (by rw [show A.data.toList.length = A.size from rfl, show B.data.toList.length = B.size from rfl]; omega)]
  rw [hdist] at CD
  clear hrow hx b3 b4 b5 b4' b5' b6' hdist
  obtain ⟨gc, capc, rfl, hgc, hgl⟩ := hrow6.form (by omega)
  obtain ⟨gx, capx, rfl, hgx, hgxl⟩ := hx6.form (by omega)
  obtain ⟨gy, capy, rfl, hgy, hgyl⟩ := hy.form (by omega)
  have HR := Lib.hid (And.intro hrow6 (And.intro hx6 hy))
  have HCD := Lib.hid CD
  clear hrow6 hx6 hy CD
  go_wp2_with fail
  refine HCD.out.mono ?_
  rintro e x7 ⟨rfl, b7'⟩
  have b7 := b6.trans (b7'.mono b6.size)
  have HR7 := Lib.hid (And.intro (own_belowAll HR.out.1 b7') (And.intro (own_belowAll HR.out.2.1 b7') (own_belowAll HR.out.2.2 b7')))
  have hs7 := b7'.size
  clear HR HCD b7'
  have hzs : splitV A.data.toList W M M = (valL A.data.toList W M).map (Value.int .i64) := by
    apply List.ext_getElem?
    intro j
    by_cases hj : j < M
    · rw [splitV_at _ _ _ _ hj, ints_get _ _ (by rw [valL_length]; exact hj), valL_get _ _ _ _ hj]
    · have h1 := HR7.out.2.1.1
      rw [List.getElem?_eq_none (by omega), List.getElem?_eq_none (by rw [List.length_map, valL_length]; omega)]
  have CJ := Join_ok W M (some ⟨gx, 0, none⟩) capx (valL A.data.toList W M) HCK.out (valL_length _ _ _) x7 (fun i hi => ⟨_, rfl, by
    rw [add0, HR7.out.2.1.cellAt i (by omega), splitV_at _ _ _ _ hi, valL_get _ _ _ _ hi]⟩)
  have hgood : ∀ x : Fin M, goodV W M (valL A.data.toList W M) x := fun x => by
    unfold goodV
    rw [valL_get _ _ _ _ x.isLt]
    have := numOf_lt (bitsOf A.data.toList (cF W M x.val) (cN W M x.val))
    rw [bitsOf_length] at this
    exact ⟨by omega, by exact_mod_cast this⟩
  have hjoin : joinB W M ((valL A.data.toList W M).map Int.toNat) = A.data.toList := joinB_split W M _ _ (by omega) (by omega) (by rw [show A.data.toList.length = A.size from rfl, hAl, HNB.out]) (fun j hj => by simp [valL, List.getD, hj])
  rw [hjoin] at CJ
  have HCJ := Lib.hid CJ
  have HG := Lib.hid hgood
  have hAA : (⟨A.data.toList.toArray⟩ : ByteArray) = A := by simp
  rw [hAA] at HCJ
  clear CJ hgood hjoin hAA hzs
  go_wp2_with fail
  refine HCJ.out.mono ?_
  rintro e x8 ⟨hj, _, b8'⟩
  obtain rfl := hj HG.out
  have b8 := b7.trans (b8'.mono b7.size)
  have HR8 := Lib.hid (And.intro (own_belowAll HR7.out.1 b8') (And.intro (own_belowAll HR7.out.2.1 b8') (own_belowAll HR7.out.2.2 b8')))
  have hs8 := b8'.size
  have hee : (A.toList == A.toList) = true := by simp
  have CK := Check_calls W A (by omega)
  have hck0 : checkR W A.size = 0 := by
    have hwB : widthB (W : Int) = true := by unfold widthB; simp; omega
    unfold checkR
    rw [hwB, if_pos rfl, if_pos (by omega)]
  rw [hck0] at CK
  have HCK2 := Lib.hid CK
  clear hj b8' HCJ HR7 HG CK hck0
  go_wp2_with fail
  refine (HCK2.out _).mono ?_
  rintro e y ⟨rfl, rfl⟩
  clear HCK2
  have hall : cnt (xorL A.data.toList B.data.toList) W = wt (xorL A.data.toList B.data.toList) := by
    rw [← cnt_all, xorL_length _ _ (by show A.size = B.size; omega), show A.data.toList.length = A.size from rfl]
    congr 1
    omega
  have hcf : cF W M M = W := cF_all W M (by omega)
  have hcl : ∀ n, cnt (xorL A.data.toList B.data.toList) n ≤ n := cnt_le _
  have HAB : Hid (∀ j, j < M → cnt (xorL A.data.toList B.data.toList) (cF W M (j + 1)) = cnt (xorL A.data.toList B.data.toList) (cF W M j) + popB (numOf (bitsOf A.data.toList (cF W M j) (cN W M j)) ^^^ numOf (bitsOf B.data.toList (cF W M j) (cN W M j))) 32) := Lib.hid (fun j hj => by
    have h1 := cF_end W M j (by omega) hj
    have h2 := cN_le W M j (by omega) (by omega)
    have := far_chunk A.data.toList B.data.toList (by show A.size = B.size; omega) (cF W M j) (cN W M j) (by show _ ≤ 8 * A.size; omega) h2
    exact this)
  obtain ⟨C, hC⟩ : ∃ C : Nat → Nat, cnt (xorL A.data.toList B.data.toList) = C := ⟨_, rfl⟩
  obtain ⟨d, hd⟩ : ∃ d, wt (xorL A.data.toList B.data.toList) = d := ⟨_, rfl⟩
  rw [hC] at HAB hcl hall
  rw [hd] at hall ⊢
  have HALL := Lib.hid hall
  have HCF := Lib.hid hcf
  have HCL := Lib.hid hcl
  have HC0 : Hid (C 0 = 0) := Lib.hid (by rw [← hC]; rfl)
  clear hall hcf hcl hC hd
  go_wp2
  go_loopw [19, 20, 21, 22] (fun at_ sm ls j wr => ∃ k l : Nat, k ≤ M ∧ j = .int .i64 k ∧ at_ = .int .i64 (cF W M k : Nat) ∧ sm = .int .i64 (C (cF W M k) : Nat) ∧ ls = .int .i64 (l : Nat) ∧ l ≤ W ∧ Hid (l * k ≤ C (cF W M k)) ∧ Below x8.heap.size x8 wr) (fun _ _ _ j _ => M - (intOf j).toNat)
  case atStart => exact ⟨0, W, Nat.zero_le _, rfl, rfl, by rw [show cF W M 0 = 0 from rfl, HC0.out]; rfl, rfl, Nat.le_refl _, Lib.hid (by simp), Below.refl _ _⟩
  case round =>
    obtain ⟨k, l, hk, rfl, rfl, rfl, rfl, hlW, HLS, hbl⟩ := hrel
    by_cases hlt : k < M
    · have hfe := cF_end W M k (by omega) hlt
      have hc32 := cN_le W M k (by omega) (by omega)
      obtain ⟨hc8, hcm, hc0⟩ := cN_bounds W M k g1 g2 g4 g5
      have hcz32 := cN_le W M 0 (by omega) (by omega)
      have HF : Hid (cF W M (k + 1) = cF W M k + cN W M k) := Lib.hid rfl
      have hCk := HCL.out (cF W M k)
      have hCk1 := HCL.out (cF W M (k + 1))
      have HA := Lib.hid (HAB.out k hlt)
      have hbA := hbl.alloc hbl.size (.cells #[.int .i64 (cF W M k : Nat), .int .i64 (cN W M k : Nat)] 49)
      obtain ⟨q0, q1⟩ := chunkC_at2 W M M k hlt
      have k0 := (hbl.cell (p := ⟨gc, k * 2, none⟩) (show gc < x8.heap.size by omega)).trans ((HR8.out.1.cellAt (k * 2) (by omega)).trans q0)
      have k1 := (hbl.cell (p := ⟨gc, k * 2 + 1, none⟩) (show gc < x8.heap.size by omega)).trans ((HR8.out.1.cellAt (k * 2 + 1) (by omega)).trans q1)
      have k2 := (hbA.cell (p := ⟨gc, 1, none⟩) (show gc < x8.heap.size by omega)).trans ((HR8.out.1.cellAt 1 (by omega)).trans (chunkC_at2 W M M 0 (by omega)).2)
      have k3 := (hbA.cell (p := ⟨gx, k, none⟩) (show gx < x8.heap.size by omega)).trans ((HR8.out.2.1.cellAt k (by omega)).trans (splitV_at _ _ _ _ hlt))
      have k4 := (hbA.cell (p := ⟨gy, k, none⟩) (show gy < x8.heap.size by omega)).trans ((HR8.out.2.2.cellAt k (by omega)).trans (splitV_at _ _ _ _ hlt))
      have hxl := numOf_lt (bitsOf A.data.toList (cF W M k) (cN W M k))
      have hyl := numOf_lt (bitsOf B.data.toList (cF W M k) (cN W M k))
      rw [bitsOf_length] at hxl hyl
      obtain ⟨x, hx⟩ : ∃ x, numOf (bitsOf A.data.toList (cF W M k) (cN W M k)) = x := ⟨_, rfl⟩
      obtain ⟨y, hy⟩ : ∃ y, numOf (bitsOf B.data.toList (cF W M k) (cN W M k)) = y := ⟨_, rfl⟩
      rw [hx] at k3 hxl HA
      rw [hy] at k4 hyl HA
      have hprev : 0 < k → (wr.alloc (.cells #[.int .i64 (cF W M k : Nat), .int .i64 (cN W M k : Nat)] 49)).cell? ⟨gc, (k - 1) * 2 + 1, none⟩ = some (.int .i64 (cN W M (k - 1) : Nat)) ∧ cN W M k ≤ cN W M (k - 1) := fun h0 => by
        refine ⟨(hbA.cell (p := ⟨gc, (k - 1) * 2 + 1, none⟩) (show gc < x8.heap.size by omega)).trans ((HR8.out.1.cellAt ((k - 1) * 2 + 1) (by omega)).trans (chunkC_at2 W M M (k - 1) (by omega)).2), ?_⟩
        have := (cN_bounds W M (k - 1) g1 g2 g4 g5).2.1
        rwa [show k - 1 + 1 = k by omega] at this
      obtain ⟨cp, hcp⟩ : ∃ c, cN W M (k - 1) = c := ⟨_, rfl⟩
      rw [hcp] at hprev
      obtain ⟨cz, hcz⟩ : ∃ c, cN W M 0 = c := ⟨_, rfl⟩
      rw [hcz] at k2 hc0 hcz32
      obtain ⟨s1, hs1⟩ : ∃ s, C (cF W M (k + 1)) = s := ⟨_, rfl⟩
      have HS1 := Lib.hid hs1
      rw [hs1] at hCk1 HA
      obtain ⟨s0, hs0⟩ : ∃ s, C (cF W M k) = s := ⟨_, rfl⟩
      rw [hs0] at hCk HA HLS
      rw [hs0]
      have hf1 : cF W M (k + 1) ≤ 1024 := Nat.le_trans (cF_le W M (k + 1) (by omega) (by omega)) g2
      obtain ⟨c, hc⟩ : ∃ c, cN W M k = c := ⟨_, rfl⟩
      obtain ⟨f, hf⟩ : ∃ f, cF W M k = f := ⟨_, rfl⟩
      rw [hc] at k1 k2 k3 k4 hbA hc32 hc8 hc0 hxl hyl hfe HF hprev
      rw [hf] at k0 k2 k3 k4 hbA hfe HF hCk hprev
      have HBA := Lib.hid hbA
      clear hbA
      rw [hf]
      have hx32 : x < 4294967296 := Nat.lt_of_lt_of_le hxl (Nat.pow_le_pow_right (n := 2) (by omega) hc32)
      have hy32 : y < 4294967296 := Nat.lt_of_lt_of_le hyl (Nat.pow_le_pow_right (n := 2) (by omega) hc32)
      have hxor : bits .xor .i64 (x : Int) (y : Int) = ((x ^^^ y : Nat) : Int) := xor_i64 x y (by omega) (by omega)
      have hxy : x ^^^ y < 4294967296 := Nat.xor_lt_two_pow (n := 32) hx32 hy32
      have hwide : ((x : Int) / 2 ^ c != 0) = false := by
        rw [bne_eq_false_iff_eq]
        have e : (x : Int) / 2 ^ c = ((x / 2 ^ c : Nat) : Int) := by simp
        rw [e, Nat.div_eq_of_lt hxl]; rfl
      have CO := fun W => ones_calls (x ^^^ y) hxy W
      have hpl := popB_le (x ^^^ y) 32
      obtain ⟨z, hz⟩ : ∃ z, x ^^^ y = z := ⟨_, rfl⟩
      rw [hz] at hxor hpl HA hxy
      simp only [hz] at CO
      obtain ⟨far, hfar⟩ : ∃ far, popB z 32 = far := ⟨_, rfl⟩
      rw [hfar] at hpl HA
      simp only [hfar] at CO
      have hcz64 : cz ≤ 1024 := by omega
      have HCO := Lib.hid CO
      have HSUM : s0 ≤ 1024 := by omega
      have d1 : decide ((c : Int) < 8) = false := by simp; omega
      have d2 : decide ((32 : Int) < (c : Int)) = false := by simp; omega
      have d4 : decide ((1 : Int) < (cz : Int) - (c : Int)) = false := by simp; omega
      have d6 : decide ((x : Int) < 0) = false := by simp
      have hmin : min (IntKind.u64.wrap (c : Int)).toNat 64 = c := by rw [IntKind.wrap_u64]; omega
      have HLS2 : Hid (min far l * (k + 1) ≤ s1) := Lib.hid (by
        have h1 : min far l * k ≤ l * k := Nat.mul_le_mul_right _ (Nat.min_le_right _ _)
        have h2 := HLS.out
        have h3 := HA.out
        have h4 := Nat.min_le_left far l
        rw [Nat.mul_succ]
        omega)
      clear CO hx hy hcp hcz hs1 hs0 hc hf hz hfar q0 q1 hxl hyl hcm
      by_cases hk0 : 0 < k
      · obtain ⟨kp, hcpl⟩ := hprev hk0
        obtain ⟨j, hj⟩ : ∃ j, k = j + 1 := ⟨k - 1, by omega⟩
        have hji : (k : Int) - 1 = (j : Int) := by omega
        rw [show k - 1 = j by omega] at kp
        have d3 : decide ((0 : Int) < (k : Int)) = true := by simp; omega
        have d5 : decide (cp < c) = false := by simp; omega
        have hjM : j < M := by omega
        have hM0 : 0 < M := by omega
        have hw1 : IntKind.i64.wrap (j : Int) = (j : Int) := by rw [IntKind.wrap_i64]; omega
        have hw2 : IntKind.i64.wrap ((cz : Int) - (c : Int)) = (cz : Int) - (c : Int) := by rw [IntKind.wrap_i64]; omega
        clear hprev hj
        go_wp2
        go_quiet (fail)
        go_wp2
        go_quiet ((go_at_call 22; exact quiet_add_left (HCO.out _)))
        by_cases hfl : far < l
        · have hm : min far l = far := by omega
          rw [hm] at HLS2
          have hfd : decide (far < l) = true := by simp; omega
          clear hm
          go_wp2
          go_roundw
          case rel => exact ⟨k + 1, far, by omega, by go_num, by rw [HF.out]; go_num, by rw [HS1.out, HA.out]; go_num, rfl, by omega, Lib.hid (by rw [HS1.out]; exact HLS2.out), below_drewN HBA.out _⟩
          case measure => simp [intOf]; omega
        · have hm : min far l = l := by omega
          rw [hm] at HLS2
          have hfd : decide (far < l) = false := by simp; omega
          clear hm
          go_wp2
          go_roundw
          case rel => exact ⟨k + 1, l, by omega, by go_num, by rw [HF.out]; go_num, by rw [HS1.out, HA.out]; go_num, rfl, hlW, Lib.hid (by rw [HS1.out]; exact HLS2.out), below_drewN HBA.out _⟩
          case measure => simp [intOf]; omega
      · have d3 : decide ((0 : Int) < (k : Int)) = false := by simp; omega
        have hw2 : IntKind.i64.wrap ((cz : Int) - (c : Int)) = (cz : Int) - (c : Int) := by rw [IntKind.wrap_i64]; omega
        have hM0 : 0 < M := by omega
        clear hprev
        go_wp2
        go_quiet (fail)
        go_wp2
        go_quiet ((go_at_call 22; exact quiet_add_left (HCO.out _)))
        by_cases hfl : far < l
        · have hm : min far l = far := by omega
          rw [hm] at HLS2
          have hfd : decide (far < l) = true := by simp; omega
          clear hm
          go_wp2
          go_roundw
          case rel => exact ⟨k + 1, far, by omega, by go_num, by rw [HF.out]; go_num, by rw [HS1.out, HA.out]; go_num, rfl, by omega, Lib.hid (by rw [HS1.out]; exact HLS2.out), below_drewN HBA.out _⟩
          case measure => simp [intOf]; omega
        · have hm : min far l = l := by omega
          rw [hm] at HLS2
          have hfd : decide (far < l) = false := by simp; omega
          clear hm
          go_wp2
          go_roundw
          case rel => exact ⟨k + 1, l, by omega, by go_num, by rw [HF.out]; go_num, by rw [HS1.out, HA.out]; go_num, rfl, hlW, Lib.hid (by rw [HS1.out]; exact HLS2.out), below_drewN HBA.out _⟩
          case measure => simp [intOf]; omega
    · obtain rfl : k = M := by omega
      have hdm : l ≤ d / k := (Nat.le_div_iff_mul_le (by omega)).2 (by have := HLS.out; rw [HCF.out, HALL.out] at this; exact this)
      rw [HCF.out, HALL.out]
      have hdl : d ≤ 1024 := by have := HCL.out W; rw [HALL.out] at this; omega
      obtain ⟨q, hq⟩ : ∃ q, d / k = q := ⟨_, rfl⟩
      have hqd : q ≤ d := by rw [← hq]; exact Nat.div_le_self _ _
      have hqi : (d : Int) / (k : Int) = (q : Int) := by rw [← hq]; exact (Int.natCast_ediv _ _).symm
      rw [hq] at hdm
      have hlq : decide (l ≤ q) = true := by simp; omega
      have e1 : ((W : Int) == (W : Int)) = true := by simp
      have e2 : ((d : Int) == (d : Int)) = true := by simp
      clear hq
      go_wp2
      go_ret
      exact ⟨rfl, b8.trans (hbl.mono b8.size)⟩
end Go.Proofs.YtldcfgifimdmmaaDoor
