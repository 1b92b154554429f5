/-
  WALKS: the document's Split and Join.
-/
import Derived.Test.YtldcfgifimdmmaaRefCh
namespace Go.Proofs.Ytldcfgifimdmmaa
open Go.RowKit XKit
set_option linter.unusedVariables false

theorem chunkC_len (w m : Nat) : ∀ n, (chunkC w m n).length = 2 * n
  | 0 => rfl
  | n + 1 => by rw [chunkC_succ, List.length_append, chunkC_len w m n]; simp; omega
theorem chunkC_at (w m : Nat) : ∀ (n j : Nat), j < n → (chunkC w m n)[j * 2]? = some (.int .i64 (cF w m j : Int)) ∧ (chunkC w m n)[j * 2 + 1]? = some (.int .i64 (cN w m j : Int))
  | 0, j, h => by omega
  | n + 1, j, h => by
    rw [chunkC_succ]
    have hl := chunkC_len w m n
    by_cases hj : j < n
    · rw [List.getElem?_append_left (by omega), List.getElem?_append_left (by omega)]; exact chunkC_at w m n j hj
    · obtain rfl : j = n := by omega
      rw [List.getElem?_append_right (by omega), List.getElem?_append_right (by omega), hl]
      simp [show j * 2 + 1 - 2 * j = 1 by omega, show j * 2 - 2 * j = 0 by omega]
theorem splitV_succ (l : List UInt8) (w m k : Nat) (h : k < m) : splitV l w m (k + 1) = splitV l w m k ++ [.int .i64 (numOf (bitsOf l (cF w m k) (cN w m k)) : Nat)] := by
  unfold splitV
  rw [fr_succ m k h]
  simp
theorem orB_false (l : List UInt8) (i : Nat) : orB l i false = l := by
  unfold orB
  simp only [Bool.toNat_false, Nat.zero_mul, Nat.or_zero, UInt8.ofNat_toNat]
  apply List.ext_getElem?
  intro j
  rw [List.getElem?_set]
  split
  · rename_i h
    subst h
    split
    · rename_i h2
      simp [List.getD, h2]
    · rename_i h2
      rw [List.getElem?_eq_none (by omega)]
  · rfl
theorem pow_nat (c : Nat) : (2 : Int) ^ c = ((2 ^ c : Nat) : Int) := by simp
attribute [local irreducible] chunkC splitV

set_option maxHeartbeats 1000000 in
theorem RefSplit_no (a b : Int) (s : ByteArray) (hc0 : chunkedR a b ≠ 0) (w : World) :
    Calls Try.prog 28 #[.int .i64 a, .int .i64 b, .string s] w fun e w' => e = .returned (.tuple #[.slice none 0 0, .int .i64 (chunkedR a b)]) ∧ Below w.heap.size w w' := by
  have C := RefChunks_no a b hc0 w
  have hne : (chunkedR a b != 0) = true := by rw [bne_iff_ne]; exact hc0
  obtain ⟨c, hc⟩ : ∃ c, chunkedR a b = c := ⟨_, rfl⟩
  rw [hc] at C hne
  rw [hc]
  clear hc hc0
  go_enter Try.func28, Try.ntmps28
  go_wp2_with fail
  refine C.mono ?_
  rintro e w1 ⟨rfl, rfl⟩
  go_wp2
  go_ret2
  exact ⟨rfl, Below.refl _ _⟩

set_option maxHeartbeats 1000000 in
theorem RefSplit_len (w0 m0 : Nat) (s : ByteArray) (hc0 : chunkedR w0 m0 = 0) (hs : s.size ≠ w0 / 8) (w : World) :
    Calls Try.prog 28 #[.int .i64 w0, .int .i64 m0, .string s] w fun e w' => e = .returned (.tuple #[.slice none 0 0, .int .i64 11]) ∧ Below w.heap.size w w' := by
  have C := RefChunks_ok w0 m0 hc0 w
  have hne : ((s.size : Int) != (w0 : Int) / 8) = true := by rw [bne_iff_ne]; omega
  obtain ⟨a, b, ha, hb, h1, h2, h3, h4, h5⟩ := chunkedR_zero hc0
  obtain rfl : w0 = a := by omega
  obtain rfl : m0 = b := by omega
  clear hc0 hs ha hb
  go_enter Try.func28, Try.ntmps28
  go_wp2_with fail
  refine C.mono ?_
  rintro e w1 ⟨v, rfl, _, hb⟩
  go_wp2
  go_ret2
  exact ⟨rfl, hb⟩

set_option maxHeartbeats 1000000 in
theorem RefSplit_ok (w0 m0 : Nat) (s : ByteArray) (hc0 : chunkedR w0 m0 = 0) (hs : s.size = w0 / 8) (w : World) :
    Calls Try.prog 28 #[.int .i64 w0, .int .i64 m0, .string s] w fun e w' => ∃ v, e = .returned (.tuple #[v, .int .i64 0]) ∧ w'.ownsRow w.heap.size 3 1 v m0 (splitV s.data.toList w0 m0 m0) ∧ Below w.heap.size w w' := by
  obtain ⟨a, b, ha, hb, h1, h2, h3, h4, h5⟩ := chunkedR_zero hc0
  obtain rfl : w0 = a := by omega
  obtain rfl : m0 = b := by omega
  have C := RefChunks_ok w0 m0 hc0 w
  have hne : ((s.size : Int) != (w0 : Int) / 8) = false := by rw [bne_eq_false_iff_eq]; omega
  obtain ⟨i0, hi, hz0, hz1, hz2⟩ := info_parts intinfo
  clear hc0 ha hb
  go_enter Try.func28, Try.ntmps28
  go_wp2_with fail
  refine C.mono ?_
  rintro e x1 ⟨v, rfl, hrow, hb1⟩
  obtain ⟨gc, capc, rfl, hgc, hgl⟩ := hrow.form (by omega)
  have HROW := Lib.hid hrow
  clear hrow C
  go_wp2
  go_loopw [10, 11] (fun v j wr => ∃ k : Nat, k ≤ m0 ∧ j = .int .i64 k ∧ wr.ownsRow x1.heap.size 3 1 v k (splitV s.data.toList w0 m0 k) ∧ Below x1.heap.size x1 wr) (fun _ j _ => m0 - (intOf j).toNat)
  case atStart => exact ⟨0, Nat.zero_le _, rfl, (by rw [show splitV s.data.toList w0 m0 0 = [] by unfold splitV; rfl]; exact World.ownsRow_nil _ _ _ _), Below.refl _ _⟩
  case round =>
    obtain ⟨k, hk, rfl, hown, hbl⟩ := hrel
    by_cases hlt : k < m0
    · obtain ⟨q0, q1⟩ := chunkC_at w0 m0 m0 k hlt
      have c0 := (hbl.cell (p := ⟨gc, k * 2, none⟩) hgl).trans ((HROW.out.cellAt (k * 2) (by omega)).trans q0)
      have c1 := (hbl.cell (p := ⟨gc, k * 2 + 1, none⟩) hgl).trans ((HROW.out.cellAt (k * 2 + 1) (by omega)).trans q1)
      have hle := cF_end w0 m0 k (by omega) hlt
      have hcn := cN_le w0 m0 k (by omega) (by omega)
      have HS := Lib.hid (splitV_succ s.data.toList w0 m0 k hlt)
      obtain ⟨c, hc⟩ : ∃ c, cN w0 m0 k = c := ⟨_, rfl⟩
      obtain ⟨f, hf⟩ : ∃ f, cF w0 m0 k = f := ⟨_, rfl⟩
      rw [hc] at c1 hle hcn HS
      rw [hf] at c0 hle HS
      have CS := fun W => RefSlice_calls s (by omega) f c W
      have hsl : sliceR s.data.toList f c = (numOf (bitsOf s.data.toList f c), 0) := by
        unfold sliceR
        rw [if_neg (by show ¬ (_ ∨ _ ∨ 8 * (s.size : Int) < _ ∨ _ ∨ 8 * (s.size : Int) - _ < _); omega)]
        simp
      simp only [hsl] at CS
      obtain ⟨N, hN⟩ : ∃ N, numOf (bitsOf s.data.toList f c) = N := ⟨_, rfl⟩
      have hNl := numOf_lt (bitsOf s.data.toList f c)
      rw [bitsOf_length, hN] at hNl
      have hN32 : N < 4294967296 := Nat.lt_of_lt_of_le hNl (Nat.pow_le_pow_right (n := 2) (by omega) hcn)
      simp only [hN] at CS
      rw [hN] at HS
      have HC := Lib.hid CS
      clear CS hsl hN hNl hc hf q0 q1
      go_wp2
      go_quiet ((go_at_call 13; exact quiet_left (HC.out _)))
      go_wp2_with (at_builtin; refine wpList_append_lies _ rfl _ _ 39 rfl x1.heap.size 3 i0 (.int .i64 0) 1 8 Try.underlying39 hi hz0 hz1 hz2 rfl (by decide) _ k _ rfl (World.ownsRow.alloc (h := hown) _) ⟨wr.heap.size, 0, none⟩ 1 1 [.int .i64 (N : Int)] rfl rfl (World.news_of_block (heap_alloc_new wr _)) (by simp [Value.oneCell']) (by decide) (by unfold maxLen; omega) (by omega) (by have := hbl.size; simp; omega) _ rfl ?_; intro g capn y1 hown' hgrow hat hlt2)
      have hbn : Below x1.heap.size x1 y1 := (Below.alloc (w := wr.drewN _) (below_drewN hbl _) hbl.size _).grown hgrow (by have := hbl.size; simp; omega) (fun g hg => (hown.lt g hg).1)
      go_roundw
      case rel => exact ⟨k + 1, by omega, by go_num, by rw [HS.out]; exact hown', hbn⟩
      case measure => simp [intOf]; omega
    · obtain rfl : k = m0 := by omega
      go_wp2
      go_ret2
      exact ⟨_, rfl, own_le hown hb1.size, hb1.trans (hbl.mono hb1.size)⟩

set_option maxHeartbeats 1000000 in
theorem RefJoin_no (a b : Int) (v : Value) (hc0 : chunkedR a b ≠ 0) (w : World) :
    Calls Try.prog 30 #[.int .i64 a, .int .i64 b, v] w fun e w' => e = .returned (.tuple #[.string ⟨#[]⟩, .int .i64 (chunkedR a b)]) ∧ Below w.heap.size w w' := by
  have C := RefChunks_no a b hc0 w
  have hne : (chunkedR a b != 0) = true := by rw [bne_iff_ne]; exact hc0
  obtain ⟨c, hc⟩ : ∃ c, chunkedR a b = c := ⟨_, rfl⟩
  rw [hc] at C hne
  rw [hc]
  clear hc hc0
  go_enter Try.func30, Try.ntmps30
  go_wp2_with fail
  refine C.mono ?_
  rintro e w1 ⟨rfl, rfl⟩
  go_wp2
  go_ret2
  exact ⟨rfl, Below.refl _ _⟩

set_option maxHeartbeats 1000000 in
theorem RefJoin_len (w0 m0 : Nat) (p : Option Addr) (n cap : Nat) (hc0 : chunkedR w0 m0 = 0) (hn : n ≠ m0) (w : World) :
    Calls Try.prog 30 #[.int .i64 w0, .int .i64 m0, .slice p n cap] w fun e w' => e = .returned (.tuple #[.string ⟨#[]⟩, .int .i64 13]) ∧ Below w.heap.size w w' := by
  have C := RefChunks_ok w0 m0 hc0 w
  have hne : ((n : Int) != (m0 : Int)) = true := by rw [bne_iff_ne]; omega
  clear hc0 hn
  go_enter Try.func30, Try.ntmps30
  go_wp2_with fail
  refine C.mono ?_
  rintro e w1 ⟨v, rfl, _, hb⟩
  go_wp2
  go_ret2
  exact ⟨rfl, hb⟩

set_option maxRecDepth 100000 in
set_option maxHeartbeats 2000000 in
theorem RefJoin_ok (w0 m0 : Nat) (p : Option Addr) (cap : Nat) (zs : List Int) (hc0 : chunkedR w0 m0 = 0) (hz : zs.length = m0) (w : World) (hq : ∀ i, i < m0 → ∃ a, p = some a ∧ w.cell? (a.add i) = some (.int .i64 (zs.getD i 0))) :
    Calls Try.prog 30 #[.int .i64 w0, .int .i64 m0, .slice p m0 cap] w fun e w' => ((∀ x : Fin m0, goodV w0 m0 zs x) → e = .returned (.tuple #[.string ⟨(joinB w0 m0 (zs.map Int.toNat)).toArray⟩, .int .i64 0])) ∧ ((¬ ∀ x : Fin m0, goodV w0 m0 zs x) → e = .returned (.tuple #[.string ⟨#[]⟩, .int .i64 13])) ∧ Below w.heap.size w w' := by
  obtain ⟨a, b, ha, hb, h1, h2, h3, h4, h5⟩ := chunkedR_zero hc0
  obtain rfl : w0 = a := by omega
  obtain rfl : m0 = b := by omega
  have C := RefChunks_ok w0 m0 hc0 w
  obtain ⟨i0, hi, hz0, hz1, hz2⟩ := info_parts u8infoJ
  obtain ⟨nb, hnb⟩ : ∃ nb, w0 / 8 = nb := ⟨_, rfl⟩
  have HNB := Lib.hid hnb
  have hnb2 : nb ≤ 128 := by omega
  have hnbi : (w0 : Int) / 8 = (nb : Int) := by omega
  have hmk := fun W : World => run_make_bytes (P := Try.prog) 56 5 i0 Try.underlying56 hi hz0 hz1 hz2 nb (by omega) W
  have HQ := Lib.hid hq
  clear hc0 ha hb hnb hq
  go_enter Try.func30, Try.ntmps30
  go_wp2_with fail
  refine C.mono ?_
  rintro e x1 ⟨v, rfl, hrow, hb1⟩
  obtain ⟨gc, capc, rfl, hgc, hgl⟩ := hrow.form (by omega)
  have HROW := Lib.hid hrow
  clear hrow C
  go_wp2
  obtain ⟨x2, hx2⟩ : ∃ x2, x1.alloc (.cells (madeCells #[.int .u8 0] nb) 5) = x2 := ⟨_, rfl⟩
  have hB0 : Bys x2 x1.heap.size 5 (List.replicate (w0 / 8) 0) := by rw [← hx2, HNB.out]; exact Bys.made x1 _ nb
  have hb2 : Below x1.heap.size x1 x2 := by rw [← hx2]; exact (Below.refl _ _).alloc (Nat.le_refl _) _
  rw [hx2]
  clear hx2 hmk
  go_loopw [11] (fun j wr => ∃ k : Nat, k ≤ m0 ∧ j = .int .i64 k ∧ Bys wr x1.heap.size 5 (putAll w0 m0 zs (fr m0 k)) ∧ Below x1.heap.size x1 wr ∧ (∀ x ∈ fr m0 k, goodV w0 m0 zs x)) (fun j _ => m0 - (intOf j).toNat)
  case atStart => exact ⟨0, Nat.zero_le _, rfl, hB0, hb2, fun x hx => by cases hx⟩
  case round =>
    obtain ⟨k, hk, rfl, hB, hbl, hgd⟩ := hrel
    by_cases hlt : k < m0
    · obtain ⟨q0, q1⟩ := chunkC_at w0 m0 m0 k hlt
      have c0 := (hbl.cell (p := ⟨gc, k * 2, none⟩) hgl).trans ((HROW.out.cellAt (k * 2) (by omega)).trans q0)
      have c1 := (hbl.cell (p := ⟨gc, k * 2 + 1, none⟩) hgl).trans ((HROW.out.cellAt (k * 2 + 1) (by omega)).trans q1)
      obtain ⟨a, rfl, hca⟩ := HQ.out k hlt
      have hab : (a.add k).block < w.heap.size := by
        rcases Nat.lt_or_ge (a.add k).block w.heap.size with h | h
        · exact h
        · simp [World.cell?, Array.getElem?_eq_none h] at hca
      have hca' : wr.cell? (a.add k) = some (.int .i64 (zs.getD k 0)) := ((hb1.trans (hbl.mono hb1.size)).cell (p := a.add k) hab).trans hca
      have hfe := cF_end w0 m0 k (by omega) hlt
      have hc32 := cN_le w0 m0 k (by omega) (by omega)
      obtain ⟨f, hf⟩ : ∃ f, cF w0 m0 k = f := ⟨_, rfl⟩
      obtain ⟨c, hc⟩ : ∃ c, cN w0 m0 k = c := ⟨_, rfl⟩
      obtain ⟨z, hzv⟩ : ∃ z, zs.getD k 0 = z := ⟨_, rfl⟩
      have hGV : Hid (goodV w0 m0 zs ⟨k, hlt⟩ ↔ 0 ≤ z ∧ z < 2 ^ c) := Lib.hid (by unfold goodV; rw [hc, hzv])
      have HPUT : Hid (putAll w0 m0 zs (fr m0 (k + 1)) = wrB (putAll w0 m0 zs (fr m0 k)) f (bitsN z.toNat c)) := Lib.hid (by rw [fr_succ m0 k hlt, putAll_snoc, hf, hc, hzv])
      have HFR := Lib.hid (fr_succ m0 k hlt)
      rw [hf, hc] at hfe
      rw [hf] at c0
      rw [hc] at c1 hc32
      rw [hzv] at hca'
      clear hca hf hc hzv q0 q1
      by_cases hneg : z < 0
      · go_wp2
        go_ret2
        have hbad : ¬ ∀ x : Fin m0, goodV w0 m0 zs x := fun hall => by have := hGV.out.1 (hall _); omega
        exact ⟨fun h => absurd h hbad, by intros; rfl, hb1.trans (hbl.mono hb1.size)⟩
      obtain ⟨v, rfl⟩ := Int.eq_ofNat_of_zero_le (show 0 ≤ z by omega)
      by_cases hwide : 2 ^ c ≤ v
      · have hw1 : ((v : Int) / 2 ^ c != 0) = true := by
          rw [bne_iff_ne]
          have e : (v : Int) / 2 ^ c = ((v / 2 ^ c : Nat) : Int) := by simp
          have := Nat.div_pos hwide (Nat.two_pow_pos c)
          rw [e]; omega
        have HWD : Hid (2 ^ c ≤ v) := Lib.hid hwide
        clear hwide
        go_wp2
        go_ret2
        have hbad : ¬ ∀ x : Fin m0, goodV w0 m0 zs x := fun hall => by
          have h := (hGV.out.1 (hall _)).2
          have e : ((2 ^ c : Nat) : Int) = (2 : Int) ^ c := by simp
          have := HWD.out
          rw [← e] at h
          omega
        exact ⟨fun h => absurd h hbad, by intros; rfl, hb1.trans (hbl.mono hb1.size)⟩
      have hw1 : ((v : Int) / 2 ^ c != 0) = false := by
        rw [bne_eq_false_iff_eq]
        have e : (v : Int) / 2 ^ c = ((v / 2 ^ c : Nat) : Int) := by simp
        rw [e, Nat.div_eq_of_lt (by omega)]; rfl
      have HW : Hid (v < 2 ^ c) := Lib.hid (by omega)
      clear hwide
      rw [Int.toNat_natCast] at HPUT
      go_wp2
      go_loopw [13] (fun i ws => ∃ t : Nat, t ≤ c ∧ i = .int .i64 (t : Nat) ∧ Bys ws x1.heap.size 5 (wrB (putAll w0 m0 zs (fr m0 k)) f ((bitsN v c).take t)) ∧ Below x1.heap.size wr ws) (fun i _ => c - (intOf i).toNat)
      case atStart => exact ⟨0, Nat.zero_le _, rfl, by simpa [wrB] using hB, Below.refl _ _⟩
      case round =>
        obtain ⟨t, ht, rfl, hBk, hblk⟩ := hrel
        by_cases hlt2 : t < c
        · obtain ⟨d, hd⟩ : ∃ d, c = t + 1 + d := ⟨c - 1 - t, by omega⟩
          have hdi : (c : Int) - 1 - (t : Int) = (d : Int) := by omega
          have hlen : (wrB (putAll w0 m0 zs (fr m0 k)) f ((bitsN v c).take t)).length = nb := by rw [wrB_length, putAll_length, HNB.out]
          obtain ⟨i, hik⟩ : ∃ i, f + t = i := ⟨_, rfl⟩
          have hii : (f : Int) + (t : Int) = (i : Int) := by omega
          have hcell := hBk.cell (i := i / 8) (by rw [hlen]; have := HNB.out; omega)
          have hfroz := hBk.frozen (i := i / 8) (by rw [hlen]; have := HNB.out; omega)
          obtain ⟨o, ho⟩ : ∃ o, (wrB (putAll w0 m0 zs (fr m0 k)) f ((bitsN v c).take t)).getD (i / 8) 0 = o := ⟨_, rfl⟩
          rw [ho] at hcell
          have HO := Lib.hid ho
          clear ho
          have k0 := (hblk.cell (p := ⟨gc, k * 2, none⟩) hgl).trans c0
          have k2 := (hblk.cell (p := a.add k) (by have := hb1.size; omega)).trans hca'
          have hidx : i / 8 < nb := by have := HNB.out; omega
          have hi1 : i ≤ 1024 := by omega
          have hd1 : d ≤ 31 := by omega
          have HI := Lib.hid hik
          have hidx5 : (i : Int) / 8 < (nb : Int) := by omega
          have hidx7 : 0 ≤ (i : Int) / 8 := by omega
          have HD := Lib.hid hd
          have hsnoc : Hid ((bitsN v c).take (t + 1) = (bitsN v c).take t ++ [v.testBit d]) := Lib.hid (by
            rw [List.take_succ_eq_append_getElem (by rw [bitsN_length]; exact hlt2)]
            have : c - 1 - t = d := by omega
            simp [bitsN, this])
          have hwr : Hid (wrB (putAll w0 m0 zs (fr m0 k)) f ((bitsN v c).take (t + 1)) = orB (wrB (putAll w0 m0 zs (fr m0 k)) f ((bitsN v c).take t)) i (v.testBit d)) := Lib.hid (by
            rw [hsnoc.out, wrB_snoc, List.length_take, bitsN_length, Nat.min_eq_left ht, hik])
          have hv64 : v / 2 ^ d < 9223372036854775808 := Nat.lt_of_le_of_lt (Nat.div_le_self _ _) (Nat.lt_of_lt_of_le HW.out (Nat.le_trans (Nat.pow_le_pow_right (n := 2) (by omega) hc32) (by decide)))
          have hband : bits .and .i64 ((v : Int) / 2 ^ d) 1 = ((v / 2 ^ d % 2 : Nat) : Int) := by
            have := and_one_i64 (v / 2 ^ d) hv64
            rw [← this]
            congr 1
          have htb : (v.testBit d).toNat = v / 2 ^ d % 2 := by
            rw [Nat.testBit_eq_decide_div_mod_eq]
            rcases Nat.mod_two_eq_zero_or_one (v / 2 ^ d) with e | e <;> rw [e] <;> rfl
          rw [← htb] at hband
          clear hik hd hlen hsnoc htb hv64
          rcases hb : v.testBit d with _ | _
          · rw [hb] at hband hwr
            simp only [Bool.toNat_false] at hband
            clear hb
            have hband' : bits .and .i64 ((v : Int) / 2 ^ d) 1 = 0 := hband
            clear hband
            go_wp2
            go_roundw
            case rel => exact ⟨t + 1, by omega, by go_num, by rw [hwr.out, orB_false]; exact hBk, hblk⟩
            case measure => simp [intOf]; omega
          · rw [hb] at hband hwr
            have hband' : bits .and .i64 ((v : Int) / 2 ^ d) 1 = 1 := hband
            clear hb hband
            have h7 : 2 ^ (7 - i % 8) ≤ 2 ^ 7 := Nat.pow_le_pow_right (by omega) (by omega)
            obtain ⟨o2, ho2⟩ : ∃ o2, UInt8.ofNat (o.toNat ||| true.toNat * 2 ^ (7 - i % 8)) = o2 := ⟨_, rfl⟩
            have hor : bits .or .u8 (o.toNat : Int) ((2 : Int) ^ (7 - i % 8) % 256) = (o2.toNat : Int) := by
              have e : (2 : Int) ^ (7 - i % 8) % 256 = ((2 ^ (7 - i % 8) : Nat) : Int) := by
                rw [pow_nat]
                obtain ⟨q, hq⟩ : ∃ q, 2 ^ (7 - i % 8) = q := ⟨_, rfl⟩
                rw [hq] at h7 ⊢
                omega
              rw [e, u8_or_nat o.toNat _ o.toNat_lt (by omega), ← ho2, byte_or _ _ _ (by omega)]
              simp
            have hput := hBk.put (i / 8) o2
            have HPW : Hid ((wrB (putAll w0 m0 zs (fr m0 k)) f ((bitsN v c).take t)).set (i / 8) o2 = wrB (putAll w0 m0 zs (fr m0 k)) f ((bitsN v c).take (t + 1))) := Lib.hid (by
              rw [hwr.out]
              unfold orB
              rw [HO.out, ← ho2])
            clear ho2
            rw [HPW.out] at hput
            have HP2 := Lib.hid hput
            clear hput
            go_wp2
            go_roundw
            case rel => exact ⟨t + 1, by omega, by go_num, HP2.out, hblk.setCell (p := ⟨x1.heap.size, i / 8, none⟩) (by simp) _⟩
            case measure => simp [intOf]; omega
        · obtain rfl : t = c := by omega
          rw [List.take_of_length_le (by rw [bitsN_length]; omega)] at hBk
          go_wp2
          go_roundw
          case rel => exact ⟨k + 1, by omega, by go_num, by rw [HPUT.out]; exact hBk, hbl.trans hblk, fun y hy => by
            rw [HFR.out] at hy
            rcases List.mem_append.1 hy with h | h
            · exact hgd y h
            · rw [List.mem_singleton.1 h]
              exact hGV.out.2 ⟨by omega, by
                have e : ((2 ^ t : Nat) : Int) = (2 : Int) ^ t := by simp
                have := HW.out
                rw [← e]; omega⟩⟩
          case measure => simp [intOf]; omega
    · obtain rfl : k = m0 := by omega
      have hs := hB.toStr (P := Try.prog) 56 9 5 Try.underlying56 Try.underlying5 Try.underlying9 nb nb (by rw [putAll_length, HNB.out])
      rw [putAll_all] at hs
      go_wp2
      go_ret2
      exact ⟨fun _ => rfl, fun hb => absurd (fun x => hgd x (by unfold fr; rw [List.take_of_length_le (by simp)]; exact List.mem_finRange x)) hb, hb1.trans (hbl.mono hb1.size)⟩
end Go.Proofs.Ytldcfgifimdmmaa
