/-
  THE LAW BlockSpoilt.
-/
import Derived.Test.YtihgjihdmlomaaaDoorJBvB
namespace Go.Proofs.YtihgjihdmlomaaaDoor
open Go.RowKit ArgK
set_option linter.unusedVariables false

theorem and_mask_i64 (a : Int) (m k : Nat) (hm : m + 1 = 2 ^ k) (hk : k ≤ 62) : bits .and .i64 a (m : Int) = a % ((2 ^ k : Nat) : Int) := by
  have h62 : 2 ^ k ≤ 2 ^ 62 := Nat.pow_le_pow_right (by omega) hk
  have hd : 2 ^ k ∣ 2 ^ 64 := Nat.pow_dvd_pow 2 (by omega)
  have hm1 : m = 2 ^ k - 1 := by omega
  have o2 : (BitVec.ofInt 64 (m : Int)).toNat = m := by rw [BitVec.ofInt_natCast, BitVec.toNat_ofNat]; exact Nat.mod_eq_of_lt (by omega)
  have o1 : (BitVec.ofInt 64 a).toNat = (a % ((2 ^ 64 : Nat) : Int)).toNat := by rw [BitVec.toNat_ofInt]
  show IntKind.i64.wrap ((BitVec.ofInt 64 a &&& BitVec.ofInt 64 (m : Int)).toNat : Int) = _
  rw [BitVec.toNat_and, o1, o2, hm1, Nat.and_two_pow_sub_one_eq_mod]
  have hp : (0 : Int) < ((2 ^ k : Nat) : Int) := by have := Nat.two_pow_pos k; omega
  have e1 : (((a % ((2 ^ 64 : Nat) : Int)).toNat % 2 ^ k : Nat) : Int) = a % ((2 ^ k : Nat) : Int) := by
    rw [Int.natCast_emod, Int.toNat_of_nonneg (Int.emod_nonneg _ (Int.natCast_ne_zero.2 (Nat.pos_iff_ne_zero.1 (Nat.two_pow_pos 64))))]
    exact Int.emod_emod_of_dvd a (Int.natCast_dvd_natCast.2 hd)
  rw [e1, IntKind.wrap_i64]
  have g1 := Int.emod_nonneg a (Int.ne_of_gt hp)
  have g2 := Int.emod_lt_of_pos a hp
  have g3 : (((2 ^ k : Nat) : Int)) ≤ ((4611686018427387904 : Nat) : Int) := Int.ofNat_le.2 h62
  omega

theorem xor_bytes (x y : UInt8) : bits .xor .u8 (x.toNat : Int) (y.toNat : Int) = ((x ^^^ y).toNat : Int) := by
  rw [u8_xor_nat x.toNat y.toNat x.toNat_lt y.toNat_lt, UInt8.toNat_xor]

/-- What is no file is told. -/
theorem Open_none (b : ByteArray) (hs : b.size ≤ 1000000000) (ho : openR b.data.toList = none) (w : World) (hT : Tab w) :
    Calls Tryd.prog 15 #[.string b] w fun e w' => e = .returned (.tuple #[.pointer none, .int .i64 80]) ∧ Below w.heap.size w w' := by
  have h2 := (framesR_le b.data.toList).1
  have hl : b.data.toList.length = b.size := rfl
  refine (Open_calls b (by omega) (by omega) w hT).mono ?_
  rintro e w' ⟨hb, ⟨_, rfl⟩ | ⟨h', l', fb, h3, _⟩⟩
  · exact ⟨rfl, hb⟩
  · rw [ho] at h3
    cases h3

theorem xor_ne {x y : UInt8} (h : y.toNat ≠ 0) : x ^^^ y ≠ x := by
  intro e
  have h1 : (x ^^^ y).toNat = x.toNat := by rw [e]
  rw [UInt8.toNat_xor] at h1
  apply h
  have h2 : x.toNat ^^^ (x.toNat ^^^ y.toNat) = x.toNat ^^^ x.toNat := by rw [h1]
  rwa [← Nat.xor_assoc, Nat.xor_self, Nat.zero_xor] at h2

set_option maxRecDepth 100000 in
set_option maxHeartbeats 8000000 in
theorem BlockSpoilt_walk (sa0 : Array Value) (h : Hd) (v1 : Value) (z : List Ent) (at_ : Int) (w2 : (Lit.int .i64 at_).wf = true) (bn : Int) (w3 : (Lit.int .i64 bn).wf = true) (cut : Int) (w4 : (Lit.int .i64 cut).wf = true) (w : World) (h0 : IsHd sa0.toList h) (h1 : IsSl w 5 48 IsEnt [v1] z) (hL : TabLaid w) :
    Calls Tryd.prog 6 #[.agg sa0, v1, .int .i64 at_, .int .i64 bn, .int .i64 cut] w fun e w' => e = .returned (.bool true) ∧ Below w.heap.size w w' := by
  obtain rfl := hd_arg h0
  obtain ⟨p, c, rfl, hp, hnc, hm, hE, hcs⟩ := el_arg h1
  have hT := tab_of_laid hL
  obtain ⟨n, hn⟩ : ∃ n, z.length = n := ⟨_, rfl⟩
  rw [hn] at hp hnc hm ⊢
  obtain ⟨W0, hW0⟩ : ∃ W0, w.alloc (.cells #[.int .i64 h.w, .int .i64 h.t, .int .i64 h.b, .int .i64 h.lo, .int .i64 h.hi, .int .i64 h.n] 23) = W0 := ⟨_, rfl⟩
  have hb0 : Below w.heap.size w W0 := by rw [← hW0]; exact (Below.refl _ w).alloc (Nat.le_refl _) _
  have hsz0 : W0.heap.size = w.heap.size + 1 := by rw [← hW0]; simp
  have hx0 : W0.heap[w.heap.size]? = some (.cells #[.int .i64 h.w, .int .i64 h.t, .int .i64 h.b, .int .i64 h.lo, .int .i64 h.hi, .int .i64 h.n] 23 (0, 0)) := by
    rw [← hW0]
    exact World.alloc_heap_new w _
  have CBg := begun6_calls W0 (hT.below hb0)
  have HCBg := Lib.hid CBg
  have HN := Lib.hid hn
  have HE := Lib.hid hE
  have HCS := Lib.hid hcs
  have HT := Lib.hid hT
  have HB0 := Lib.hid hb0
  have HX0 := Lib.hid hx0
  have HSZ := Lib.hid hsz0
  clear h0 h1 w2 w3 w4 hL hn hp hE hcs hT CBg hb0 hx0 hsz0
  go_enter Tryd.func6, Tryd.ntmps6
  go_wp2_with fail
  clear hW0
  refine HCBg.out.mono ?_
  rintro e w1 ⟨rfl, hb1⟩
  have hx01 := (hb1.block w.heap.size (by rw [HSZ.out]; omega)).trans HX0.out
  have HBw1 : Hid (Below w.heap.size w w1) := Lib.hid (HB0.out.trans (hb1.mono (by rw [HSZ.out]; omega)))
  obtain ⟨d0, d1, d2, d3, d4, d5⟩ := cells6 hx01
  have CB := Build_calls h p n c z HN.out (by omega) hnc HCS.out w1 (HT.out.below HBw1.out) ((HE.out.below HBw1.out (Nat.le_refl _)).mono HBw1.out.size)
  unfold Hd.val BuildPost at CB
  clear hb1 hx01
  by_cases hgo : goesR h z = 0
  · have hbt : builtR h z = (fileB h z, 0) := by unfold builtR; rw [if_pos hgo]
    rw [hbt] at CB
    have CO := fun W hW => Open_built (h := h) (l := z) hgo W hW
    have hfl := fileB_len h (goesR_good hgo).2.2
    have hnl := (goesR_good hgo).2.1
    have hop : openR (fileB h z) ≠ none := by rw [openR_fileB hgo]; simp
    obtain ⟨S, hS⟩ : ∃ S, (⟨(fileB h z).toArray⟩ : ByteArray) = S := ⟨_, rfl⟩
    have hSl : S.data.toList = fileB h z := by rw [← hS]
    rw [← hSl] at hfl hop
    have hSs : S.data.toList.length = S.size := rfl
    rw [hSs] at hfl
    have hS9 : S.size ≤ 800000000 := by omega
    simp only [hS] at CB CO
    have HCB := Lib.hid CB
    have HCO := Lib.hid CO
    have HOp := Lib.hid hop
    clear CB CO hS hbt hgo hfl hnl hop hSl hSs
    -- the byte
    obtain ⟨q, hq⟩ : ∃ q : Nat, bn % 256 = (q : Int) := ⟨(bn % 256).toNat, by omega⟩
    have hq2 : q < 256 := by omega
    obtain ⟨u, hu⟩ : ∃ u : UInt8, u = UInt8.ofNat q := ⟨_, rfl⟩
    have hun : u.toNat = q := by rw [hu, UInt8.toNat_ofNat']; exact Nat.mod_eq_of_lt hq2
    have hm1 : bits .and .i64 bn 255 = (q : Int) := by
      have := and_mask_i64 bn 255 8 (by decide) (by decide)
      rw [← hq]
      exact this
    have HU := Lib.hid hun
    clear hu
    go_wp2_with fail
    refine HCB.out.mono ?_
    rintro e w2 ⟨rfl, hb2⟩
    have HBw2 : Hid (Below w.heap.size w w2) := Lib.hid (HBw1.out.trans (hb2.mono HBw1.out.size))
    clear hb2 d0 d1 d2 d3 d4 d5
    by_cases h5 : 0 ≤ at_ ∧ at_ < (S.size : Int) ∧ q ≠ 0
    · obtain ⟨h51, h52, h53⟩ := h5
      obtain ⟨a, rfl⟩ := Int.eq_ofNat_of_zero_le h51
      have hq0 : ((q : Int) == 0) = false := by simp; omega
      have hcv := run_bytes_of_string (P := Tryd.prog) w2 9 53 5 S Tryd.underlying9 Tryd.underlying53 Tryd.underlying5
      obtain ⟨cap, hcap⟩ : ∃ cap, grownCap w2 S.size 0 5 = cap := ⟨_, rfl⟩
      rw [hcap] at hcv
      clear hcap
      obtain ⟨o, ho⟩ : ∃ o, Obj.cells (bytesRow S cap) 5 ((bytesRow S cap).size, (bytesRow S cap).size + 1) = o := ⟨_, rfl⟩
      rw [ho] at hcv
      have hY : Bys (w2.alloc o) w2.heap.size 5 S.data.toList := by rw [← ho]; exact Bys.of_string w2 _ S cap
      clear ho
      have hal : a < S.data.toList.length := by show a < S.size; omega
      obtain ⟨d, hd⟩ : ∃ d, S.data.toList.getD a 0 = d := ⟨_, rfl⟩
      have hc := hY.cell hal
      have hf := hY.frozen hal
      rw [hd] at hc
      obtain ⟨x, hx⟩ : ∃ x, d ^^^ u = x := ⟨_, rfl⟩
      have hxor : bits .xor .u8 (d.toNat : Int) (q : Int) = (x.toNat : Int) := by
        rw [← hx, ← HU.out]
        exact xor_bytes d u
      have hxd : x ≠ d := by rw [← hx]; exact xor_ne (by rw [HU.out]; exact h53)
      have hP := (hY.put a x).drew
      have hstr := hP.toStr (P := Tryd.prog) 53 9 5 Tryd.underlying53 Tryd.underlying5 Tryd.underlying9 S.size cap (by rw [List.length_set]; rfl)
      have hnone : openR (S.data.toList.set a x) = none := openR_spoilt HOp.out hal (by rw [hd]; exact hxd)
      have hB3 : Below w.heap.size w ((w2.alloc o).setCell ⟨w2.heap.size, a, none⟩ (.int .u8 (x.toNat : Int))).drew := by
        have h1 : Below w.heap.size w (w2.alloc o) := HBw2.out.alloc HBw2.out.size _
        exact (h1.setCell (p := ⟨w2.heap.size, a, none⟩) HBw2.out.size _).drew
      obtain ⟨S3, hS3⟩ : ∃ S3, (⟨(S.data.toList.set a x).toArray⟩ : ByteArray) = S3 := ⟨_, rfl⟩
      have h3l : S3.data.toList = S.data.toList.set a x := by rw [← hS3]
      have h3s : S3.size ≤ 1000000000 := by
        have e1 : S3.data.toList.length = S3.size := rfl
        rw [h3l, List.length_set] at e1
        have e2 : S.data.toList.length = S.size := rfl
        omega
      have CN := Open_none S3 h3s (by rw [h3l]; exact hnone) _ (HT.out.below hB3)
      rw [hS3] at hstr
      have HCN := Lib.hid CN
      have HB3 := Lib.hid hB3
      have h52' : (a : Int) < (S.size : Int) := h52
      clear CN hB3 hS3 h3l hnone hP hY hal hd hx hxd
      go_wp2_with fail
      refine HCN.out.mono ?_
      rintro e w3 ⟨rfl, hb3⟩
      have HBw3 : Hid (Below w.heap.size w w3) := Lib.hid (HB3.out.trans (hb3.mono HB3.out.size))
      clear hb3 hstr hcv hc hf hxor
      by_cases h6 : 0 ≤ cut ∧ cut < (S.size : Int)
      · obtain ⟨h61, h62⟩ := h6
        obtain ⟨ct, rfl⟩ := Int.eq_ofNat_of_zero_le h61
        have hcs : (S.extract 0 ct).size ≤ 1000000000 := by rw [ByteArray.size_extract]; omega
        have hcn : openR (S.extract 0 ct).data.toList = none := by
          have e : (S.extract 0 ct).data.toList = S.data.toList.take ct := by simp
          rw [e]
          exact openR_cut HOp.out (by show ct < S.size; omega)
        have CT := Open_none (S.extract 0 ct) hcs hcn w3 (HT.out.below HBw3.out)
        have HCT := Lib.hid CT
        have h62' : (ct : Int) < (S.size : Int) := h62
        have h63' : (ct : Int) ≤ (S.size : Int) := by omega
        clear CT hcn
        go_wp2_with fail
        refine HCT.out.mono ?_
        rintro e w4 ⟨rfl, hb4⟩
        have HBw4 : Hid (Below w.heap.size w w4) := Lib.hid (HBw3.out.trans (hb4.mono HBw3.out.size))
        clear hb4
        have hb6 := World.alloc_heap_new w4 (.cells #[.int .u8 (q : Int)] 5)
        have hY6 : Bys (w4.alloc (.cells #[.int .u8 (q : Int)] 5)) w4.heap.size 5 [u] := by
          refine ⟨_, _, _, hb6, .inl (Nat.le_refl _), fun i hi => ?_⟩
          have hi0 : i = 0 := by simp at hi; omega
          subst hi0
          rw [← HU.out]
          rfl
        have hstr6 := hY6.toStr (P := Tryd.prog) 53 9 5 Tryd.underlying53 Tryd.underlying5 Tryd.underlying9 1 1 rfl
        obtain ⟨U, hU⟩ : ∃ U, (⟨([u] : List UInt8).toArray⟩ : ByteArray) = U := ⟨_, rfl⟩
        have hUl : (S ++ U).data.toList = S.data.toList ++ [u] := by rw [← hU]; simp
        have hUz : U.size = 1 := by rw [← hU]; rfl
        have hUs : (S ++ U).size ≤ 1000000000 := by rw [ByteArray.size_append]; omega
        have hcat : S.size + U.size ≤ 9223372036854775807 := by omega
        clear hUz
        have hB6 : Below w.heap.size w (w4.alloc (.cells #[.int .u8 (q : Int)] 5)) := HBw4.out.alloc HBw4.out.size _
        have CM := Open_none (S ++ U) hUs (by rw [hUl]; exact openR_more HOp.out) _ (HT.out.below hB6)
        rw [hU] at hstr6
        have HCM := Lib.hid CM
        have HB6 := Lib.hid hB6
        clear CM hB6 hUl hUs hU hY6 hb6
        go_wp2_with fail
        refine HCM.out.mono ?_
        rintro e w6 ⟨rfl, hb7⟩
        have HB7 := Lib.hid (HB6.out.trans (hb7.mono HB6.out.size))
        clear hb7 hstr6
        go_wp2_with fail
        refine (HCO.out w6 (HT.out.below HB7.out)).mono ?_
        rintro e w8 ⟨fb, rfl, _, _, hb8⟩
        have HB8 := Lib.hid (HB7.out.trans (hb8.mono HB7.out.size))
        clear hb8
        go_wp2
        go_ret
        exact ⟨rfl, HB8.out⟩
      · by_cases h61 : 0 ≤ cut
        · have h62 : ¬ cut < (S.size : Int) := fun e => h6 ⟨h61, e⟩
          clear h6
          have hb6 := World.alloc_heap_new w3 (.cells #[.int .u8 (q : Int)] 5)
          have hY6 : Bys (w3.alloc (.cells #[.int .u8 (q : Int)] 5)) w3.heap.size 5 [u] := by
            refine ⟨_, _, _, hb6, .inl (Nat.le_refl _), fun i hi => ?_⟩
            have hi0 : i = 0 := by simp at hi; omega
            subst hi0
            rw [← HU.out]
            rfl
          have hstr6 := hY6.toStr (P := Tryd.prog) 53 9 5 Tryd.underlying53 Tryd.underlying5 Tryd.underlying9 1 1 rfl
          obtain ⟨U, hU⟩ : ∃ U, (⟨([u] : List UInt8).toArray⟩ : ByteArray) = U := ⟨_, rfl⟩
          have hUl : (S ++ U).data.toList = S.data.toList ++ [u] := by rw [← hU]; simp
          have hUz : U.size = 1 := by rw [← hU]; rfl
          have hUs : (S ++ U).size ≤ 1000000000 := by rw [ByteArray.size_append]; omega
          have hcat : S.size + U.size ≤ 9223372036854775807 := by omega
          clear hUz
          have hB6 : Below w.heap.size w (w3.alloc (.cells #[.int .u8 (q : Int)] 5)) := HBw3.out.alloc HBw3.out.size _
          have CM := Open_none (S ++ U) hUs (by rw [hUl]; exact openR_more HOp.out) _ (HT.out.below hB6)
          rw [hU] at hstr6
          have HCM := Lib.hid CM
          have HB6 := Lib.hid hB6
          clear CM hB6 hUl hUs hU hY6 hb6
          go_wp2_with fail
          refine HCM.out.mono ?_
          rintro e w6 ⟨rfl, hb7⟩
          have HB7 := Lib.hid (HB6.out.trans (hb7.mono HB6.out.size))
          clear hb7 hstr6
          go_wp2_with fail
          refine (HCO.out w6 (HT.out.below HB7.out)).mono ?_
          rintro e w8 ⟨fb, rfl, _, _, hb8⟩
          have HB8 := Lib.hid (HB7.out.trans (hb8.mono HB7.out.size))
          clear hb8
          go_wp2
          go_ret
          exact ⟨rfl, HB8.out⟩
        · clear h6
          have hb6 := World.alloc_heap_new w3 (.cells #[.int .u8 (q : Int)] 5)
          have hY6 : Bys (w3.alloc (.cells #[.int .u8 (q : Int)] 5)) w3.heap.size 5 [u] := by
            refine ⟨_, _, _, hb6, .inl (Nat.le_refl _), fun i hi => ?_⟩
            have hi0 : i = 0 := by simp at hi; omega
            subst hi0
            rw [← HU.out]
            rfl
          have hstr6 := hY6.toStr (P := Tryd.prog) 53 9 5 Tryd.underlying53 Tryd.underlying5 Tryd.underlying9 1 1 rfl
          obtain ⟨U, hU⟩ : ∃ U, (⟨([u] : List UInt8).toArray⟩ : ByteArray) = U := ⟨_, rfl⟩
          have hUl : (S ++ U).data.toList = S.data.toList ++ [u] := by rw [← hU]; simp
          have hUz : U.size = 1 := by rw [← hU]; rfl
          have hUs : (S ++ U).size ≤ 1000000000 := by rw [ByteArray.size_append]; omega
          have hcat : S.size + U.size ≤ 9223372036854775807 := by omega
          clear hUz
          have hB6 : Below w.heap.size w (w3.alloc (.cells #[.int .u8 (q : Int)] 5)) := HBw3.out.alloc HBw3.out.size _
          have CM := Open_none (S ++ U) hUs (by rw [hUl]; exact openR_more HOp.out) _ (HT.out.below hB6)
          rw [hU] at hstr6
          have HCM := Lib.hid CM
          have HB6 := Lib.hid hB6
          clear CM hB6 hUl hUs hU hY6 hb6
          go_wp2_with fail
          refine HCM.out.mono ?_
          rintro e w6 ⟨rfl, hb7⟩
          have HB7 := Lib.hid (HB6.out.trans (hb7.mono HB6.out.size))
          clear hb7 hstr6
          go_wp2_with fail
          refine (HCO.out w6 (HT.out.below HB7.out)).mono ?_
          rintro e w8 ⟨fb, rfl, _, _, hb8⟩
          have HB8 := Lib.hid (HB7.out.trans (hb8.mono HB7.out.size))
          clear hb8
          go_wp2
          go_ret
          exact ⟨rfl, HB8.out⟩
    · have h5q : (0 ≤ at_ → at_ < (S.size : Int) → q = 0) := fun h1 h2 => Classical.byContradiction (fun h3 => h5 ⟨h1, h2, h3⟩)
      clear h5
      by_cases h51 : 0 ≤ at_
      · by_cases h52 : at_ < (S.size : Int)
        · have hq0 : ((q : Int) == 0) = true := by have := h5q h51 h52; simp; omega
          clear h5q
          by_cases h6 : 0 ≤ cut ∧ cut < (S.size : Int)
          · obtain ⟨h61, h62⟩ := h6
            obtain ⟨ct, rfl⟩ := Int.eq_ofNat_of_zero_le h61
            have hcs : (S.extract 0 ct).size ≤ 1000000000 := by rw [ByteArray.size_extract]; omega
            have hcn : openR (S.extract 0 ct).data.toList = none := by
              have e : (S.extract 0 ct).data.toList = S.data.toList.take ct := by simp
              rw [e]
              exact openR_cut HOp.out (by show ct < S.size; omega)
            have CT := Open_none (S.extract 0 ct) hcs hcn w2 (HT.out.below HBw2.out)
            have HCT := Lib.hid CT
            have h62' : (ct : Int) < (S.size : Int) := h62
            have h63' : (ct : Int) ≤ (S.size : Int) := by omega
            clear CT hcn
            go_wp2_with fail
            refine HCT.out.mono ?_
            rintro e w4 ⟨rfl, hb4⟩
            have HBw4 : Hid (Below w.heap.size w w4) := Lib.hid (HBw2.out.trans (hb4.mono HBw2.out.size))
            clear hb4
            have hb6 := World.alloc_heap_new w4 (.cells #[.int .u8 (q : Int)] 5)
            have hY6 : Bys (w4.alloc (.cells #[.int .u8 (q : Int)] 5)) w4.heap.size 5 [u] := by
              refine ⟨_, _, _, hb6, .inl (Nat.le_refl _), fun i hi => ?_⟩
              have hi0 : i = 0 := by simp at hi; omega
              subst hi0
              rw [← HU.out]
              rfl
            have hstr6 := hY6.toStr (P := Tryd.prog) 53 9 5 Tryd.underlying53 Tryd.underlying5 Tryd.underlying9 1 1 rfl
            obtain ⟨U, hU⟩ : ∃ U, (⟨([u] : List UInt8).toArray⟩ : ByteArray) = U := ⟨_, rfl⟩
            have hUl : (S ++ U).data.toList = S.data.toList ++ [u] := by rw [← hU]; simp
            have hUz : U.size = 1 := by rw [← hU]; rfl
            have hUs : (S ++ U).size ≤ 1000000000 := by rw [ByteArray.size_append]; omega
            have hcat : S.size + U.size ≤ 9223372036854775807 := by omega
            clear hUz
            have hB6 : Below w.heap.size w (w4.alloc (.cells #[.int .u8 (q : Int)] 5)) := HBw4.out.alloc HBw4.out.size _
            have CM := Open_none (S ++ U) hUs (by rw [hUl]; exact openR_more HOp.out) _ (HT.out.below hB6)
            rw [hU] at hstr6
            have HCM := Lib.hid CM
            have HB6 := Lib.hid hB6
            clear CM hB6 hUl hUs hU hY6 hb6
            go_wp2_with fail
            refine HCM.out.mono ?_
            rintro e w6 ⟨rfl, hb7⟩
            have HB7 := Lib.hid (HB6.out.trans (hb7.mono HB6.out.size))
            clear hb7 hstr6
            go_wp2_with fail
            refine (HCO.out w6 (HT.out.below HB7.out)).mono ?_
            rintro e w8 ⟨fb, rfl, _, _, hb8⟩
            have HB8 := Lib.hid (HB7.out.trans (hb8.mono HB7.out.size))
            clear hb8
            go_wp2
            go_ret
            exact ⟨rfl, HB8.out⟩
          · by_cases h61 : 0 ≤ cut
            · have h62 : ¬ cut < (S.size : Int) := fun e => h6 ⟨h61, e⟩
              clear h6
              have hb6 := World.alloc_heap_new w2 (.cells #[.int .u8 (q : Int)] 5)
              have hY6 : Bys (w2.alloc (.cells #[.int .u8 (q : Int)] 5)) w2.heap.size 5 [u] := by
                refine ⟨_, _, _, hb6, .inl (Nat.le_refl _), fun i hi => ?_⟩
                have hi0 : i = 0 := by simp at hi; omega
                subst hi0
                rw [← HU.out]
                rfl
              have hstr6 := hY6.toStr (P := Tryd.prog) 53 9 5 Tryd.underlying53 Tryd.underlying5 Tryd.underlying9 1 1 rfl
              obtain ⟨U, hU⟩ : ∃ U, (⟨([u] : List UInt8).toArray⟩ : ByteArray) = U := ⟨_, rfl⟩
              have hUl : (S ++ U).data.toList = S.data.toList ++ [u] := by rw [← hU]; simp
              have hUz : U.size = 1 := by rw [← hU]; rfl
              have hUs : (S ++ U).size ≤ 1000000000 := by rw [ByteArray.size_append]; omega
              have hcat : S.size + U.size ≤ 9223372036854775807 := by omega
              clear hUz
              have hB6 : Below w.heap.size w (w2.alloc (.cells #[.int .u8 (q : Int)] 5)) := HBw2.out.alloc HBw2.out.size _
              have CM := Open_none (S ++ U) hUs (by rw [hUl]; exact openR_more HOp.out) _ (HT.out.below hB6)
              rw [hU] at hstr6
              have HCM := Lib.hid CM
              have HB6 := Lib.hid hB6
              clear CM hB6 hUl hUs hU hY6 hb6
              go_wp2_with fail
              refine HCM.out.mono ?_
              rintro e w6 ⟨rfl, hb7⟩
              have HB7 := Lib.hid (HB6.out.trans (hb7.mono HB6.out.size))
              clear hb7 hstr6
              go_wp2_with fail
              refine (HCO.out w6 (HT.out.below HB7.out)).mono ?_
              rintro e w8 ⟨fb, rfl, _, _, hb8⟩
              have HB8 := Lib.hid (HB7.out.trans (hb8.mono HB7.out.size))
              clear hb8
              go_wp2
              go_ret
              exact ⟨rfl, HB8.out⟩
            · clear h6
              have hb6 := World.alloc_heap_new w2 (.cells #[.int .u8 (q : Int)] 5)
              have hY6 : Bys (w2.alloc (.cells #[.int .u8 (q : Int)] 5)) w2.heap.size 5 [u] := by
                refine ⟨_, _, _, hb6, .inl (Nat.le_refl _), fun i hi => ?_⟩
                have hi0 : i = 0 := by simp at hi; omega
                subst hi0
                rw [← HU.out]
                rfl
              have hstr6 := hY6.toStr (P := Tryd.prog) 53 9 5 Tryd.underlying53 Tryd.underlying5 Tryd.underlying9 1 1 rfl
              obtain ⟨U, hU⟩ : ∃ U, (⟨([u] : List UInt8).toArray⟩ : ByteArray) = U := ⟨_, rfl⟩
              have hUl : (S ++ U).data.toList = S.data.toList ++ [u] := by rw [← hU]; simp
              have hUz : U.size = 1 := by rw [← hU]; rfl
              have hUs : (S ++ U).size ≤ 1000000000 := by rw [ByteArray.size_append]; omega
              have hcat : S.size + U.size ≤ 9223372036854775807 := by omega
              clear hUz
              have hB6 : Below w.heap.size w (w2.alloc (.cells #[.int .u8 (q : Int)] 5)) := HBw2.out.alloc HBw2.out.size _
              have CM := Open_none (S ++ U) hUs (by rw [hUl]; exact openR_more HOp.out) _ (HT.out.below hB6)
              rw [hU] at hstr6
              have HCM := Lib.hid CM
              have HB6 := Lib.hid hB6
              clear CM hB6 hUl hUs hU hY6 hb6
              go_wp2_with fail
              refine HCM.out.mono ?_
              rintro e w6 ⟨rfl, hb7⟩
              have HB7 := Lib.hid (HB6.out.trans (hb7.mono HB6.out.size))
              clear hb7 hstr6
              go_wp2_with fail
              refine (HCO.out w6 (HT.out.below HB7.out)).mono ?_
              rintro e w8 ⟨fb, rfl, _, _, hb8⟩
              have HB8 := Lib.hid (HB7.out.trans (hb8.mono HB7.out.size))
              clear hb8
              go_wp2
              go_ret
              exact ⟨rfl, HB8.out⟩
        · clear h5q
          by_cases h6 : 0 ≤ cut ∧ cut < (S.size : Int)
          · obtain ⟨h61, h62⟩ := h6
            obtain ⟨ct, rfl⟩ := Int.eq_ofNat_of_zero_le h61
            have hcs : (S.extract 0 ct).size ≤ 1000000000 := by rw [ByteArray.size_extract]; omega
            have hcn : openR (S.extract 0 ct).data.toList = none := by
              have e : (S.extract 0 ct).data.toList = S.data.toList.take ct := by simp
              rw [e]
              exact openR_cut HOp.out (by show ct < S.size; omega)
            have CT := Open_none (S.extract 0 ct) hcs hcn w2 (HT.out.below HBw2.out)
            have HCT := Lib.hid CT
            have h62' : (ct : Int) < (S.size : Int) := h62
            have h63' : (ct : Int) ≤ (S.size : Int) := by omega
            clear CT hcn
            go_wp2_with fail
            refine HCT.out.mono ?_
            rintro e w4 ⟨rfl, hb4⟩
            have HBw4 : Hid (Below w.heap.size w w4) := Lib.hid (HBw2.out.trans (hb4.mono HBw2.out.size))
            clear hb4
            have hb6 := World.alloc_heap_new w4 (.cells #[.int .u8 (q : Int)] 5)
            have hY6 : Bys (w4.alloc (.cells #[.int .u8 (q : Int)] 5)) w4.heap.size 5 [u] := by
              refine ⟨_, _, _, hb6, .inl (Nat.le_refl _), fun i hi => ?_⟩
              have hi0 : i = 0 := by simp at hi; omega
              subst hi0
              rw [← HU.out]
              rfl
            have hstr6 := hY6.toStr (P := Tryd.prog) 53 9 5 Tryd.underlying53 Tryd.underlying5 Tryd.underlying9 1 1 rfl
            obtain ⟨U, hU⟩ : ∃ U, (⟨([u] : List UInt8).toArray⟩ : ByteArray) = U := ⟨_, rfl⟩
            have hUl : (S ++ U).data.toList = S.data.toList ++ [u] := by rw [← hU]; simp
            have hUz : U.size = 1 := by rw [← hU]; rfl
            have hUs : (S ++ U).size ≤ 1000000000 := by rw [ByteArray.size_append]; omega
            have hcat : S.size + U.size ≤ 9223372036854775807 := by omega
            clear hUz
            have hB6 : Below w.heap.size w (w4.alloc (.cells #[.int .u8 (q : Int)] 5)) := HBw4.out.alloc HBw4.out.size _
            have CM := Open_none (S ++ U) hUs (by rw [hUl]; exact openR_more HOp.out) _ (HT.out.below hB6)
            rw [hU] at hstr6
            have HCM := Lib.hid CM
            have HB6 := Lib.hid hB6
            clear CM hB6 hUl hUs hU hY6 hb6
            go_wp2_with fail
            refine HCM.out.mono ?_
            rintro e w6 ⟨rfl, hb7⟩
            have HB7 := Lib.hid (HB6.out.trans (hb7.mono HB6.out.size))
            clear hb7 hstr6
            go_wp2_with fail
            refine (HCO.out w6 (HT.out.below HB7.out)).mono ?_
            rintro e w8 ⟨fb, rfl, _, _, hb8⟩
            have HB8 := Lib.hid (HB7.out.trans (hb8.mono HB7.out.size))
            clear hb8
            go_wp2
            go_ret
            exact ⟨rfl, HB8.out⟩
          · by_cases h61 : 0 ≤ cut
            · have h62 : ¬ cut < (S.size : Int) := fun e => h6 ⟨h61, e⟩
              clear h6
              have hb6 := World.alloc_heap_new w2 (.cells #[.int .u8 (q : Int)] 5)
              have hY6 : Bys (w2.alloc (.cells #[.int .u8 (q : Int)] 5)) w2.heap.size 5 [u] := by
                refine ⟨_, _, _, hb6, .inl (Nat.le_refl _), fun i hi => ?_⟩
                have hi0 : i = 0 := by simp at hi; omega
                subst hi0
                rw [← HU.out]
                rfl
              have hstr6 := hY6.toStr (P := Tryd.prog) 53 9 5 Tryd.underlying53 Tryd.underlying5 Tryd.underlying9 1 1 rfl
              obtain ⟨U, hU⟩ : ∃ U, (⟨([u] : List UInt8).toArray⟩ : ByteArray) = U := ⟨_, rfl⟩
              have hUl : (S ++ U).data.toList = S.data.toList ++ [u] := by rw [← hU]; simp
              have hUz : U.size = 1 := by rw [← hU]; rfl
              have hUs : (S ++ U).size ≤ 1000000000 := by rw [ByteArray.size_append]; omega
              have hcat : S.size + U.size ≤ 9223372036854775807 := by omega
              clear hUz
              have hB6 : Below w.heap.size w (w2.alloc (.cells #[.int .u8 (q : Int)] 5)) := HBw2.out.alloc HBw2.out.size _
              have CM := Open_none (S ++ U) hUs (by rw [hUl]; exact openR_more HOp.out) _ (HT.out.below hB6)
              rw [hU] at hstr6
              have HCM := Lib.hid CM
              have HB6 := Lib.hid hB6
              clear CM hB6 hUl hUs hU hY6 hb6
              go_wp2_with fail
              refine HCM.out.mono ?_
              rintro e w6 ⟨rfl, hb7⟩
              have HB7 := Lib.hid (HB6.out.trans (hb7.mono HB6.out.size))
              clear hb7 hstr6
              go_wp2_with fail
              refine (HCO.out w6 (HT.out.below HB7.out)).mono ?_
              rintro e w8 ⟨fb, rfl, _, _, hb8⟩
              have HB8 := Lib.hid (HB7.out.trans (hb8.mono HB7.out.size))
              clear hb8
              go_wp2
              go_ret
              exact ⟨rfl, HB8.out⟩
            · clear h6
              have hb6 := World.alloc_heap_new w2 (.cells #[.int .u8 (q : Int)] 5)
              have hY6 : Bys (w2.alloc (.cells #[.int .u8 (q : Int)] 5)) w2.heap.size 5 [u] := by
                refine ⟨_, _, _, hb6, .inl (Nat.le_refl _), fun i hi => ?_⟩
                have hi0 : i = 0 := by simp at hi; omega
                subst hi0
                rw [← HU.out]
                rfl
              have hstr6 := hY6.toStr (P := Tryd.prog) 53 9 5 Tryd.underlying53 Tryd.underlying5 Tryd.underlying9 1 1 rfl
              obtain ⟨U, hU⟩ : ∃ U, (⟨([u] : List UInt8).toArray⟩ : ByteArray) = U := ⟨_, rfl⟩
              have hUl : (S ++ U).data.toList = S.data.toList ++ [u] := by rw [← hU]; simp
              have hUz : U.size = 1 := by rw [← hU]; rfl
              have hUs : (S ++ U).size ≤ 1000000000 := by rw [ByteArray.size_append]; omega
              have hcat : S.size + U.size ≤ 9223372036854775807 := by omega
              clear hUz
              have hB6 : Below w.heap.size w (w2.alloc (.cells #[.int .u8 (q : Int)] 5)) := HBw2.out.alloc HBw2.out.size _
              have CM := Open_none (S ++ U) hUs (by rw [hUl]; exact openR_more HOp.out) _ (HT.out.below hB6)
              rw [hU] at hstr6
              have HCM := Lib.hid CM
              have HB6 := Lib.hid hB6
              clear CM hB6 hUl hUs hU hY6 hb6
              go_wp2_with fail
              refine HCM.out.mono ?_
              rintro e w6 ⟨rfl, hb7⟩
              have HB7 := Lib.hid (HB6.out.trans (hb7.mono HB6.out.size))
              clear hb7 hstr6
              go_wp2_with fail
              refine (HCO.out w6 (HT.out.below HB7.out)).mono ?_
              rintro e w8 ⟨fb, rfl, _, _, hb8⟩
              have HB8 := Lib.hid (HB7.out.trans (hb8.mono HB7.out.size))
              clear hb8
              go_wp2
              go_ret
              exact ⟨rfl, HB8.out⟩
      · clear h5q
        by_cases h6 : 0 ≤ cut ∧ cut < (S.size : Int)
        · obtain ⟨h61, h62⟩ := h6
          obtain ⟨ct, rfl⟩ := Int.eq_ofNat_of_zero_le h61
          have hcs : (S.extract 0 ct).size ≤ 1000000000 := by rw [ByteArray.size_extract]; omega
          have hcn : openR (S.extract 0 ct).data.toList = none := by
            have e : (S.extract 0 ct).data.toList = S.data.toList.take ct := by simp
            rw [e]
            exact openR_cut HOp.out (by show ct < S.size; omega)
          have CT := Open_none (S.extract 0 ct) hcs hcn w2 (HT.out.below HBw2.out)
          have HCT := Lib.hid CT
          have h62' : (ct : Int) < (S.size : Int) := h62
          have h63' : (ct : Int) ≤ (S.size : Int) := by omega
          clear CT hcn
          go_wp2_with fail
          refine HCT.out.mono ?_
          rintro e w4 ⟨rfl, hb4⟩
          have HBw4 : Hid (Below w.heap.size w w4) := Lib.hid (HBw2.out.trans (hb4.mono HBw2.out.size))
          clear hb4
          have hb6 := World.alloc_heap_new w4 (.cells #[.int .u8 (q : Int)] 5)
          have hY6 : Bys (w4.alloc (.cells #[.int .u8 (q : Int)] 5)) w4.heap.size 5 [u] := by
            refine ⟨_, _, _, hb6, .inl (Nat.le_refl _), fun i hi => ?_⟩
            have hi0 : i = 0 := by simp at hi; omega
            subst hi0
            rw [← HU.out]
            rfl
          have hstr6 := hY6.toStr (P := Tryd.prog) 53 9 5 Tryd.underlying53 Tryd.underlying5 Tryd.underlying9 1 1 rfl
          obtain ⟨U, hU⟩ : ∃ U, (⟨([u] : List UInt8).toArray⟩ : ByteArray) = U := ⟨_, rfl⟩
          have hUl : (S ++ U).data.toList = S.data.toList ++ [u] := by rw [← hU]; simp
          have hUz : U.size = 1 := by rw [← hU]; rfl
          have hUs : (S ++ U).size ≤ 1000000000 := by rw [ByteArray.size_append]; omega
          have hcat : S.size + U.size ≤ 9223372036854775807 := by omega
          clear hUz
          have hB6 : Below w.heap.size w (w4.alloc (.cells #[.int .u8 (q : Int)] 5)) := HBw4.out.alloc HBw4.out.size _
          have CM := Open_none (S ++ U) hUs (by rw [hUl]; exact openR_more HOp.out) _ (HT.out.below hB6)
          rw [hU] at hstr6
          have HCM := Lib.hid CM
          have HB6 := Lib.hid hB6
          clear CM hB6 hUl hUs hU hY6 hb6
          go_wp2_with fail
          refine HCM.out.mono ?_
          rintro e w6 ⟨rfl, hb7⟩
          have HB7 := Lib.hid (HB6.out.trans (hb7.mono HB6.out.size))
          clear hb7 hstr6
          go_wp2_with fail
          refine (HCO.out w6 (HT.out.below HB7.out)).mono ?_
          rintro e w8 ⟨fb, rfl, _, _, hb8⟩
          have HB8 := Lib.hid (HB7.out.trans (hb8.mono HB7.out.size))
          clear hb8
          go_wp2
          go_ret
          exact ⟨rfl, HB8.out⟩
        · by_cases h61 : 0 ≤ cut
          · have h62 : ¬ cut < (S.size : Int) := fun e => h6 ⟨h61, e⟩
            clear h6
            have hb6 := World.alloc_heap_new w2 (.cells #[.int .u8 (q : Int)] 5)
            have hY6 : Bys (w2.alloc (.cells #[.int .u8 (q : Int)] 5)) w2.heap.size 5 [u] := by
              refine ⟨_, _, _, hb6, .inl (Nat.le_refl _), fun i hi => ?_⟩
              have hi0 : i = 0 := by simp at hi; omega
              subst hi0
              rw [← HU.out]
              rfl
            have hstr6 := hY6.toStr (P := Tryd.prog) 53 9 5 Tryd.underlying53 Tryd.underlying5 Tryd.underlying9 1 1 rfl
            obtain ⟨U, hU⟩ : ∃ U, (⟨([u] : List UInt8).toArray⟩ : ByteArray) = U := ⟨_, rfl⟩
            have hUl : (S ++ U).data.toList = S.data.toList ++ [u] := by rw [← hU]; simp
            have hUz : U.size = 1 := by rw [← hU]; rfl
            have hUs : (S ++ U).size ≤ 1000000000 := by rw [ByteArray.size_append]; omega
            have hcat : S.size + U.size ≤ 9223372036854775807 := by omega
            clear hUz
            have hB6 : Below w.heap.size w (w2.alloc (.cells #[.int .u8 (q : Int)] 5)) := HBw2.out.alloc HBw2.out.size _
            have CM := Open_none (S ++ U) hUs (by rw [hUl]; exact openR_more HOp.out) _ (HT.out.below hB6)
            rw [hU] at hstr6
            have HCM := Lib.hid CM
            have HB6 := Lib.hid hB6
            clear CM hB6 hUl hUs hU hY6 hb6
            go_wp2_with fail
            refine HCM.out.mono ?_
            rintro e w6 ⟨rfl, hb7⟩
            have HB7 := Lib.hid (HB6.out.trans (hb7.mono HB6.out.size))
            clear hb7 hstr6
            go_wp2_with fail
            refine (HCO.out w6 (HT.out.below HB7.out)).mono ?_
            rintro e w8 ⟨fb, rfl, _, _, hb8⟩
            have HB8 := Lib.hid (HB7.out.trans (hb8.mono HB7.out.size))
            clear hb8
            go_wp2
            go_ret
            exact ⟨rfl, HB8.out⟩
          · clear h6
            have hb6 := World.alloc_heap_new w2 (.cells #[.int .u8 (q : Int)] 5)
            have hY6 : Bys (w2.alloc (.cells #[.int .u8 (q : Int)] 5)) w2.heap.size 5 [u] := by
              refine ⟨_, _, _, hb6, .inl (Nat.le_refl _), fun i hi => ?_⟩
              have hi0 : i = 0 := by simp at hi; omega
              subst hi0
              rw [← HU.out]
              rfl
            have hstr6 := hY6.toStr (P := Tryd.prog) 53 9 5 Tryd.underlying53 Tryd.underlying5 Tryd.underlying9 1 1 rfl
            obtain ⟨U, hU⟩ : ∃ U, (⟨([u] : List UInt8).toArray⟩ : ByteArray) = U := ⟨_, rfl⟩
            have hUl : (S ++ U).data.toList = S.data.toList ++ [u] := by rw [← hU]; simp
            have hUz : U.size = 1 := by rw [← hU]; rfl
            have hUs : (S ++ U).size ≤ 1000000000 := by rw [ByteArray.size_append]; omega
            have hcat : S.size + U.size ≤ 9223372036854775807 := by omega
            clear hUz
            have hB6 : Below w.heap.size w (w2.alloc (.cells #[.int .u8 (q : Int)] 5)) := HBw2.out.alloc HBw2.out.size _
            have CM := Open_none (S ++ U) hUs (by rw [hUl]; exact openR_more HOp.out) _ (HT.out.below hB6)
            rw [hU] at hstr6
            have HCM := Lib.hid CM
            have HB6 := Lib.hid hB6
            clear CM hB6 hUl hUs hU hY6 hb6
            go_wp2_with fail
            refine HCM.out.mono ?_
            rintro e w6 ⟨rfl, hb7⟩
            have HB7 := Lib.hid (HB6.out.trans (hb7.mono HB6.out.size))
            clear hb7 hstr6
            go_wp2_with fail
            refine (HCO.out w6 (HT.out.below HB7.out)).mono ?_
            rintro e w8 ⟨fb, rfl, _, _, hb8⟩
            have HB8 := Lib.hid (HB7.out.trans (hb8.mono HB7.out.size))
            clear hb8
            go_wp2
            go_ret
            exact ⟨rfl, HB8.out⟩
  · obtain ⟨g, hg⟩ : ∃ g, goesR h z = g := ⟨_, rfl⟩
    have hbt : builtR h z = ([], g) := by unfold builtR; rw [if_neg hgo, hg]
    rw [hbt] at CB
    have CB2 : Calls Tryd.prog 12 #[.agg #[.int .i64 h.w, .int .i64 h.t, .int .i64 h.b, .int .i64 h.lo, .int .i64 h.hi, .int .i64 h.n], .slice p n c] w1 fun e w' => e = .returned (.tuple #[.string ⟨#[]⟩, .int .i64 g]) ∧ Below w1.heap.size w1 w' := CB
    rw [hg] at hgo
    have hg0 : (g == 0) = false := by simpa using hgo
    have HCB := Lib.hid CB2
    clear CB CB2 hbt hg
    go_wp2_with fail
    refine HCB.out.mono ?_
    rintro e w2 ⟨rfl, hb2⟩
    have HB2 := Lib.hid (HBw1.out.trans (hb2.mono HBw1.out.size))
    clear hb2 d0 d1 d2 d3 d4 d5
    go_wp2
    go_ret
    exact ⟨rfl, HB2.out⟩
end Go.Proofs.YtihgjihdmlomaaaDoor
