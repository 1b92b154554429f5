/-
  WALKS: bits of a text turned; a spoilt frame.
-/
import Derived.Test.YtebbmifpidbdlaaDoorSealLaws
import Derived.Test.YtebbmifpidbdlaaDoorBurstP
namespace Go.Proofs.YtebbmifpidbdlaaDoor
open Go.RowKit
set_option linter.unusedVariables false

/-- What 'turned' answers: nothing, or the text with the pattern's bits turned. -/
def TurnedPost (b : List UInt8) (at_ : Int) (p : Nat) (w : World) (e : Ending) (w' : World) : Prop :=
  ∃ (x : ByteArray) (ok : Bool), e = .returned (.tuple #[.string x, .bool ok]) ∧ Below w.heap.size w w' ∧
    (ok = true → ∃ a : Nat, at_ = a ∧ p ≠ 0 ∧ x.data.toList.length = b.length ∧ Xn x.data.toList ^^^ Xn b = p * 2 ^ a)

set_option maxRecDepth 100000 in
set_option maxHeartbeats 4000000 in
theorem turned_calls (b : ByteArray) (hb : b.size ≤ 4611686018427387904) (at_ : Int) (hat : -9223372036854775808 ≤ at_ ∧ at_ < 9223372036854775808) (p : Nat) (hp : p < 4294967296) (w : World) :
    Calls Tryd.prog 24 #[.string b, .int .i64 at_, .int .u32 p] w (TurnedPost b.data.toList at_ p w) := by
  by_cases h1 : at_ < 0
  · go_enter Tryd.func24, Tryd.ntmps24
    go_wp2
    go_ret2
    exact ⟨_, _, rfl, Below.refl _ _, fun h => by cases h⟩
  obtain ⟨a, rfl⟩ := Int.eq_ofNat_of_zero_le (show 0 ≤ at_ by omega)
  by_cases h2 : b.size ≤ a / 8
  · have h2' : (b.size : Int) ≤ (a : Int) / 8 := by omega
    go_enter Tryd.func24, Tryd.ntmps24
    go_wp2
    go_ret2
    exact ⟨_, _, rfl, Below.refl _ _, fun h => by cases h⟩
  have h2' : ¬ (b.size : Int) ≤ (a : Int) / 8 := by omega
  by_cases h3 : p = 0
  · have h3' : ((p : Int) == 0) = true := by rw [beq_iff_eq]; omega
    clear h3
    go_enter Tryd.func24, Tryd.ntmps24
    go_wp2
    go_ret2
    exact ⟨_, _, rfl, Below.refl _ _, fun h => by cases h⟩
  have h3' : ((p : Int) == 0) = false := by rw [beq_eq_false_iff_ne]; omega
  have hcv := run_bytes_of_string (P := Tryd.prog) w 9 52 5 b Tryd.underlying9 Tryd.underlying52 Tryd.underlying5
  obtain ⟨cap, hcap⟩ : ∃ cap, grownCap w b.size 0 5 = cap := ⟨_, rfl⟩
  rw [hcap] at hcv
  clear hcap
  obtain ⟨o, ho⟩ : ∃ o, Obj.cells (bytesRow b cap) 5 ((bytesRow b cap).size, (bytesRow b cap).size + 1) = o := ⟨_, rfl⟩
  rw [ho] at hcv
  have hB0 : Bys (w.alloc o) w.heap.size 5 b.data.toList := by rw [← ho]; exact Bys.of_string w _ b cap
  clear ho
  go_enter Tryd.func24, Tryd.ntmps24
  go_wp2
  go_loopw [9, 10] (fun i _ wr => ∃ (k : Nat) (c : List UInt8), k ≤ 32 ∧ i = .int .i64 k ∧ Bys wr w.heap.size 5 c ∧ Hid (c.length = b.size ∧ Xn c ^^^ Xn b.data.toList = p % 2 ^ k * 2 ^ a) ∧ Below w.heap.size w wr) (fun i _ _ => 32 - (intOf i).toNat)
  case atStart => exact ⟨0, _, by omega, rfl, hB0, Lib.hid ⟨by simp, by rw [Nat.xor_self]; simp [Nat.mod_one]⟩, ((Below.refl _ _).alloc (Nat.le_refl _) _).drew⟩
  case round =>
    obtain ⟨k, c, hk, rfl, hB, HX, hbl⟩ := hrel
    by_cases hlt : k < 32
    · have hand : bits .and .u32 ((p : Int) / 2 ^ k) 1 = ((p / 2 ^ k % 2 : Nat) : Int) := by
        have := u32_and_nat (p / 2 ^ k) 1 (Nat.lt_of_le_of_lt (Nat.div_le_self _ _) hp) (by decide)
        rw [nat_mask1] at this
        rw [← this]; simp
      by_cases hbit : p / 2 ^ k % 2 = 1
      · rw [hbit] at hand
        by_cases hpl : a / 8 + (a % 8 + k) / 8 < b.size
        rotate_left
        · have hpl' : (b.size : Int) ≤ (a : Int) / 8 + ((a : Int) % 8 + (k : Int)) / 8 := by omega
          clear hbit hpl
          go_wp2
          go_ret2
          exact ⟨_, _, rfl, hbl, fun h => by cases h⟩
        have hpl' : ¬ (b.size : Int) ≤ (a : Int) / 8 + ((a : Int) % 8 + (k : Int)) / 8 := by omega
        have hcl : a / 8 + (a % 8 + k) / 8 < c.length := by rw [HX.out.1]; exact hpl
        have hc := hB.cell hcl
        have hf := hB.frozen hcl
        have HBIT := Lib.hid hbit
        have HCL := Lib.hid hcl
        obtain ⟨d, hd⟩ : ∃ d, c.getD (a / 8 + (a % 8 + k) / 8) 0 = d := ⟨_, rfl⟩
        rw [hd] at hc
        have HD := Lib.hid hd
        clear hbit hpl hcl hd
        have hj : (a + k) % 8 < 8 := by omega
        have hx := byte_xor_lt d ((a + k) % 8) hj
        obtain ⟨d', hd'⟩ : ∃ d' : UInt8, d' = UInt8.ofNat (d.toNat ^^^ 2 ^ ((a + k) % 8)) := ⟨_, rfl⟩
        have hdn : d'.toNat = d.toNat ^^^ 2 ^ ((a + k) % 8) := by rw [hd', UInt8.toNat_ofNat']; exact Nat.mod_eq_of_lt hx
        have hxor : bits .xor .u8 (d.toNat : Int) ((2 : Int) ^ ((a + k) % 8) % 256) = (d'.toNat : Int) := by
          have hdl := d.toNat_lt
          have hp2 : 2 ^ ((a + k) % 8) < 256 := Nat.pow_lt_pow_right (a := 2) (n := 8) (by omega) hj
          have := u8_xor_nat d.toNat (2 ^ ((a + k) % 8)) (by omega) hp2
          rw [hdn, ← this]
          congr 1
          have e : ((2 ^ ((a + k) % 8) : Nat) : Int) = (2 : Int) ^ ((a + k) % 8) := by simp
          rw [← e]
          exact congrArg Int.ofNat (Nat.mod_eq_of_lt hp2)
        have HDN := Lib.hid hdn
        have hP := hB.put (a / 8 + (a % 8 + k) / 8) d'
        clear hd' hdn hx
        go_wp2
        go_roundw
        case rel =>
          refine ⟨k + 1, _, by omega, by go_num, hP, Lib.hid ⟨by simpa using HX.out.1, ?_⟩, hbl.setCell (p := ⟨w.heap.size, a / 8 + (a % 8 + k) / 8, none⟩) (Nat.le_refl _) _⟩
          rw [Xn_set c _ ((a + k) % 8) d' HCL.out (by rw [HD.out]; exact HDN.out), Nat.xor_assoc, Nat.xor_comm (2 ^ _), ← Nat.xor_assoc, HX.out.2,
            show 8 * (a / 8 + (a % 8 + k) / 8) + (a + k) % 8 = a + k by omega, burst_step _ _ _ HBIT.out]
        case measure => simp [intOf]; omega
      · have hb0 : p / 2 ^ k % 2 = 0 := by omega
        rw [hb0] at hand
        have HB := Lib.hid hb0
        clear hb0 hbit
        go_wp2
        go_roundw
        case rel => exact ⟨k + 1, c, by omega, by go_num, hB, Lib.hid ⟨HX.out.1, by rw [HX.out.2, burst_none _ _ HB.out]⟩, hbl⟩
        case measure => simp [intOf]; omega
    · obtain rfl : k = 32 := by omega
      have hs := hB.toStr (P := Tryd.prog) 52 9 5 Tryd.underlying52 Tryd.underlying5 Tryd.underlying9 b.size cap HX.out.1.symm
      go_wp2
      go_ret2
      refine ⟨_, _, rfl, hbl, fun _ => ⟨a, rfl, h3, by simpa using HX.out.1, ?_⟩⟩
      have := HX.out.2
      rw [Nat.mod_eq_of_lt hp] at this
      simpa using this

set_option maxRecDepth 100000 in
set_option maxHeartbeats 4000000 in
theorem SealSpoilt_walk (a0 : Int) (w0 : (Lit.int .i64 a0).wf = true) (a1 : ByteArray) (s1 : a1.size ≤ 140737488351232) (a2 : Int) (w2 : (Lit.int .i64 a2).wf = true) (a3 : Int) (w3 : (Lit.int .u32 a3).wf = true) (a4 : ByteArray) (s4 : a4.size ≤ 140737488351232) (w : World) (hL : TabLaid w) :
    Calls Tryd.prog 8 #[.int .i64 a0, .string a1, .int .i64 a2, .int .u32 a3, .string a4] w fun e w' => e = .returned (.bool true) ∧ Below w.heap.size w w' := by
  have hT := tab_of_laid hL
  obtain ⟨hp0, hp1⟩ := wf_bounds_u32 w3
  obtain ⟨p, rfl⟩ := Int.eq_ofNat_of_zero_le hp0
  have hp : p < 4294967296 := by omega
  have hat := wf_bounds_i64 w2
  clear hL w0 w2 w3 hp0 hp1
  have cfr := fun W h => Frame_calls a0 a1 s1 W h
  obtain ⟨Y, hY⟩ : ∃ Y, frameR a0 a1.data.toList = Y := ⟨_, rfl⟩
  have hok := frameR_is a0 a1.data.toList
  have hno : (frameR a0 a1.data.toList).2 ≠ 0 → (frameR a0 a1.data.toList).1 = [] := by
    intro h
    unfold frameR at h ⊢
    by_cases c : a0 < 1 ∨ 255 < a0
    · rw [if_pos c]
    · rw [if_neg c] at h ⊢
      by_cases c2 : 65536 < a1.data.toList.length
      · rw [if_pos c2]
      · rw [if_neg c2] at h; exact absurd rfl h
  simp only [hY] at cfr hok hno
  have CFR := Lib.hid cfr
  clear cfr hY
  obtain ⟨f, er⟩ := Y
  simp only at hok hno
  by_cases herr : er = 0
  rotate_left
  · have hf := hno herr
    subst hf
    have herr' : (er != 0) = true := by rw [bne_iff_ne]; exact herr
    clear hok hno
    go_enter Tryd.func8, Tryd.ntmps8
    go_wp2_with fail
    refine (begun_calls w hT).mono ?_
    rintro e u1 ⟨rfl, hb1⟩
    go_wp2_with fail
    refine (CFR.out u1 (hT.below hb1)).mono ?_
    rintro e u2 ⟨rfl, hb2⟩
    have hbl2 := hb1.trans (hb2.mono hb1.size)
    go_wp2
    go_ret
    exact ⟨by simp, hbl2⟩
  obtain ⟨k, rfl, hk1, hk2, hk3, hf⟩ := hok herr
  have hfe : f = frameB k a1.data.toList := by injection hf
  have hfl := frameB_length k a1.data.toList
  rw [← hfe] at hfl
  obtain ⟨s, hs, hsd, hsz⟩ := name_str f
  have hlen1 : a1.data.toList.length = a1.size := rfl
  rw [hlen1] at hfl hk3
  have hsz' : s.size = a1.size + 14 := by rw [hsz, hfl]
  have hsz1 : s.size ≤ 65550 := by omega
  have hcat2 : (s ++ a4).size = s.size + a4.size := ByteArray.size_append
  have cp2 := fun W h => Parse_calls (s ++ a4) (by omega) 0 W h
  have hpr2 : parseR (s ++ a4).data.toList 0 = ((k : Int), a1.data.toList, ((0 + a1.size + 14 : Nat) : Int), 0) := by
    have := parseR_frame [] k a1.data.toList a4.data.toList hk1 hk2 hk3
    rw [cat_data, hsd, hfe]; exact this
  simp only [hpr2, ← str_of_data (a := a1) rfl] at cp2
  have CP2 := Lib.hid cp2
  have hm : (((0 + a1.size + 14 : Nat) : Int) == (s.size : Int)) = true := by rw [beq_iff_eq]; omega
  have hm2 : (a1.size : Int) + 14 = (s.size : Int) := by omega
  have HM2 := Lib.hid hm2
  rw [hs] at CFR
  have HSD := Lib.hid (hsd.trans hfe)
  subst herr
  clear hok hno hf hs hfe hfl hsd hsz hcat2 cp2 hpr2 hlen1 hsz' hm2
  go_enter Tryd.func8, Tryd.ntmps8
  go_wp2_with fail
  refine (begun_calls w hT).mono ?_
  rintro e u1 ⟨rfl, hb1⟩
  go_wp2_with fail
  refine (CFR.out u1 (hT.below hb1)).mono ?_
  rintro e u2 ⟨rfl, hb2⟩
  have hbl2 := hb1.trans (hb2.mono hb1.size)
  clear hb1 hb2
  go_wp2_with fail
  refine (turned_calls a1 (by omega) a2 hat p hp u2).mono ?_
  rintro e u3 ⟨x, ok, rfl, hb3, hx⟩
  have hbl3 := hbl2.trans (hb3.mono hbl2.size)
  have HX := Lib.hid hx
  clear hb3 hbl2 hx
  -- what follows the first look
  cases ok
  · go_wp2_with fail
    refine (turned_calls s (by omega) a2 hat p hp u3).mono ?_
    rintro e u4 ⟨t, is, rfl, hb4, ht⟩
    have hbl4 := hbl3.trans (hb4.mono hbl3.size)
    have HT := Lib.hid ht
    clear hb4 hbl3 ht
    cases is
    · go_wp2
      go_ret
      exact ⟨rfl, hbl4⟩
    · obtain ⟨a, rfl, h0, hl, hxor⟩ := HT.out rfl
      have hsp := spoilt_refused k a1.data.toList t.data.toList a4.data.toList hk1 hk2 hk3 p a hp h0 (by rw [hl, HSD.out]) (by rw [← HSD.out]; exact hxor) 0
      have hts : t.size = s.size := hl
      have hcat1 : (t ++ a4).size = t.size + a4.size := ByteArray.size_append
      have cp1 := fun W h => Parse_calls (t ++ a4) (by omega) 0 W h
      obtain ⟨Z, hZ⟩ : ∃ Z, parseR (t ++ a4).data.toList 0 = Z := ⟨_, rfl⟩
      have hz : Z.2.2.2 ≠ 0 := by
        have e : parseR (t ++ a4).data.toList 0 = parseAt 0 (t.data.toList ++ a4.data.toList) := by
          unfold parseR; rw [if_neg (by simp; omega), cat_data]; simp
        rw [← hZ, e]; exact hsp
      simp only [hZ] at cp1
      have CP1 := Lib.hid cp1
      have hz' : (Z.2.2.2 != 0) = true := by rw [bne_iff_ne]; exact hz
      clear hsp cp1 hZ hz hl hxor hcat1
      have hts' : t.size ≤ s.size := by omega
      clear hts
      go_wp2_with fail
      refine (CP1.out u4 (hT.below hbl4)).mono ?_
      rintro e u5 ⟨rfl, hb5⟩
      have hbl5 := hbl4.trans (hb5.mono hbl4.size)
      clear hb5
      go_wp2_with fail
      refine (CP2.out u5 (hT.below hbl5)).mono ?_
      rintro e u6 ⟨rfl, hb6⟩
      have hbl6 := hbl5.trans (hb6.mono hbl5.size)
      go_wp2
      go_ret
      exact ⟨by simp [HM2.out], hbl6⟩
  · have hne : Crc.on 0 x.data.toList ≠ Crc.on 0 a1.data.toList := by
      obtain ⟨a, _, h0, hl, hxor⟩ := HX.out rfl
      exact sum_turned 0 _ _ p a hl hxor hp h0
    have hxs : x.size = a1.size := by
      obtain ⟨a, _, h0, hl, hxor⟩ := HX.out rfl
      exact hl
    have hxs' : x.size ≤ a1.size := by omega
    clear hxs
    obtain ⟨y1, hy1⟩ : ∃ y, Crc.on 0 x.data.toList = y := ⟨_, rfl⟩
    obtain ⟨y2, hy2⟩ : ∃ y, Crc.on 0 a1.data.toList = y := ⟨_, rfl⟩
    have c1 := fun W h => Sum_calls x (by omega) W h
    have c2 := fun W h => Sum_calls a1 (by omega) W h
    rw [hy1, hy2] at hne
    simp only [hy1] at c1
    simp only [hy2] at c2
    have C1 := Lib.hid c1
    have C2 := Lib.hid c2
    have hyy : ((y1 : Int) == (y2 : Int)) = false := by rw [beq_eq_false_iff_ne]; omega
    clear hy1 hy2 c1 c2 hne
    go_wp2_with fail
    refine (C1.out u3 (hT.below hbl3)).mono ?_
    rintro e u4' ⟨rfl, rfl⟩
    go_wp2_with fail
    refine (C2.out u3 (hT.below hbl3)).mono ?_
    rintro e u4' ⟨rfl, rfl⟩
    go_wp2_with fail
    refine (turned_calls s (by omega) a2 hat p hp u3).mono ?_
    rintro e u4 ⟨t, is, rfl, hb4, ht⟩
    have hbl4 := hbl3.trans (hb4.mono hbl3.size)
    have HT := Lib.hid ht
    clear hb4 hbl3 ht
    cases is
    · go_wp2
      go_ret
      exact ⟨rfl, hbl4⟩
    · obtain ⟨a, rfl, h0, hl, hxor⟩ := HT.out rfl
      have hsp := spoilt_refused k a1.data.toList t.data.toList a4.data.toList hk1 hk2 hk3 p a hp h0 (by rw [hl, HSD.out]) (by rw [← HSD.out]; exact hxor) 0
      have hts : t.size = s.size := hl
      have hcat1 : (t ++ a4).size = t.size + a4.size := ByteArray.size_append
      have cp1 := fun W h => Parse_calls (t ++ a4) (by omega) 0 W h
      obtain ⟨Z, hZ⟩ : ∃ Z, parseR (t ++ a4).data.toList 0 = Z := ⟨_, rfl⟩
      have hz : Z.2.2.2 ≠ 0 := by
        have e : parseR (t ++ a4).data.toList 0 = parseAt 0 (t.data.toList ++ a4.data.toList) := by
          unfold parseR; rw [if_neg (by simp; omega), cat_data]; simp
        rw [← hZ, e]; exact hsp
      simp only [hZ] at cp1
      have CP1 := Lib.hid cp1
      have hz' : (Z.2.2.2 != 0) = true := by rw [bne_iff_ne]; exact hz
      clear hsp cp1 hZ hz hl hxor hcat1
      have hts' : t.size ≤ s.size := by omega
      clear hts
      go_wp2_with fail
      refine (CP1.out u4 (hT.below hbl4)).mono ?_
      rintro e u5 ⟨rfl, hb5⟩
      have hbl5 := hbl4.trans (hb5.mono hbl4.size)
      clear hb5
      go_wp2_with fail
      refine (CP2.out u5 (hT.below hbl5)).mono ?_
      rintro e u6 ⟨rfl, hb6⟩
      have hbl6 := hbl5.trans (hb6.mono hbl5.size)
      go_wp2
      go_ret
      exact ⟨by simp [HM2.out], hbl6⟩

end Go.Proofs.YtebbmifpidbdlaaDoor
