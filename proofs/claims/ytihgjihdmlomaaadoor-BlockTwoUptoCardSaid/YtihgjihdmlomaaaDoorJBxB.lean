/-
  WALK: the law BlockTwo returns true.
-/
import Derived.Test.YtihgjihdmlomaaaDoorJBxA
namespace Go.Proofs.YtihgjihdmlomaaaDoor
open Go.RowKit ArgK
set_option linter.unusedVariables false

theorem keep_own2 {W W' : World} {g1 g2 : Nat} {A1 A2 : Array Value} {T1 T2 : TypeId} {fr1 fr2 : Nat × Nat} (h1 : W.heap[g1]? = some (.cells A1 T1 fr1)) (h2 : W.heap[g2]? = some (.cells A2 T2 fr2)) (hf : Fr2 g1 g2 W W') {base : Nat} {e : TypeId} {size : Nat} {v : Value} {n : Nat} {xs : List Value} (ho : W.ownsRow base e size v n xs) (hn1 : e ≠ T1) (hn2 : e ≠ T2) : W'.ownsRow base e size v n xs := by
  have hb1 := own_type_ne ho h1 hn1
  have hb2 := own_type_ne ho h2 hn2
  refine ⟨ho.1, ?_⟩
  rcases ho.2 with hn | ⟨q, cap, cur, rfl, hbq, hh, rest⟩
  · exact .inl hn
  · exact .inr ⟨q, cap, cur, rfl, hbq, (hf.block q (Array.getElem?_eq_some_iff.1 hh).1 (fun e => hb1 (by rw [← e]; rfl)) (fun e => hb2 (by rw [← e]; rfl))).trans hh, rest⟩
theorem Both.keep {W W' : World} {b1 f1 b2 f2 : Nat} {h : Hd} {l : List Ent} {r : Nat} (hB : Both W b1 f1 b2 f2 h l r) {c1 g1 c2 g2 : Nat} {h' : Hd} {l' : List Ent} {r' : Nat} (hG : Both W c1 g1 c2 g2 h' l' r') (hf : Fr2 g1 g2 W W') (n1 : f1 ≠ g1) (n2 : f1 ≠ g2) (n3 : f2 ≠ g1) (n4 : f2 ≠ g2) : Both W' b1 f1 b2 f2 h l r := by
  obtain ⟨_, _, _, _, k1, _, _, _⟩ := hG.f
  obtain ⟨_, _, _, _, k2, _, _, _⟩ := hG.d
  obtain ⟨lp, lc, q, c, h1, h2, h3, h4⟩ := hB.f
  obtain ⟨lp', lc', q', c', j1, j2, j3, j4⟩ := hB.d
  exact ⟨⟨lp, lc, q, c, (hf.block f1 (Array.getElem?_eq_some_iff.1 h1).1 n1 n2).trans h1, keep_own2 k1 k2 hf h2 (by decide) (by decide), keep_own2 k1 k2 hf h3 (by decide) (by decide), h4⟩,
    ⟨lp', lc', q', c', (hf.block f2 (Array.getElem?_eq_some_iff.1 j1).1 n3 n4).trans j1, keep_own2 k1 k2 hf j2 (by decide) (by decide), keep_own2 k1 k2 hf j3 (by decide) (by decide), j4⟩⟩

/-- At the head of each round over the askings. -/
def TwRel (W0 : World) (b1 f1 c1 d1 : Nat) (h : Hd) (l : List Ent) (b2 f2 c2 d2 : Nat) (h' : Hd) (l' : List Ent) (m k : Nat) (wr : World) : Prop :=
  ∃ r r', k ≤ m ∧ Both wr b1 f1 c1 d1 h l r ∧ Both wr b2 f2 c2 d2 h' l' r' ∧ r ≤ 131072 * k ∧ r' ≤ 131072 * k ∧ Below W0.heap.size W0 wr

theorem open_no {b : List UInt8} (ho : openR b = none) {w w' : World} {e : Ending} (h : OpenPost w b e w') : e = .returned (.tuple #[.pointer none, .int .i64 80]) ∧ Below w.heap.size w w' := by
  rcases h with ⟨hb, ⟨_, h⟩ | ⟨h', l', fb, h3, _⟩⟩
  · exact ⟨h, hb⟩
  · rw [ho] at h3; cases h3
theorem open_yes {b : List UInt8} {h : Hd} {l : List Ent} (ho : openR b = some (h, l)) {w w' : World} {e : Ending} (hp : OpenPost w b e w') : ∃ f, e = .returned (.tuple #[.pointer (some ⟨f, 0, none⟩), .int .i64 0]) ∧ FileAt w' w.heap.size f h l 0 ∧ Below w.heap.size w w' := by
  rcases hp with ⟨hb, ⟨h2, _⟩ | ⟨h', l', fb, h3, h4, h5⟩⟩
  · rw [ho] at h2; cases h2
  · rw [ho] at h3
    cases h3
    exact ⟨fb, h4, h5, hb⟩
theorem ropen_none2 {b : List UInt8} (ho : openR b = none) {w w' : World} {e : Ending} (h : ROpenPost w b e w') : e = .returned (.tuple #[.pointer none, .int .i64 80]) ∧ Below w.heap.size w w' := by
  rcases h with ⟨hb, ⟨_, h⟩ | ⟨h', l', fb, h3, _⟩⟩
  · exact ⟨h, hb⟩
  · rw [ho] at h3; cases h3
theorem ropen_some2 {b : List UInt8} {h : Hd} {l : List Ent} (ho : openR b = some (h, l)) {w w' : World} {e : Ending} (hp : ROpenPost w b e w') : ∃ f, e = .returned (.tuple #[.pointer (some ⟨f, 0, none⟩), .int .i64 0]) ∧ RFileAt w' w.heap.size f h l 0 ∧ Below w.heap.size w w' := by
  rcases hp with ⟨hb, ⟨h2, _⟩ | ⟨h', l', fb, h3, h4, h5⟩⟩
  · rw [ho] at h2; cases h2
  · rw [ho] at h3
    cases h3
    exact ⟨fb, h4, h5, hb⟩

set_option maxRecDepth 100000 in
set_option maxHeartbeats 8000000 in
theorem BlockTwo_walk (a : ByteArray) (sa : a.size ≤ 140737488351232) (b : ByteArray) (sb : b.size ≤ 140737488351232) (v2 : Value) (z : List (Ent × Int)) (w : World) (h2 : IsSl w 6 56 IsAsk [v2] z) (hL : TabLaid w) (hbulk : a.size + b.size ≤ 1048576) :
    Calls Tryd.prog 4 #[.string a, .string b, v2] w fun e w' => e = .returned (.bool true) ∧ Below w.heap.size w w' := by
  obtain ⟨p, c, rfl, hm, hA⟩ := al_arg h2
  have hT := tab_of_laid hL
  obtain ⟨m, hmm⟩ : ∃ m, z.length = m := ⟨_, rfl⟩
  rw [hmm] at hm ⊢
  have HCA := Lib.hid (fun W hW => Opens_calls a (by omega) W hW)
  have HCB := Lib.hid (fun W hW => Opens_calls b (by omega) W hW)
  have HRA := Lib.hid (fun W => ROpen_calls a (by omega) W)
  have HRB := Lib.hid (fun W => ROpen_calls b (by omega) W)
  have HA := Lib.hid hA
  have HZ := Lib.hid hmm
  have HT := Lib.hid hT
  clear h2 hL hT hA hmm
  go_enter Tryd.func4, Tryd.ntmps4
  cases hoa : openR a.data.toList with
  | none =>
    cases hob : openR b.data.toList with
    | none =>
      go_wp2_with fail
      refine (HCA.out w HT.out).mono ?_
      rintro e w1 hp
      obtain ⟨rfl, hb1⟩ := open_no hoa hp
      have HS1 := Lib.hid hb1
      have HB1 := Lib.hid hb1
      clear hb1 hp
      go_wp2_with fail
      refine (HCB.out w1 (HT.out.below HB1.out)).mono ?_
      rintro e w2 hp
      obtain ⟨rfl, hb2⟩ := open_no hob hp
      have HS2 := Lib.hid hb2
      have HB2 := Lib.hid (HB1.out.trans (hb2.mono HB1.out.size))
      clear hb2 hp
      go_wp2_with fail
      refine (HRA.out w2).mono ?_
      rintro e w3 hp
      obtain ⟨rfl, hb3⟩ := ropen_none2 hoa hp
      have HS3 := Lib.hid hb3
      have HB3 := Lib.hid (HB2.out.trans (hb3.mono HB2.out.size))
      clear hb3 hp
      go_wp2_with fail
      refine (HRB.out w3).mono ?_
      rintro e w4 hp
      obtain ⟨rfl, hb4⟩ := ropen_none2 hob hp
      have HS4 := Lib.hid hb4
      have HB4 := Lib.hid (HB3.out.trans (hb4.mono HB3.out.size))
      clear hb4 hp
      go_wp2
      go_ret
      exact ⟨rfl, HB4.out⟩
    | some qb =>
      obtain ⟨hb, lb⟩ := qb
      go_wp2_with fail
      refine (HCA.out w HT.out).mono ?_
      rintro e w1 hp
      obtain ⟨rfl, hb1⟩ := open_no hoa hp
      have HS1 := Lib.hid hb1
      have HB1 := Lib.hid hb1
      clear hb1 hp
      go_wp2_with fail
      refine (HCB.out w1 (HT.out.below HB1.out)).mono ?_
      rintro e w2 hp
      obtain ⟨f2, rfl, hF2, hb2⟩ := open_yes hob hp
      have HF2 := Lib.hid hF2
      clear hF2
      have HS2 := Lib.hid hb2
      have HB2 := Lib.hid (HB1.out.trans (hb2.mono HB1.out.size))
      clear hb2 hp
      go_wp2_with fail
      refine (HRA.out w2).mono ?_
      rintro e w3 hp
      obtain ⟨rfl, hb3⟩ := ropen_none2 hoa hp
      have HS3 := Lib.hid hb3
      have HB3 := Lib.hid (HB2.out.trans (hb3.mono HB2.out.size))
      clear hb3 hp
      go_wp2_with fail
      refine (HRB.out w3).mono ?_
      rintro e w4 hp
      obtain ⟨d2, rfl, hF4, hb4⟩ := ropen_some2 hob hp
      have HF4 := Lib.hid hF4
      clear hF4
      have HS4 := Lib.hid hb4
      have HB4 := Lib.hid (HB3.out.trans (hb4.mono HB3.out.size))
      clear hb4 hp
      go_wp2
      go_ret
      exact ⟨rfl, HB4.out⟩
  | some qa =>
    obtain ⟨ha, la⟩ := qa
    cases hob : openR b.data.toList with
    | none =>
      go_wp2_with fail
      refine (HCA.out w HT.out).mono ?_
      rintro e w1 hp
      obtain ⟨f1, rfl, hF1, hb1⟩ := open_yes hoa hp
      have HF1 := Lib.hid hF1
      clear hF1
      have HS1 := Lib.hid hb1
      have HB1 := Lib.hid hb1
      clear hb1 hp
      go_wp2_with fail
      refine (HCB.out w1 (HT.out.below HB1.out)).mono ?_
      rintro e w2 hp
      obtain ⟨rfl, hb2⟩ := open_no hob hp
      have HS2 := Lib.hid hb2
      have HB2 := Lib.hid (HB1.out.trans (hb2.mono HB1.out.size))
      clear hb2 hp
      go_wp2_with fail
      refine (HRA.out w2).mono ?_
      rintro e w3 hp
      obtain ⟨d1, rfl, hF3, hb3⟩ := ropen_some2 hoa hp
      have HF3 := Lib.hid hF3
      clear hF3
      have HS3 := Lib.hid hb3
      have HB3 := Lib.hid (HB2.out.trans (hb3.mono HB2.out.size))
      clear hb3 hp
      go_wp2_with fail
      refine (HRB.out w3).mono ?_
      rintro e w4 hp
      obtain ⟨rfl, hb4⟩ := ropen_none2 hob hp
      have HS4 := Lib.hid hb4
      have HB4 := Lib.hid (HB3.out.trans (hb4.mono HB3.out.size))
      clear hb4 hp
      go_wp2
      go_ret
      exact ⟨rfl, HB4.out⟩
    | some qb =>
      obtain ⟨hb, lb⟩ := qb
      go_wp2_with fail
      refine (HCA.out w HT.out).mono ?_
      rintro e w1 hp
      obtain ⟨f1, rfl, hF1, hb1⟩ := open_yes hoa hp
      have HF1 := Lib.hid hF1
      clear hF1
      have HS1 := Lib.hid hb1
      have HB1 := Lib.hid hb1
      clear hb1 hp
      go_wp2_with fail
      refine (HCB.out w1 (HT.out.below HB1.out)).mono ?_
      rintro e w2 hp
      obtain ⟨f2, rfl, hF2, hb2⟩ := open_yes hob hp
      have HF2 := Lib.hid hF2
      clear hF2
      have HS2 := Lib.hid hb2
      have HB2 := Lib.hid (HB1.out.trans (hb2.mono HB1.out.size))
      clear hb2 hp
      go_wp2_with fail
      refine (HRA.out w2).mono ?_
      rintro e w3 hp
      obtain ⟨d1, rfl, hF3, hb3⟩ := ropen_some2 hoa hp
      have HF3 := Lib.hid hF3
      clear hF3
      have HS3 := Lib.hid hb3
      have HB3 := Lib.hid (HB2.out.trans (hb3.mono HB2.out.size))
      clear hb3 hp
      go_wp2_with fail
      refine (HRB.out w3).mono ?_
      rintro e w4 hp
      obtain ⟨d2, rfl, hF4, hb4⟩ := ropen_some2 hob hp
      have HF4 := Lib.hid hF4
      clear hF4
      have HS4 := Lib.hid hb4
      have HB4 := Lib.hid (HB3.out.trans (hb4.mono HB3.out.size))
      clear hb4 hp
      have q12 := HS2.out.trans (HS3.out.mono HS2.out.size)
      have q14 := q12.trans (HS4.out.mono q12.size)
      have q34 := HS3.out.trans (HS4.out.mono HS3.out.size)
      have HP1 : Hid (Both w4 w.heap.size f1 w2.heap.size d1 ha la 0) := Lib.hid ⟨HF1.out.below q14, HF3.out.below HS4.out⟩
      have HP2 : Hid (Both w4 w1.heap.size f2 w3.heap.size d2 hb lb 0) := Lib.hid ⟨HF2.out.below q34, HF4.out⟩
      have l1 : f1 < w1.heap.size := by
        obtain ⟨_, _, _, _, q, _⟩ := HF1.out
        exact (Array.getElem?_eq_some_iff.1 q).1
      have l2 : f2 < w2.heap.size := by
        obtain ⟨_, _, _, _, q, _⟩ := HF2.out
        exact (Array.getElem?_eq_some_iff.1 q).1
      have l3 := HF3.out.lt
      have l4 := HF4.out.lt
      have e1 := HF1.out.le
      have e2 := HF2.out.le
      have e3 := HF3.out.le
      have e4 := HF4.out.le
      have s1 := HB1.out.size
      have s2 := HS2.out.size
      have s3 := HS3.out.size
      have s4 := HS4.out.size
      have HNe : Hid ((f2 ≠ f1 ∧ f2 ≠ d1 ∧ d2 ≠ f1 ∧ d2 ≠ d1) ∧ (w.heap.size ≤ f1 ∧ w.heap.size ≤ f2 ∧ w.heap.size ≤ d1 ∧ w.heap.size ≤ d2)) := Lib.hid ⟨⟨by omega, by omega, by omega, by omega⟩, by omega, by omega, by omega, by omega⟩
      have hga := (openR_some hoa).1
      have hgb := (openR_some hob).1
      have HGa := Lib.hid hga
      have HGb := Lib.hid hgb
      obtain ⟨B1, hB1e⟩ : ∃ q, w.heap.size = q := ⟨_, rfl⟩
      obtain ⟨B2, hB2e⟩ : ∃ q, w1.heap.size = q := ⟨_, rfl⟩
      obtain ⟨B3, hB3e⟩ : ∃ q, w2.heap.size = q := ⟨_, rfl⟩
      obtain ⟨B4, hB4e⟩ : ∃ q, w3.heap.size = q := ⟨_, rfl⟩
      have H0 : Hid (TwRel w B1 f1 B3 d1 ha la B2 f2 B4 d2 hb lb m 0 w4) := Lib.hid ⟨0, 0, Nat.zero_le _, by rw [← hB1e, ← hB3e]; exact HP1.out, by rw [← hB2e, ← hB4e]; exact HP2.out, by omega, by omega, HB4.out⟩
      clear HP1 HP2 HF1 HF2 HF3 HF4 HS1 HS2 HS3 HS4 HB1 HB2 HB3 HB4 q12 q14 q34 l1 l2 l3 l4 e1 e2 e3 e4 s1 s2 s3 s4 hoa hob hga hgb HCA HCB HRA HRB HT hB1e hB2e hB3e hB4e
      go_wp2
      go_loopw [15] (fun iv wr => ∃ k : Nat, iv = .int .i64 k ∧ TwRel w B1 f1 B3 d1 ha la B2 f2 B4 d2 hb lb m k wr) (fun iv _ => m - (intOf iv).toNat)
      case atStart => exact ⟨0, rfl, H0.out⟩
      case round =>
        obtain ⟨k, rfl, r, r', hk, hP1, hP2, hr, hr', hB⟩ := hrel
        obtain ⟨⟨n1, n2, n3, n4⟩, g1, g2, g3, g4⟩ := HNe.out
        by_cases hlt : k < m
        · obtain ⟨x, hx⟩ : ∃ x, z[k]? = some x := ⟨_, List.getElem?_eq_getElem (by rw [HZ.out]; exact hlt)⟩
          obtain ⟨j, hj⟩ : ∃ j, m - 1 - k = j := ⟨_, rfl⟩
          obtain ⟨y, hy⟩ : ∃ y, z[j]? = some y := ⟨_, List.getElem?_eq_getElem (by rw [HZ.out]; omega)⟩
          obtain ⟨hxm, a0, rfl, haB, h5, h6⟩ := HA.out k x hx
          obtain ⟨hym, a1, ha1, haB1, k5, k6⟩ := HA.out j y hy
          cases ha1
          have h5' := h5.below hB (by rw [add_blockE]; exact haB)
          have h6' := (hB.cell (p := ⟨(a0.add (k * 6)).block, (a0.add (k * 6)).off + 5, none⟩) (by show (a0.add (k * 6)).block < _; rw [add_blockE]; exact haB)).trans h6
          obtain ⟨x0, x1, x2, x3, x4⟩ := h5'
          have CK := asked_calls B1 f1 B3 d1 ha la r x.1 x.2 hxm wr hP1 HGa.out (by omega)
          have HCK := Lib.hid CK
          have HB := Lib.hid hB
          have HP1 := Lib.hid hP1
          have HP2 := Lib.hid hP2
          have HY5 : Hid (∀ W, Below w.heap.size w W → Six6 W (a0.add (j * 6)) y) := Lib.hid (fun W hW => ⟨k5.below hW (by rw [add_blockE]; exact haB), (hW.cell (p := ⟨(a0.add (j * 6)).block, (a0.add (j * 6)).off + 5, none⟩) (by show (a0.add (j * 6)).block < _; rw [add_blockE]; exact haB)).trans k6⟩)
          have HC2 : Hid (∀ W, Both W B2 f2 B4 d2 hb lb r' → Calls Tryd.prog 17 #[.pointer (some ⟨f2, 0, none⟩), .pointer (some ⟨d2, 0, none⟩), .agg #[.int .i64 y.1.v, .string y.1.c, .int .i64 y.1.i, .int .i64 y.1.s, .bool y.1.d, .int .i64 y.2]] W fun e w' => ∃ r, e = .returned (.bool true) ∧ Both w' B2 f2 B4 d2 hb lb r ∧ r' ≤ r ∧ r ≤ r' + 131072 ∧ Fr2 f2 d2 W w') := Lib.hid (fun W hW => asked_calls B2 f2 B4 d2 hb lb r' y.1 y.2 hym W hW HGb.out (by omega))
          have i0' : (0 : Int) ≤ (k : Int) := by omega
          have i1' : (k : Int) < (m : Int) := by omega
          have j0' : (0 : Int) ≤ (j : Int) := by omega
          have j1' : (j : Int) < (m : Int) := by omega
          have hwm : IntKind.i64.wrap ((m : Int) - 1) = (m : Int) - 1 := by rw [IntKind.wrap_i64]; omega
          have hwj : IntKind.i64.wrap ((m : Int) - 1 - (k : Int)) = (j : Int) := by rw [IntKind.wrap_i64]; omega
          clear CK hP1 hP2 hB hx hy h5 h6 k5 k6
          go_wp2_with fail
          refine HCK.out.mono ?_
          rintro e w8 ⟨r8, rfl, hBo8, hr8, hr9, hfr8⟩
          have HQ2 := Lib.hid (HP2.out.keep HP1.out hfr8 n1 n2 n3 n4)
          have HQ1 := Lib.hid hBo8
          have HB8 := Lib.hid (hfr8.below HB.out g1 g3)
          obtain ⟨⟨y0, y1, y2, y3, y4⟩, y5⟩ := HY5.out _ HB8.out
          clear hBo8 hfr8 x0 x1 x2 x3 x4 h6'
          go_wp2_with fail
          refine (HC2.out w8 HQ2.out).mono ?_
          rintro e w9 ⟨r10, rfl, hBo9, hr10, hr11, hfr9⟩
          have HR9 : Hid (TwRel w B1 f1 B3 d1 ha la B2 f2 B4 d2 hb lb m (k + 1) w9) := Lib.hid ⟨r8, r10, hlt, HQ1.out.keep HQ2.out hfr9 (fun e => n1 e.symm) (fun e => n3 e.symm) (fun e => n2 e.symm) (fun e => n4 e.symm), hBo9, by omega, by omega, hfr9.below HB8.out g2 g4⟩
          clear hBo9 hfr9 y0 y1 y2 y3 y4 y5
          go_wp2
          go_roundw
          case rel => exact ⟨k + 1, by go_num, HR9.out⟩
          case measure => simp [intOf]; omega
        · obtain rfl : k = m := by omega
          have hk1 : ¬ ((k : Int) < (k : Int)) := by omega
          have HP1 := Lib.hid hP1
          have HP2 := Lib.hid hP2
          have HB10 := Lib.hid hB
          clear hP1 hP2 hB
          rename World => w10
          go_wp2_with fail
          refine (Reads_calls _ f1 ha la _ w10 HP1.out.f).mono ?_
          rintro e w11 ⟨rfl, hw11⟩
          subst hw11
          go_wp2_with fail
          refine (RReads_calls _ d1 ha la _ w11 HP1.out.d).mono ?_
          rintro e w12 ⟨rfl, hw12⟩
          subst hw12
          go_wp2_with fail
          refine (Reads_calls _ f2 hb lb _ w12 HP2.out.f).mono ?_
          rintro e w13 ⟨rfl, hw13⟩
          subst hw13
          go_wp2_with fail
          refine (RReads_calls _ d2 hb lb _ w13 HP2.out.d).mono ?_
          rintro e w14 ⟨rfl, hw14⟩
          subst hw14
          go_wp2
          go_ret
          exact ⟨rfl, HB10.out⟩
end Go.Proofs.YtihgjihdmlomaaaDoor
