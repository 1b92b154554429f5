/-
  WALK: the program's Code.
-/
import Derived.Test.YtcdlmjbjpeokfaaDoorSumsR
import Derived.Test.YtcdlmjbjpeokfaaDoorMem
import Derived.Laws.BitsAllLaws
import Derived.BigRegion
namespace Go.Proofs.YtcdlmjbjpeokfaaDoor
open Go.RowKit Go.Shelf
set_option linter.unusedVariables false

/-- A bit set, if so. -/
def stepC (l : List UInt8) (i : Nat) (pos : Bool) : List UInt8 := if pos then l.set (i / 8) (UInt8.ofNat ((l.getD (i / 8) 0).toNat ||| 2 ^ (7 - i % 8))) else l

theorem stepC_length (l : List UInt8) (i : Nat) (pos : Bool) : (stepC l i pos).length = l.length := by
  unfold stepC; split <;> simp

/-- The code of sums: of the first k pairs. -/
def codeC (n : Nat) (L : List (Int × Int)) : Nat → List UInt8
  | 0 => List.replicate n 0
  | k + 1 => stepC (stepC (codeC n L k) (2 * k) (decide (0 < (L.getD k (0, 0)).1))) (2 * k + 1) (decide (0 < (L.getD k (0, 0)).2))

theorem codeC_length (n : Nat) (L : List (Int × Int)) (k : Nat) : (codeC n L k).length = n := by
  induction k with
  | zero => simp [codeC]
  | succ k ih => unfold codeC; rw [stepC_length, stepC_length, ih]

/-- What Code answers. -/
def sgC (dm sd : Int) (h : Nat) (zs : List (Int × Int)) : ByteArray := if sgE dm zs = 0 then ⟨(codeC (h / 4) (sgL sd h zs) h).toArray⟩ else ⟨#[]⟩

theorem or_byte (d : UInt8) (j : Nat) (hj : j < 8) : bits .or .u8 (d.toNat : Int) ((2 : Int) ^ j % 256) = ((UInt8.ofNat (d.toNat ||| 2 ^ j)).toNat : Int) := by
  have hdl := d.toNat_lt
  have hp2 : 2 ^ j < 256 := Nat.pow_lt_pow_right (a := 2) (n := 8) (by omega) hj
  have hx : d.toNat ||| 2 ^ j < 256 := Nat.or_lt_two_pow (n := 8) (by omega) hp2
  have := u8_or_nat d.toNat (2 ^ j) (by omega) hp2
  rw [UInt8.toNat_ofNat', Nat.mod_eq_of_lt hx, ← this]
  congr 1
  have e : ((2 ^ j : Nat) : Int) = (2 : Int) ^ j := by simp
  rw [← e]
  exact congrArg Int.ofNat (Nat.mod_eq_of_lt hp2)

theorem fmt64 : FloatKind.f64.format = Ieee.double := rfl

theorem IsW.posK {x : Nat} {a : Int} (h : IsW x a) (ha : a.natAbs < 9007199254740992) : (FloatKind.f64.format.order x 0 == some .gt) = decide (0 < a) := by rw [fmt64]; exact h.pos ha

theorem f2_build (a b : Nat) (W : World) : (Instr.build 55 #[(0, .float .f64 a), (1, .float .f64 b)]).run Tryd.prog W = .ok (.agg #[.float .f64 a, .float .f64 b]) W := run_build W _ _ _ (by kernel_rfl)

theorem f2_at0 (a b : Nat) (W : World) : (Instr.index 55 (.agg #[.float .f64 a, .float .f64 b]) (.int .i64 0)).run Tryd.prog W = .ok (.float .f64 a) W := by kernel_rfl

theorem f2_at1 (a b : Nat) (W : World) : (Instr.index 55 (.agg #[.float .f64 a, .float .f64 b]) (.int .i64 1)).run Tryd.prog W = .ok (.float .f64 b) W := by kernel_rfl

theorem tdiv8 (h nb : Nat) (e : h = 4 * nb) : ((2 * h : Nat) : Int).tdiv 8 = (nb : Int) := by
  subst e
  have : ((2 * (4 * nb) : Nat) : Int) = 8 * (nb : Int) := by omega
  rw [this]
  exact Int.mul_tdiv_cancel_left _ (by decide)

theorem u8infoS : (Tryd.prog.info? 5).map (fun i => (i.zero, i.size, i.bytes)) = some (some (.int .u8 0), 1, 1) := by kernel_rfl

set_option maxRecDepth 100000 in
theorem Code_no (Bs : Nat) (e : Int) (he : e ≠ 0) (v : Value) (w : World) (hS : ∀ W, W = w → Calls Tryd.prog 17 #[.pointer (some ⟨Bs, 0, none⟩), v] W fun e' w' => e' = .returned (.tuple #[.slice none 0 0, .int .i64 e]) ∧ Below W.heap.size W w') :
    Calls Tryd.prog 14 #[.pointer (some ⟨Bs, 0, none⟩), v] w fun e' w' => e' = .returned (.tuple #[.string ⟨#[]⟩, .int .i64 e]) ∧ Below w.heap.size w w' := by
  have H := Lib.hid hS
  have hd : (e != 0) = true := by rw [bne_iff_ne]; exact he
  clear he hS
  go_enter Tryd.func14, Tryd.ntmps14
  go_wp2_with fail
  refine (H.out w rfl).mono ?_
  rintro _ w1 ⟨rfl, hb⟩
  go_wp2
  go_ret2
  exact ⟨rfl, hb⟩

set_option maxRecDepth 100000 in
set_option maxHeartbeats 1000000 in
theorem Code_ok (Bs h : Nat) (sd : Int) (p : Option Addr) (cap : Nat) (zs : List (Int × Int)) (hh : h ≤ 512) (hh1 : 1 ≤ h) (hh4 : h % 4 = 0) (hm : zs.length ≤ 1024) (hm0 : 1 ≤ zs.length) (hfit : zs.all fitsP = true) (w : World) (hz : PL w p zs) (hs : Sg w 48 Bs ((2 * h : Nat) : Int) zs.length sd) :
    Calls Tryd.prog 14 #[.pointer (some ⟨Bs, 0, none⟩), .slice p zs.length cap] w fun e w' => e = .returned (.tuple #[.string ⟨(codeC (h / 4) (sgL sd h zs) h).toArray⟩, .int .i64 0]) ∧ Below w.heap.size w w' := by
  obtain ⟨i0, hi, hy0, hy1, hy2⟩ := info_parts u8infoS
  obtain ⟨nb, hnb⟩ : ∃ nb, h / 4 = nb := ⟨_, rfl⟩
  have hnb4 : h = 4 * nb := by omega
  have hmk := fun W : World => run_make (P := Tryd.prog) W 54 5 i0 _ Tryd.underlying54 hi hy0 .i64 .i64 nb nb (by omega) (by omega) (by rw [hy2]; omega) (by omega)
  have S := Lib.hid (sums_calls Bs h sd p cap zs hh hm hm0 hfit w hz hs)
  have LB := Lib.hid (sgL_bound (sd := sd) (h := h) hm hfit)
  have LG := Lib.hid (sgL_get sd h zs)
  generalize hLe : sgL sd h zs = L at LB LG ⊢
  obtain ⟨s0, s1, s2⟩ := hs.cells
  have hbs := hs.lt
  have hq1 : ((2 * h : Nat) : Int) / 8 = (nb : Int) := by omega
  have hwh : wrap64 (nb : Int) = (nb : Int) := by unfold wrap64; omega
  have hwh2 : IntKind.i64.wrap (nb : Int) = (nb : Int) := by rw [IntKind.wrap_i64]; omega
  have hq2 : ((2 * h : Nat) : Int).tdiv 8 = (nb : Int) := tdiv8 h nb hnb4
  obtain ⟨WD, hWD⟩ : ∃ WD : Int, ((2 * h : Nat) : Int) = WD := ⟨_, rfl⟩
  rw [hWD] at s0 hq1 hq2
  rw [hnb]
  have HNB := Lib.hid hnb4
  clear hz hs hfit hLe hWD hnb hnb4
  go_enter Tryd.func14, Tryd.ntmps14
  go_wp2_with fail
  refine S.out.mono ?_
  rintro _ w1 ⟨v, rfl, hb, xs, ho, hx⟩
  obtain ⟨q, cl, rfl, _, _, hr⟩ := own_rd ho
  obtain ⟨gl, rfl, hg0, hg1, hgc, _⟩ := hr (by omega)
  have HB := Lib.hid hb
  have HC := Lib.hid hgc
  have HX : Hid (∀ i, i < h → ∃ a b x, xs[i]? = some (.complex .f64 a b) ∧ L[i]? = some x ∧ IsW a x.1 ∧ IsW b x.2) := Lib.hid (fun i hi => by
    obtain ⟨a, b, h1, h2, h3⟩ := hx i hi
    exact ⟨a, b, _, h1, LG.out i hi, h2, h3⟩)
  have c0 := (hb.cell (p := ⟨Bs, 0, none⟩) hbs).trans s0
  clear hb ho hx hr hgc S LG s0 s1 s2
  go_wp2
  have HY1 := Lib.hid (Bys.made w1 5 nb)
  have HB2 := Lib.hid (HB.out.alloc HB.out.size (.cells (madeCells #[.int .u8 0] nb) 5))
  have hs1 := HB.out.size
  have HBa := Lib.hid ((Below.refl w1.heap.size w1).alloc (Nat.le_refl _) (.cells (madeCells #[.int .u8 0] nb) 5))
  obtain ⟨G, hG⟩ : ∃ G, w1.heap.size = G := ⟨_, rfl⟩
  generalize w1.alloc (.cells (madeCells #[.int .u8 0] nb) 5) = w2 at HY1 HB2 HBa ⊢
  rw [hG] at HY1 hs1 hg1 HBa ⊢
  clear hG hmk HB c0
  go_loopw [31] (fun i ws => ∃ (k : Nat), k ≤ h ∧ i = .int .i64 k ∧ Hid (Bys ws G 5 (codeC nb L k)) ∧ Hid (Below w.heap.size w ws) ∧ Hid (Below G w1 ws)) (fun i _ => h - (intOf i).toNat)
  case atStart => exact ⟨0, Nat.zero_le _, rfl, HY1, HB2, HBa⟩
  case round =>
    obtain ⟨k, hk, rfl, HY, HBr, HBg⟩ := hrel
    clear HY1 HB2 HBa
    by_cases hlt : k < h
    · have hki : (k : Int) < (h : Int) := by omega
      have hk0 : (0 : Int) ≤ (k : Int) := by omega
      obtain ⟨a, b, x, hxa, hxl, ia, ib⟩ := HX.out k hlt
      obtain ⟨b1, b2⟩ := LB.out x (List.mem_of_getElem? hxl)
      have c1 : wr.cell? ⟨gl, k, none⟩ = some (.complex .f64 a b) := (HBg.out.cell (p := ⟨gl, k, none⟩) hg1).trans ((HC.out k (by omega)).trans hxa)
      obtain ⟨p1, hp1⟩ : ∃ p1, decide (0 < x.1) = p1 := ⟨_, rfl⟩
      obtain ⟨p2, hp2⟩ : ∃ p2, decide (0 < x.2) = p2 := ⟨_, rfl⟩
      have o1 : (FloatKind.f64.format.order a 0 == some .gt) = p1 := by rw [← hp1]; exact ia.posK (by omega)
      have o2 : (FloatKind.f64.format.order b 0 == some .gt) = p2 := by rw [← hp2]; exact ib.posK (by omega)
      obtain ⟨l0, hl0⟩ : ∃ l0, codeC nb L k = l0 := ⟨_, rfl⟩
      have hll : l0.length = nb := by rw [← hl0]; exact codeC_length _ _ _
      have HCN : Hid (codeC nb L (k + 1) = stepC (stepC l0 (2 * k) p1) (2 * k + 1) p2) := Lib.hid (by
        rw [← hl0, ← hp1, ← hp2]
        have : L.getD k (0, 0) = x := by simp [List.getD, hxl]
        show stepC (stepC (codeC nb L k) (2 * k) (decide (0 < (L.getD k (0, 0)).1))) (2 * k + 1) (decide (0 < (L.getD k (0, 0)).2)) = _
        rw [this])
      rw [hl0] at HY
      have hkn : k < 4 * nb := by have := HNB.out; omega
      have hfb := fun W => f2_build a b W
      have hf0 := fun W => f2_at0 a b W
      have hf1 := fun W => f2_at1 a b W
      clear hxa hxl ia ib b1 b2 hl0 hp1 hp2
      go_wp2
      go_loopw [41] (fun i ws => ∃ (t : Nat) (l : List UInt8), t ≤ 2 ∧ i = .int .i64 t ∧ Hid (Bys ws G 5 l) ∧ l.length = nb ∧ Hid (Below w.heap.size w ws) ∧ Hid (Below G w1 ws) ∧ Hid (l = (if t = 0 then l0 else if t = 1 then stepC l0 (2 * k) p1 else stepC (stepC l0 (2 * k) p1) (2 * k + 1) p2))) (fun i _ => 2 - (intOf i).toNat)
      case atStart => exact ⟨0, l0, Nat.zero_le _, rfl, HY, hll, HBr, HBg, Lib.hid rfl⟩
      case round =>
        obtain ⟨t, l, ht, rfl, HYl, hlen, HBl, HBh, HL⟩ := hrel
        have hc3 : t = 0 ∨ t = 1 ∨ t = 2 := by omega
        rcases hc3 with rfl | rfl | rfl
        · have hl' : l = l0 := HL.out
          clear HL
          obtain ⟨at_, hat⟩ : ∃ at_, 2 * k = at_ := ⟨_, rfl⟩
          have hat8 : at_ / 8 < nb := by omega
          have hm1 : IntKind.i64.wrap (2 * (k : Int)) = 2 * (k : Int) := by rw [IntKind.wrap_i64]; omega
          have ha1 : 2 * (k : Int) = (at_ : Int) := by omega
          have ha2 : IntKind.i64.wrap (at_ : Int) = (at_ : Int) := by rw [IntKind.wrap_i64]; omega
          have hAT := Lib.hid hat
          clear hat
          cases p1 with
          | false =>
            have HN : Hid (stepC l0 (2 * k) false = l) := Lib.hid (by rw [hAT.out, hl']; simp [stepC])
            go_wp2
            go_roundw
            case rel => exact ⟨1, l, by omega, by go_num, HYl, hlen, HBl, HBh, Lib.hid (by rw [← HN.out]; simp [hAT.out])⟩
            case measure => simp [intOf]
          | true =>
            have HN : Hid (stepC l0 (2 * k) true = l.set (at_ / 8) (UInt8.ofNat ((l.getD (at_ / 8) 0).toNat ||| 2 ^ (7 - at_ % 8)))) := Lib.hid (by rw [hAT.out, ← hl']; rfl)
            obtain ⟨d, hd⟩ : ∃ d, l.getD (at_ / 8) 0 = d := ⟨_, rfl⟩
            have hc := HYl.out.cell (i := at_ / 8) (by omega)
            have hf := HYl.out.frozen (i := at_ / 8) (by omega)
            have hx := or_byte d (7 - at_ % 8) (by omega)
            obtain ⟨d', hd'⟩ : ∃ d', UInt8.ofNat (d.toNat ||| 2 ^ (7 - at_ % 8)) = d' := ⟨_, rfl⟩
            have hP := HYl.out.put (at_ / 8) d'
            rw [hd] at hc HN
            rw [hd'] at hx HN
            clear hd hd'
            go_wp2
            go_region
            all_goals go_wp2
            all_goals go_roundw
            case rel => exact ⟨1, l.set (at_ / 8) d', by omega, by go_num, Lib.hid hP.drew, by simp [hlen], Lib.hid (((HBl.out.setCell (p := ⟨G, at_ / 8, none⟩) hs1 _)).drew), Lib.hid (((HBh.out.setCell (p := ⟨G, at_ / 8, none⟩) (Nat.le_refl _) _)).drew), Lib.hid (by rw [← HN.out]; simp [hAT.out])⟩
            case measure => simp [intOf]
        · have hl' : l = stepC l0 (2 * k) p1 := HL.out
          clear HL
          obtain ⟨at_, hat⟩ : ∃ at_, 2 * k + 1 = at_ := ⟨_, rfl⟩
          have hat8 : at_ / 8 < nb := by omega
          have hm1 : IntKind.i64.wrap (2 * (k : Int)) = 2 * (k : Int) := by rw [IntKind.wrap_i64]; omega
          have ha1 : 2 * (k : Int) + 1 = (at_ : Int) := by omega
          have ha2 : IntKind.i64.wrap (at_ : Int) = (at_ : Int) := by rw [IntKind.wrap_i64]; omega
          have hAT := Lib.hid hat
          clear hat
          cases p2 with
          | false =>
            have HN : Hid (stepC (stepC l0 (2 * k) p1) (2 * k + 1) false = l) := Lib.hid (by rw [hAT.out, hl']; simp [stepC])
            go_wp2
            go_roundw
            case rel => exact ⟨2, l, by omega, by go_num, HYl, hlen, HBl, HBh, Lib.hid (by rw [← HN.out]; simp [hAT.out])⟩
            case measure => simp [intOf]
          | true =>
            have HN : Hid (stepC (stepC l0 (2 * k) p1) (2 * k + 1) true = l.set (at_ / 8) (UInt8.ofNat ((l.getD (at_ / 8) 0).toNat ||| 2 ^ (7 - at_ % 8)))) := Lib.hid (by rw [hAT.out, ← hl']; rfl)
            obtain ⟨d, hd⟩ : ∃ d, l.getD (at_ / 8) 0 = d := ⟨_, rfl⟩
            have hc := HYl.out.cell (i := at_ / 8) (by omega)
            have hf := HYl.out.frozen (i := at_ / 8) (by omega)
            have hx := or_byte d (7 - at_ % 8) (by omega)
            obtain ⟨d', hd'⟩ : ∃ d', UInt8.ofNat (d.toNat ||| 2 ^ (7 - at_ % 8)) = d' := ⟨_, rfl⟩
            have hP := HYl.out.put (at_ / 8) d'
            rw [hd] at hc HN
            rw [hd'] at hx HN
            clear hd hd'
            go_wp2
            go_region
            all_goals go_wp2
            all_goals go_roundw
            case rel => exact ⟨2, l.set (at_ / 8) d', by omega, by go_num, Lib.hid hP.drew, by simp [hlen], Lib.hid (((HBl.out.setCell (p := ⟨G, at_ / 8, none⟩) hs1 _)).drew), Lib.hid (((HBh.out.setCell (p := ⟨G, at_ / 8, none⟩) (Nat.le_refl _) _)).drew), Lib.hid (by rw [← HN.out]; simp [hAT.out])⟩
            case measure => simp [intOf]
        · have hl' : l = stepC (stepC l0 (2 * k) p1) (2 * k + 1) p2 := HL.out
          rw [← hl'] at HCN
          clear HL
          go_wp2
          go_wp2
          go_roundw
          case rel => exact ⟨k + 1, by omega, by go_num, Lib.hid (by rw [HCN.out]; exact HYl.out), HBl, HBh⟩
          case measure => simp [intOf]; omega
    · have he : k = h := by omega
      subst he
      have hst := HY.out.toStr (P := Tryd.prog) 54 9 5 Tryd.underlying54 Tryd.underlying5 Tryd.underlying9 nb nb (codeC_length _ _ _).symm
      go_wp2
      go_wp2
      go_ret2
      exact ⟨rfl, HBr.out⟩
end Go.Proofs.YtcdlmjbjpeokfaaDoor
