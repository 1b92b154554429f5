/-
  WALKS: a signer asked: signed and begun.
-/
import Derived.Test.YtcdlmjbjpeokfaaDoorAddV
import Derived.Laws.StructEq
namespace Go.Proofs.YtcdlmjbjpeokfaaDoor
open Go.RowKit ArgK
set_option linter.unusedVariables false

/-- The code of a vector. -/
def cdC (sd : Int) (h : Nat) (zs : List (Int × Int)) : ByteArray := ⟨(codeC (h / 4) (sgL sd h zs) h).toArray⟩

theorem cdC_size (sd : Int) (h : Nat) (zs : List (Int × Int)) : (cdC sd h zs).size = h / 4 := by
  show (codeC (h / 4) (sgL sd h zs) h).toArray.size = _
  simp [codeC_length]

theorem tdiv2 (h : Nat) : ((2 * h : Nat) : Int).tdiv 2 = (h : Int) := by
  rw [show ((2 * h : Nat) : Int) = 2 * (h : Int) by omega]
  exact Int.mul_tdiv_cancel_left _ (by decide)

theorem neq_parts (a b c d : Int) (W : World) : (binOp .neq 36 (.agg #[.int .i64 a, .int .i64 b]) (.agg #[.int .i64 c, .int .i64 d])).run Tryd.prog W = .ok (.bool (!(decide (a = c) && decide (b = d)))) W := by
  have hFo : Tryd.prog.underlying 36 = some (.struct (Tryd.prog.fieldsOf 36)) := by kernel_rfl
  have hSt : Tryd.prog.stoodInHeld 36 = false := by kernel_rfl
  rw [run_neq_struct, run_equalIn_agg W _ _ _ _ hFo hSt]
  simp only [Program.fieldsOf, Tryd.underlying36]
  rcases h1 : decide (a = c) with _ | _ <;> rcases h2 : decide (b = d) with _ | _ <;> simp at h1 h2 <;> simp [Op.eqFields, part, run_equalIn_int, Tryd.underlying3, h1, h2]

theorem PL_one (w : World) (x : Int × Int) : PL (w.alloc (.cells #[.int .i64 x.1, .int .i64 x.2] 36)) (some ⟨w.heap.size, 0, none⟩) [x] := by
  intro i y hy
  have hi := (List.getElem?_eq_some_iff.1 hy).1
  obtain rfl : i = 0 := by simp at hi; exact hi
  simp at hy
  subst hy
  have hl := heap_lastS w (.cells #[.int .i64 x.1, .int .i64 x.2] 36)
  have h0 := World.news_of_block (cs := #[.int .i64 x.1, .int .i64 x.2]) hl
  refine ⟨_, rfl, ?_, ?_⟩
  · exact h0 0 _ rfl
  · exact h0 1 _ rfl

set_option maxRecDepth 100000 in
set_option maxHeartbeats 1000000 in
theorem signed_calls (h : Nat) (sd : Int) (p : Option Addr) (cap : Nat) (zs : List (Int × Int)) (hE : newE ((2 * h : Nat) : Int) zs.length = 0) (hh : h ≤ 512) (hh1 : 1 ≤ h) (hh4 : h % 4 = 0) (hfit : zs.all fitsP = true) (w : World) (hz : PL w p zs) :
    Calls Tryd.prog 8 #[.int .i64 ((2 * h : Nat) : Int), .int .u64 sd, .slice p zs.length cap] w fun e w' => ∃ a p' cap', e = .returned (.tuple #[.pointer (some a), .slice p' h cap', .string (cdC sd h zs), .bool true]) ∧ PL w' p' (sgL sd h zs) ∧ Below w.heap.size w w' := by
  obtain ⟨hw, hd1, hd2⟩ := newE_ok hE
  have hsg : sgE zs.length zs = 0 := by unfold sgE; simp [hfit]
  have N1 := New_ok ((2 * h : Nat) : Int) zs.length sd hE w
  have HS : Hid (∀ W, PL W p zs → Sg W 48 w.heap.size ((2 * h : Nat) : Int) zs.length sd → Calls Tryd.prog 13 #[.pointer (some ⟨w.heap.size, 0, none⟩), .slice p zs.length cap] W fun e w' => ∃ v, e = .returned (.tuple #[v, .int .i64 0]) ∧ w'.ownsRow W.heap.size 36 2 v h (encP (sgL sd h zs)) ∧ Below W.heap.size W w') := Lib.hid (fun W h1 h2 => by
    have := Sums_calls w.heap.size h zs.length sd p cap zs hh hh1 ⟨hd1, hd2⟩ W h1 h2
    unfold sgR at this
    rw [hsg, if_pos rfl, sgL_length] at this
    exact this)
  have HC : Hid (∀ W, PL W p zs → Sg W 48 w.heap.size ((2 * h : Nat) : Int) zs.length sd → Calls Tryd.prog 14 #[.pointer (some ⟨w.heap.size, 0, none⟩), .slice p zs.length cap] W fun e w' => e = .returned (.tuple #[.string (cdC sd h zs), .int .i64 0]) ∧ Below W.heap.size W w') := Lib.hid (fun W h1 h2 => by
    have := Code_calls w.heap.size h zs.length sd p cap zs hh hh1 hh4 ⟨hd1, hd2⟩ W h1 h2
    unfold sgC at this
    rw [hsg, if_pos rfl] at this
    exact this)
  obtain ⟨Z, hZ⟩ : ∃ Z, cdC sd h zs = Z := ⟨_, rfl⟩
  have hZs : Z.size = h / 4 := by rw [← hZ]; exact cdC_size _ _ _
  obtain ⟨q, hq⟩ : ∃ q, h / 4 = q := ⟨_, rfl⟩
  rw [hq] at hZs
  have HQ : Hid (((2 * h : Nat) : Int).tdiv 2 = (h : Int) ∧ ((2 * h : Nat) : Int).tdiv 8 = (q : Int)) := Lib.hid ⟨tdiv2 h, tdiv8 h q (by omega)⟩
  rw [hZ] at HC ⊢
  have HH := Lib.hid hh
  have H4 : Hid (h = 4 * q) := Lib.hid (by omega)
  obtain ⟨L, hL⟩ : ∃ L, sgL sd h zs = L := ⟨_, rfl⟩
  rw [hL] at HS ⊢
  have HZ := Lib.hid hz
  obtain ⟨WD, hWD⟩ : ∃ WD : Int, ((2 * h : Nat) : Int) = WD := ⟨_, rfl⟩
  rw [hWD] at N1 HS HC HQ ⊢
  have HW := Lib.hid hWD
  obtain ⟨n, hn⟩ : ∃ n, zs.length = n := ⟨_, rfl⟩
  rw [hn] at N1 HS HC ⊢
  clear hE hw hd1 hd2 hsg hfit hZ hL hWD hz hq hh hh1 hh4 hn
  have HN1 := Lib.hid N1
  clear N1
  go_enter Tryd.func8, Tryd.ntmps8
  go_wp2_with fail
  refine HN1.out.mono ?_
  rintro _ w1 ⟨rfl, hw1⟩
  have B1 : Below w.heap.size w w1 := by rw [hw1]; exact (Below.refl _ _).alloc (Nat.le_refl _) _
  have S1 : Sg w1 48 w.heap.size WD n sd := by rw [hw1]; exact heap_lastS w _
  have Z1 := Lib.hid (HZ.out.below B1)
  have HB1 := Lib.hid B1
  have HS1 := Lib.hid S1
  clear hw1 B1 S1
  go_wp2_with fail
  refine (HS.out w1 Z1.out HS1.out).mono ?_
  rintro _ w2 ⟨v, rfl, ho, hb⟩
  obtain ⟨p', c', rfl, _, _, _⟩ := own_rd ho
  have P2 := Lib.hid (PL.of_own ho)
  have S2 : Sg w2 48 w.heap.size WD n sd := by unfold Sg; rw [hb.block _ HS1.out.lt]; exact HS1.out
  have Z2 := Lib.hid (Z1.out.below hb)
  have HB2 := Lib.hid (HB1.out.trans (hb.mono HB1.out.size))
  have HS2 := Lib.hid S2
  clear ho hb S2
  go_wp2_with fail
  refine (HC.out w2 Z2.out HS2.out).mono ?_
  rintro _ w3 ⟨rfl, hb⟩
  have P3 := Lib.hid (P2.out.below hb)
  have HB3 := Lib.hid (HB2.out.trans (hb.mono HB2.out.size))
  clear hb
  have hWD := HW.out
  have h4 := H4.out
  have hh := HH.out
  have d2 : WD / 2 = (h : Int) := by omega
  have d8 : WD / 8 = (q : Int) := by omega
  have k2 : wrap64 (h : Int) = (h : Int) := by unfold wrap64; omega
  have k8 : wrap64 (q : Int) = (q : Int) := by unfold wrap64; omega
  have k2' : IntKind.i64.wrap (h : Int) = (h : Int) := by rw [IntKind.wrap_i64]; omega
  have k8' : IntKind.i64.wrap (q : Int) = (q : Int) := by rw [IntKind.wrap_i64]; omega
  have e1 : ((h : Int) == (h : Int)) = true := beq_self_eq_true _
  have e2 : ((q : Int) == (q : Int)) = true := beq_self_eq_true _
  clear hWD h4 hh
  obtain ⟨t2, t8⟩ := HQ.out
  go_wp2
  refine bodyPost_ret (results_tmp4 rfl _ _ _) rfl ?_
  exact ⟨_, _, _, rfl, P3.out, HB3.out⟩
end Go.Proofs.YtcdlmjbjpeokfaaDoor
