/-
  WALKS: same and sameHits of the laws, at lists that are alike.
-/
import Derived.Test.YtabhjkaheghbhaaHitR
import Derived.Test.YtabhjkaheghbhaaTellP
import Derived.Test.YtabhjkaheghbhaaAskW
import Derived.Laws.StructEq
namespace Go.Proofs.Ytabhjkaheghbhaa
open Go.RowKit
set_option linter.unusedVariables false

/-- A list that can be read. -/
def HL (w : World) (p : Option Addr) (z : List Hv) : Prop := ∀ i x, z[i]? = some x → ∃ a, p = some a ∧ Three w (a.add (i * 3)) x
theorem HL.below {w w' : World} {p : Option Addr} {z : List Hv} (h : HL w p z) (hb : Below w.heap.size w w') : HL w' p z := by
  intro i x hx
  obtain ⟨a, e, h1⟩ := h i x hx
  exact ⟨a, e, h1.below hb h1.lt⟩
theorem HL.of_own {w : World} {base : Nat} {e : TypeId} {p : Option Addr} {m c : Nat} {F : List Hv} (h : w.ownsRow base e 3 (.slice p m c) m (encH F)) : HL w p F := by
  intro i x hx
  obtain ⟨a, e, _, h1⟩ := (HR.of_own (B := w.heap.size) h (fun g hg => (h.lt g hg).2)) i x hx
  exact ⟨a, e, h1⟩
theorem HL.hr {w : World} {p : Option Addr} {z : List Hv} (h : HL w p z) : HR w w.heap.size p z := by
  intro i x hx
  obtain ⟨a, e, h1⟩ := h i x hx
  exact ⟨a, e, by have := h1.lt; rwa [add_block] at this, h1⟩
theorem neq_hit (x : Hv) (W : World) : (binOp .neq 35 (.agg #[.int .i64 x.d, .int .i64 x.i, .string x.c]) (.agg #[.int .i64 x.d, .int .i64 x.i, .string x.c])).run Try.prog W = .ok (.bool false) W := by
  have hFo : Try.prog.underlying 35 = some (.struct (Try.prog.fieldsOf 35)) := by kernel_rfl
  have hSt : Try.prog.stoodInHeld 35 = false := by kernel_rfl
  rw [run_neq_struct, run_equalIn_agg W _ _ _ _ hFo hSt]
  simp only [Program.fieldsOf, Try.underlying35]
  simp [Op.eqFields, part, run_equalIn_int, run_equalIn_string, Try.underlying3, Try.underlying9]
set_option maxRecDepth 100000 in
set_option maxHeartbeats 1000000 in
theorem sameHits_calls (p1 p2 : Option Addr) (c1 c2 : Nat) (z : List Hv) (hzl : z.length ≤ 4611686018427387904) (w : World) (h1 : HL w p1 z) (h2 : HL w p2 z) :
    Calls Try.prog 15 #[.slice p1 z.length c1, .slice p2 z.length c2] w fun x w' => x = .returned (.bool true) ∧ Below w.heap.size w w' := by
  have hNE := fun (x : Hv) W => neq_hit x W
  have hQ1 : Try.prog.eqGuardType Try.prog.depth 35 = false := by kernel_rfl
  obtain ⟨n, hnn⟩ : ∃ n, z.length = n := ⟨_, rfl⟩
  rw [hnn] at hzl ⊢
  have HN := Lib.hid hnn
  have H1 := Lib.hid h1
  have H2 := Lib.hid h2
  clear h1 h2 hnn
  go_enter Try.func15, Try.ntmps15
  go_wp2
  go_loopw [5] (fun i ws => ∃ k : Nat, k ≤ n ∧ i = .int .i64 k ∧ Below w.heap.size w ws) (fun i _ => n - (intOf i).toNat)
  case atStart => exact ⟨0, Nat.zero_le _, rfl, Below.refl _ _⟩
  case round =>
    obtain ⟨k, hk, rfl, HB⟩ := hrel
    by_cases hlt : k < n
    · have hd : decide ((k : Int) < (n : Int)) = true := by simpa using hlt
      obtain ⟨x, hx⟩ : ∃ x, z[k]? = some x := ⟨_, List.getElem?_eq_getElem (by rw [HN.out]; exact hlt)⟩
      obtain ⟨a1, rfl, f1⟩ := (H1.out.below HB) k x hx
      obtain ⟨a2, rfl, f2⟩ := (H2.out.below HB) k x hx
      obtain ⟨u0, u1, u2⟩ := f1
      obtain ⟨v0, v1, v2⟩ := f2
      have hx1 := hNE x
      have hki : (k : Int) < (n : Int) := by omega
      have hk0 : (0 : Int) ≤ (k : Int) := by omega
      have hxs : ∀ i : List Hv, i = i := fun _ => rfl
      have hw1 : IntKind.i64.wrap ((k : Int) + 1) = ((k + 1 : Nat) : Int) := by rw [IntKind.wrap_i64]; omega
      clear hNE hx hxs
      go_wp2
      go_quiet (fail)
      have HB2 := HB.trans (drewN_below w.heap.size wr nq)
      go_wp2
      go_roundw
      case rel => exact ⟨k + 1, by omega, by go_num, HB2⟩
      case measure => simp [intOf]; omega
    · obtain rfl : k = n := by omega
      have hd : decide ((k : Int) < (k : Int)) = false := by simp
      go_wp2
      go_ret
      exact ⟨rfl, HB⟩
theorem same_calls (code n : Int) (t : ByteArray) (p1 p2 : Option Addr) (c1 c2 : Nat) (z : List Hv) (hzl : z.length ≤ 4611686018427387904) (w : World) (h1 : HL w p1 z) (h2 : HL w p2 z) :
    Calls Try.prog 18 #[.agg #[.int .i64 code, .int .i64 n, .string t, .slice p1 z.length c1], .agg #[.int .i64 code, .int .i64 n, .string t, .slice p2 z.length c2]] w fun x w' => x = .returned (.bool true) ∧ Below w.heap.size w w' := by
  have S := Lib.hid (fun W h1 h2 => sameHits_calls p1 p2 c1 c2 z hzl W h1 h2)
  have HQ1 := Lib.hid ((Rp.new w code n t (.slice p1 z.length c1)).alloc (.cells #[.int .i64 code, .int .i64 n, .string t, .slice p2 z.length c2] 33))
  have HQ2 := Lib.hid (Rp.new (w.alloc (.cells #[.int .i64 code, .int .i64 n, .string t, .slice p1 z.length c1] 33)) code n t (.slice p2 z.length c2))
  have HB := Lib.hid (((Below.refl w.heap.size w).alloc (Nat.le_refl _) (.cells #[.int .i64 code, .int .i64 n, .string t, .slice p1 z.length c1] 33)).alloc (by simp) (.cells #[.int .i64 code, .int .i64 n, .string t, .slice p2 z.length c2] 33))
  have HL1 := Lib.hid (h1.below HB.out)
  have HL2 := Lib.hid (h2.below HB.out)
  clear h1 h2
  go_enter Try.func18, Try.ntmps18
  go_upto_region 1 with fail
  have hs : (w.alloc (.cells #[.int .i64 code, .int .i64 n, .string t, .slice p1 z.length c1] 33)).heap.size = w.heap.size + 1 := by simp
  rw [hs] at HQ2
  generalize (w.alloc (.cells #[.int .i64 code, .int .i64 n, .string t, .slice p1 z.length c1] 33)).alloc (.cells #[.int .i64 code, .int .i64 n, .string t, .slice p2 z.length c2] 33) = w1 at HQ1 HQ2 HB HL1 HL2 ⊢
  obtain ⟨x0, x1, x2, x3, xf⟩ := HQ1.out.cells
  obtain ⟨y0, y1, y2, y3, yf⟩ := HQ2.out.cells
  clear xf yf hs
  go_wp2_with fail
  refine (S.out _ HL1.out HL2.out).mono ?_
  rintro x w2 ⟨rfl, k⟩
  have HQ3 := Lib.hid (HQ1.out.of (k.block _ HQ1.out.lt))
  have HQ4 := Lib.hid (HQ2.out.of (k.block _ HQ2.out.lt))
  have HB2 := Lib.hid (HB.out.trans (k.mono (Nat.le_of_lt HQ1.out.lt)))
  clear k x0 x1 x2 x3 y0 y1 y2 y3
  obtain ⟨x0, x1, x2, x3, xf⟩ := HQ3.out.cells
  obtain ⟨y0, y1, y2, y3, yf⟩ := HQ4.out.cells
  clear xf yf
  go_wp2
  go_ret
  exact ⟨rfl, HB2.out⟩
end Go.Proofs.Ytabhjkaheghbhaa
