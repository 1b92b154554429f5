/-
  WALK: numbers at the beginning of a text (the document's numbers).
-/
import Derived.Test.YtihgjihdmlomaaaDoorJBuA
namespace Go.Proofs.YtihgjihdmlomaaaDoor
open Go.RowKit ArgK
set_option linter.unusedVariables false

/-- So many numbers at the beginning of a text, and where they end. -/
def numR (b : List UInt8) : Nat → Option (List Nat × Nat)
  | 0 => some ([], 0)
  | k + 1 => match numR b k with
    | none => none
    | some (L, a) => if (varR b a).2.2 = 0 ∧ (varR b a).1 ≤ 4611686018427387904 then some (L ++ [(varR b a).1], (varR b a).2.1.toNat) else none
theorem numR_none {b : List UInt8} {k : Nat} (h : numR b k = none) : ∀ n, k ≤ n → numR b n = none := by
  intro n hn
  obtain ⟨d, rfl⟩ : ∃ d, n = k + d := ⟨n - k, by omega⟩
  clear hn
  induction d with
  | zero => exact h
  | succ d ih =>
    show numR b (k + d + 1) = none
    unfold numR
    rw [ih]
theorem numR_some {b : List UInt8} : ∀ {k : Nat} {L : List Nat} {a : Nat}, numR b k = some (L, a) → L.length = k ∧ a ≤ b.length ∧ ∀ x ∈ L, x ≤ 4611686018427387904
  | 0, L, a, h => by
    simp [numR] at h
    obtain ⟨rfl, rfl⟩ := h
    exact ⟨rfl, Nat.zero_le _, fun x hx => by simp at hx⟩
  | k + 1, L, a, h => by
    unfold numR at h
    cases hk : numR b k with
    | none => rw [hk] at h; cases h
    | some q =>
      obtain ⟨L', a'⟩ := q
      rw [hk] at h
      simp only at h
      obtain ⟨i1, i2, i3⟩ := numR_some hk
      split at h
      · next hc =>
        simp only [Option.some.injEq, Prod.mk.injEq] at h
        obtain ⟨rfl, rfl⟩ := h
        obtain ⟨n, e, _, e2⟩ := varR_next b a' hc.1
        refine ⟨by simp [i1], by rw [e]; simpa using e2, fun x hx => ?_⟩
        rcases List.mem_append.1 hx with hx | hx
        · exact i3 x hx
        · rw [List.mem_singleton] at hx
          subst hx
          exact hc.2
      · cases h

theorem intinfoW : (Tryd.prog.info? 3).map (fun i => (i.zero, i.size, i.bytes)) = some (some (.int .i64 0), 1, 8) := by kernel_rfl

theorem natV_snoc (L : List Nat) (x : Nat) : natV (L ++ [x]) = natV L ++ [.int .i64 (x : Int)] := by simp [natV]

def NumPost (w : World) (b : List UInt8) (n : Nat) (e : Ending) (w' : World) : Prop :=
  Below w.heap.size w w' ∧ ((∃ L a v, numR b n = some (L, a) ∧ e = .returned (.tuple #[v, .int .i64 (a : Int), .bool true]) ∧ w'.ownsRow w.heap.size 3 1 v L.length (natV L)) ∨ (numR b n = none ∧ e = .returned (.tuple #[.slice none 0 0, .int .i64 0, .bool false])))

set_option maxRecDepth 100000 in
set_option maxHeartbeats 2000000 in
theorem numbers_calls (b : ByteArray) (hb : b.size ≤ 4611686018427387904) (n : Nat) (hn : n ≤ 100) (w : World) : Calls Tryd.prog 73 #[.string b, .int .i64 (n : Int)] w (NumPost w b.data.toList n) := by
  obtain ⟨i0, hi, hz0, hz1, hz2⟩ := info_parts intinfoW
  have hbl : b.data.toList.length = b.size := rfl
  have H0 : Hid (∃ (k : Nat) (L : List Nat) (a : Nat), Value.int .i64 0 = .int .i64 k ∧ k ≤ n ∧ numR b.data.toList k = some (L, a) ∧ Value.int .i64 0 = .int .i64 a ∧ w.ownsRow w.heap.size 3 1 (.slice none 0 0) L.length (natV L) ∧ Below w.heap.size w w) := Lib.hid ⟨0, [], 0, rfl, Nat.zero_le _, rfl, rfl, World.ownsRow_nil _ _ _ _, Below.refl _ _⟩
  have HCV := Lib.hid (fun (a : Nat) W => RefVar_calls b hb (a : Int) W)
  go_enter Tryd.func73, Tryd.ntmps73
  go_wp2
  go_loopw [7, 8, 9] (fun vv av kv wr => ∃ (k : Nat) (L : List Nat) (a : Nat), kv = .int .i64 k ∧ k ≤ n ∧ numR b.data.toList k = some (L, a) ∧ av = .int .i64 a ∧ wr.ownsRow w.heap.size 3 1 vv L.length (natV L) ∧ Below w.heap.size w wr) (fun _ _ kv _ => n - (intOf kv).toNat)
  case atStart => exact H0.out
  case round =>
    obtain ⟨k, L, a, rfl, hk, hnr, rfl, ho, hB⟩ := hrel
    obtain ⟨q1, q2, q3⟩ := numR_some hnr
    rw [q1] at ho
    obtain ⟨vp, vc, rfl, _⟩ := own_rd ho
    have HB := Lib.hid hB
    have HO := Lib.hid ho
    have HNr := Lib.hid hnr
    have hws := hB.size
    clear hB ho hnr q3
    by_cases hlt : k < n
    · have hCV := HCV.out a wr
      obtain ⟨v, nx, f, hv⟩ : ∃ v nx f, varR b.data.toList a = (v, nx, f) := ⟨_, _, _, rfl⟩
      have hvl := varR_lt b.data.toList a
      rw [hv] at hCV hvl
      simp only at hCV hvl
      have HC2 := Lib.hid hCV
      have HVr := Lib.hid hv
      have hk1 : (k : Int) < (n : Int) := by omega
      clear hCV
      by_cases hf : f = 0
      · by_cases hle : v ≤ 4611686018427387904
        · have hstep : numR b.data.toList (k + 1) = some (L ++ [v], nx.toNat) := by
            unfold numR
            rw [HNr.out]
            simp only [hv]
            rw [if_pos ⟨hf, hle⟩]
          obtain ⟨m, hm, _, hm2⟩ := varR_next b.data.toList a (by rw [hv]; exact hf)
          rw [hv] at hm
          simp only at hm
          subst hm
          rw [Int.toNat_natCast] at hstep
          subst hf
          have HSt := Lib.hid hstep
          have hle2 : ¬ ((4611686018427387904 : Int) < (v : Int)) := by omega
          have hwv : IntKind.i64.wrap (v : Int) = (v : Int) := by rw [IntKind.wrap_i64]; omega
          have hnews := Lib.hid (World.news_of_block (World.alloc_heap_new wr (.cells #[.int .i64 (v : Int)] 3)))
          have hq := Lib.hid (HO.out.alloc (.cells #[.int .i64 (v : Int)] 3))
          clear hstep hv hvl hm2
          go_wp2_with fail
          refine HC2.out.mono ?_
          rintro e w5 ⟨rfl, hw5⟩
          obtain rfl := hw5
          go_wp2_with (at_builtin; refine wpList_append_own _ rfl _ _ 47 rfl w.heap.size 3 i0 _ 1 8 Tryd.underlying47 hi hz0 hz1 hz2 rfl (by decide) (.slice vp k vc) k _ rfl hq.out ⟨wr.heap.size, 0, none⟩ 1 1 [.int .i64 (v : Int)] rfl rfl hnews.out (by simp [Value.oneCell']) (by unfold maxLen; omega) (by omega) (by simp; omega) ?_; intro v6 w6 hown6 hgrow6 _)
          refine ⟨⟨k + 1, L ++ [v], m, by go_num, hlt, HSt.out, rfl, ?_, ?_⟩, by simp [intOf]; omega⟩
          · rw [natV_snoc, List.length_append, q1]
            exact hown6
          · have h1 : Below w.heap.size w (wr.alloc (.cells #[.int .i64 (v : Int)] 3)) := HB.out.alloc HB.out.size _
            exact h1.grown hgrow6 h1.size (fun j e => (HO.out.lt j e).1)
        · have hnone : numR b.data.toList n = none := numR_none (k := k + 1) (by unfold numR; rw [HNr.out]; simp only [hv]; rw [if_neg (fun e => hle e.2)]) n hlt
          have hle2 : (4611686018427387904 : Int) < (v : Int) := by omega
          subst hf
          clear hv hvl
          go_wp2_with fail
          refine HC2.out.mono ?_
          rintro e w5 ⟨rfl, hw5⟩
          obtain rfl := hw5
          go_wp2
          go_ret3
          exact ⟨HB.out, .inr ⟨hnone, rfl⟩⟩
      · have hnone : numR b.data.toList n = none := numR_none (k := k + 1) (by unfold numR; rw [HNr.out]; simp only [hv]; rw [if_neg (fun e => hf e.1)]) n hlt
        have hf2 : (f == 0) = false := by simpa using hf
        clear hv hvl
        go_wp2_with fail
        refine HC2.out.mono ?_
        rintro e w5 ⟨rfl, hw5⟩
        obtain rfl := hw5
        go_wp2
        go_ret3
        exact ⟨HB.out, .inr ⟨hnone, rfl⟩⟩
    · obtain rfl : k = n := by omega
      have hk1 : ¬ ((k : Int) < (k : Int)) := by omega
      go_wp2
      go_ret3
      exact ⟨HB.out, .inl ⟨L, a, _, HNr.out, rfl, by rw [q1]; exact HO.out⟩⟩
end Go.Proofs.YtihgjihdmlomaaaDoor
