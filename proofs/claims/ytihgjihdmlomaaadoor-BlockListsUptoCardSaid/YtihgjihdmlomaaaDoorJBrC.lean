/-
  WALK: a block's entries read (entries).
-/
import Derived.Test.YtihgjihdmlomaaaDoorJBrB
namespace Go.Proofs.YtihgjihdmlomaaaDoor
open Go.RowKit ArgK
set_option linter.unusedVariables false

def entEnd (s5 : Option Nat) (t5 : List UInt8) (v : Nat) (c : ByteArray) (i s : Nat) : Option (Nat × Ent) :=
  match s5 with
  | none => none
  | some a' => if t5 = [0] then some (a', ⟨v, c, i, s, false⟩) else if t5 = [1] then some (a', ⟨v, c, i, s, true⟩) else none
/-- One entry read from a place: what it is, and the next place. -/
def entS (cb : Nat) (b : List UInt8) (a : Nat) : Option (Nat × Ent) :=
  entEnd (txtS b 1 (numS b 1152921504606846976 (numS b 281474976710656 (txtS b cb (txtS b 4 (some a)).1).1).1).1).1 (txtS b 1 (numS b 1152921504606846976 (numS b 281474976710656 (txtS b cb (txtS b 4 (some a)).1).1).1).1).2
    (fixR ⟨(txtS b 4 (some a)).2.toArray⟩ 0 4).1 ⟨(txtS b cb (txtS b 4 (some a)).1).2.toArray⟩ (numS b 281474976710656 (txtS b cb (txtS b 4 (some a)).1).1).2 (numS b 1152921504606846976 (numS b 281474976710656 (txtS b cb (txtS b 4 (some a)).1).1).1).2
def entsGo (cb : Nat) (b : List UInt8) : Nat → Nat → List Ent → Option (List Ent)
  | 0, _, acc => some acc
  | f + 1, a, acc => if a < b.length then (match entS cb b a with | none => none | some (a', e) => entsGo cb b f a' (acc ++ [e])) else some acc
/-- The entries of a block's payload. -/
def entsR (cb : Nat) (b : List UInt8) : Option (List Ent) := entsGo cb b (b.length + 1) 0 []

theorem txtS_some {b : List UInt8} {n : Nat} {s : Option Nat} {a : Nat} (h : (txtS b n s).1 = some a) : ∃ x, s = some x ∧ a = x + n ∧ n ≤ b.length - x ∧ (txtS b n s).2 = (b.drop x).take n := by
  cases s with
  | none => simp [txtS] at h
  | some x =>
    unfold txtS at h ⊢
    by_cases h0 : n ≤ b.length - x
    · simp only [if_pos h0] at h ⊢
      cases h
      exact ⟨x, rfl, rfl, h0, rfl⟩
    · simp only [if_neg h0] at h
      cases h
theorem numS_some {b : List UInt8} {m : Nat} {s : Option Nat} {a : Nat} (h : (numS b m s).1 = some a) : ∃ x, s = some x ∧ x < a ∧ a ≤ b.length ∧ (varR b x).2.2 = 0 ∧ (varR b x).1 ≤ m ∧ a = (varR b x).2.1.toNat ∧ (numS b m s).2 = (varR b x).1 := by
  cases s with
  | none => simp [numS] at h
  | some x =>
    by_cases h0 : (varR b x).2.2 = 0 ∧ (varR b x).1 ≤ m
    · simp only [numS, if_pos h0, Option.some.injEq] at h ⊢
      obtain ⟨n, e, h1, h2⟩ := varR_next b x h0.1
      have e2 : (varR b x).2.1.toNat = n := by rw [e]; simp
      exact ⟨x, rfl, by omega, by omega, h0.1, h0.2, by omega, rfl⟩
    · simp only [numS, if_neg h0] at h
      cases h
theorem numS_le (b : List UInt8) (m : Nat) (s : Option Nat) : (numS b m s).2 ≤ m := by
  cases s with
  | none => simp [numS]
  | some x =>
    by_cases h0 : (varR b x).2.2 = 0 ∧ (varR b x).1 ≤ m
    · simp only [numS, if_pos h0]; exact h0.2
    · simp only [numS, if_neg h0]; exact Nat.zero_le _
theorem txtS_len (b : List UInt8) (n : Nat) (s : Option Nat) : (txtS b n s).2.length ≤ n := by
  cases s with
  | none => simp [txtS]
  | some x =>
    by_cases h : n ≤ b.length - x
    · simp only [txtS, if_pos h, List.length_take]; omega
    · simp only [txtS, if_neg h]; exact Nat.zero_le _
theorem fix4_lt (s : ByteArray) : (fixR s 0 4).1 < 4294967296 := by
  unfold fixR
  split
  · decide
  · split
    · decide
    · have h := numB_lt ((s.data.toList.drop (0 : Int).toNat).take (4 : Int).toNat)
      have h2 : ((s.data.toList.drop (0 : Int).toNat).take (4 : Int).toNat).length ≤ 4 := by rw [List.length_take]; exact Nat.min_le_left _ _
      have h3 : (256 : Nat) ^ ((s.data.toList.drop (0 : Int).toNat).take (4 : Int).toNat).length ≤ 256 ^ 4 := Nat.pow_le_pow_right (by decide) h2
      have h4 : (256 : Nat) ^ 4 = 4294967296 := by decide
      show numB 0 _ < _
      omega
theorem grown_block {w w' : World} {r : Nat} (h : w.grownBy w' (some r)) {k : Nat} (hk : k < w.heap.size) (hne : k ≠ r) : w'.heap[k]? = w.heap[k]? := h.block k hk (fun e => hne (Option.some.inj e))
/-- What a round holds beside the reader. -/
def ErK (w : World) (wn : Nat) (h : Hd) (lv : Value) (acc : List Ent) (W : World) : Prop :=
  W.heap[w.heap.size]? = some (.cells #[.int .i64 wn, .int .i64 h.t, .int .i64 h.b, .int .i64 h.lo, .int .i64 h.hi, .int .i64 h.n] 23 (0, 0)) ∧ W.ownsRow (w.heap.size + 1 + 1) 33 5 lv acc.length (encE acc) ∧ Below w.heap.size w W ∧ w.heap.size + 1 < W.heap.size
theorem ErK.grown {w : World} {wn : Nat} {h : Hd} {lv : Value} {acc : List Ent} {W W' : World} (k : ErK w wn h lv acc W) (hg : W.grownBy W' (some (w.heap.size + 1))) : ErK w wn h lv acc W' := by
  obtain ⟨h1, h2, h3, h4⟩ := k
  refine ⟨(grown_block hg (by omega) (by omega)).trans h1, own_grown h2 hg (fun k hk e => ?_), h3.grown hg h3.size (fun b hb => by cases hb; omega), Nat.lt_of_lt_of_le h4 hg.size⟩
  have := (h2.lt k hk).1
  have e2 := Option.some.inj e
  omega
theorem ErK.below {w : World} {wn : Nat} {h : Hd} {lv : Value} {acc : List Ent} {W W' : World} (k : ErK w wn h lv acc W) (hb : Below W.heap.size W W') : ErK w wn h lv acc W' := by
  obtain ⟨h1, h2, h3, h4⟩ := k
  exact ⟨(hb.block _ (by omega)).trans h1, own_belowAll h2 hb, h3.trans (hb.mono h3.size), Nat.lt_of_lt_of_le h4 hb.size⟩
/-- An entry goes on. -/
theorem entS_next {cb : Nat} {b : List UInt8} {a a' : Nat} {e : Ent} (h : entS cb b a = some (a', e)) : a < a' := by
  unfold entS entEnd at h
  split at h
  · cases h
  · next x hx =>
    obtain ⟨x1, h1, h2, h3, _⟩ := txtS_some hx
    obtain ⟨x2, h4, h5, _⟩ := numS_some h1
    obtain ⟨x3, h6, h7, _⟩ := numS_some h4
    obtain ⟨x4, h8, h9, _, _⟩ := txtS_some h6
    obtain ⟨x5, h10, h11, _, _⟩ := txtS_some h8
    cases h10
    have : a < x := by omega
    split at h
    · cases h; exact this
    · split at h
      · cases h; exact this
      · cases h

theorem entsGo_len (cb : Nat) (b : List UInt8) : ∀ (f a : Nat) (acc L : List Ent), entsGo cb b f a acc = some L → L.length ≤ acc.length + f
  | 0, a, acc, L, h => by simp [entsGo] at h; subst h; omega
  | f + 1, a, acc, L, h => by
    unfold entsGo at h
    split at h
    · split at h
      · cases h
      · next x hx =>
        have := entsGo_len cb b f _ _ L h
        rw [List.length_append, List.length_singleton] at this
        omega
    · cases h; omega

/-- Where a reader stands. -/
def rdAt (wr : World) (r : Nat) : Nat := match wr.cell? ⟨r, 1, none⟩ with | some v => (intOf v).toNat | none => 0
theorem rdAt_of {W : World} {r : Nat} {b : ByteArray} {a : Nat} (h : Rk W r b (some a)) : rdAt W r = a := by
  obtain ⟨x, _, hc, hs⟩ := h
  obtain rfl := hs a rfl
  unfold rdAt
  rw [(rk_cells hc).2.1]
  simp [intOf]

def EntsPost (w : World) (cb : Nat) (b : List UInt8) (e : Ending) (w' : World) : Prop :=
  Below w.heap.size w w' ∧ ((∃ (L : List Ent) (v : Value), entsR cb b = some L ∧ e = .returned (.tuple #[v, .bool true]) ∧ w'.ownsRow w.heap.size 33 5 v L.length (encE L)) ∨ (entsR cb b = none ∧ e = .returned (.tuple #[.slice none 0 0, .bool false])))

/-- At the head of each round. -/
def ErRel (w : World) (wn cb : Nat) (h : Hd) (b : ByteArray) (lv : Value) (wr : World) : Prop :=
  ∃ (f a : Nat) (acc : List Ent), a ≤ b.size ∧ b.size < a + f ∧ acc.length + f ≤ b.size + 1 ∧ entsGo cb b.data.toList f a acc = entsR cb b.data.toList ∧ Rk wr (w.heap.size + 1) b (some a) ∧
    wr.heap[w.heap.size]? = some (.cells #[.int .i64 wn, .int .i64 h.t, .int .i64 h.b, .int .i64 h.lo, .int .i64 h.hi, .int .i64 h.n] 23 (0, 0)) ∧ wr.ownsRow (w.heap.size + 1 + 1) 33 5 lv acc.length (encE acc) ∧ Below w.heap.size w wr

set_option maxRecDepth 100000 in
set_option maxHeartbeats 2000000 in
theorem entries_calls (h : Hd) (wn cb : Nat) (hw : h.w = (wn : Int)) (hcb : wn / 8 = cb) (hc8 : cb ≤ 128) (b : ByteArray) (hb : b.size ≤ 1000000) (w : World) :
    Calls Tryd.prog 46 #[h.val, .string b] w (EntsPost w cb b.data.toList) := by
  have hbu : ∀ W : World, (Instr.build 122 #[(0, .string b)]).run Tryd.prog W = .ok (.agg #[.string b, .int .i64 0, .bool false]) W := fun W => run_build W _ _ _ (by kernel_rfl)
  have hbe : ∀ (W : World) (v i s : Int) (c : ByteArray), (Instr.build 33 #[(0, .int .i64 v), (1, .string c), (2, .int .i64 i), (3, .int .i64 s)]).run Tryd.prog W = .ok (.agg #[.int .i64 v, .string c, .int .i64 i, .int .i64 s, .bool false]) W := fun W v i s c => run_build W _ _ _ (by kernel_rfl)
  obtain ⟨i0, hi, hz0, hz1, hz2⟩ := info_parts entinfo6
  have hq : (wn : Int) / 8 = (cb : Int) := by omega
  unfold Hd.val
  rw [hw]
  have H0 : Hid (ErRel w wn cb h b (.slice none 0 0) ((w.alloc (.cells #[.int .i64 wn, .int .i64 h.t, .int .i64 h.b, .int .i64 h.lo, .int .i64 h.hi, .int .i64 h.n] 23)).alloc (.cells #[.string b, .int .i64 0, .bool false] 122))) := Lib.hid (by
    have h1 := World.alloc_heap_new w (.cells #[.int .i64 wn, .int .i64 h.t, .int .i64 h.b, .int .i64 h.lo, .int .i64 h.hi, .int .i64 h.n] 23)
    have h2 := World.alloc_heap_new (w.alloc (.cells #[.int .i64 wn, .int .i64 h.t, .int .i64 h.b, .int .i64 h.lo, .int .i64 h.hi, .int .i64 h.n] 23)) (.cells #[.string b, .int .i64 0, .bool false] 122)
    rw [World.size_alloc] at h2
    exact ⟨b.size + 1, 0, [], Nat.zero_le _, by omega, by simp, rfl, ⟨0, Nat.zero_le _, h2, fun x e => by cases e; rfl⟩, (Below.heap_alloc _ _ _ (by simp)).trans h1, World.ownsRow_nil _ _ _ _, ((Below.refl _ w).alloc (Nat.le_refl _) _).alloc (by simp) _⟩)
  have HCL := Lib.hid (fun s W (h : Rk W (w.heap.size + 1) b s) => rleft_calls (w.heap.size + 1) b (by omega) s W h)
  have HCT := Lib.hid (fun n (hn : n ≤ 1000000) s W (h : Rk W (w.heap.size + 1) b s) => rtext_calls n hn (w.heap.size + 1) b (by omega) s W h)
  have HCN := Lib.hid (fun m (hm : m ≤ 9223372036854775807) s W (h : Rk W (w.heap.size + 1) b s) => rnumber_calls m hm (w.heap.size + 1) b (by omega) s W h)
  clear hw hcb
  go_enter Tryd.func46, Tryd.ntmps46
  go_wp2
  go_loopw [6] (fun lv wr => ErRel w wn cb h b lv wr) (fun _ wr => b.size - rdAt wr (w.heap.size + 1))
  case atStart => exact H0.out
  case round =>
    obtain ⟨f, a, acc, ha, hf, hacc, hgo, hrk, hbx, hown, hbl⟩ := hrel
    have hme := rdAt_of hrk
    have hs := hbl.size
    have hsr := hrk.lt
    have hk0 : ErK w wn h u6 acc wr := ⟨hbx, hown, hbl, hsr⟩
    by_cases hlt : a < b.size
    · have C0 := HCL.out (some a) wr hrk
      rw [show leftS b.size (some a) = true by simp [leftS, hlt]] at C0
      have HC0 := Lib.hid C0
      have HRk := Lib.hid hrk
      have HK := Lib.hid hk0
      have HGo := Lib.hid hgo
      have HMe := Lib.hid hme
      have hlt2 : a < b.data.toList.length := hlt
      obtain ⟨f, rfl⟩ : ∃ g, f = g + 1 := ⟨f - 1, by omega⟩
      obtain ⟨s1, t1, h1⟩ : ∃ s1 t1, txtS b.data.toList 4 (some a) = (s1, t1) := ⟨_, _, rfl⟩
      obtain ⟨s2, t2, h2⟩ : ∃ s t, txtS b.data.toList cb s1 = (s, t) := ⟨_, _, rfl⟩
      obtain ⟨s3, n3, h3⟩ : ∃ s t, numS b.data.toList 281474976710656 s2 = (s, t) := ⟨_, _, rfl⟩
      obtain ⟨s4, n4, h4⟩ : ∃ s t, numS b.data.toList 1152921504606846976 s3 = (s, t) := ⟨_, _, rfl⟩
      obtain ⟨s5, t5, h5⟩ : ∃ s t, txtS b.data.toList 1 s4 = (s, t) := ⟨_, _, rfl⟩
      have l2 := txtS_len b.data.toList cb s1
      have l5 := txtS_len b.data.toList 1 s4
      have l3 := numS_le b.data.toList 281474976710656 s2
      have l4 := numS_le b.data.toList 1152921504606846976 s3
      have hE : entS cb b.data.toList a = entEnd s5 t5 (fixR ⟨t1.toArray⟩ 0 4).1 ⟨t2.toArray⟩ n3 n4 := by
        unfold entS
        simp only [h1, h2, h3, h4, h5]
      have h5l : ∀ y, s5 = some y → t5.length = 1 := fun y e => by
        obtain ⟨x, _, _, e4, e5⟩ := txtS_some (b := b.data.toList) (n := 1) (s := s4) (a := y) (by rw [h5]; exact e)
        rw [h5] at e5
        simp only at e5
        rw [e5, List.length_take, List.length_drop]
        omega
      have H5L := Lib.hid h5l
      have C1 := fun W k => HCT.out 4 (by decide) (some a) W k
      have C2 := fun W k => HCT.out cb (by omega) s1 W k
      have C3 := fun W k => HCN.out 281474976710656 (by decide) s2 W k
      have C4 := fun W k => HCN.out 1152921504606846976 (by decide) s3 W k
      have C5 := fun W k => HCT.out 1 (by decide) s4 W k
      have hV := fix4_lt ⟨t1.toArray⟩
      have CF := fun W => Fix_calls ⟨t1.toArray⟩ (by have := txtS_len b.data.toList 4 (some a); rw [h1] at this; show t1.length ≤ _; simp only at this; omega) 0 4 W
      obtain ⟨V, EV, hVV⟩ : ∃ v e, fixR ⟨t1.toArray⟩ 0 4 = (v, e) := ⟨_, _, rfl⟩
      rw [hVV] at hV hE
      simp only [hVV] at CF
      rw [h1] at C1
      rw [h2] at C2 l2
      rw [h3] at C3 l3
      rw [h4] at C4 l4
      rw [h5] at C5 l5
      simp only at hV hE C1 C2 C3 C4 C5 l2 l3 l4 l5
      obtain ⟨T1, hT1⟩ : ∃ s, (⟨t1.toArray⟩ : ByteArray) = s := ⟨_, rfl⟩
      obtain ⟨T2, hT2⟩ : ∃ s, (⟨t2.toArray⟩ : ByteArray) = s := ⟨_, rfl⟩
      obtain ⟨T5, hT5⟩ : ∃ s, (⟨t5.toArray⟩ : ByteArray) = s := ⟨_, rfl⟩
      rw [hT1] at CF
      rw [hT2] at hE
      simp only [hT1] at C1
      simp only [hT2] at C2
      simp only [hT5] at C5
      have HCF := Lib.hid CF
      have HC1 := Lib.hid C1
      have HC2 := Lib.hid C2
      have HC3 := Lib.hid C3
      have HC4 := Lib.hid C4
      have HC5 := Lib.hid C5
      have HE := Lib.hid hE
      have HT5 := Lib.hid hT5
      have hwV : IntKind.i64.wrap (V : Int) = (V : Int) := by rw [IntKind.wrap_i64]; omega
      clear h5l C0 C1 C2 C3 C4 C5 CF hE hT1 hT2 hT5 h1 h2 h3 h4 h5 hVV hrk hbx hown hbl hgo hme hk0
      go_wp2_with fail
      refine HC0.out.mono ?_
      rintro e w0 ⟨rfl, hd0⟩
      have hb0 : Below wr.heap.size wr w0 := by obtain ⟨m, rfl⟩ := hd0; exact drewN_below _ _ _
      have HK0 := Lib.hid (HK.out.below hb0)
      have hrk0 := HRk.out.keep (hb0.block _ hsr)
      clear hd0
      go_wp2_with fail
      refine (HC1.out _ hrk0).mono ?_
      rintro e w1 ⟨rfl, hrk1, hg1⟩
      have HK1 := Lib.hid (HK0.out.grown hg1)
      clear hg1 hrk0
      go_wp2_with fail
      refine (HCF.out _).mono ?_
      rintro e w1' ⟨rfl, rfl⟩
      obtain ⟨d0, _, _, _, _, _⟩ := cells6 HK1.out.1
      go_wp2_with fail
      refine (HC2.out _ hrk1).mono ?_
      rintro e w2 ⟨rfl, hrk2, hg2⟩
      have HK2 := Lib.hid (HK1.out.grown hg2)
      clear hg2 hrk1 d0
      go_wp2_with fail
      refine (HC3.out _ hrk2).mono ?_
      rintro e w3 ⟨rfl, hrk3, hg3⟩
      have HK3 := Lib.hid (HK2.out.grown hg3)
      clear hg3 hrk2
      go_wp2_with fail
      refine (HC4.out _ hrk3).mono ?_
      rintro e w4 ⟨rfl, hrk4, hg4⟩
      have HK4 := Lib.hid (HK3.out.grown hg4)
      clear hg4 hrk3
      go_wp2_with fail
      have hsz4 : w4.heap.size < (w4.alloc (.cells #[.int .i64 V, .string T2, .int .i64 n3, .int .i64 n4, .bool false] 33)).heap.size := by simp
      have HK4' := Lib.hid (HK4.out.below ((Below.refl _ w4).alloc (Nat.le_refl _) (.cells #[.int .i64 V, .string T2, .int .i64 n3, .int .i64 n4, .bool false] 33)))
      have hrk4' := hrk4.keep (Below.heap_alloc w4 (.cells #[.int .i64 V, .string T2, .int .i64 n3, .int .i64 n4, .bool false] 33) (w.heap.size + 1) hrk4.lt)
      have hE4 := World.alloc_heap_new w4 (.cells #[.int .i64 V, .string T2, .int .i64 n3, .int .i64 n4, .bool false] 33)
      have hEB : w.heap.size + 1 < w4.heap.size := hrk4.lt
      have hlne : ∀ x, u6.ownBlock = some x → x ≠ w4.heap.size := fun x hx => Nat.ne_of_lt (HK4.out.2.1.lt x hx).2
      obtain ⟨EB, hEBn⟩ : ∃ q, w4.heap.size = q := ⟨_, rfl⟩
      generalize w4.alloc (.cells #[.int .i64 V, .string T2, .int .i64 n3, .int .i64 n4, .bool false] 33) = w4' at HK4' hrk4' hE4 hsz4 ⊢
      rw [hEBn] at hE4 hsz4 hEB hlne ⊢
      refine (HC5.out _ hrk4').mono ?_
      rintro e w5 ⟨rfl, hrk5, hg5⟩
      have HK5 := Lib.hid (HK4'.out.grown hg5)
      have hE5 := (grown_block hg5 hsz4 (by omega)).trans hE4
      have hsz5 : EB < w5.heap.size := (Array.getElem?_eq_some_iff.1 hE5).1
      have HRk5 := Lib.hid hrk5
      have HE5 := Lib.hid hE5
      clear hg5 hE4 hsz4 hrk4' HK4' hrk4 hEBn
      obtain ⟨a6, ha6, hc6, hs6⟩ := hrk5
      obtain ⟨b0, b1, b2, b3, b4⟩ := rk_cells hc6
      cases s5 with
      | none =>
        have hN : entsR cb b.data.toList = none := by
          rw [← HGo.out]
          unfold entsGo
          rw [if_pos hlt2, HE.out]
          rfl
        have HEnd : Hid (∀ W, Below w.heap.size w W → EntsPost w cb b.data.toList (.returned (.tuple #[.slice none 0 0, .bool false])) W) := Lib.hid (fun W hW => ⟨hW, .inr ⟨hN, rfl⟩⟩)
        simp only [Option.isNone_none] at b2
        clear hN hc6 hs6 hE5
        go_wp2
        go_ret2
        exact HEnd.out _ HK5.out.2.2.1
      | some a' =>
        obtain rfl : a' = a6 := hs6 a' rfl
        have ha5 := ha6
        simp only [Option.isNone_some] at b2
        clear hc6 hs6
        obtain ⟨c, rfl⟩ : ∃ c, t5 = [c] := List.length_eq_one_iff.1 (H5L.out a' rfl)
        by_cases hc0 : c = 0
        · subst hc0
          have he : entS cb b.data.toList a = some (a', ⟨V, T2, n3, n4, false⟩) := by rw [HE.out]; rfl
          have han := entS_next he
          have hgo2 : entsGo cb b.data.toList f a' (acc ++ [⟨V, T2, n3, n4, false⟩]) = entsR cb b.data.toList := by
            rw [← HGo.out]
            conv => rhs; unfold entsGo
            rw [if_pos hlt2, he]
          have HR : Hid (∀ W v', W.ownsRow (w.heap.size + 1 + 1) 33 5 v' (acc.length + 1) (encE acc ++ [.int .i64 V, .string T2, .int .i64 n3, .int .i64 n4, .bool false]) → Rk W (w.heap.size + 1) b (some a') → W.heap[w.heap.size]? = some (.cells #[.int .i64 wn, .int .i64 h.t, .int .i64 h.b, .int .i64 h.lo, .int .i64 h.hi, .int .i64 h.n] 23 (0, 0)) → Below w.heap.size w W → ErRel w wn cb h b v' W ∧ rdAt W (w.heap.size + 1) = a') := Lib.hid (fun W v' r1 r2 r3 r4 => ⟨⟨f, a', acc ++ [⟨V, T2, n3, n4, false⟩], ha5, by omega, by rw [List.length_append, List.length_singleton]; omega, hgo2, r2, r3, by rw [List.length_append, List.length_singleton, encE_snoc]; exact r1, r4⟩, rdAt_of r2⟩)
          have hs := HT5.out
          subst hs
          have g1 : Op.bytesLess [(0 : UInt8)] [1] = true := by decide
          have ho5 := HK5.out.2.1
          have hne5 := hlne
          obtain ⟨lp, lc, rfl, _, _, _⟩ := own_rd ho5
          have HLO := Lib.hid (fun g (hg : (Value.slice lp acc.length lc).ownBlock = some g) => And.intro (ho5.lt g hg) (hne5 g hg))
          have hva := (own_setCell ho5 (p := ⟨EB, 4, none⟩) (fun e => hne5 EB e rfl) (.bool false)).alloc (.cells #[.int .i64 V, .string T2, .int .i64 n3, .int .i64 n4, .bool false] 33)
          have hnews := World.news_of_block (cs := #[.int .i64 V, .string T2, .int .i64 n3, .int .i64 n4, .bool false]) (t := 33) (fr := (0, 0)) (heap_alloc_new (w5.setCell ⟨EB, 4, none⟩ (.bool false)) (.cells #[.int .i64 V, .string T2, .int .i64 n3, .int .i64 n4, .bool false] 33))
          have hs5 : (w5.setCell ⟨EB, 4, none⟩ (.bool false)).heap.size = w5.heap.size := by simp [World.setCell]
          rw [hs5] at hnews
          obtain ⟨e0, e1, e2, e3, e4⟩ := cells5 hE5
          have ef : w5.frozen? ⟨EB, 4, none⟩ = false := by simp [World.frozen?, hE5]
          have hszw := HK5.out.2.2.2
          clear ho5 hne5 hE5 hlne
          go_wp2_with (at_builtin; refine wpList_append_lies _ rfl _ _ _ rfl (w.heap.size + 1 + 1) 33 i0 _ 5 48 Tryd.underlying24 hi hz0 hz1 hz2 rfl (by decide) (.slice lp acc.length lc) acc.length _ rfl hva ⟨w5.heap.size, 0, none⟩ 1 1 [.int .i64 V, .string T2, .int .i64 n3, .int .i64 n4, .bool false] rfl rfl hnews (by simp [Value.oneCell']) (by decide) (by unfold maxLen; omega) (by omega) (by simp; omega) (w5.heap.size + 1) (by simp) ?_; intro g2 cap2 w6 hown6 hgrow6 hat6 hlt6)
          have hrow := hgrow6
          have hbB : ∀ j, j < w5.heap.size → (Value.slice lp acc.length lc).ownBlock ≠ some j → j ≠ EB → w6.heap[j]? = w5.heap[j]? := fun j hj h1 h2 => (hgrow6.block j (by simp; omega) (fun e => h1 e.symm)).trans ((Below.heap_alloc _ _ _ (by rw [hs5]; exact hj)).trans (Below.heap_setCell w5 ⟨EB, 4, none⟩ _ j h2))
          have q1 := hbB w.heap.size (by omega) (fun e => by have := (HLO.out _ e).1.1; omega) (by omega)
          have q2 := hbB (w.heap.size + 1) hszw (fun e => by have := (HLO.out _ e).1.1; omega) (by omega)
          have hbl6 : Below w.heap.size w w6 := HK5.out.2.2.1.trans ⟨hgrow6.os, hgrow6.tape, hgrow6.output, by have := hgrow6.size; simp at this; omega, fun j hj => hbB j (by omega) (fun e => by have := (HLO.out _ e).1.1; omega) (by omega)⟩
          have hR := HR.out w6 _ hown6 (HRk5.out.keep q2) (q1.trans HK5.out.1) hbl6
          have HR2 := Lib.hid hR
          clear hR hbl6 hbB q1 q2 hrow hown6 hgrow6 hat6 hlt6 hva hnews
          go_wp2
          go_roundw
          case rel => exact HR2.out.1
          case measure => rw [HR2.out.2, HMe.out]; omega
        · by_cases hc1 : c = 1
          · subst hc1
            have he : entS cb b.data.toList a = some (a', ⟨V, T2, n3, n4, true⟩) := by rw [HE.out]; rfl
            have han := entS_next he
            have hgo2 : entsGo cb b.data.toList f a' (acc ++ [⟨V, T2, n3, n4, true⟩]) = entsR cb b.data.toList := by
              rw [← HGo.out]
              conv => rhs; unfold entsGo
              rw [if_pos hlt2, he]
            have HR : Hid (∀ W v', W.ownsRow (w.heap.size + 1 + 1) 33 5 v' (acc.length + 1) (encE acc ++ [.int .i64 V, .string T2, .int .i64 n3, .int .i64 n4, .bool true]) → Rk W (w.heap.size + 1) b (some a') → W.heap[w.heap.size]? = some (.cells #[.int .i64 wn, .int .i64 h.t, .int .i64 h.b, .int .i64 h.lo, .int .i64 h.hi, .int .i64 h.n] 23 (0, 0)) → Below w.heap.size w W → ErRel w wn cb h b v' W ∧ rdAt W (w.heap.size + 1) = a') := Lib.hid (fun W v' r1 r2 r3 r4 => ⟨⟨f, a', acc ++ [⟨V, T2, n3, n4, true⟩], ha5, by omega, by rw [List.length_append, List.length_singleton]; omega, hgo2, r2, r3, by rw [List.length_append, List.length_singleton, encE_snoc]; exact r1, r4⟩, rdAt_of r2⟩)
            have hs := HT5.out
            subst hs
            have g1 : Op.bytesLess [(1 : UInt8)] [1] = false := by decide
            have ho5 := HK5.out.2.1
            have hne5 := hlne
            obtain ⟨lp, lc, rfl, _, _, _⟩ := own_rd ho5
            have HLO := Lib.hid (fun g (hg : (Value.slice lp acc.length lc).ownBlock = some g) => And.intro (ho5.lt g hg) (hne5 g hg))
            have hva := (own_setCell ho5 (p := ⟨EB, 4, none⟩) (fun e => hne5 EB e rfl) (.bool true)).alloc (.cells #[.int .i64 V, .string T2, .int .i64 n3, .int .i64 n4, .bool true] 33)
            have hnews := World.news_of_block (cs := #[.int .i64 V, .string T2, .int .i64 n3, .int .i64 n4, .bool true]) (t := 33) (fr := (0, 0)) (heap_alloc_new (w5.setCell ⟨EB, 4, none⟩ (.bool true)) (.cells #[.int .i64 V, .string T2, .int .i64 n3, .int .i64 n4, .bool true] 33))
            have hs5 : (w5.setCell ⟨EB, 4, none⟩ (.bool true)).heap.size = w5.heap.size := by simp [World.setCell]
            rw [hs5] at hnews
            obtain ⟨e0, e1, e2, e3, e4⟩ := cells5 hE5
            have ef : w5.frozen? ⟨EB, 4, none⟩ = false := by simp [World.frozen?, hE5]
            have hszw := HK5.out.2.2.2
            clear ho5 hne5 hE5 hlne
            go_wp2_with (at_builtin; refine wpList_append_lies _ rfl _ _ _ rfl (w.heap.size + 1 + 1) 33 i0 _ 5 48 Tryd.underlying24 hi hz0 hz1 hz2 rfl (by decide) (.slice lp acc.length lc) acc.length _ rfl hva ⟨w5.heap.size, 0, none⟩ 1 1 [.int .i64 V, .string T2, .int .i64 n3, .int .i64 n4, .bool true] rfl rfl hnews (by simp [Value.oneCell']) (by decide) (by unfold maxLen; omega) (by omega) (by simp; omega) (w5.heap.size + 1) (by simp) ?_; intro g2 cap2 w6 hown6 hgrow6 hat6 hlt6)
            have hrow := hgrow6
            have hbB : ∀ j, j < w5.heap.size → (Value.slice lp acc.length lc).ownBlock ≠ some j → j ≠ EB → w6.heap[j]? = w5.heap[j]? := fun j hj h1 h2 => (hgrow6.block j (by simp; omega) (fun e => h1 e.symm)).trans ((Below.heap_alloc _ _ _ (by rw [hs5]; exact hj)).trans (Below.heap_setCell w5 ⟨EB, 4, none⟩ _ j h2))
            have q1 := hbB w.heap.size (by omega) (fun e => by have := (HLO.out _ e).1.1; omega) (by omega)
            have q2 := hbB (w.heap.size + 1) hszw (fun e => by have := (HLO.out _ e).1.1; omega) (by omega)
            have hbl6 : Below w.heap.size w w6 := HK5.out.2.2.1.trans ⟨hgrow6.os, hgrow6.tape, hgrow6.output, by have := hgrow6.size; simp at this; omega, fun j hj => hbB j (by omega) (fun e => by have := (HLO.out _ e).1.1; omega) (by omega)⟩
            have hR := HR.out w6 _ hown6 (HRk5.out.keep q2) (q1.trans HK5.out.1) hbl6
            have HR2 := Lib.hid hR
            clear hR hbl6 hbB q1 q2 hrow hown6 hgrow6 hat6 hlt6 hva hnews
            go_wp2
            go_roundw
            case rel => exact HR2.out.1
            case measure => rw [HR2.out.2, HMe.out]; omega
          · have hN : entsR cb b.data.toList = none := by
              rw [← HGo.out]
              unfold entsGo
              rw [if_pos hlt2, HE.out]
              simp [entEnd, hc0, hc1]
            have HEnd : Hid (∀ W, Below w.heap.size w W → EntsPost w cb b.data.toList (.returned (.tuple #[.slice none 0 0, .bool false])) W) := Lib.hid (fun W hW => ⟨hW, .inr ⟨hN, rfl⟩⟩)
            have hs := HT5.out
            subst hs
            have g0 : ¬ c < 1 := fun h => hc0 (by
              have h1 : c.toNat < 1 := h
              have h2 : c.toNat = 0 := by omega
              exact UInt8.toNat_inj.1 h2)
            have g1 : Op.bytesLess [c] [1] = false := by simp [Op.bytesLess, g0]
            have g2 : (c == 1) = false := by simpa using hc1
            clear hN hE5
            go_wp2
            go_ret2
            exact HEnd.out _ HK5.out.2.2.1
    · have C0 := HCL.out (some a) wr hrk
      rw [show leftS b.size (some a) = false by simp [leftS]; omega] at C0
      have HC0 := Lib.hid C0
      obtain ⟨lp, lc, rfl, _, _, _⟩ := own_rd hown
      have hR : entsR cb b.data.toList = some acc := by
        rw [← hgo]
        cases f with
        | zero => rfl
        | succ f => unfold entsGo; rw [if_neg (show ¬ a < b.data.toList.length from hlt)]
      have HEnd : Hid (∀ W, Below wr.heap.size wr W → EntsPost w cb b.data.toList (.returned (.tuple #[.slice lp acc.length lc, .bool true])) W) := Lib.hid (fun W hW => ⟨hbl.trans (hW.mono hs), .inl ⟨acc, _, hR, rfl, own_le (own_belowAll hown hW) (by omega)⟩⟩)
      have HRk := Lib.hid hrk
      clear C0 hrk hbx hown hbl hgo hme hk0 hR
      go_wp2_with fail
      refine HC0.out.mono ?_
      rintro e w0 ⟨rfl, hd0⟩
      have hb0 : Below wr.heap.size wr w0 := by obtain ⟨m, rfl⟩ := hd0; exact drewN_below _ _ _
      have hrk0 := HRk.out.keep (hb0.block _ hsr)
      obtain ⟨a6, ha6, hc6, hs6⟩ := hrk0
      obtain ⟨b0, b1, b2, b3, b4⟩ := rk_cells hc6
      simp only [Option.isNone_some] at b2
      have HB0 := Lib.hid hb0
      clear hd0 hc6 hs6 hb0
      go_wp2
      go_quiet (fail)
      go_wp2
      go_ret2
      exact HEnd.out _ (below_drewN HB0.out _)
end Go.Proofs.YtihgjihdmlomaaaDoor
