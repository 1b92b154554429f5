/-
  WALKS: a file's reader (number, text, left).
-/
import Derived.Test.YtihgjihdmlomaaaDoorJH
import Derived.Lib.ItoaWalk
import Derived.Deep.RegionHeld3
import Derived.Deep.QuietTactic
import Derived.BigQuiet
import Derived.RegionTactic
namespace Go.Proofs.YtihgjihdmlomaaaDoor
open Go.RowKit ArgK
set_option linter.unusedVariables false

theorem scanV_spec : ∀ (l : List UInt8) (a k v : Nat), ((scanV a k v l).2.2 = 0 → ∃ n : Nat, (scanV a k v l).2.1 = n ∧ a + k < n ∧ n ≤ a + k + l.length)
  | [], a, k, v, h => by simp [scanV] at h
  | c :: r, a, k, v, h => by
    unfold scanV at h ⊢
    split
    · next h1 => rw [if_pos h1] at h; simp at h
    · next h1 =>
      rw [if_neg h1] at h
      split
      · next h2 =>
        rw [if_pos h2] at h
        split
        · next h3 => rw [if_pos h3] at h; simp at h
        · exact ⟨_, rfl, by omega, by simp⟩
      · next h2 =>
        rw [if_neg h2] at h
        obtain ⟨n, e, h4, h5⟩ := scanV_spec r a (k + 1) _ h
        exact ⟨n, e, by omega, by simp; omega⟩
theorem varR_next (b : List UInt8) (a : Nat) (h : (varR b a).2.2 = 0) : ∃ n : Nat, (varR b a).2.1 = n ∧ a < n ∧ n ≤ b.length := by
  unfold varR at h ⊢
  split
  · next h1 => rw [if_pos h1] at h; simp at h
  · next h1 =>
    rw [if_neg h1] at h
    obtain ⟨n, e, h2, h3⟩ := scanV_spec _ _ _ _ h
    refine ⟨n, e, by simpa using h2, ?_⟩
    simp only [List.length_drop, Int.toNat_natCast] at h3
    omega

theorem scanV_lt : ∀ (l : List UInt8) (a k v : Nat), k ≤ 9 → v < 2 ^ (7 * k) → (scanV a k v l).1 < 18446744073709551616
  | [], a, k, v, hk, hv => by simp [scanV]
  | c :: r, a, k, v, hk, hv => by
    unfold scanV
    split
    · simp
    · next h1 =>
      have h9 : k = 9 → c.toNat % 128 ≤ 1 := fun h => by
        have : ¬ 1 < c.toNat := fun h' => h1 ⟨h, h'⟩
        omega
      have hB := var_bound k v (c.toNat % 128) hk hv (by omega) h9
      split
      · split
        · simp
        · exact hB.2.1
      · next h2 =>
        have hk9 : k < 9 := by
          rcases Nat.lt_or_ge k 9 with h | h
          · exact h
          · exfalso
            have h3 : k = 9 := by omega
            have : ¬ 1 < c.toNat := fun h' => h1 ⟨h3, h'⟩
            omega
        exact scanV_lt r a (k + 1) _ (by omega) (hB.2.2 hk9)
theorem varR_lt (l : List UInt8) (a : Int) : (varR l a).1 < 18446744073709551616 := by
  unfold varR
  split
  · simp
  · exact scanV_lt _ _ 0 0 (by omega) (by simp)

/-- A number read; a text read: from a place (none: it has failed before). -/
def numS (b : List UInt8) (most : Nat) : Option Nat → Option Nat × Nat
  | none => (none, 0)
  | some a => if (varR b a).2.2 = 0 ∧ (varR b a).1 ≤ most then (some (varR b a).2.1.toNat, (varR b a).1) else (none, 0)
def txtS (b : List UInt8) (n : Nat) : Option Nat → Option Nat × List UInt8
  | none => (none, [])
  | some a => if n ≤ b.length - a then (some (a + n), (b.drop a).take n) else (none, [])

def leftS (n : Nat) : Option Nat → Bool
  | none => false
  | some a => decide (a < n)

/-- The reader in memory. -/
def Rk (w : World) (r : Nat) (b : ByteArray) (s : Option Nat) : Prop :=
  ∃ a : Nat, a ≤ b.size ∧ w.heap[r]? = some (.cells #[.string b, .int .i64 a, .bool s.isNone] 122 (0, 0)) ∧ ∀ x, s = some x → x = a
theorem Rk.lt {w : World} {r : Nat} {b : ByteArray} {s : Option Nat} (h : Rk w r b s) : r < w.heap.size := by
  obtain ⟨a, _, h, _⟩ := h
  exact (Array.getElem?_eq_some_iff.1 h).1
theorem Rk.keep {w w' : World} {r : Nat} {b : ByteArray} {s : Option Nat} (h : Rk w r b s) (e : w'.heap[r]? = w.heap[r]?) : Rk w' r b s := by
  obtain ⟨a, h1, h2, h3⟩ := h
  exact ⟨a, h1, e.trans h2, h3⟩
theorem rk_cells {w : World} {T : TypeId} {r : Nat} {b : ByteArray} {a : Int} {d : Bool} (h : w.heap[r]? = some (.cells #[.string b, .int .i64 a, .bool d] T (0, 0))) :
    w.cell? ⟨r, 0, none⟩ = some (.string b) ∧ w.cell? ⟨r, 1, none⟩ = some (.int .i64 a) ∧ w.cell? ⟨r, 2, none⟩ = some (.bool d) ∧ w.frozen? ⟨r, 1, none⟩ = false ∧ w.frozen? ⟨r, 2, none⟩ = false := by
  simp [World.cell?, World.frozen?, h]
theorem rk_set1 {w : World} {T : TypeId} {r : Nat} {b : ByteArray} {a : Int} {d : Bool} (h : w.heap[r]? = some (.cells #[.string b, .int .i64 a, .bool d] T (0, 0))) (a' : Int) : (w.setCell ⟨r, 1, none⟩ (.int .i64 a')).heap[r]? = some (.cells #[.string b, .int .i64 a', .bool d] T (0, 0)) := by
  simp [World.setCell, Array.getElem?_modify, h]
theorem rk_set2 {w : World} {T : TypeId} {r : Nat} {b : ByteArray} {a : Int} {d : Bool} (h : w.heap[r]? = some (.cells #[.string b, .int .i64 a, .bool d] T (0, 0))) (d' : Bool) : (w.setCell ⟨r, 2, none⟩ (.bool d')).heap[r]? = some (.cells #[.string b, .int .i64 a, .bool d'] T (0, 0)) := by
  simp [World.setCell, Array.getElem?_modify, h]

set_option maxRecDepth 100000 in
set_option maxHeartbeats 1000000 in
theorem rnumber_calls (most : Nat) (hm : most ≤ 9223372036854775807) (r : Nat) (b : ByteArray) (hb : b.size ≤ 4611686018427387904) (s : Option Nat) (w : World) (h : Rk w r b s) :
    Calls Tryd.prog 68 #[.pointer (some ⟨r, 0, none⟩), .int .i64 most] w fun x w' => x = .returned (.int .i64 ((numS b.data.toList most s).2 : Nat)) ∧ Rk w' r b (numS b.data.toList most s).1 ∧ w.grownBy w' (some r) := by
  obtain ⟨a, ha, hc, hs⟩ := h
  cases s with
  | none =>
    obtain ⟨c0, c1, c2, f1, f2⟩ := rk_cells hc
    have H : Hid (Rk w r b none) := Lib.hid ⟨a, ha, hc, fun x e => by cases e⟩
    clear hc hs
    simp only [numS]
    go_enter Tryd.func68, Tryd.ntmps68
    go_wp2
    go_ret
    exact ⟨rfl, H.out, grown_refl _ _⟩
  | some x =>
    obtain rfl := hs x rfl
    obtain ⟨v, nx, f, hv⟩ : ∃ v nx f, varR b.data.toList x = (v, nx, f) := ⟨_, _, _, rfl⟩
    have hv64 : v < 18446744073709551616 := by have := varR_lt b.data.toList x; rw [hv] at this; exact this
    have hnx : f = 0 → ∃ n : Nat, nx = n ∧ n ≤ b.size := fun e => by
      obtain ⟨n, e1, _, e2⟩ := varR_next b.data.toList x (by rw [hv]; exact e)
      rw [hv] at e1
      exact ⟨n, e1, e2⟩
    have CV := Var_calls b hb x
    simp only [hv] at CV
    have HCV := Lib.hid CV
    obtain ⟨c0, c1, c2, f1, f2⟩ := rk_cells hc
    have HC := Lib.hid hc
    have hwm : IntKind.u64.wrap (most : Int) = (most : Int) := by rw [IntKind.wrap_u64]; omega
    by_cases h0 : f = 0
    · subst h0
      obtain ⟨n, rfl, hn⟩ := hnx rfl
      by_cases h1 : v ≤ most
      · have e : numS b.data.toList most (some x) = (some n, v) := by simp [numS, hv, h1]
        rw [e]
        have hd : decide ((most : Int) < (v : Int)) = false := by simp; omega
        have hwv : IntKind.i64.wrap (v : Int) = (v : Int) := by rw [IntKind.wrap_i64]; omega
        clear hc CV hv e
        go_enter Tryd.func68, Tryd.ntmps68
        go_wp2
        go_quiet ((go_at_call 94; exact quiet_left (HCV.out _)))
        have H2 : Hid (Rk ((w.drewN nq).setCell ⟨r, 1, none⟩ (.int .i64 n)) r b (some n)) := Lib.hid ⟨n, hn, rk_set1 (w := w.drewN nq) HC.out n, fun y e => by cases e; rfl⟩
        have HG := Lib.hid (grown_set (grown_drewN (grown_refl w (some r)) nq) 1 (.int .i64 (n : Int)))
        have g1 : (w.drewN nq).frozen? ⟨r, 1, none⟩ = false := f1
        have g2 : (w.drewN nq).cell? ⟨r, 1, none⟩ = some (.int .i64 x) := c1
        clear c0 c1 c2 f1 f2
        go_wp2
        go_ret
        exact ⟨rfl, H2.out, HG.out⟩
      · have e : numS b.data.toList most (some x) = (none, 0) := by simp [numS, hv, h1]
        rw [e]
        have hd : decide ((most : Int) < (v : Int)) = true := by simp; omega
        clear hc CV hv e
        go_enter Tryd.func68, Tryd.ntmps68
        go_wp2
        go_quiet ((go_at_call 94; exact quiet_left (HCV.out _)))
        have H2 : Hid (Rk ((w.drewN nq).setCell ⟨r, 2, none⟩ (.bool true)) r b none) := Lib.hid ⟨x, ha, rk_set2 (w := w.drewN nq) HC.out true, fun y e => by cases e⟩
        have HG := Lib.hid (grown_set (grown_drewN (grown_refl w (some r)) nq) 2 (.bool true))
        have g1 : (w.drewN nq).frozen? ⟨r, 2, none⟩ = false := f2
        have g2 : (w.drewN nq).cell? ⟨r, 2, none⟩ = some (.bool false) := c2
        clear c0 c1 c2 f1 f2
        go_wp2
        go_ret
        exact ⟨rfl, H2.out, HG.out⟩
    · have e : numS b.data.toList most (some x) = (none, 0) := by simp [numS, hv, h0]
      rw [e]
      have hd : (f != 0) = true := by rw [bne_iff_ne]; exact h0
      clear hc CV hv e h0 hnx
      go_enter Tryd.func68, Tryd.ntmps68
      go_wp2
      go_quiet ((go_at_call 94; exact quiet_left (HCV.out _)))
      have H2 : Hid (Rk ((w.drewN nq).setCell ⟨r, 2, none⟩ (.bool true)) r b none) := Lib.hid ⟨x, ha, rk_set2 (w := w.drewN nq) HC.out true, fun y e => by cases e⟩
      have HG := Lib.hid (grown_set (grown_drewN (grown_refl w (some r)) nq) 2 (.bool true))
      have g1 : (w.drewN nq).frozen? ⟨r, 2, none⟩ = false := f2
      have g2 : (w.drewN nq).cell? ⟨r, 2, none⟩ = some (.bool false) := c2
      clear c0 c1 c2 f1 f2
      go_wp2
      go_ret
      exact ⟨rfl, H2.out, HG.out⟩

set_option maxRecDepth 100000 in
set_option maxHeartbeats 1000000 in
theorem rleft_calls (r : Nat) (b : ByteArray) (hb : b.size ≤ 4611686018427387904) (s : Option Nat) (w : World) (h : Rk w r b s) :
    Calls Tryd.prog 69 #[.pointer (some ⟨r, 0, none⟩)] w fun x w' => x = .returned (.bool (leftS b.size s)) ∧ ∃ n, w' = w.drewN n := by
  obtain ⟨a, ha, hc, hs⟩ := h
  obtain ⟨c0, c1, c2, f1, f2⟩ := rk_cells hc
  cases s with
  | none =>
    clear hc hs
    go_enter Tryd.func69, Tryd.ntmps69
    go_wp2
    go_quiet (fail)
    go_wp2
    go_ret
    exact ⟨rfl, _, rfl⟩
  | some x =>
    obtain rfl := hs x rfl
    clear hc hs
    go_enter Tryd.func69, Tryd.ntmps69
    go_wp2
    go_quiet (fail)
    go_wp2
    go_ret
    exact ⟨rfl, _, rfl⟩

set_option maxRecDepth 100000 in
set_option maxHeartbeats 1000000 in
theorem rtext_calls (n : Nat) (hn : n ≤ 1000000) (r : Nat) (b : ByteArray) (hb : b.size ≤ 4611686018427387904) (s : Option Nat) (w : World) (h : Rk w r b s) :
    Calls Tryd.prog 71 #[.pointer (some ⟨r, 0, none⟩), .int .i64 n] w fun x w' => x = .returned (.string ⟨(txtS b.data.toList n s).2.toArray⟩) ∧ Rk w' r b (txtS b.data.toList n s).1 ∧ w.grownBy w' (some r) := by
  obtain ⟨a, ha, hc, hs⟩ := h
  obtain ⟨c0, c1, c2, f1, f2⟩ := rk_cells hc
  cases s with
  | none =>
    have H2 : Hid (∀ q, Rk ((w.drewN q).setCell ⟨r, 2, none⟩ (.bool true)) r b none) := Lib.hid (fun q => ⟨a, ha, rk_set2 (w := w.drewN q) hc true, fun y e => by cases e⟩)
    clear hc hs
    simp only [txtS]
    go_enter Tryd.func71, Tryd.ntmps71
    go_wp2
    go_quiet (fail)
    have HG := Lib.hid (grown_set (grown_drewN (grown_refl w (some r)) nq) 2 (.bool true))
    have g1 : (w.drewN nq).frozen? ⟨r, 2, none⟩ = false := f2
    have g2 : (w.drewN nq).cell? ⟨r, 2, none⟩ = some (.bool true) := c2
    clear c0 c1 c2 f1 f2
    go_wp2
    go_ret
    exact ⟨rfl, H2.out nq, HG.out⟩
  | some x =>
    obtain rfl := hs x rfl
    have hlen : b.data.toList.length = b.size := rfl
    by_cases h0 : n ≤ b.size - x
    · have e : txtS b.data.toList n (some x) = (some (x + n), (b.data.toList.drop x).take n) := by simp only [txtS]; rw [if_pos (by rw [hlen]; exact h0)]
      rw [e]
      have hd : decide ((b.size : Int) - (x : Int) < (n : Int)) = false := by simp; omega
      have hw1 : IntKind.i64.wrap ((b.size : Int) - (x : Int)) = (b.size : Int) - (x : Int) := by rw [IntKind.wrap_i64]; omega
      have hw2 : IntKind.i64.wrap ((x : Int) + (n : Int)) = ((x : Int) + (n : Int)) := by rw [IntKind.wrap_i64]; omega
      have hw4 : IntKind.i64.wrap (x : Int) = (x : Int) := by rw [IntKind.wrap_i64]; omega
      have hsl := fun W => run_slice_string (P := Tryd.prog) W 9 b .i64 .i64 (x : Int) ((x : Int) + (n : Int)) Tryd.underlying9 (by omega) (by omega) (by omega)
      rw [show ((x : Int) + (n : Int)).toNat = x + n by omega, show ((x : Int)).toNat = x by omega] at hsl
      have hw3 : IntKind.i64.wrap (((x : Int) + (n : Int)) - (n : Int)) = (x : Int) := by rw [IntKind.wrap_i64]; omega
      have hex : b.extract x (x + n) = ⟨((b.data.toList.drop x).take n).toArray⟩ := by
        rw [ByteArray.ext_iff]
        simp [ByteArray.data_extract, ← Array.toList_inj]
      have HX := Lib.hid hex
      have HC := Lib.hid hc
      have H2 : Hid (∀ q, Rk ((w.drewN q).setCell ⟨r, 1, none⟩ (.int .i64 ((x : Int) + (n : Int)))) r b (some (x + n))) := Lib.hid (fun q => ⟨x + n, by omega, by rw [Int.natCast_add]; exact rk_set1 (w := w.drewN q) hc _, fun y e => by cases e; rfl⟩)
      clear hc hs e hex
      go_enter Tryd.func71, Tryd.ntmps71
      go_wp2
      go_quiet (fail)
      have HG := Lib.hid (grown_set (grown_drewN (grown_refl w (some r)) nq) 1 (.int .i64 ((x : Int) + (n : Int))))
      have g1 : (w.drewN nq).frozen? ⟨r, 1, none⟩ = false := f1
      have g2 : (w.drewN nq).cell? ⟨r, 1, none⟩ = some (.int .i64 x) := c1
      have h2 := H2.out nq
      obtain ⟨e0, e1, e2, e3, e4⟩ := rk_cells (rk_set1 (w := w.drewN nq) HC.out ((x : Int) + (n : Int)))
      have hxn : x + n ≤ b.size := by omega
      clear c0 c1 c2 f1 f2 hd H2
      go_wp2
      generalize (w.drewN nq).setCell ⟨r, 1, none⟩ (.int .i64 ((x : Int) + (n : Int))) = w2 at *
      have HR2 := Lib.hid h2
      have l1 : (0 : Int) ≤ (x : Int) := by omega
      have l2 : (x : Int) ≤ ((x : Int) + (n : Int)) := by omega
      have l3 : ((x : Int) + (n : Int)) ≤ (b.size : Int) := by omega
      clear h2 g1 g2
      go_quiet (fail)
      go_wp2
      go_ret
      exact ⟨by rw [← HX.out]; rfl, HR2.out.keep rfl, grown_drewN HG.out nq⟩
    · have e : txtS b.data.toList n (some x) = (none, []) := by simp only [txtS]; rw [if_neg (by rw [hlen]; exact h0)]
      rw [e]
      have hd : decide ((b.size : Int) - (x : Int) < (n : Int)) = true := by simp; omega
      have hw1 : IntKind.i64.wrap ((b.size : Int) - (x : Int)) = (b.size : Int) - (x : Int) := by rw [IntKind.wrap_i64]; omega
      have H2 : Hid (∀ q, Rk ((w.drewN q).setCell ⟨r, 2, none⟩ (.bool true)) r b none) := Lib.hid (fun q => ⟨x, ha, rk_set2 (w := w.drewN q) hc true, fun y e => by cases e⟩)
      clear hc hs e
      go_enter Tryd.func71, Tryd.ntmps71
      go_wp2
      go_quiet (fail)
      have HG := Lib.hid (grown_set (grown_drewN (grown_refl w (some r)) nq) 2 (.bool true))
      have g1 : (w.drewN nq).frozen? ⟨r, 2, none⟩ = false := f2
      have g2 : (w.drewN nq).cell? ⟨r, 2, none⟩ = some (.bool false) := c2
      clear c0 c1 c2 f1 f2
      go_wp2
      go_ret
      exact ⟨rfl, H2.out nq, HG.out⟩
end Go.Proofs.YtihgjihdmlomaaaDoor
