/-
  WALKS: the document's Tell: does a reply fit its operation? (Printed by fitsgen.py.)
-/
import Derived.Test.YtabhjkaheghbhaaGoes
import Derived.Deep.DeepCutAuto
namespace Go.Proofs.Ytabhjkaheghbhaa
open Go.RowKit
set_option linter.unusedVariables false

/-- Something stands in a reply that its operation does not name. -/
def fitsF (T N H ok : Bool) (n : Int) (t : ByteArray) (m : Nat) : Bool := (!(T && ok) && !t.toList.isEmpty) || (!(N && ok) && n != 0) || (!(H && ok) && decide (0 < m))
/-- The refusal of a reply, but its hits. -/
def fitsE (op code n : Int) (t : ByteArray) (m : Nat) : Int :=
  if ¬ (1 ≤ op ∧ op ≤ 9) then 35 else if code < 0 ∨ 999 < code then 13
  else if fitsF (tls op).1 (tls op).2.1 (tls op).2.2 (code == 0) n t m then 32 else if n < 0 then 13 else if 65536 < t.size then 36 else 0
def fitsO (T N H ok : Bool) (n : Int) (t : ByteArray) (m : Nat) : Int := if fitsF T N H ok n t m then 32 else if n < 0 then 13 else if 65536 < t.size then 36 else 0

set_option maxRecDepth 100000 in
set_option maxHeartbeats 1000000 in
theorem fits_s0 (op : Int) (hop : 1 ≤ op ∧ op ≤ 9) (hk : tls op = (false, false, false)) (code n : Int) (hco : 0 ≤ code ∧ code ≤ 999) (hok : (code == 0) = false) (t : ByteArray) (p : Option Addr) (m cap : Nat) (w : World) :
    Calls Try.prog 36 #[.int .i64 op, .agg #[.int .i64 code, .int .i64 n, .string t, .slice p m cap]] w fun x w' => x = .returned (.int .i64 (fitsO false false false false n t m)) ∧ Below w.heap.size w w' := by
  have TE := Lib.hid (fun W => tells_calls op W)
  rw [hk] at TE
  have o1 : decide (op < 1) = false := by simp; omega
  have o2 : decide (9 < op) = false := by simp; omega
  have d1 : decide (code < 0) = false := by simp; omega
  have d2 : decide (999 < code) = false := by simp; omega
  have HB := Lib.hid ((Below.refl w.heap.size w).alloc (Nat.le_refl _) (.cells #[.int .i64 code, .int .i64 n, .string t, .slice p m cap] 33))
  have HQ := Lib.hid (Rp.new w code n t (.slice p m cap))
  obtain ⟨res, hres⟩ : ∃ res, fitsO false false false false n t m = res := ⟨_, rfl⟩
  rw [hres]
  unfold fitsO at hres
  clear hk hop hco
  go_enter Try.func36, Try.ntmps36
  go_wp2_with fail
  refine (TE.out _).mono ?_
  rintro x y ⟨rfl, rfl⟩
  generalize w.alloc (.cells #[.int .i64 code, .int .i64 n, .string t, .slice p m cap] 33) = w1 at HB HQ ⊢
  obtain ⟨q0, q1, q2, q3, qf⟩ := HQ.out.cells
  clear qf
  obtain ⟨fb, hfb⟩ : ∃ fb, fitsF false false false false n t m = fb := ⟨_, rfl⟩
  rw [hfb] at hres
  unfold fitsF at hfb
  go_upto_region 7 with fail
  go_cut [66] (fun s66 wx => s66 = .bool fb ∧ wx = w1)
  case first =>
    clear hres
    by_cases zt : t.toList.isEmpty = true
    · skip
      have yt : t.toList.isEmpty = true := by simpa using zt
      by_cases zn : n = 0
      · skip
        have yn : (n != 0) = false := by rw [bne_eq_false_iff_eq]; exact zn
        by_cases zh : m = 0
        · skip
          have yh : decide (0 < (m : Int)) = false := by simp; omega
          have yh2 : decide (0 < m) = false := by simp; omega
          have hfc : fb = false := by rw [← hfb]; simp [zt, zn, zh]
          subst hfc
          clear zt zn zh
          go_wp2_with fail
          go_meet
          exact ⟨rfl, rfl⟩
        · skip
          have yh : decide (0 < (m : Int)) = true := by simp; omega
          have yh2 : decide (0 < m) = true := by simp; omega
          have hfc : fb = true := by rw [← hfb]; simp [zt, zn, yh2]
          subst hfc
          clear zt zn zh
          go_wp2_with fail
          go_meet
          exact ⟨rfl, rfl⟩
      · skip
        have yn : (n != 0) = true := by rw [bne_iff_ne]; exact zn
        have hfc : fb = true := by rw [← hfb]; simp [zt, zn]
        subst hfc
        clear zt zn
        go_wp2_with fail
        go_meet
        exact ⟨rfl, rfl⟩
    · skip
      have yt : t.toList.isEmpty = false := by simpa using zt
      have hfc : fb = true := by rw [← hfb]; simp [zt]
      subst hfc
      clear zt
      go_wp2_with fail
      go_meet
      exact ⟨rfl, rfl⟩
  case rest =>
    obtain ⟨rfl, rfl⟩ := hcut
    clear hfb
    cases fb
    · rw [if_neg (by decide)] at hres
      by_cases ln : n < 0
      · have dn : decide (n < 0) = true := by simpa using ln
        rw [if_pos ln] at hres
        subst hres
        clear ln
        go_wp2
        go_ret
        exact ⟨rfl, HB.out⟩
      have dn : decide (n < 0) = false := by simpa using ln
      rw [if_neg ln] at hres
      by_cases lt : 65536 < t.size
      · have dt : decide (65536 < (t.size : Int)) = true := by simp; omega
        rw [if_pos lt] at hres
        subst hres
        clear ln lt
        go_wp2
        go_ret
        exact ⟨rfl, HB.out⟩
      have dt : decide (65536 < (t.size : Int)) = false := by simp; omega
      rw [if_neg lt] at hres
      subst hres
      clear ln lt
      go_wp2
      go_ret
      exact ⟨rfl, HB.out⟩
    · rw [if_pos rfl] at hres
      subst hres
      go_wp2
      go_ret
      exact ⟨rfl, HB.out⟩

set_option maxRecDepth 100000 in
set_option maxHeartbeats 1000000 in
theorem fits_s1 (op : Int) (hop : 1 ≤ op ∧ op ≤ 9) (hk : tls op = (false, false, false)) (code n : Int) (hco : 0 ≤ code ∧ code ≤ 999) (hok : (code == 0) = true) (t : ByteArray) (p : Option Addr) (m cap : Nat) (w : World) :
    Calls Try.prog 36 #[.int .i64 op, .agg #[.int .i64 code, .int .i64 n, .string t, .slice p m cap]] w fun x w' => x = .returned (.int .i64 (fitsO false false false true n t m)) ∧ Below w.heap.size w w' := by
  have TE := Lib.hid (fun W => tells_calls op W)
  rw [hk] at TE
  have o1 : decide (op < 1) = false := by simp; omega
  have o2 : decide (9 < op) = false := by simp; omega
  have d1 : decide (code < 0) = false := by simp; omega
  have d2 : decide (999 < code) = false := by simp; omega
  have HB := Lib.hid ((Below.refl w.heap.size w).alloc (Nat.le_refl _) (.cells #[.int .i64 code, .int .i64 n, .string t, .slice p m cap] 33))
  have HQ := Lib.hid (Rp.new w code n t (.slice p m cap))
  obtain ⟨res, hres⟩ : ∃ res, fitsO false false false true n t m = res := ⟨_, rfl⟩
  rw [hres]
  unfold fitsO at hres
  clear hk hop hco
  go_enter Try.func36, Try.ntmps36
  go_wp2_with fail
  refine (TE.out _).mono ?_
  rintro x y ⟨rfl, rfl⟩
  generalize w.alloc (.cells #[.int .i64 code, .int .i64 n, .string t, .slice p m cap] 33) = w1 at HB HQ ⊢
  obtain ⟨q0, q1, q2, q3, qf⟩ := HQ.out.cells
  clear qf
  obtain ⟨fb, hfb⟩ : ∃ fb, fitsF false false false true n t m = fb := ⟨_, rfl⟩
  rw [hfb] at hres
  unfold fitsF at hfb
  go_upto_region 7 with fail
  go_cut [66] (fun s66 wx => s66 = .bool fb ∧ wx = w1)
  case first =>
    clear hres
    by_cases zt : t.toList.isEmpty = true
    · skip
      have yt : t.toList.isEmpty = true := by simpa using zt
      by_cases zn : n = 0
      · skip
        have yn : (n != 0) = false := by rw [bne_eq_false_iff_eq]; exact zn
        by_cases zh : m = 0
        · skip
          have yh : decide (0 < (m : Int)) = false := by simp; omega
          have yh2 : decide (0 < m) = false := by simp; omega
          have hfc : fb = false := by rw [← hfb]; simp [zt, zn, zh]
          subst hfc
          clear zt zn zh
          go_wp2_with fail
          go_meet
          exact ⟨rfl, rfl⟩
        · skip
          have yh : decide (0 < (m : Int)) = true := by simp; omega
          have yh2 : decide (0 < m) = true := by simp; omega
          have hfc : fb = true := by rw [← hfb]; simp [zt, zn, yh2]
          subst hfc
          clear zt zn zh
          go_wp2_with fail
          go_meet
          exact ⟨rfl, rfl⟩
      · skip
        have yn : (n != 0) = true := by rw [bne_iff_ne]; exact zn
        have hfc : fb = true := by rw [← hfb]; simp [zt, zn]
        subst hfc
        clear zt zn
        go_wp2_with fail
        go_meet
        exact ⟨rfl, rfl⟩
    · skip
      have yt : t.toList.isEmpty = false := by simpa using zt
      have hfc : fb = true := by rw [← hfb]; simp [zt]
      subst hfc
      clear zt
      go_wp2_with fail
      go_meet
      exact ⟨rfl, rfl⟩
  case rest =>
    obtain ⟨rfl, rfl⟩ := hcut
    clear hfb
    cases fb
    · rw [if_neg (by decide)] at hres
      by_cases ln : n < 0
      · have dn : decide (n < 0) = true := by simpa using ln
        rw [if_pos ln] at hres
        subst hres
        clear ln
        go_wp2
        go_ret
        exact ⟨rfl, HB.out⟩
      have dn : decide (n < 0) = false := by simpa using ln
      rw [if_neg ln] at hres
      by_cases lt : 65536 < t.size
      · have dt : decide (65536 < (t.size : Int)) = true := by simp; omega
        rw [if_pos lt] at hres
        subst hres
        clear ln lt
        go_wp2
        go_ret
        exact ⟨rfl, HB.out⟩
      have dt : decide (65536 < (t.size : Int)) = false := by simp; omega
      rw [if_neg lt] at hres
      subst hres
      clear ln lt
      go_wp2
      go_ret
      exact ⟨rfl, HB.out⟩
    · rw [if_pos rfl] at hres
      subst hres
      go_wp2
      go_ret
      exact ⟨rfl, HB.out⟩

set_option maxRecDepth 100000 in
set_option maxHeartbeats 1000000 in
theorem fits_t0 (op : Int) (hop : 1 ≤ op ∧ op ≤ 9) (hk : tls op = (true, false, false)) (code n : Int) (hco : 0 ≤ code ∧ code ≤ 999) (hok : (code == 0) = false) (t : ByteArray) (p : Option Addr) (m cap : Nat) (w : World) :
    Calls Try.prog 36 #[.int .i64 op, .agg #[.int .i64 code, .int .i64 n, .string t, .slice p m cap]] w fun x w' => x = .returned (.int .i64 (fitsO true false false false n t m)) ∧ Below w.heap.size w w' := by
  have TE := Lib.hid (fun W => tells_calls op W)
  rw [hk] at TE
  have o1 : decide (op < 1) = false := by simp; omega
  have o2 : decide (9 < op) = false := by simp; omega
  have d1 : decide (code < 0) = false := by simp; omega
  have d2 : decide (999 < code) = false := by simp; omega
  have HB := Lib.hid ((Below.refl w.heap.size w).alloc (Nat.le_refl _) (.cells #[.int .i64 code, .int .i64 n, .string t, .slice p m cap] 33))
  have HQ := Lib.hid (Rp.new w code n t (.slice p m cap))
  obtain ⟨res, hres⟩ : ∃ res, fitsO true false false false n t m = res := ⟨_, rfl⟩
  rw [hres]
  unfold fitsO at hres
  clear hk hop hco
  go_enter Try.func36, Try.ntmps36
  go_wp2_with fail
  refine (TE.out _).mono ?_
  rintro x y ⟨rfl, rfl⟩
  generalize w.alloc (.cells #[.int .i64 code, .int .i64 n, .string t, .slice p m cap] 33) = w1 at HB HQ ⊢
  obtain ⟨q0, q1, q2, q3, qf⟩ := HQ.out.cells
  clear qf
  obtain ⟨fb, hfb⟩ : ∃ fb, fitsF true false false false n t m = fb := ⟨_, rfl⟩
  rw [hfb] at hres
  unfold fitsF at hfb
  go_upto_region 7 with fail
  go_cut [66] (fun s66 wx => s66 = .bool fb ∧ wx = w1)
  case first =>
    clear hres
    by_cases zt : t.toList.isEmpty = true
    · skip
      have yt : t.toList.isEmpty = true := by simpa using zt
      by_cases zn : n = 0
      · skip
        have yn : (n != 0) = false := by rw [bne_eq_false_iff_eq]; exact zn
        by_cases zh : m = 0
        · skip
          have yh : decide (0 < (m : Int)) = false := by simp; omega
          have yh2 : decide (0 < m) = false := by simp; omega
          have hfc : fb = false := by rw [← hfb]; simp [zt, zn, zh]
          subst hfc
          clear zt zn zh
          go_wp2_with fail
          go_meet
          exact ⟨rfl, rfl⟩
        · skip
          have yh : decide (0 < (m : Int)) = true := by simp; omega
          have yh2 : decide (0 < m) = true := by simp; omega
          have hfc : fb = true := by rw [← hfb]; simp [zt, zn, yh2]
          subst hfc
          clear zt zn zh
          go_wp2_with fail
          go_meet
          exact ⟨rfl, rfl⟩
      · skip
        have yn : (n != 0) = true := by rw [bne_iff_ne]; exact zn
        have hfc : fb = true := by rw [← hfb]; simp [zt, zn]
        subst hfc
        clear zt zn
        go_wp2_with fail
        go_meet
        exact ⟨rfl, rfl⟩
    · skip
      have yt : t.toList.isEmpty = false := by simpa using zt
      have hfc : fb = true := by rw [← hfb]; simp [zt]
      subst hfc
      clear zt
      go_wp2_with fail
      go_meet
      exact ⟨rfl, rfl⟩
  case rest =>
    obtain ⟨rfl, rfl⟩ := hcut
    clear hfb
    cases fb
    · rw [if_neg (by decide)] at hres
      by_cases ln : n < 0
      · have dn : decide (n < 0) = true := by simpa using ln
        rw [if_pos ln] at hres
        subst hres
        clear ln
        go_wp2
        go_ret
        exact ⟨rfl, HB.out⟩
      have dn : decide (n < 0) = false := by simpa using ln
      rw [if_neg ln] at hres
      by_cases lt : 65536 < t.size
      · have dt : decide (65536 < (t.size : Int)) = true := by simp; omega
        rw [if_pos lt] at hres
        subst hres
        clear ln lt
        go_wp2
        go_ret
        exact ⟨rfl, HB.out⟩
      have dt : decide (65536 < (t.size : Int)) = false := by simp; omega
      rw [if_neg lt] at hres
      subst hres
      clear ln lt
      go_wp2
      go_ret
      exact ⟨rfl, HB.out⟩
    · rw [if_pos rfl] at hres
      subst hres
      go_wp2
      go_ret
      exact ⟨rfl, HB.out⟩

set_option maxRecDepth 100000 in
set_option maxHeartbeats 1000000 in
theorem fits_t1 (op : Int) (hop : 1 ≤ op ∧ op ≤ 9) (hk : tls op = (true, false, false)) (code n : Int) (hco : 0 ≤ code ∧ code ≤ 999) (hok : (code == 0) = true) (t : ByteArray) (p : Option Addr) (m cap : Nat) (w : World) :
    Calls Try.prog 36 #[.int .i64 op, .agg #[.int .i64 code, .int .i64 n, .string t, .slice p m cap]] w fun x w' => x = .returned (.int .i64 (fitsO true false false true n t m)) ∧ Below w.heap.size w w' := by
  have TE := Lib.hid (fun W => tells_calls op W)
  rw [hk] at TE
  have o1 : decide (op < 1) = false := by simp; omega
  have o2 : decide (9 < op) = false := by simp; omega
  have d1 : decide (code < 0) = false := by simp; omega
  have d2 : decide (999 < code) = false := by simp; omega
  have HB := Lib.hid ((Below.refl w.heap.size w).alloc (Nat.le_refl _) (.cells #[.int .i64 code, .int .i64 n, .string t, .slice p m cap] 33))
  have HQ := Lib.hid (Rp.new w code n t (.slice p m cap))
  obtain ⟨res, hres⟩ : ∃ res, fitsO true false false true n t m = res := ⟨_, rfl⟩
  rw [hres]
  unfold fitsO at hres
  clear hk hop hco
  go_enter Try.func36, Try.ntmps36
  go_wp2_with fail
  refine (TE.out _).mono ?_
  rintro x y ⟨rfl, rfl⟩
  generalize w.alloc (.cells #[.int .i64 code, .int .i64 n, .string t, .slice p m cap] 33) = w1 at HB HQ ⊢
  obtain ⟨q0, q1, q2, q3, qf⟩ := HQ.out.cells
  clear qf
  obtain ⟨fb, hfb⟩ : ∃ fb, fitsF true false false true n t m = fb := ⟨_, rfl⟩
  rw [hfb] at hres
  unfold fitsF at hfb
  go_upto_region 7 with fail
  go_cut [66] (fun s66 wx => s66 = .bool fb ∧ wx = w1)
  case first =>
    clear hres
    by_cases zn : n = 0
    · skip
      have yn : (n != 0) = false := by rw [bne_eq_false_iff_eq]; exact zn
      by_cases zh : m = 0
      · skip
        have yh : decide (0 < (m : Int)) = false := by simp; omega
        have yh2 : decide (0 < m) = false := by simp; omega
        have hfc : fb = false := by rw [← hfb]; simp [zn, zh]
        subst hfc
        clear zn zh
        go_wp2_with fail
        go_meet
        exact ⟨rfl, rfl⟩
      · skip
        have yh : decide (0 < (m : Int)) = true := by simp; omega
        have yh2 : decide (0 < m) = true := by simp; omega
        have hfc : fb = true := by rw [← hfb]; simp [zn, yh2]
        subst hfc
        clear zn zh
        go_wp2_with fail
        go_meet
        exact ⟨rfl, rfl⟩
    · skip
      have yn : (n != 0) = true := by rw [bne_iff_ne]; exact zn
      have hfc : fb = true := by rw [← hfb]; simp [zn]
      subst hfc
      clear zn
      go_wp2_with fail
      go_meet
      exact ⟨rfl, rfl⟩
  case rest =>
    obtain ⟨rfl, rfl⟩ := hcut
    clear hfb
    cases fb
    · rw [if_neg (by decide)] at hres
      by_cases ln : n < 0
      · have dn : decide (n < 0) = true := by simpa using ln
        rw [if_pos ln] at hres
        subst hres
        clear ln
        go_wp2
        go_ret
        exact ⟨rfl, HB.out⟩
      have dn : decide (n < 0) = false := by simpa using ln
      rw [if_neg ln] at hres
      by_cases lt : 65536 < t.size
      · have dt : decide (65536 < (t.size : Int)) = true := by simp; omega
        rw [if_pos lt] at hres
        subst hres
        clear ln lt
        go_wp2
        go_ret
        exact ⟨rfl, HB.out⟩
      have dt : decide (65536 < (t.size : Int)) = false := by simp; omega
      rw [if_neg lt] at hres
      subst hres
      clear ln lt
      go_wp2
      go_ret
      exact ⟨rfl, HB.out⟩
    · rw [if_pos rfl] at hres
      subst hres
      go_wp2
      go_ret
      exact ⟨rfl, HB.out⟩

set_option maxRecDepth 100000 in
set_option maxHeartbeats 1000000 in
theorem fits_n0 (op : Int) (hop : 1 ≤ op ∧ op ≤ 9) (hk : tls op = (false, true, false)) (code n : Int) (hco : 0 ≤ code ∧ code ≤ 999) (hok : (code == 0) = false) (t : ByteArray) (p : Option Addr) (m cap : Nat) (w : World) :
    Calls Try.prog 36 #[.int .i64 op, .agg #[.int .i64 code, .int .i64 n, .string t, .slice p m cap]] w fun x w' => x = .returned (.int .i64 (fitsO false true false false n t m)) ∧ Below w.heap.size w w' := by
  have TE := Lib.hid (fun W => tells_calls op W)
  rw [hk] at TE
  have o1 : decide (op < 1) = false := by simp; omega
  have o2 : decide (9 < op) = false := by simp; omega
  have d1 : decide (code < 0) = false := by simp; omega
  have d2 : decide (999 < code) = false := by simp; omega
  have HB := Lib.hid ((Below.refl w.heap.size w).alloc (Nat.le_refl _) (.cells #[.int .i64 code, .int .i64 n, .string t, .slice p m cap] 33))
  have HQ := Lib.hid (Rp.new w code n t (.slice p m cap))
  obtain ⟨res, hres⟩ : ∃ res, fitsO false true false false n t m = res := ⟨_, rfl⟩
  rw [hres]
  unfold fitsO at hres
  clear hk hop hco
  go_enter Try.func36, Try.ntmps36
  go_wp2_with fail
  refine (TE.out _).mono ?_
  rintro x y ⟨rfl, rfl⟩
  generalize w.alloc (.cells #[.int .i64 code, .int .i64 n, .string t, .slice p m cap] 33) = w1 at HB HQ ⊢
  obtain ⟨q0, q1, q2, q3, qf⟩ := HQ.out.cells
  clear qf
  obtain ⟨fb, hfb⟩ : ∃ fb, fitsF false true false false n t m = fb := ⟨_, rfl⟩
  rw [hfb] at hres
  unfold fitsF at hfb
  go_upto_region 7 with fail
  go_cut [66] (fun s66 wx => s66 = .bool fb ∧ wx = w1)
  case first =>
    clear hres
    by_cases zt : t.toList.isEmpty = true
    · skip
      have yt : t.toList.isEmpty = true := by simpa using zt
      by_cases zn : n = 0
      · skip
        have yn : (n != 0) = false := by rw [bne_eq_false_iff_eq]; exact zn
        by_cases zh : m = 0
        · skip
          have yh : decide (0 < (m : Int)) = false := by simp; omega
          have yh2 : decide (0 < m) = false := by simp; omega
          have hfc : fb = false := by rw [← hfb]; simp [zt, zn, zh]
          subst hfc
          clear zt zn zh
          go_wp2_with fail
          go_meet
          exact ⟨rfl, rfl⟩
        · skip
          have yh : decide (0 < (m : Int)) = true := by simp; omega
          have yh2 : decide (0 < m) = true := by simp; omega
          have hfc : fb = true := by rw [← hfb]; simp [zt, zn, yh2]
          subst hfc
          clear zt zn zh
          go_wp2_with fail
          go_meet
          exact ⟨rfl, rfl⟩
      · skip
        have yn : (n != 0) = true := by rw [bne_iff_ne]; exact zn
        have hfc : fb = true := by rw [← hfb]; simp [zt, zn]
        subst hfc
        clear zt zn
        go_wp2_with fail
        go_meet
        exact ⟨rfl, rfl⟩
    · skip
      have yt : t.toList.isEmpty = false := by simpa using zt
      have hfc : fb = true := by rw [← hfb]; simp [zt]
      subst hfc
      clear zt
      go_wp2_with fail
      go_meet
      exact ⟨rfl, rfl⟩
  case rest =>
    obtain ⟨rfl, rfl⟩ := hcut
    clear hfb
    cases fb
    · rw [if_neg (by decide)] at hres
      by_cases ln : n < 0
      · have dn : decide (n < 0) = true := by simpa using ln
        rw [if_pos ln] at hres
        subst hres
        clear ln
        go_wp2
        go_ret
        exact ⟨rfl, HB.out⟩
      have dn : decide (n < 0) = false := by simpa using ln
      rw [if_neg ln] at hres
      by_cases lt : 65536 < t.size
      · have dt : decide (65536 < (t.size : Int)) = true := by simp; omega
        rw [if_pos lt] at hres
        subst hres
        clear ln lt
        go_wp2
        go_ret
        exact ⟨rfl, HB.out⟩
      have dt : decide (65536 < (t.size : Int)) = false := by simp; omega
      rw [if_neg lt] at hres
      subst hres
      clear ln lt
      go_wp2
      go_ret
      exact ⟨rfl, HB.out⟩
    · rw [if_pos rfl] at hres
      subst hres
      go_wp2
      go_ret
      exact ⟨rfl, HB.out⟩

set_option maxRecDepth 100000 in
set_option maxHeartbeats 1000000 in
theorem fits_n1 (op : Int) (hop : 1 ≤ op ∧ op ≤ 9) (hk : tls op = (false, true, false)) (code n : Int) (hco : 0 ≤ code ∧ code ≤ 999) (hok : (code == 0) = true) (t : ByteArray) (p : Option Addr) (m cap : Nat) (w : World) :
    Calls Try.prog 36 #[.int .i64 op, .agg #[.int .i64 code, .int .i64 n, .string t, .slice p m cap]] w fun x w' => x = .returned (.int .i64 (fitsO false true false true n t m)) ∧ Below w.heap.size w w' := by
  have TE := Lib.hid (fun W => tells_calls op W)
  rw [hk] at TE
  have o1 : decide (op < 1) = false := by simp; omega
  have o2 : decide (9 < op) = false := by simp; omega
  have d1 : decide (code < 0) = false := by simp; omega
  have d2 : decide (999 < code) = false := by simp; omega
  have HB := Lib.hid ((Below.refl w.heap.size w).alloc (Nat.le_refl _) (.cells #[.int .i64 code, .int .i64 n, .string t, .slice p m cap] 33))
  have HQ := Lib.hid (Rp.new w code n t (.slice p m cap))
  obtain ⟨res, hres⟩ : ∃ res, fitsO false true false true n t m = res := ⟨_, rfl⟩
  rw [hres]
  unfold fitsO at hres
  clear hk hop hco
  go_enter Try.func36, Try.ntmps36
  go_wp2_with fail
  refine (TE.out _).mono ?_
  rintro x y ⟨rfl, rfl⟩
  generalize w.alloc (.cells #[.int .i64 code, .int .i64 n, .string t, .slice p m cap] 33) = w1 at HB HQ ⊢
  obtain ⟨q0, q1, q2, q3, qf⟩ := HQ.out.cells
  clear qf
  obtain ⟨fb, hfb⟩ : ∃ fb, fitsF false true false true n t m = fb := ⟨_, rfl⟩
  rw [hfb] at hres
  unfold fitsF at hfb
  go_upto_region 7 with fail
  go_cut [66] (fun s66 wx => s66 = .bool fb ∧ wx = w1)
  case first =>
    clear hres
    by_cases zt : t.toList.isEmpty = true
    · skip
      have yt : t.toList.isEmpty = true := by simpa using zt
      by_cases zh : m = 0
      · skip
        have yh : decide (0 < (m : Int)) = false := by simp; omega
        have yh2 : decide (0 < m) = false := by simp; omega
        have hfc : fb = false := by rw [← hfb]; simp [zt, zh]
        subst hfc
        clear zt zh
        go_wp2_with fail
        go_meet
        exact ⟨rfl, rfl⟩
      · skip
        have yh : decide (0 < (m : Int)) = true := by simp; omega
        have yh2 : decide (0 < m) = true := by simp; omega
        have hfc : fb = true := by rw [← hfb]; simp [zt, yh2]
        subst hfc
        clear zt zh
        go_wp2_with fail
        go_meet
        exact ⟨rfl, rfl⟩
    · skip
      have yt : t.toList.isEmpty = false := by simpa using zt
      have hfc : fb = true := by rw [← hfb]; simp [zt]
      subst hfc
      clear zt
      go_wp2_with fail
      go_meet
      exact ⟨rfl, rfl⟩
  case rest =>
    obtain ⟨rfl, rfl⟩ := hcut
    clear hfb
    cases fb
    · rw [if_neg (by decide)] at hres
      by_cases ln : n < 0
      · have dn : decide (n < 0) = true := by simpa using ln
        rw [if_pos ln] at hres
        subst hres
        clear ln
        go_wp2
        go_ret
        exact ⟨rfl, HB.out⟩
      have dn : decide (n < 0) = false := by simpa using ln
      rw [if_neg ln] at hres
      by_cases lt : 65536 < t.size
      · have dt : decide (65536 < (t.size : Int)) = true := by simp; omega
        rw [if_pos lt] at hres
        subst hres
        clear ln lt
        go_wp2
        go_ret
        exact ⟨rfl, HB.out⟩
      have dt : decide (65536 < (t.size : Int)) = false := by simp; omega
      rw [if_neg lt] at hres
      subst hres
      clear ln lt
      go_wp2
      go_ret
      exact ⟨rfl, HB.out⟩
    · rw [if_pos rfl] at hres
      subst hres
      go_wp2
      go_ret
      exact ⟨rfl, HB.out⟩

set_option maxRecDepth 100000 in
set_option maxHeartbeats 1000000 in
theorem fits_h0 (op : Int) (hop : 1 ≤ op ∧ op ≤ 9) (hk : tls op = (false, false, true)) (code n : Int) (hco : 0 ≤ code ∧ code ≤ 999) (hok : (code == 0) = false) (t : ByteArray) (p : Option Addr) (m cap : Nat) (w : World) :
    Calls Try.prog 36 #[.int .i64 op, .agg #[.int .i64 code, .int .i64 n, .string t, .slice p m cap]] w fun x w' => x = .returned (.int .i64 (fitsO false false true false n t m)) ∧ Below w.heap.size w w' := by
  have TE := Lib.hid (fun W => tells_calls op W)
  rw [hk] at TE
  have o1 : decide (op < 1) = false := by simp; omega
  have o2 : decide (9 < op) = false := by simp; omega
  have d1 : decide (code < 0) = false := by simp; omega
  have d2 : decide (999 < code) = false := by simp; omega
  have HB := Lib.hid ((Below.refl w.heap.size w).alloc (Nat.le_refl _) (.cells #[.int .i64 code, .int .i64 n, .string t, .slice p m cap] 33))
  have HQ := Lib.hid (Rp.new w code n t (.slice p m cap))
  obtain ⟨res, hres⟩ : ∃ res, fitsO false false true false n t m = res := ⟨_, rfl⟩
  rw [hres]
  unfold fitsO at hres
  clear hk hop hco
  go_enter Try.func36, Try.ntmps36
  go_wp2_with fail
  refine (TE.out _).mono ?_
  rintro x y ⟨rfl, rfl⟩
  generalize w.alloc (.cells #[.int .i64 code, .int .i64 n, .string t, .slice p m cap] 33) = w1 at HB HQ ⊢
  obtain ⟨q0, q1, q2, q3, qf⟩ := HQ.out.cells
  clear qf
  obtain ⟨fb, hfb⟩ : ∃ fb, fitsF false false true false n t m = fb := ⟨_, rfl⟩
  rw [hfb] at hres
  unfold fitsF at hfb
  go_upto_region 7 with fail
  go_cut [66] (fun s66 wx => s66 = .bool fb ∧ wx = w1)
  case first =>
    clear hres
    by_cases zt : t.toList.isEmpty = true
    · skip
      have yt : t.toList.isEmpty = true := by simpa using zt
      by_cases zn : n = 0
      · skip
        have yn : (n != 0) = false := by rw [bne_eq_false_iff_eq]; exact zn
        by_cases zh : m = 0
        · skip
          have yh : decide (0 < (m : Int)) = false := by simp; omega
          have yh2 : decide (0 < m) = false := by simp; omega
          have hfc : fb = false := by rw [← hfb]; simp [zt, zn, zh]
          subst hfc
          clear zt zn zh
          go_wp2_with fail
          go_meet
          exact ⟨rfl, rfl⟩
        · skip
          have yh : decide (0 < (m : Int)) = true := by simp; omega
          have yh2 : decide (0 < m) = true := by simp; omega
          have hfc : fb = true := by rw [← hfb]; simp [zt, zn, yh2]
          subst hfc
          clear zt zn zh
          go_wp2_with fail
          go_meet
          exact ⟨rfl, rfl⟩
      · skip
        have yn : (n != 0) = true := by rw [bne_iff_ne]; exact zn
        have hfc : fb = true := by rw [← hfb]; simp [zt, zn]
        subst hfc
        clear zt zn
        go_wp2_with fail
        go_meet
        exact ⟨rfl, rfl⟩
    · skip
      have yt : t.toList.isEmpty = false := by simpa using zt
      have hfc : fb = true := by rw [← hfb]; simp [zt]
      subst hfc
      clear zt
      go_wp2_with fail
      go_meet
      exact ⟨rfl, rfl⟩
  case rest =>
    obtain ⟨rfl, rfl⟩ := hcut
    clear hfb
    cases fb
    · rw [if_neg (by decide)] at hres
      by_cases ln : n < 0
      · have dn : decide (n < 0) = true := by simpa using ln
        rw [if_pos ln] at hres
        subst hres
        clear ln
        go_wp2
        go_ret
        exact ⟨rfl, HB.out⟩
      have dn : decide (n < 0) = false := by simpa using ln
      rw [if_neg ln] at hres
      by_cases lt : 65536 < t.size
      · have dt : decide (65536 < (t.size : Int)) = true := by simp; omega
        rw [if_pos lt] at hres
        subst hres
        clear ln lt
        go_wp2
        go_ret
        exact ⟨rfl, HB.out⟩
      have dt : decide (65536 < (t.size : Int)) = false := by simp; omega
      rw [if_neg lt] at hres
      subst hres
      clear ln lt
      go_wp2
      go_ret
      exact ⟨rfl, HB.out⟩
    · rw [if_pos rfl] at hres
      subst hres
      go_wp2
      go_ret
      exact ⟨rfl, HB.out⟩

set_option maxRecDepth 100000 in
set_option maxHeartbeats 1000000 in
theorem fits_h1 (op : Int) (hop : 1 ≤ op ∧ op ≤ 9) (hk : tls op = (false, false, true)) (code n : Int) (hco : 0 ≤ code ∧ code ≤ 999) (hok : (code == 0) = true) (t : ByteArray) (p : Option Addr) (m cap : Nat) (w : World) :
    Calls Try.prog 36 #[.int .i64 op, .agg #[.int .i64 code, .int .i64 n, .string t, .slice p m cap]] w fun x w' => x = .returned (.int .i64 (fitsO false false true true n t m)) ∧ Below w.heap.size w w' := by
  have TE := Lib.hid (fun W => tells_calls op W)
  rw [hk] at TE
  have o1 : decide (op < 1) = false := by simp; omega
  have o2 : decide (9 < op) = false := by simp; omega
  have d1 : decide (code < 0) = false := by simp; omega
  have d2 : decide (999 < code) = false := by simp; omega
  have HB := Lib.hid ((Below.refl w.heap.size w).alloc (Nat.le_refl _) (.cells #[.int .i64 code, .int .i64 n, .string t, .slice p m cap] 33))
  have HQ := Lib.hid (Rp.new w code n t (.slice p m cap))
  obtain ⟨res, hres⟩ : ∃ res, fitsO false false true true n t m = res := ⟨_, rfl⟩
  rw [hres]
  unfold fitsO at hres
  clear hk hop hco
  go_enter Try.func36, Try.ntmps36
  go_wp2_with fail
  refine (TE.out _).mono ?_
  rintro x y ⟨rfl, rfl⟩
  generalize w.alloc (.cells #[.int .i64 code, .int .i64 n, .string t, .slice p m cap] 33) = w1 at HB HQ ⊢
  obtain ⟨q0, q1, q2, q3, qf⟩ := HQ.out.cells
  clear qf
  obtain ⟨fb, hfb⟩ : ∃ fb, fitsF false false true true n t m = fb := ⟨_, rfl⟩
  rw [hfb] at hres
  unfold fitsF at hfb
  go_upto_region 7 with fail
  go_cut [66] (fun s66 wx => s66 = .bool fb ∧ wx = w1)
  case first =>
    clear hres
    by_cases zt : t.toList.isEmpty = true
    · skip
      have yt : t.toList.isEmpty = true := by simpa using zt
      by_cases zn : n = 0
      · skip
        have yn : (n != 0) = false := by rw [bne_eq_false_iff_eq]; exact zn
        have hfc : fb = false := by rw [← hfb]; simp [zt, zn]
        subst hfc
        clear zt zn
        go_wp2_with fail
        go_meet
        exact ⟨rfl, rfl⟩
      · skip
        have yn : (n != 0) = true := by rw [bne_iff_ne]; exact zn
        have hfc : fb = true := by rw [← hfb]; simp [zt, zn]
        subst hfc
        clear zt zn
        go_wp2_with fail
        go_meet
        exact ⟨rfl, rfl⟩
    · skip
      have yt : t.toList.isEmpty = false := by simpa using zt
      have hfc : fb = true := by rw [← hfb]; simp [zt]
      subst hfc
      clear zt
      go_wp2_with fail
      go_meet
      exact ⟨rfl, rfl⟩
  case rest =>
    obtain ⟨rfl, rfl⟩ := hcut
    clear hfb
    cases fb
    · rw [if_neg (by decide)] at hres
      by_cases ln : n < 0
      · have dn : decide (n < 0) = true := by simpa using ln
        rw [if_pos ln] at hres
        subst hres
        clear ln
        go_wp2
        go_ret
        exact ⟨rfl, HB.out⟩
      have dn : decide (n < 0) = false := by simpa using ln
      rw [if_neg ln] at hres
      by_cases lt : 65536 < t.size
      · have dt : decide (65536 < (t.size : Int)) = true := by simp; omega
        rw [if_pos lt] at hres
        subst hres
        clear ln lt
        go_wp2
        go_ret
        exact ⟨rfl, HB.out⟩
      have dt : decide (65536 < (t.size : Int)) = false := by simp; omega
      rw [if_neg lt] at hres
      subst hres
      clear ln lt
      go_wp2
      go_ret
      exact ⟨rfl, HB.out⟩
    · rw [if_pos rfl] at hres
      subst hres
      go_wp2
      go_ret
      exact ⟨rfl, HB.out⟩

set_option maxRecDepth 100000 in
theorem fits_none (op : Int) (hop : ¬ (1 ≤ op ∧ op ≤ 9)) (code n : Int) (t : ByteArray) (p : Option Addr) (m cap : Nat) (w : World) :
    Calls Try.prog 36 #[.int .i64 op, .agg #[.int .i64 code, .int .i64 n, .string t, .slice p m cap]] w fun x w' => x = .returned (.int .i64 35) ∧ Below w.heap.size w w' := by
  have HB := Lib.hid ((Below.refl w.heap.size w).alloc (Nat.le_refl _) (.cells #[.int .i64 code, .int .i64 n, .string t, .slice p m cap] 33))
  by_cases h1 : op < 1
  · have o1 : decide (op < 1) = true := by simpa using h1
    go_enter Try.func36, Try.ntmps36
    go_wp2
    go_ret
    exact ⟨rfl, HB.out⟩
  · have o1 : decide (op < 1) = false := by simpa using h1
    have o2 : decide (9 < op) = true := by simp; omega
    go_enter Try.func36, Try.ntmps36
    go_wp2
    go_ret
    exact ⟨rfl, HB.out⟩
set_option maxRecDepth 100000 in
theorem fits_range (op : Int) (hop : 1 ≤ op ∧ op ≤ 9) (code n : Int) (hco : code < 0 ∨ 999 < code) (t : ByteArray) (p : Option Addr) (m cap : Nat) (w : World) :
    Calls Try.prog 36 #[.int .i64 op, .agg #[.int .i64 code, .int .i64 n, .string t, .slice p m cap]] w fun x w' => x = .returned (.int .i64 13) ∧ Below w.heap.size w w' := by
  have HB := Lib.hid ((Below.refl w.heap.size w).alloc (Nat.le_refl _) (.cells #[.int .i64 code, .int .i64 n, .string t, .slice p m cap] 33))
  have o1 : decide (op < 1) = false := by simp; omega
  have o2 : decide (9 < op) = false := by simp; omega
  by_cases h1 : code < 0
  · have d1 : decide (code < 0) = true := by simpa using h1
    go_enter Try.func36, Try.ntmps36
    go_wp2
    go_ret
    exact ⟨rfl, HB.out⟩
  · have d1 : decide (code < 0) = false := by simpa using h1
    have d2 : decide (999 < code) = true := by simp; omega
    clear hco h1
    go_enter Try.func36, Try.ntmps36
    go_wp2
    go_ret
    exact ⟨rfl, HB.out⟩
theorem fits_calls (op code n : Int) (t : ByteArray) (p : Option Addr) (m cap : Nat) (w : World) :
    Calls Try.prog 36 #[.int .i64 op, .agg #[.int .i64 code, .int .i64 n, .string t, .slice p m cap]] w fun x w' => x = .returned (.int .i64 (fitsE op code n t m)) ∧ Below w.heap.size w w' := by
  unfold fitsE
  by_cases hop : 1 ≤ op ∧ op ≤ 9
  · rw [if_neg (fun h => h hop)]
    by_cases hco : code < 0 ∨ 999 < code
    · rw [if_pos hco]
      exact fits_range op hop code n hco t p m cap w
    · rw [if_neg hco]
      have hco2 : 0 ≤ code ∧ code ≤ 999 := by omega
      have hk : tls op = (false, false, false) ∨ tls op = (true, false, false) ∨ tls op = (false, true, false) ∨ tls op = (false, false, true) := by
        have hc9 : op = 1 ∨ op = 2 ∨ op = 3 ∨ op = 4 ∨ op = 5 ∨ op = 6 ∨ op = 7 ∨ op = 8 ∨ op = 9 := by omega
        rcases hc9 with rfl | rfl | rfl | rfl | rfl | rfl | rfl | rfl | rfl <;> decide
      cases hok : (code == 0)
      · rcases hk with h | h | h | h <;> rw [h]
        · exact fits_s0 op hop h code n hco2 hok t p m cap w
        · exact fits_t0 op hop h code n hco2 hok t p m cap w
        · exact fits_n0 op hop h code n hco2 hok t p m cap w
        · exact fits_h0 op hop h code n hco2 hok t p m cap w
      · rcases hk with h | h | h | h <;> rw [h]
        · exact fits_s1 op hop h code n hco2 hok t p m cap w
        · exact fits_t1 op hop h code n hco2 hok t p m cap w
        · exact fits_n1 op hop h code n hco2 hok t p m cap w
        · exact fits_h1 op hop h code n hco2 hok t p m cap w
  · rw [if_pos hop]
    exact fits_none op hop code n t p m cap w
end Go.Proofs.Ytabhjkaheghbhaa
