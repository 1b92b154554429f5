/-
  WALKS: the program's reader: hits.
-/
import Derived.Test.YtabhjkaheghbhaaHit
import Derived.Test.YtabhjkaheghbhaaAskd
import Derived.Test.YtabhjkaheghbhaaRows2
namespace Go.Proofs.Ytabhjkaheghbhaa
open Go.RowKit
set_option linter.unusedVariables false

def Hv.cells (x : Hv) : List Value := [.int .i64 x.d, .int .i64 x.i, .string x.c]
/-- Hits as cells. -/
def encH (L : List Hv) : List Value := L.flatMap Hv.cells
theorem encH_cons (x : Hv) (L : List Hv) : encH (x :: L) = x.cells ++ encH L := rfl
theorem encH_snoc (L : List Hv) (x : Hv) : encH (L ++ [x]) = encH L ++ x.cells := by simp [encH]
theorem encH_length (L : List Hv) : (encH L).length = L.length * 3 := by
  induction L with
  | nil => rfl
  | cons x L ih => rw [encH_cons, List.length_append, ih, List.length_cons]; simp [Hv.cells]; omega
theorem encH_get : ∀ (L : List Hv) (j : Nat) (x : Hv), L[j]? = some x → ∀ k, k < 3 → (encH L)[j * 3 + k]? = x.cells[k]?
  | [], _, _, h, _, _ => by simp at h
  | y :: L, 0, x, h, k, hk => by
    simp at h; subst h
    rw [encH_cons, Nat.zero_mul, Nat.zero_add, List.getElem?_append_left (by simp [Hv.cells]; omega)]
  | y :: L, j + 1, x, h, k, hk => by
    rw [encH_cons, show (j + 1) * 3 + k = (j * 3 + k) + y.cells.length by simp [Hv.cells]; omega, List.getElem?_append_right (Nat.le_add_left _ _), Nat.add_sub_cancel]
    exact encH_get L j x (by simpa using h) k hk
theorem own_lenH {w : World} {base : Nat} {e : TypeId} {v : Value} {m : Nat} {F : List Hv} (h : w.ownsRow base e 3 v m (encH F)) : F.length = m := by
  have hl := h.1
  rw [encH_length] at hl
  exact Nat.eq_of_mul_eq_mul_right (by decide) hl
theorem add_zero' (g k : Nat) : (⟨g, 0, none⟩ : Addr).add k = ⟨g, k, none⟩ := by unfold Addr.add; split <;> simp_all
/-- A row's hits can be read. -/
theorem own_three {w : World} {base : Nat} {e : TypeId} {g m c : Nat} {F : List Hv} (h : w.ownsRow base e 3 (.slice (some ⟨g, 0, none⟩) m c) m (encH F)) {j : Nat} {x : Hv} (hx : F[j]? = some x) :
    Three w ((⟨g, 0, none⟩ : Addr).add (j * 3)) x := by
  have hn := own_lenH h
  have hj := (List.getElem?_eq_some_iff.1 hx).1
  have hg := encH_get F j x hx
  rw [add_zero']
  exact ⟨by rw [h.cellAt _ (by omega)]; exact hg 0 (by decide), by show w.cell? ⟨g, j * 3 + 1, none⟩ = _; rw [h.cellAt _ (by omega)]; exact hg 1 (by decide), by show w.cell? ⟨g, j * 3 + 2, none⟩ = _; rw [h.cellAt _ (by omega)]; exact hg 2 (by decide)⟩
theorem HR.of_own {w : World} {base B : Nat} {e : TypeId} {p : Option Addr} {m c : Nat} {F : List Hv} (h : w.ownsRow base e 3 (.slice p m c) m (encH F)) (hB : ∀ g, (Value.slice p m c).ownBlock = some g → g < B) : HR w B p F := by
  intro i x hx
  have hi := (List.getElem?_eq_some_iff.1 hx).1
  have hn := own_lenH h
  obtain ⟨p', c', e1, _, _, hr⟩ := own_rd h
  cases e1
  obtain ⟨g, rfl, _, _, _, _⟩ := hr (by omega)
  exact ⟨_, rfl, hB g rfl, own_three h hx⟩

/-- A hit, read. -/
def hitR (b : ByteArray) (prev : Option Hv) (s : St) : St × Hv :=
  (match (pText b (aNum b (aNum b s).1).1).1 with
    | .ok a => (match prev with
      | some y => if behB y ⟨(aNum b s).2, (aNum b (aNum b s).1).2, (pText b (aNum b (aNum b s).1).1).2⟩ then .ok a else .error 50
      | none => .ok a)
    | .error e => .error e, ⟨(aNum b s).2, (aNum b (aNum b s).1).2, (pText b (aNum b (aNum b s).1).1).2⟩)
def pLoop (b : ByteArray) : Nat → St → List Hv → St × List Hv
  | 0, s, l => (s, l)
  | k + 1, .error e, l => (.error e, l)
  | k + 1, .ok a, l => pLoop b k (hitR b l.getLast? (.ok a)).1 (l ++ [(hitR b l.getLast? (.ok a)).2])
theorem pLoop_err (b : ByteArray) (k : Nat) (e : Int) (l : List Hv) : pLoop b k (.error e) l = (.error e, l) := by cases k <;> rfl
/-- Hits, read. -/
def pHits (b : ByteArray) (s : St) : St × List Hv := pLoop b (pNum b 65536 43 s).2.toNat (pNum b 65536 43 s).1 []

/-- A refusal at a reader in a state. -/
def rfS (is : Bool) (E : Int) : St → St
  | .error e => .error e
  | .ok a => if is then .error E else .ok a
theorem rdrefuse_calls (r : Nat) (b : ByteArray) (s : St) (is : Bool) (E : Int) (hE : E ≠ 0) (w : World) (h : Rd w 58 r b s) :
    Calls Try.prog 80 #[.pointer (some ⟨r, 0, none⟩), .bool is, .int .i64 E] w fun x w' => x = .returned (.tuple #[]) ∧ Rd w' 58 r b (rfS is E s) ∧ w.grownBy w' (some r) := by
  cases s with
  | error e =>
    obtain ⟨he, a, h⟩ := h
    refine (refuse_calls r b a e is E w h).mono ?_
    rintro x w' ⟨rfl, h1, h2⟩
    have : rf is E e = e := by simp [rf, he]
    rw [this] at h1
    exact ⟨rfl, ⟨he, a, h1⟩, h2⟩
  | ok a =>
    obtain ⟨ha, h⟩ := h
    refine (refuse_calls r b a 0 is E w h).mono ?_
    rintro x w' ⟨rfl, h1, h2⟩
    cases is
    · have : rf false E 0 = 0 := by simp [rf]
      rw [this] at h1
      exact ⟨rfl, ⟨ha, h1⟩, h2⟩
    · have : rf true E 0 = E := by simp [rf]
      rw [this] at h1
      exact ⟨rfl, ⟨hE, a, h1⟩, h2⟩
theorem rrefuse_no (r : Nat) (E : Int) (w : World) :
    Calls Try.prog 80 #[.pointer (some ⟨r, 0, none⟩), .bool false, .int .i64 E] w fun x w' => x = .returned (.tuple #[]) ∧ w = w' := by
  go_enter Try.func80, Try.ntmps80
  go_wp2
  go_end0
  exact ⟨rfl, rfl⟩

theorem grown_belowW {w w1 w2 : World} {r : Nat} {B : Nat} (h : w.grownBy w1 (some r)) (hb : Below B w1 w2) (hB : w.heap.size ≤ B) : w.grownBy w2 (some r) :=
  ⟨hb.os.trans h.os, hb.tape.trans h.tape, hb.output.trans h.output, Nat.le_trans h.size hb.size, fun k hk hne => (hb.block k (by omega)).trans (h.block k hk hne)⟩
theorem three_at {W : World} {g m c q d base : Nat} {e T : TypeId} {F : List Hv} {y x : Hv} (h : W.ownsRow base e 3 (.slice (some ⟨g, 0, none⟩) m c) m (encH F)) (hy : F[d]? = some y) (hq : W.heap[q]? = some (.cells #[.int .i64 x.d, .int .i64 x.i, .string x.c] T (0, 0))) :
    W.cell? ⟨g, d * 3, none⟩ = some (.int .i64 y.d) ∧ W.cell? ⟨g, d * 3 + 1, none⟩ = some (.int .i64 y.i) ∧ W.cell? ⟨g, d * 3 + 2, none⟩ = some (.string y.c) ∧ W.cell? ⟨q, 0, none⟩ = some (.int .i64 x.d) ∧ W.cell? ⟨q, 1, none⟩ = some (.int .i64 x.i) ∧ W.cell? ⟨q, 2, none⟩ = some (.string x.c) := by
  have h3 := own_three h hy
  rw [add_zero'] at h3
  exact ⟨h3.1, h3.2.1, h3.2.2, by unfold World.cell?; rw [hq]; rfl, by unfold World.cell?; rw [hq]; rfl, by unfold World.cell?; rw [hq]; rfl⟩
theorem hitR_rf (b : ByteArray) (y : Hv) (s : St) : (hitR b (some y) s).1 = rfS (!behB y (hitR b (some y) s).2) 50 (pText b (aNum b (aNum b s).1).1).1 := by
  unfold hitR rfS
  simp only
  cases (pText b (aNum b (aNum b s).1).1).1 with
  | error e => rfl
  | ok a => cases behB y ⟨(aNum b s).2, (aNum b (aNum b s).1).2, (pText b (aNum b (aNum b s).1).1).2⟩ <;> rfl
theorem hitR_none (b : ByteArray) (s : St) : (hitR b none s).1 = (pText b (aNum b (aNum b s).1).1).1 := by
  unfold hitR
  simp only
  cases (pText b (aNum b (aNum b s).1).1).1 <;> rfl
theorem pLoop_step (b : ByteArray) (k : Nat) (a : Nat) (l : List Hv) : pLoop b (k + 1) (.ok a) l = pLoop b k (hitR b l.getLast? (.ok a)).1 (l ++ [(hitR b l.getLast? (.ok a)).2]) := rfl
theorem hitinfo : (Try.prog.info? 35).map (fun i => (i.zero, i.size, i.bytes)) = some (some (.agg #[.int .i64 0, .int .i64 0, .string ⟨#[]⟩]), 3, 32) := by kernel_rfl
theorem Rd.bad {w : World} {T : TypeId} {r : Nat} {b : ByteArray} {s : St} (h : Rd w T r b s) : ∃ e : Int, w.cell? ⟨r, 2, none⟩ = some (.int .i64 e) ∧ (e == 0) = (match s with | .ok _ => true | .error _ => false) := by
  cases s with
  | ok a => exact ⟨0, h.2.cells.2.2.1, rfl⟩
  | error e =>
    obtain ⟨he, a, h⟩ := h
    exact ⟨e, h.cells.2.2.1, by rw [beq_eq_false_iff_ne]; exact he⟩
set_option maxRecDepth 100000 in
set_option maxHeartbeats 2000000 in
theorem hits_calls (r : Nat) (b : ByteArray) (hb : b.size ≤ 4611686018427387904) (s : St) (w : World) (h : Rd w 58 r b s) :
    Calls Try.prog 92 #[.pointer (some ⟨r, 0, none⟩)] w fun x w' => ∃ v, x = .returned v ∧ w'.ownsRow w.heap.size 35 3 v (pHits b s).2.length (encH (pHits b s).2) ∧ Rd w' 58 r b (pHits b s).1 ∧ w.grownBy w' (some r) := by
  obtain ⟨i0, hi, hy0, hy1, hy2⟩ := info_parts hitinfo
  have hrl := h.lt
  have C := Lib.hid (upTo_calls 65536 (by decide) 43 (by decide) r b hb s w h)
  have NU := Lib.hid (fun s W h => number_calls r b hb s W h)
  have TX := Lib.hid (fun s W h => text_calls r b hb s W h)
  have WB := Lib.hid (fun (x y : Hv) W => behind_calls x y W)
  have WF0 := Lib.hid (fun W => rrefuse_no r 50 W)
  have WF := Lib.hid (fun s is W h => rdrefuse_calls r b s is 50 (by decide) W h)
  have hn := pNum_le b 65536 43 s
  have hFH : pHits b s = pLoop b (pNum b 65536 43 s).2.toNat (pNum b 65536 43 s).1 [] := rfl
  obtain ⟨s1, n, hsn⟩ : ∃ s1 n, pNum b 65536 43 s = (s1, n) := ⟨_, _, rfl⟩
  rw [hsn] at hn C hFH
  obtain ⟨m, rfl⟩ : ∃ m : Nat, n = m := ⟨n.toNat, by simp only at hn; omega⟩
  simp only [Int.toNat_natCast] at hFH hn C
  obtain ⟨FS, FL, hF⟩ : ∃ FS FL, pHits b s = (FS, FL) := ⟨_, _, rfl⟩
  rw [hF] at hFH ⊢
  have hm : m ≤ 65536 := by omega
  have HF := Lib.hid hFH.symm
  obtain ⟨g0, hg0⟩ : ∃ g0, w.heap.size = g0 := ⟨_, rfl⟩
  rw [hg0] at hrl ⊢
  have HG0 := Lib.hid hg0
  clear h hsn hF hFH hn hg0
  go_enter Try.func92, Try.ntmps92
  go_wp2_with fail
  refine C.out.mono ?_
  rintro x w1 ⟨rfl, h1, h2⟩
  have H1 := Lib.hid h1
  have H2 := Lib.hid h2
  clear h1 h2 C
  go_wp2
  go_loopw [3, 5] (fun v i ws => ∃ (k : Nat) (s : St) (l : List Hv), k ≤ m ∧ i = .int .i64 k ∧ Hid (l.length = k) ∧ Hid (ws.ownsRow g0 35 3 v k (encH l)) ∧ Hid (Rd ws 58 r b s) ∧ Hid (w.grownBy ws (some r)) ∧ Hid (pLoop b (m - k) s l = (FS, FL))) (fun _ i _ => m - (intOf i).toNat)
  case atStart => exact ⟨0, s1, [], Nat.zero_le _, rfl, Lib.hid rfl, Lib.hid ⟨rfl, .inl ⟨rfl, rfl⟩⟩, H1, H2, Lib.hid (by simpa using HF.out)⟩
  case round =>
    obtain ⟨k, s, l, hk, rfl, HLN, HO, HRd, HGr, HP⟩ := hrel
    clear H1 H2 HF
    by_cases hlt : k < m
    · have hd : decide ((k : Int) < (m : Int)) = true := by simpa using hlt
      have hdn : decide (k < m) = true := by simpa using hlt
      cases s with
      | error e =>
        have hp := HP.out
        rw [pLoop_err] at hp
        obtain ⟨rfl, rfl⟩ := Prod.mk.inj hp
        obtain ⟨e', c2, he⟩ := HRd.out.bad
        simp only at he
        clear hp
        go_wp2
        go_ret
        exact ⟨_, rfl, by rw [HLN.out]; exact HO.out, HRd.out, HGr.out⟩
      | ok a =>
        have hp := HP.out
        rw [show m - k = (m - (k + 1)) + 1 by omega, pLoop_step] at hp
        have hsz0 : g0 ≤ wr.heap.size := by have := HGr.out.size; have := HG0.out; omega
        have c2 : wr.cell? ⟨r, 2, none⟩ = some (.int .i64 0) := HRd.out.2.cells.2.2.1
        have HL := Lib.hid (HRd.out)
        have HP1 := Lib.hid hp
        clear hp HP
        go_wp2_with fail
        refine (NU.out _ _ HRd.out).mono ?_
        rintro _ wA ⟨rfl, hA1, hA2⟩
        have HA := Lib.hid hA1
        have OA := Lib.hid (own_grown HO.out hA2 (fun g hg e => by cases e; have := (HO.out.lt _ hg).1; omega))
        have GA := Lib.hid (grown_trans HGr.out hA2)
        have hszA := Nat.le_trans hsz0 hA2.size
        clear hA1 hA2 c2 HL
        go_wp2_with fail
        refine (NU.out _ _ HA.out).mono ?_
        rintro _ wB ⟨rfl, hA1, hA2⟩
        have HB := Lib.hid hA1
        have OB := Lib.hid (own_grown OA.out hA2 (fun g hg e => by cases e; have := (OA.out.lt _ hg).1; omega))
        have GB := Lib.hid (grown_trans GA.out hA2)
        have hszB := Nat.le_trans hszA hA2.size
        clear hA1 hA2
        go_wp2_with fail
        refine (TX.out _ _ HB.out).mono ?_
        rintro _ wC ⟨rfl, hA1, hA2⟩
        have HC := Lib.hid hA1
        have OC := Lib.hid (own_grown OB.out hA2 (fun g hg e => by cases e; have := (OB.out.lt _ hg).1; omega))
        have GC := Lib.hid (grown_trans GB.out hA2)
        have hszC := Nat.le_trans hszB hA2.size
        clear hA1 hA2 HA HB OA OB GA GB hszA hszB HO HGr HRd
        obtain ⟨x, hx⟩ : ∃ x, (hitR b l.getLast? (.ok a)).2 = x := ⟨_, rfl⟩
        have hx1 : (pNum b 9223372036854775807 13 (.ok a)).2 = x.d := by rw [← hx]; rfl
        have hx2 : (pNum b 9223372036854775807 13 (pNum b 9223372036854775807 13 (.ok a)).1).2 = x.i := by rw [← hx]; rfl
        have hx3 : (pText b (pNum b 9223372036854775807 13 (pNum b 9223372036854775807 13 (.ok a)).1).1).2 = x.c := by rw [← hx]; rfl
        have hS : (pText b (aNum b (aNum b (.ok a)).1).1).1 = (pText b (pNum b 9223372036854775807 13 (pNum b 9223372036854775807 13 (.ok a)).1).1).1 := rfl
        have HHX := Lib.hid hx
        have HHS := Lib.hid hS
        rw [hx1, hx2, hx3]
        have HP2 := HP1.out
        rw [hx] at HP2
        generalize (pText b (pNum b 9223372036854775807 13 (pNum b 9223372036854775807 13 (.ok a)).1).1).1 = s3 at HC HHS
        clear hx hx1 hx2 hx3 hS HP1
        have hwr : r < wC.heap.size := HC.out.lt
        obtain ⟨q, hq⟩ : ∃ q, wC.heap.size = q := ⟨_, rfl⟩
        have KD := Lib.hid (heap_alloc_last wC (.cells #[.int .i64 x.d, .int .i64 x.i, .string x.c] 35))
        have HD := Lib.hid (HC.out.of (Below.heap_alloc wC (.cells #[.int .i64 x.d, .int .i64 x.i, .string x.c] 35) _ hwr))
        have OD := Lib.hid (OC.out.alloc (.cells #[.int .i64 x.d, .int .i64 x.i, .string x.c] 35))
        have GD := Lib.hid (grown_belowW GC.out ((Below.refl g0 wC).alloc hszC (.cells #[.int .i64 x.d, .int .i64 x.i, .string x.c] 35)) (by rw [HG0.out]; exact Nat.le_refl _))
        have hszD : g0 ≤ (wC.alloc (.cells #[.int .i64 x.d, .int .i64 x.i, .string x.c] 35)).heap.size := by rw [World.size_alloc]; omega
        go_upto_region 7 with fail
        generalize wC.alloc (.cells #[.int .i64 x.d, .int .i64 x.i, .string x.c] 35) = wD at KD HD OD GD hszD ⊢
        rw [hq] at KD hwr hszC
        clear hq HC OC GC
        have hqD : q < wD.heap.size := (Array.getElem?_eq_some_iff.1 KD.out).1
        have hqr : q ≠ r := by omega
        by_cases h0 : k = 0
        · have hg : decide (0 < (k : Int)) = false := by simp; omega
          have hgn : decide (0 < k) = false := by simp; omega
          have hl0 : l = [] := List.eq_nil_of_length_eq_zero (by rw [HLN.out]; exact h0)
          have HPN : Hid (pLoop b (m - (k + 1)) s3 (l ++ [x]) = (FS, FL)) := Lib.hid (by
            have h9 := HP2
            rw [show l.getLast? = none by rw [hl0]; rfl, hitR_none, HHS.out] at h9
            exact h9)
          clear h0 hl0 HP2
          go_quiet ((go_at_call 80; exact quiet_left (WF0.out _)))
          have OF := Lib.hid (own_belowAll OD.out (drewN_below wD.heap.size wD nq))
          have HRF := Lib.hid (HD.out.of (w' := wD.drewN nq) rfl)
          have GF := Lib.hid (grown_belowW GD.out (drewN_below g0 wD nq) (by rw [HG0.out]; exact Nat.le_refl _))
          have KF : Hid ((wD.drewN nq).heap[q]? = some (.cells #[.int .i64 x.d, .int .i64 x.i, .string x.c] 35 (0, 0))) := Lib.hid KD.out
          have hszF : g0 ≤ (wD.drewN nq).heap.size := hszD
          generalize wD.drewN nq = wF at OF HRF GF KF hszF ⊢
          have x0 : wF.cell? ⟨q, 0, none⟩ = some (.int .i64 x.d) := by unfold World.cell?; rw [KF.out]; rfl
          have x1 : wF.cell? ⟨q, 1, none⟩ = some (.int .i64 x.i) := by unfold World.cell?; rw [KF.out]; rfl
          have x2 : wF.cell? ⟨q, 2, none⟩ = some (.string x.c) := by unfold World.cell?; rw [KF.out]; rfl
          have chk1 : (k + 1) * 32 ≤ 140737488355328 := by omega
          have chk2 : k + 1 ≤ maxLen := by unfold maxLen; omega
          have chk3 : ∀ j u, x.cells[j]? = some u → (wF.alloc (.cells #[.int .i64 x.d, .int .i64 x.i, .string x.c] 35)).cell? ((⟨wF.heap.size, 0, none⟩ : Addr).add j) = some u := World.news_of_block (heap_alloc_last wF _)
          have chk4 : ∀ u ∈ x.cells, u.oneCell' = true := by simp [Hv.cells, Value.oneCell']
          have chk5 : g0 ≤ (wF.alloc (.cells #[.int .i64 x.d, .int .i64 x.i, .string x.c] 35)).heap.size := by rw [World.size_alloc]; omega
          go_wp2_with (at_builtin; refine wpList_append_own _ rfl _ _ 31 rfl g0 35 i0 _ 3 32 Try.underlying31 hi hy0 hy1 hy2 rfl (by decide) _ _ _ rfl (OF.out.alloc _) ⟨wF.heap.size, 0, none⟩ 1 1 x.cells rfl rfl chk3 chk4 chk2 chk1 chk5 ?_)
          intro v' w2 hown' hgrow _
          have hBg : Below g0 (wF.alloc (.cells #[.int .i64 x.d, .int .i64 x.i, .string x.c] 35)) w2 := grown_below (Below.refl _ _) hgrow (by rw [World.size_alloc]; omega) (fun k hk => (OF.out.lt k hk).1)
          have hrl2 : r < (wF.alloc (.cells #[.int .i64 x.d, .int .i64 x.i, .string x.c] 35)).heap.size := by rw [World.size_alloc]; have := HRF.out.lt; omega
          have N1 : Hid (w2.ownsRow g0 35 3 v' (k + 1) (encH (l ++ [x]))) := Lib.hid (by rw [encH_snoc]; exact hown')
          have N2 : Hid (Rd w2 58 r b s3) := Lib.hid (((HRF.out.of (Below.heap_alloc _ _ _ HRF.out.lt)).of (hBg.block _ (by omega))))
          have N3 : Hid (w.grownBy w2 (some r)) := Lib.hid (grown_belowW (GF.out) ((((Below.refl g0 wF).alloc hszF _)).trans hBg) (by rw [HG0.out]; exact Nat.le_refl _))
          have N4 : Hid ((l ++ [x]).length = k + 1) := Lib.hid (by rw [List.length_append, HLN.out]; rfl)
          clear hown' hgrow hBg
          go_wp2
          go_roundw
          case rel => exact ⟨k + 1, s3, l ++ [x], by omega, by go_num, N4, N1, N2, N3, HPN⟩
          case measure => simp [intOf]; omega
        · obtain ⟨d, hdk⟩ : ∃ d, k = d + 1 := ⟨k - 1, by omega⟩
          obtain ⟨y, hy⟩ : ∃ y, l[d]? = some y := ⟨_, List.getElem?_eq_getElem (by rw [HLN.out]; omega)⟩
          have HPN : Hid (pLoop b (m - (k + 1)) (rfS (!behB y x) 50 s3) (l ++ [x]) = (FS, FL)) := Lib.hid (by
            have h9 := HP2
            have hl : l.getLast? = some y := by rw [List.getLast?_eq_getElem?, HLN.out, hdk]; exact hy
            have hxx := HHX.out
            rw [hl] at h9 hxx
            rw [hitR_rf, hxx, HHS.out] at h9
            exact h9)
          obtain ⟨p', cap, rfl, _, _, hrr⟩ := own_rd OD.out
          obtain ⟨gl, rfl, hgl0, hgl1, _, _⟩ := hrr (by omega)
          have s0 : wD.drew.cell? ⟨gl, d * 3, none⟩ = some (.int .i64 y.d) ∧ wD.drew.cell? ⟨gl, d * 3 + 1, none⟩ = some (.int .i64 y.i) ∧ wD.drew.cell? ⟨gl, d * 3 + 2, none⟩ = some (.string y.c) ∧ wD.drew.cell? ⟨q, 0, none⟩ = some (.int .i64 x.d) ∧ wD.drew.cell? ⟨q, 1, none⟩ = some (.int .i64 x.i) ∧ wD.drew.cell? ⟨q, 2, none⟩ = some (.string x.c) := three_at (W := wD) OD.out hy KD.out
          have PS := Lib.hid (fun (wg : World) (bg : Below wD.drew.heap.size wD.drew wg) => three_at (own_belowAll OD.out (show Below wD.heap.size wD wg from ⟨bg.os, bg.tape, bg.output, bg.size, bg.block⟩)) hy ((bg.block q hqD).trans KD.out))
          have OG := Lib.hid (fun (wg : World) (bg : Below wD.drew.heap.size wD.drew wg) => own_belowAll OD.out (show Below wD.heap.size wD wg from ⟨bg.os, bg.tape, bg.output, bg.size, bg.block⟩))
          have PF := Lib.hid (fun (wg : World) (bg : Below wD.drew.heap.size wD.drew wg) (wf : World) (hf : wg.grownBy wf (some r)) => three_at (own_grown (OG.out wg bg) hf (fun g hg e => by cases e; have := ((OG.out wg bg).lt _ hg).1; omega)) hy ((hf.block q (Nat.lt_of_lt_of_le hqD bg.size) (fun e => hqr (Option.some.inj e))).trans ((bg.block q hqD).trans KD.out)))
          have hg : decide (0 < (k : Int)) = true := by simp; omega
          have hgn : decide (0 < k) = true := by simp; omega
          have hki : (k : Int) - 1 = (d : Int) := by omega
          have hkw : IntKind.i64.wrap ((k : Int) - 1) = (d : Int) := by rw [hki, IntKind.wrap_i64]; omega
          have hdn2 : (d : Int) < (k : Int) := by omega
          have hd0 : (0 : Int) ≤ (d : Int) := by omega
          have HKD := Lib.hid hdk
          clear hki h0 hdk hrr
          go_region_held3 (fun W => W.cell? ⟨gl, d * 3, none⟩ = some (.int .i64 y.d) ∧ W.cell? ⟨gl, d * 3 + 1, none⟩ = some (.int .i64 y.i) ∧ W.cell? ⟨gl, d * 3 + 2, none⟩ = some (.string y.c) ∧ W.cell? ⟨q, 0, none⟩ = some (.int .i64 x.d) ∧ W.cell? ⟨q, 1, none⟩ = some (.int .i64 x.i) ∧ W.cell? ⟨q, 2, none⟩ = some (.string x.c))
            (first | with_reducible exact s0 | with_reducible exact sg | with_reducible exact sf | fail)
            (first | (go_at_call 94; refine (WB.out y x _).mono ?_; rintro _ wg ⟨rfl, bg⟩; have sg := PS.out wg bg) | (go_at_call 80; refine (WF.out _ _ _ (HD.out.of (bg.block _ HD.out.lt))).mono ?_; rintro _ wF ⟨rfl, hf1, hf⟩; have sf := PF.out wg bg wF hf))
          have OF := Lib.hid (own_grown (OG.out wg bg) hf (fun g hg e => by cases e; have := ((OG.out wg bg).lt _ hg).1; omega))
          have HRF := Lib.hid hf1
          have GF := Lib.hid (grown_trans (grown_belowW GD.out (show Below g0 wD wg from ⟨bg.os, bg.tape, bg.output, bg.size, fun k hk => bg.block k (Nat.lt_of_lt_of_le hk hszD)⟩) (by rw [HG0.out]; exact Nat.le_refl _)) hf)
          have KF : Hid (wF.heap[q]? = some (.cells #[.int .i64 x.d, .int .i64 x.i, .string x.c] 35 (0, 0))) := Lib.hid ((hf.block q (Nat.lt_of_lt_of_le hqD bg.size) (fun e => hqr (Option.some.inj e))).trans ((bg.block q hqD).trans KD.out))
          have hszF : g0 ≤ wF.heap.size := Nat.le_trans hszD (Nat.le_trans bg.size hf.size)
          clear s0 sg sf PS PF OG hf1 hf bg hy hg hgn hkw hdn2
          have x0 : wF.cell? ⟨q, 0, none⟩ = some (.int .i64 x.d) := by unfold World.cell?; rw [KF.out]; rfl
          have x1 : wF.cell? ⟨q, 1, none⟩ = some (.int .i64 x.i) := by unfold World.cell?; rw [KF.out]; rfl
          have x2 : wF.cell? ⟨q, 2, none⟩ = some (.string x.c) := by unfold World.cell?; rw [KF.out]; rfl
          have chk1 : (k + 1) * 32 ≤ 140737488355328 := by omega
          have chk2 : k + 1 ≤ maxLen := by unfold maxLen; omega
          have chk3 : ∀ j u, x.cells[j]? = some u → (wF.alloc (.cells #[.int .i64 x.d, .int .i64 x.i, .string x.c] 35)).cell? ((⟨wF.heap.size, 0, none⟩ : Addr).add j) = some u := World.news_of_block (heap_alloc_last wF _)
          have chk4 : ∀ u ∈ x.cells, u.oneCell' = true := by simp [Hv.cells, Value.oneCell']
          have chk5 : g0 ≤ (wF.alloc (.cells #[.int .i64 x.d, .int .i64 x.i, .string x.c] 35)).heap.size := by rw [World.size_alloc]; omega
          go_wp2_with (at_builtin; refine wpList_append_own _ rfl _ _ 31 rfl g0 35 i0 _ 3 32 Try.underlying31 hi hy0 hy1 hy2 rfl (by decide) _ _ _ rfl (OF.out.alloc _) ⟨wF.heap.size, 0, none⟩ 1 1 x.cells rfl rfl chk3 chk4 chk2 chk1 chk5 ?_)
          intro v' w2 hown' hgrow _
          have hBg : Below g0 (wF.alloc (.cells #[.int .i64 x.d, .int .i64 x.i, .string x.c] 35)) w2 := grown_below (Below.refl _ _) hgrow (by rw [World.size_alloc]; omega) (fun k hk => (OF.out.lt k hk).1)
          have hrl2 : r < (wF.alloc (.cells #[.int .i64 x.d, .int .i64 x.i, .string x.c] 35)).heap.size := by rw [World.size_alloc]; have := HRF.out.lt; omega
          have N1 : Hid (w2.ownsRow g0 35 3 v' (k + 1) (encH (l ++ [x]))) := Lib.hid (by rw [encH_snoc]; exact hown')
          have N2 : Hid (Rd w2 58 r b (rfS (!behB y x) 50 s3)) := Lib.hid (((HRF.out.of (Below.heap_alloc _ _ _ HRF.out.lt)).of (hBg.block _ (by omega))))
          have N3 : Hid (w.grownBy w2 (some r)) := Lib.hid (grown_belowW (GF.out) ((((Below.refl g0 wF).alloc hszF _)).trans hBg) (by rw [HG0.out]; exact Nat.le_refl _))
          have N4 : Hid ((l ++ [x]).length = k + 1) := Lib.hid (by rw [List.length_append, HLN.out]; rfl)
          clear hown' hgrow hBg
          go_wp2
          go_roundw
          case rel => exact ⟨k + 1, (rfS (!behB y x) 50 s3), l ++ [x], by omega, by go_num, N4, N1, N2, N3, HPN⟩
          case measure => simp [intOf]; omega
    · obtain rfl : k = m := by omega
      have hd : decide ((k : Int) < (k : Int)) = false := by simp
      have hdn : decide (k < k) = false := by simp
      have hp := HP.out
      rw [Nat.sub_self] at hp
      obtain ⟨rfl, rfl⟩ := Prod.mk.inj hp
      clear hp
      go_wp2
      go_ret
      exact ⟨_, rfl, by rw [HLN.out]; exact HO.out, HRd.out, HGr.out⟩
end Go.Proofs.Ytabhjkaheghbhaa
