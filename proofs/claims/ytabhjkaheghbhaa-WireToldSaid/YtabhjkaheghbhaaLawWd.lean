/-
  THE LAW WireTold.
-/
import Derived.Test.YtabhjkaheghbhaaToldRW
import Derived.Test.YtabhjkaheghbhaaTellDR
import Derived.Test.YtabhjkaheghbhaaApartH
import Derived.Test.YtabhjkaheghbhaaSame
namespace Go.Proofs.Ytabhjkaheghbhaa
open Go.RowKit
set_option linter.unusedVariables false

/-- What Told answers of a text. -/
def trE (b : ByteArray) : Int := pEnd b (toldS b).1
def trO (b : ByteArray) : Int := if trE b = 0 then hdv b 82 else 0
def trC (b : ByteArray) : Int := if trE b = 0 then (toldS b).2.1 else 0
def trM (b : ByteArray) : Int := if trE b = 0 then (toldS b).2.2.1 else 0
def trT (b : ByteArray) : ByteArray := if trE b = 0 then (toldS b).2.2.2.1 else ⟨#[]⟩
def trL (b : ByteArray) : List Hv := if trE b = 0 then (toldS b).2.2.2.2 else []
def TR (b : ByteArray) (x : Ending) (w w' : World) : Prop :=
  ∃ (p : Option Addr) (c : Nat), x = .returned (.tuple #[.int .i64 (trO b), .agg #[.int .i64 (trC b), .int .i64 (trM b), .string (trT b), .slice p (trL b).length c], .int .i64 (trE b)]) ∧ w'.ownsRow w.heap.size 35 3 (.slice p (trL b).length c) (trL b).length (encH (trL b)) ∧ Below w.heap.size w w'
theorem TR_of {b : ByteArray} {x : Ending} {w w' : World} (h : TO 35 (pEnd b (toldS b).1) (hdv b 82) (toldS b).2.1 (toldS b).2.2.1 (toldS b).2.2.2.1 (toldS b).2.2.2.2 x w w') : TR b x w w' := by
  obtain ⟨v, op', code', n', t', L', rfl, ho, hb, he⟩ := h
  have h2 : (op', code', n', t', L') = (trO b, trC b, trM b, trT b, trL b) := by
    rw [he]
    unfold trO trC trM trT trL trE
    by_cases h0 : pEnd b (toldS b).1 = 0
    · simp only [if_pos h0]
    · simp only [if_neg h0]
  simp only [Prod.mk.injEq] at h2
  obtain ⟨rfl, rfl, rfl, rfl, rfl⟩ := h2
  obtain ⟨p, c, rfl, _⟩ := own_rd ho
  exact ⟨p, c, rfl, ho, hb⟩
theorem pLoop_len (b : ByteArray) : ∀ (k : Nat) (s : St) (l : List Hv), (pLoop b k s l).2.length ≤ l.length + k
  | 0, s, l => Nat.le_refl _
  | k + 1, .error e, l => Nat.le_add_right _ _
  | k + 1, .ok a, l => by
    rw [pLoop_step]
    have := pLoop_len b k (hitR b l.getLast? (.ok a)).1 (l ++ [(hitR b l.getLast? (.ok a)).2])
    rw [List.length_append, List.length_singleton] at this
    omega
theorem trL_len (b : ByteArray) : (trL b).length ≤ 65536 := by
  have hp : ∀ s, (pHits b s).2.length ≤ 65536 := fun s => by
    have := pLoop_len b (pNum b 65536 43 s).2.toNat (pNum b 65536 43 s).1 []
    have hn := pNum_le b 65536 43 s
    simp only [List.length_nil] at this
    unfold pHits
    omega
  have hR : ∀ kd s, (toldR kd b s).2.2.2.length ≤ 65536 := fun kd s => by
    unfold toldR
    split
    · simp
    · split
      · exact hp s
      · split <;> simp
  have hT : (toldS b).2.2.2.2.length ≤ 65536 := by
    unfold toldS
    split
    · simp
    · split
      · exact hR _ _
      · simp
  unfold trL
  split
  · exact hT
  · simp
theorem wt_tell : tellOut 5 0 0 ⟨#[]⟩ [⟨2, 7, ⟨#[120]⟩⟩, ⟨3, 1, ⟨#[121]⟩⟩] = ([82, 5, 0, 2, 2, 7, 1, 120, 3, 1, 1, 121], 0) := by kernel_rfl
theorem texts_cell {w : World} {T : Nat} {t : TypeId} {b o : ByteArray} (h : w.heap[T]? = some (.cells #[.string b, .string b, .string o, .string o, .string b] t (0, 0))) {k : Nat} (hk : k < 5) : w.cell? ⟨T, k, none⟩ = some (.string (q4 b o k)) := by
  unfold World.cell?
  rw [h]
  rcases (show k = 0 ∨ k = 1 ∨ k = 2 ∨ k = 3 ∨ k = 4 by omega) with rfl | rfl | rfl | rfl | rfl <;> rfl

set_option maxRecDepth 100000 in
set_option maxHeartbeats 1000000 in
theorem WireTold_walk (a0 : ByteArray) (s0 : a0.size ≤ 140737488351232) (w : World) :
    Calls Try.prog 6 #[.string a0] w fun e w' => e = .returned (.bool true) ∧ Below w.heap.size w w' := by
  obtain ⟨i1, hj, hy0, hy1, hy2⟩ := info_parts hitsinfo
  have hbu1 : ∀ (W : World) (p : Addr) (n c : Nat), (Instr.build 33 #[(3, .slice (some p) n c)]).run Try.prog W = .ok (.agg #[.int .i64 0, .int .i64 0, .string ⟨#[]⟩, .slice (some p) n c]) W := fun W p n c => run_build W _ _ _ (by kernel_rfl)
  have TL := Lib.hid (fun p c W h => rTell_calls 5 0 0 ⟨#[]⟩ p c [⟨2, 7, ⟨#[120]⟩⟩, ⟨3, 1, ⟨#[121]⟩⟩] (by decide) (by decide) (by intro x hx; simp at hx; rcases hx with rfl | rfl <;> decide) (by decide) W h)
  rw [wt_tell] at TL
  simp only [List.length_cons, List.length_nil] at TL
  generalize hO : (⟨[82, 5, 0, 2, 2, 7, 1, 120, 3, 1, 1, 121].toArray⟩ : ByteArray) = O at TL
  have hOs : O.size = 12 := by rw [← hO]; rfl
  clear hO
  have hq4 : ∀ k, (q4 a0 O k).size ≤ 4611686018427387904 := fun k => by unfold q4; split <;> omega
  have HQ4 := Lib.hid hq4
  have TA := Lib.hid (fun (x : ByteArray) (hx : x.size ≤ 4611686018427387904) W => (Told_calls x hx W).mono fun _ _ h => TR_of h)
  have TB := Lib.hid (fun (x : ByteArray) (hx : x.size ≤ 4611686018427387904) W => (rTold_calls x hx W).mono fun _ _ h => TR_of h)
  have SM := Lib.hid (fun (x : ByteArray) (p1 p2 : Option Addr) (c1 c2 : Nat) W h1 h2 => same_calls (trC x) (trM x) (trT x) p1 p2 c1 c2 (trL x) (by have := trL_len x; omega) W h1 h2)
  have AP := Lib.hid (fun (v : Value) (L : Nat → Value) (B : Nat) W hB h1 h2 h3 => apartH_calls v 5 L (fun j => (trL (q4 a0 O j)).length) B (by decide) (fun i _ => by have := trL_len (q4 a0 O i); omega) W hB h1 h2 h3)
  clear hq4 hOs
  go_enter Try.func6, Try.ntmps6
  have HH1 := Lib.hid (HL.of_own (F := [⟨2, 7, ⟨#[120]⟩⟩, ⟨3, 1, ⟨#[121]⟩⟩]) (World.ownsRow_lit (base := w.heap.size) (e := 35) (size := 3) w #[.int .i64 2, .int .i64 7, .string ⟨#[120]⟩, .int .i64 3, .int .i64 1, .string ⟨#[121]⟩] 2 (Nat.le_refl _) (by decide) rfl))
  have HB1 := Lib.hid ((Below.refl w.heap.size w).alloc (Nat.le_refl _) (.cells #[.int .i64 2, .int .i64 7, .string ⟨#[120]⟩, .int .i64 3, .int .i64 1, .string ⟨#[121]⟩] 35))
  go_wp2_with fail
  refine (TL.out _ _ _ HH1.out).mono ?_
  rintro x w2 ⟨rfl, k2⟩
  have HB2 := Lib.hid (HB1.out.trans (k2.mono HB1.out.size))
  clear k2 HB1 HH1
  have HT3 := Lib.hid (heap_alloc_last w2 (.cells #[.string a0, .string a0, .string O, .string O, .string a0] 9))
  have HB3 := Lib.hid (HB2.out.alloc HB2.out.size (.cells #[.string a0, .string a0, .string O, .string O, .string a0] 9))
  have hs3 : (w2.alloc (.cells #[.string a0, .string a0, .string O, .string O, .string a0] 9)).heap.size = w2.heap.size + 1 := World.size_alloc _ _
  have hT2 := HB2.out.size
  go_upto_region 3 with fail
  obtain ⟨T, hT⟩ : ∃ T, w2.heap.size = T := ⟨_, rfl⟩
  generalize w2.alloc (.cells #[.string a0, .string a0, .string O, .string O, .string a0] 9) = w3 at HT3 HB3 hs3 ⊢
  rw [hT] at HT3 hs3 hT2 ⊢
  clear hT HB2
  obtain ⟨B, hB⟩ : ∃ B, B = w3.heap.size := ⟨_, rfl⟩
  have hTB : T < B := by omega
  have HBS := Lib.hid hB
  clear hB hs3
  go_wp2_with fail
  go_loopw [6, 7] (fun l i ws => ∃ (k : Nat) (L : Nat → Value) (lv : Value), k ≤ 5 ∧ i = .int .i64 k ∧ lv = l ∧ Hid (Below w.heap.size w ws) ∧ B ≤ ws.heap.size ∧ Hid (ws.heap[T]? = some (.cells #[.string a0, .string a0, .string O, .string O, .string a0] 9 (0, 0))) ∧ Hid (Lists ws B 31 35 3 k l L (fun j => (trL (q4 a0 O j)).length) (fun j => encH (trL (q4 a0 O j))))) (fun _ i _ => 5 - (intOf i).toNat)
  case atStart => exact ⟨0, fun _ => undef, _, by omega, rfl, rfl, HB3, by rw [HBS.out]; exact Nat.le_refl _, HT3, Lib.hid (Lists.none_ _ _ _ _ _ _ _ _)⟩
  case round =>
    obtain ⟨k, L, lv, hk, rfl, rfl, HBr, hsz, HTr, HLr⟩ := hrel
    by_cases hlt : k < 5
    · have hd : decide ((k : Int) < 5) = true := by simp; omega
      have hk0 : (0 : Int) ≤ (k : Int) := by omega
      have hk5 : (k : Int) < 5 := by omega
      obtain ⟨x, hx⟩ : ∃ x, q4 a0 O k = x := ⟨_, rfl⟩
      have hxs : x.size ≤ 4611686018427387904 := by rw [← hx]; exact HQ4.out k
      have hxl := trL_len x
      have HX := Lib.hid hx
      have t1 := texts_cell HTr.out hlt
      rw [hx] at t1
      clear hx
      go_wp2_with fail
      refine (TA.out x hxs wr).mono ?_
      rintro _ y1 ⟨pa, ca, rfl, ho1, k1⟩
      have hz1 : B ≤ y1.heap.size := Nat.le_trans hsz k1.size
      have CE := Lib.hid ((Below.refl y1.heap.size y1).alloc (Nat.le_refl _) (.cells #[.int .i64 (trC x), .int .i64 (trM x), .string (trT x), .slice pa (trL x).length ca] 33))
      have HP2 := Lib.hid (Rp.new y1 (trC x) (trM x) (trT x) (.slice pa (trL x).length ca))
      go_upto_region 8 with fail
      obtain ⟨P, hP⟩ : ∃ P, y1.heap.size = P := ⟨_, rfl⟩
      generalize y1.alloc (.cells #[.int .i64 (trC x), .int .i64 (trM x), .string (trT x), .slice pa (trL x).length ca] 33) = y2 at CE HP2 ⊢
      have K2 := Lib.hid (k1.trans (CE.out.mono k1.size))
      have HO2 := Lib.hid (own_belowAll ho1 CE.out)
      have hz2 : B ≤ y2.heap.size := Nat.le_trans hsz K2.out.size
      rw [hP] at HP2 ⊢
      clear hP ho1 k1 CE hz1
      have t2 : y2.cell? ⟨T, k, none⟩ = some (.string x) := (K2.out.cell (p := ⟨T, k, none⟩) (Nat.lt_of_lt_of_le hTB hsz)).trans t1
      go_wp2_with fail
      refine (TB.out x hxs y2).mono ?_
      rintro _ y3 ⟨pb, cb, rfl, ho3, k3⟩
      have HP3 := HP2.out.of (k3.block _ HP2.out.lt)
      have CE := Lib.hid ((Below.refl y3.heap.size y3).alloc (Nat.le_refl _) (.cells #[.int .i64 (trC x), .int .i64 (trM x), .string (trT x), .slice pb (trL x).length cb] 33))
      have HU4 := Lib.hid (Rp.new y3 (trC x) (trM x) (trT x) (.slice pb (trL x).length cb))
      go_upto_region 9 with fail
      obtain ⟨U, hU⟩ : ∃ U, y3.heap.size = U := ⟨_, rfl⟩
      generalize y3.alloc (.cells #[.int .i64 (trC x), .int .i64 (trM x), .string (trT x), .slice pb (trL x).length cb] 33) = y4 at CE HU4 ⊢
      have K4 := Lib.hid (K2.out.trans ((k3.trans (CE.out.mono k3.size)).mono K2.out.size))
      have HO4 := Lib.hid (own_belowAll (own_belowAll HO2.out k3) CE.out)
      have HV4 := Lib.hid (own_belowAll ho3 CE.out)
      have HP4 := Lib.hid (HP3.of (CE.out.block _ HP3.lt))
      rw [hU] at HU4 ⊢
      clear hU ho3 k3 CE hz2 K2 HO2 HP2 HP3 t1 t2
      obtain ⟨p0, p1, p2, p3, pf⟩ := HP4.out.cells
      obtain ⟨u0, u1, u2, u3, uf⟩ := HU4.out.cells
      clear pf uf
      go_wp2_with fail
      refine (SM.out x _ _ _ _ y4 (HL.of_own HO4.out) (HL.of_own HV4.out)).mono ?_
      rintro _ y5 ⟨rfl, k5⟩
      have K5 := Lib.hid (K4.out.trans (k5.mono K4.out.size))
      have HO5 := Lib.hid (own_belowAll HO4.out k5)
      have HP5 := Lib.hid (HP4.out.of (k5.block _ HP4.out.lt))
      clear k5 K4 HO4 HP4 HV4 HU4 p0 p1 p2 p3 u0 u1 u2 u3
      obtain ⟨p0, p1, p2, p3, pf⟩ := HP5.out.cells
      clear pf p0 p1 p2
      go_upto_region 12 with fail
      have hl5 := HLr.out.below K5.out
      have hnew := HLr.out.fresh (va := .slice pa (trL x).length ca) (H := wr.heap.size) (Nat.le_refl _) (fun b hb => (HO5.out.lt b hb).1)
      have HR := Lib.hid (And.intro hl5 (And.intro (own_le (base' := B) HO5.out hsz) hnew))
      have hlr := hl5.1
      have hz5 : B ≤ y5.heap.size := Nat.le_trans hsz K5.out.size
      have HB5 := Lib.hid (HBr.out.trans (K5.out.mono HBr.out.size))
      have HT5 := Lib.hid ((K5.out.block T (Nat.lt_of_lt_of_le hTB hsz)).trans HTr.out)
      have hwB : w.heap.size ≤ B := by omega
      clear hl5 hnew HO5 K5 HLr HBr HTr HP5
      go_wp2_with (at_builtin; refine wpList_append_two _ rfl _ _ 43 rfl B 31 i1 (.slice none 0 0) 1 24 Try.underlying43 hj hy0 hy1 hy2 rfl (by decide) lv k _ rfl (hlr.alloc _) ⟨y5.heap.size, 0, none⟩ 1 1 [.slice pa (trL x).length ca] rfl rfl (World.news_of_block (heap_alloc_new y5 _)) (by simp [Value.oneCell']) (by decide) (by unfold maxLen; omega) (by omega) (by simp; omega) ?_; intro g' capn y6 hown' hold hlies hlt2)
      have hln := Lists.step HR.out.1 (by rw [HX.out]; exact HR.out.2.1) HR.out.2.2 (by decide) _ hown' hlies
      have hbn := hlies.below (HB5.out.alloc (by omega) _) (by simp; omega) (fun b hb => Nat.le_trans hwB (hlr.lt b hb).1)
      have hzn : B ≤ y6.heap.size := Nat.le_trans (by simp; omega) hlies.row.size
      have htn := (hlies.block (k := T) (by simp; omega) (fun e => by have := (hlr.lt _ e).1; omega)).trans ((Below.heap_alloc y5 _ T (by omega)).trans HT5.out)
      have HLN := Lib.hid hln
      have HBN := Lib.hid hbn
      have HTN := Lib.hid htn
      clear hln hbn htn hown' hold hlies hlr
      go_wp2
      go_roundw
      case rel => exact ⟨k + 1, _, _, by omega, by go_num, rfl, HBN, hzn, HTN, HLN⟩
      case measure => simp [intOf]; omega
    · obtain rfl : k = 5 := by omega
      have hly := HLr.out
      obtain ⟨gl, cl, rfl, hgl1, hgl2⟩ := hly.1.form (by decide)
      have HL := Lib.hid hly
      have hwB : w.heap.size ≤ B := by omega
      clear hly HLr HTr
      go_wp2_with fail
      refine (AP.out _ L B wr hsz HL.out.1 (fun i hi => ⟨_, HL.out.2.1 i hi⟩) HL.out.2.2).mono ?_
      rintro _ z1 ⟨rfl, kz⟩
      have HZ1 := Lib.hid (HBr.out.trans (kz.mono hwB))
      clear kz HL HBr
      go_wp2_with fail
      refine (TA.out a0 (by omega) z1).mono ?_
      rintro _ y1 ⟨pa, ca, rfl, ho1, k1⟩
      have CE := Lib.hid ((Below.refl y1.heap.size y1).alloc (Nat.le_refl _) (.cells #[.int .i64 (trC a0), .int .i64 (trM a0), .string (trT a0), .slice pa (trL a0).length ca] 33))
      have HP2 := Lib.hid (Rp.new y1 (trC a0) (trM a0) (trT a0) (.slice pa (trL a0).length ca))
      go_upto_region 15 with fail
      obtain ⟨P, hP⟩ : ∃ P, y1.heap.size = P := ⟨_, rfl⟩
      generalize y1.alloc (.cells #[.int .i64 (trC a0), .int .i64 (trM a0), .string (trT a0), .slice pa (trL a0).length ca] 33) = y2 at CE HP2 ⊢
      have K2 := Lib.hid (k1.trans (CE.out.mono k1.size))
      have HO2 := Lib.hid (own_belowAll ho1 CE.out)
      rw [hP] at HP2 ⊢
      clear hP ho1 k1 CE
      go_wp2_with fail
      refine (TB.out a0 (by omega) y2).mono ?_
      rintro _ y3 ⟨pb, cb, rfl, ho3, k3⟩
      have HP3 := HP2.out.of (k3.block _ HP2.out.lt)
      have CE := Lib.hid ((Below.refl y3.heap.size y3).alloc (Nat.le_refl _) (.cells #[.int .i64 (trC a0), .int .i64 (trM a0), .string (trT a0), .slice pb (trL a0).length cb] 33))
      have HU4 := Lib.hid (Rp.new y3 (trC a0) (trM a0) (trT a0) (.slice pb (trL a0).length cb))
      go_upto_region 16 with fail
      obtain ⟨U, hU⟩ : ∃ U, y3.heap.size = U := ⟨_, rfl⟩
      generalize y3.alloc (.cells #[.int .i64 (trC a0), .int .i64 (trM a0), .string (trT a0), .slice pb (trL a0).length cb] 33) = y4 at CE HU4 ⊢
      have K4 := Lib.hid (K2.out.trans ((k3.trans (CE.out.mono k3.size)).mono K2.out.size))
      have HO4 := Lib.hid (own_belowAll (own_belowAll HO2.out k3) CE.out)
      have HV4 := Lib.hid (own_belowAll ho3 CE.out)
      have HP4 := Lib.hid (HP3.of (CE.out.block _ HP3.lt))
      rw [hU] at HU4 ⊢
      clear hU ho3 k3 CE K2 HO2 HP2 HP3
      obtain ⟨p0, p1, p2, p3, pf⟩ := HP4.out.cells
      obtain ⟨u0, u1, u2, u3, uf⟩ := HU4.out.cells
      clear pf uf
      go_wp2_with fail
      refine (SM.out a0 _ _ _ _ y4 (HL.of_own HO4.out) (HL.of_own HV4.out)).mono ?_
      rintro _ y5 ⟨rfl, k5⟩
      have HZ5 := Lib.hid (HZ1.out.trans ((K4.out.trans (k5.mono K4.out.size)).mono HZ1.out.size))
      clear k5 K4 HO4 HP4 HV4 HU4 p0 p1 p2 p3 u0 u1 u2 u3 HZ1
      go_wp2
      go_ret
      exact ⟨rfl, HZ5.out⟩
end Go.Proofs.Ytabhjkaheghbhaa
