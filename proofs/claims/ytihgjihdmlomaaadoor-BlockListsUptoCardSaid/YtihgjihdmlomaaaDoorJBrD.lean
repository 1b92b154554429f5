/-
  WALK: a file opened, by the program (Open).
-/
import Derived.Test.YtihgjihdmlomaaaDoorJBrC
import Derived.Test.YtihgjihdmlomaaaDoorJC
namespace Go.Proofs.YtihgjihdmlomaaaDoor
open Go.RowKit ArgK
set_option linter.unusedVariables false

/-- The entries of all blocks among frames. -/
def blocksR (h : Hd) : List (Int × List UInt8 × Nat) → List Ent → Option (List Ent)
  | [], acc => some acc
  | x :: fs, acc =>
    if x.1 ≠ 5 then blocksR h fs acc
    else match entsR (h.w / 8).toNat x.2.1 with
      | none => none
      | some L => if h.n < ((acc.length + L.length : Nat) : Int) then none else blocksR h fs (acc ++ L)
/-- What a text is, as a file. -/
def openR (b : List UInt8) : Option (Hd × List Ent) :=
  match (framesR b).1 with
  | [] => none
  | x :: fs =>
    if (framesR b).2 ≠ b.length ∨ x.1 ≠ 4 then none
    else match headP x.2.1 with
      | none => none
      | some h => match blocksR h (x :: fs) [] with
        | none => none
        | some l => if (builtR h l).2 ≠ 0 ∨ (builtR h l).1 ≠ b then none else some (h, l)

theorem framesR_each (b : List UInt8) : ∀ x ∈ (framesR b).1, x.2.1.length ≤ 65536 := by
  have go : ∀ n a, ∀ x ∈ (frGo b n a).1, x.2.1.length ≤ 65536 := by
    intro n
    induction n with
    | zero => intro a x hx; simp [frGo] at hx
    | succ n ih =>
      intro a x hx
      by_cases he : (parseR b a).2.2.2 = 0
      · rw [frGo_step b n a he] at hx
        rcases List.mem_cons.1 hx with rfl | hx
        · simp only
          have h2 : parseR b a = parseAt a (b.drop a) := by
            unfold parseR
            by_cases c : (a : Int) < 0 ∨ (b.length : Int) < a
            · unfold parseR at he; rw [if_pos c] at he; cases he
            · rw [if_neg c]; rfl
          rw [h2] at he ⊢
          obtain ⟨k, _, _, _, g4, _⟩ := parse_only _ _ _ rfl he
          exact g4
        · exact ih _ x hx
      · rw [frGo_end b _ a he] at hx
        simp at hx
  exact go _ _

theorem entS_code {cb : Nat} {b : List UInt8} {a a' : Nat} {e : Ent} (h : entS cb b a = some (a', e)) : e.c.size ≤ cb := by
  have hl := txtS_len b cb (txtS b 4 (some a)).1
  unfold entS entEnd at h
  split at h
  · cases h
  · split at h
    · cases h; exact hl
    · split at h
      · cases h; exact hl
      · cases h
theorem entsGo_codes (cb : Nat) (b : List UInt8) : ∀ (f a : Nat) (acc L : List Ent), (∀ e ∈ acc, e.c.size ≤ cb) → entsGo cb b f a acc = some L → ∀ e ∈ L, e.c.size ≤ cb
  | 0, a, acc, L, hA, h => by simp [entsGo] at h; subst h; exact hA
  | f + 1, a, acc, L, hA, h => by
    unfold entsGo at h
    split at h
    · split at h
      · cases h
      · next a' e hx =>
        refine entsGo_codes cb b f _ _ L (fun y hy => ?_) h
        rcases List.mem_append.1 hy with hy | hy
        · exact hA y hy
        · obtain rfl : y = e := by simpa using hy
          exact entS_code hx
    · cases h; exact hA

/-- A file in memory. -/
def FileAt (W : World) (base fb : Nat) (h : Hd) (l : List Ent) (r : Int) : Prop :=
  ∃ lp lc q c, W.heap[fb]? = some (.cells #[.int .i64 h.w, .int .i64 h.t, .int .i64 h.b, .int .i64 h.lo, .int .i64 h.hi, .int .i64 h.n, .slice lp l.length lc, .slice q (linesB h l).length c, .int .i64 r] 87 (0, 0)) ∧
    W.ownsRow base 33 5 (.slice lp l.length lc) l.length (encE l) ∧ W.ownsRow base 134 7 (.slice q (linesB h l).length c) (linesB h l).length (encL (linesB h l)) ∧ base ≤ fb

def OpenPost (w : World) (b : List UInt8) (e : Ending) (w' : World) : Prop :=
  Below w.heap.size w w' ∧ ((openR b = none ∧ e = .returned (.tuple #[.pointer none, .int .i64 80])) ∨
    (∃ h l fb, openR b = some (h, l) ∧ e = .returned (.tuple #[.pointer (some ⟨fb, 0, none⟩), .int .i64 0]) ∧ FileAt w' w.heap.size fb h l 0))

/-- A head read is a head. -/
theorem headP_ok {b : List UInt8} {h : Hd} (e : headP b = some h) : headedR h = 0 ∧ h.n ≤ 2097152 ∧ 0 ≤ h.n ∧ ∃ wn cb : Nat, h.w = (wn : Int) ∧ wn / 8 = cb ∧ cb ≤ 128 ∧ (h.w / 8).toNat = cb := by
  unfold headP at e
  split at e
  · next hc =>
    cases e
    have h1 := hc.2.1
    have hw : widthB (hdOf (headK b 6).2).w = true := by
      unfold headedR at h1
      rcases hb : widthB (hdOf (headK b 6).2).w with _ | _
      · simp [hb] at h1
      · rfl
    obtain ⟨n, hn, h2, h3, h4⟩ := widthB_true hw
    refine ⟨h1, hc.2.2, by unfold hdOf; simp, n, n / 8, hn, rfl, by omega, by rw [hn]; omega⟩
  · cases e

theorem keepF {W : World} {Q f k : Nat} {v0 v1 v2 v3 v4 v5 u x : Value} (hQ : Q ≠ f) (hk : k ≠ 6)
    (hS : W.cell? ⟨Q, 0, none⟩ = some v0 ∧ W.cell? ⟨Q, 1, none⟩ = some v1 ∧ W.cell? ⟨Q, 2, none⟩ = some v2 ∧ W.cell? ⟨Q, 3, none⟩ = some v3 ∧ W.cell? ⟨Q, 4, none⟩ = some v4 ∧ W.cell? ⟨Q, 5, none⟩ = some v5 ∧ W.cell? ⟨f, 6, none⟩ = some u) :
    (W.setCell ⟨f, k, none⟩ x).cell? ⟨Q, 0, none⟩ = some v0 ∧ (W.setCell ⟨f, k, none⟩ x).cell? ⟨Q, 1, none⟩ = some v1 ∧ (W.setCell ⟨f, k, none⟩ x).cell? ⟨Q, 2, none⟩ = some v2 ∧ (W.setCell ⟨f, k, none⟩ x).cell? ⟨Q, 3, none⟩ = some v3 ∧ (W.setCell ⟨f, k, none⟩ x).cell? ⟨Q, 4, none⟩ = some v4 ∧ (W.setCell ⟨f, k, none⟩ x).cell? ⟨Q, 5, none⟩ = some v5 ∧ (W.setCell ⟨f, k, none⟩ x).cell? ⟨f, 6, none⟩ = some u := by
  have h := Below.heap_setCell W ⟨f, k, none⟩ x Q hQ
  refine ⟨(World.cell?_of_block (a := ⟨Q, 0, none⟩) h).trans hS.1, (World.cell?_of_block (a := ⟨Q, 1, none⟩) h).trans hS.2.1, (World.cell?_of_block (a := ⟨Q, 2, none⟩) h).trans hS.2.2.1, (World.cell?_of_block (a := ⟨Q, 3, none⟩) h).trans hS.2.2.2.1, (World.cell?_of_block (a := ⟨Q, 4, none⟩) h).trans hS.2.2.2.2.1, (World.cell?_of_block (a := ⟨Q, 5, none⟩) h).trans hS.2.2.2.2.2.1, ?_⟩
  have h6 := hS.2.2.2.2.2.2
  rw [World.cell?_setCell_other] <;> simp_all

/-- At the head of each round over the frames. -/
def OpRel (w : World) (hb fb : Nat) (h : Hd) (fv : Value) (fs : List (Int × List UInt8 × Nat)) (R : Option (List Ent)) (k : Nat) (wr : World) : Prop :=
  ∃ (acc : List Ent) (lp : Option Addr) (lc : Nat), k ≤ fs.length ∧ blocksR h (fs.drop k) acc = R ∧ (acc.length : Int) ≤ h.n ∧ (∀ e ∈ acc, e.c.size ≤ 128) ∧
    wr.heap[hb]? = some (.cells #[.int .i64 h.w, .int .i64 h.t, .int .i64 h.b, .int .i64 h.lo, .int .i64 h.hi, .int .i64 h.n] 23 (0, 0)) ∧
    wr.heap[fb]? = some (.cells #[.int .i64 h.w, .int .i64 h.t, .int .i64 h.b, .int .i64 h.lo, .int .i64 h.hi, .int .i64 h.n, .slice lp acc.length lc, .slice none 0 0, .int .i64 0] 87 (0, 0)) ∧
    wr.ownsRow (fb + 1) 33 5 (.slice lp acc.length lc) acc.length (encE acc) ∧ wr.ownsRow w.heap.size 83 3 fv fs.length (encF fs) ∧ Below w.heap.size w wr

set_option maxRecDepth 100000 in
set_option maxHeartbeats 4000000 in
theorem Open_calls (b : ByteArray) (hb : b.size ≤ 4611686018427387904) (hn : (framesR b.data.toList).1.length * 32 ≤ 140737488355328) (w : World) (hT : Tab w) :
    Calls Tryd.prog 15 #[.string b] w (OpenPost w b.data.toList) := by
  have CF := Frames_calls2 b hb hn w hT
  have hlen : b.data.toList.length = b.size := rfl
  obtain ⟨fs, hfs⟩ : ∃ fs, (framesR b.data.toList).1 = fs := ⟨_, rfl⟩
  obtain ⟨en, hen⟩ : ∃ en, (framesR b.data.toList).2 = en := ⟨_, rfl⟩
  have hle := (framesR_le b.data.toList).2
  have hEa := framesR_each b.data.toList
  rw [hfs] at CF hn hEa
  rw [hen] at CF hle
  obtain ⟨nf, hnf⟩ : ∃ nf, fs.length = nf := ⟨_, rfl⟩
  obtain ⟨i0, hi, hz0, hz1, hz2⟩ := info_parts entinfo6
  rw [hnf] at CF hn
  have HCF := Lib.hid CF
  have HFS := Lib.hid hfs
  have HEN := Lib.hid hen
  have HNF := Lib.hid hnf
  have HT := Lib.hid hT
  have HEa := Lib.hid hEa
  have HNo : Hid (∀ W, openR b.data.toList = none → Below w.heap.size w W → OpenPost w b.data.toList (.returned (.tuple #[.pointer none, .int .i64 80])) W) := Lib.hid (fun W h hW => ⟨hW, .inl ⟨h, rfl⟩⟩)
  clear CF hfs hen hnf hT hEa
  go_enter Tryd.func15, Tryd.ntmps15
  go_wp2_with fail
  refine HCF.out.mono ?_
  rintro e w1 ⟨fv, rfl, ho1, hb1⟩
  obtain ⟨fp, fc, rfl, hfc1, _, hfr⟩ := own_rd ho1
  have HO1 := Lib.hid ho1
  have HB1 := Lib.hid hb1
  have hs1 := hb1.size
  clear ho1 hb1
  by_cases hend : en = b.size
  · subst hend
    cases fs with
    | nil =>
      have hNo : openR b.data.toList = none := by
        unfold openR
        rw [HFS.out]
      have HEnd := Lib.hid (HNo.out _ hNo HB1.out)
      obtain rfl : nf = 0 := by rw [← HNF.out]; rfl
      clear hNo hfr
      go_wp2
      go_ret2
      exact HEnd.out
    | cons x fs =>
      have hnp : 0 < nf := by rw [← HNF.out]; simp
      obtain ⟨fg, rfl, hfg1, hfg2, hfg3, _⟩ := hfr hnp
      have k0 : w1.cell? ⟨fg, 0, none⟩ = some (.int .i64 x.1) := by rw [hfg3 0 (by omega)]; rfl
      have k1 : w1.cell? ⟨fg, 1, none⟩ = some (.string ⟨x.2.1.toArray⟩) := by rw [hfg3 1 (by omega)]; rfl
      obtain ⟨kd, hkd⟩ : ∃ k, x.1 = k := ⟨_, rfl⟩
      obtain ⟨pl, hpl⟩ : ∃ s : ByteArray, (⟨x.2.1.toArray⟩ : ByteArray) = s := ⟨_, rfl⟩
      have hpl2 : pl.data.toList = x.2.1 := by rw [← hpl]
      have hpls : pl.size ≤ 65536 := by
        have h1 : pl.size = pl.data.toList.length := rfl
        rw [h1, hpl2]
        exact HEa.out x (List.mem_cons_self ..)
      rw [hkd] at k0
      rw [hpl] at k1
      by_cases hk4 : kd = 4
      · subst hk4
        have CH := readHead_calls pl (by omega) w1
        have HCH := Lib.hid CH
        clear CH hfg3 hpl
        go_wp2_with fail
        refine HCH.out.mono ?_
        rintro e w2 ⟨rfl, hb2⟩
        have hbl2 := HB1.out.trans (hb2.mono hs1)
        have ho2 := own_belowAll HO1.out hb2
        obtain ⟨hd, hhd⟩ : ∃ hd, headP pl.data.toList = hd := ⟨_, rfl⟩
        rw [hhd]
        have HB2 := Lib.hid hbl2
        have HO2 := Lib.hid ho2
        obtain ⟨H, hH⟩ : ∃ H, hdOf (headK pl.data.toList 6).2 = H := ⟨_, rfl⟩
        rw [hH]
        obtain ⟨wz, ht, hbt, hlo, hhi, hnn⟩ := H
        cases hd with
        | none =>
          have hNo : openR b.data.toList = none := by
            unfold openR
            rw [HFS.out, HEN.out]
            simp only
            rw [if_neg (by rw [hkd, hlen]; simp), ← hpl2, hhd]
          have HEnd := Lib.hid (HNo.out _ hNo (hbl2.alloc hbl2.size (.cells #[.int .i64 wz, .int .i64 ht, .int .i64 hbt, .int .i64 hlo, .int .i64 hhi, .int .i64 hnn] 23)))
          unfold Hd.val
          clear hNo hbl2 ho2 hhd k0 k1 hH
          go_wp2
          go_ret2
          exact HEnd.out
        | some h =>
          have hh : hdOf (headK pl.data.toList 6).2 = h := by
            unfold headP at hhd
            split at hhd
            · cases hhd; rfl
            · cases hhd
          rw [hH] at hh
          subst hh
          obtain ⟨hh0, hhn, hh1, wn, cb, hw, hwc, hcb, hcw⟩ := headP_ok hhd
          have hw : wz = (wn : Int) := hw
          subst hw
          have HHD : Hid (openR b.data.toList = match blocksR ⟨wn, ht, hbt, hlo, hhi, hnn⟩ (x :: fs) [] with
            | none => none
            | some l => if (builtR ⟨wn, ht, hbt, hlo, hhi, hnn⟩ l).2 ≠ 0 ∨ (builtR ⟨wn, ht, hbt, hlo, hhi, hnn⟩ l).1 ≠ b.data.toList then none else some (⟨wn, ht, hbt, hlo, hhi, hnn⟩, l)) := Lib.hid (by
            conv => lhs; unfold openR
            rw [HFS.out, HEN.out]
            simp only
            rw [if_neg (by rw [hkd, hlen]; simp), ← hpl2, hhd])
          have hhn : hnn ≤ 2097152 := hhn
          have hh1 : 0 ≤ hnn := hh1
          obtain ⟨nn, rfl⟩ := Int.eq_ofNat_of_zero_le hh1
          obtain ⟨R, hR⟩ : ∃ R, blocksR ⟨wn, ht, hbt, hlo, hhi, nn⟩ (x :: fs) [] = R := ⟨_, rfl⟩
          rw [hR] at HHD
          have hcw : ((wn : Int) / 8).toNat = cb := hcw
          obtain ⟨L, hL⟩ : ∃ L, x :: fs = L := ⟨_, rfl⟩
          rw [hL] at hR HNF HEa HO2 ho2 HO1
          have H0 : Hid (OpRel w w2.heap.size (w2.heap.size + 1) ⟨wn, ht, hbt, hlo, hhi, nn⟩ (.slice (some ⟨fg, 0, none⟩) nf fc) L R 0 ((w2.alloc (.cells #[.int .i64 wn, .int .i64 ht, .int .i64 hbt, .int .i64 hlo, .int .i64 hhi, .int .i64 nn] 23)).alloc (.cells #[.int .i64 wn, .int .i64 ht, .int .i64 hbt, .int .i64 hlo, .int .i64 hhi, .int .i64 nn, .slice none 0 0, .slice none 0 0, .int .i64 0] 87))) := Lib.hid (by
            have h1 := World.alloc_heap_new w2 (.cells #[.int .i64 wn, .int .i64 ht, .int .i64 hbt, .int .i64 hlo, .int .i64 hhi, .int .i64 nn] 23)
            have h2 := World.alloc_heap_new (w2.alloc (.cells #[.int .i64 wn, .int .i64 ht, .int .i64 hbt, .int .i64 hlo, .int .i64 hhi, .int .i64 nn] 23)) (.cells #[.int .i64 wn, .int .i64 ht, .int .i64 hbt, .int .i64 hlo, .int .i64 hhi, .int .i64 nn, .slice none 0 0, .slice none 0 0, .int .i64 0] 87)
            rw [World.size_alloc] at h2
            refine ⟨[], none, 0, Nat.zero_le _, hR, by simp, fun e he => by simp at he, (Below.heap_alloc _ _ _ (by simp)).trans h1, h2, World.ownsRow_nil _ _ _ _, ?_, (hbl2.alloc hbl2.size _).alloc (by have := hbl2.size; simp; omega) _⟩
            have h3 := (ho2.alloc (.cells #[.int .i64 wn, .int .i64 ht, .int .i64 hbt, .int .i64 hlo, .int .i64 hhi, .int .i64 nn] 23)).alloc (.cells #[.int .i64 wn, .int .i64 ht, .int .i64 hbt, .int .i64 hlo, .int .i64 hhi, .int .i64 nn, .slice none 0 0, .slice none 0 0, .int .i64 0] 87)
            rw [HNF.out]
            exact h3)
          have hsw2 : w.heap.size ≤ w2.heap.size := hbl2.size
          have hfgb : fg < w2.heap.size := Nat.lt_of_lt_of_le hfg2 hb2.size
          have hbf : ∀ W : World, (Instr.build 87 #[(0, .agg #[.int .i64 wn, .int .i64 ht, .int .i64 hbt, .int .i64 hlo, .int .i64 hhi, .int .i64 nn])]).run Tryd.prog W = .ok (.agg #[.int .i64 wn, .int .i64 ht, .int .i64 hbt, .int .i64 hlo, .int .i64 hhi, .int .i64 nn, .slice none 0 0, .slice none 0 0, .int .i64 0]) W := fun W => run_build W _ _ _ (by kernel_rfl)
          obtain ⟨hb0, hhb0⟩ : ∃ q, w2.heap.size = q := ⟨_, rfl⟩
          unfold Hd.val
          clear hbl2 ho2 hhd k0 k1 hb2 hH hR hh1
          simp only
          go_wp2
          rw [hhb0] at H0 hsw2 hfgb
          clear hhb0
          go_loopw [51] (fun i wr => ∃ k : Nat, i = .int .i64 k ∧ OpRel w hb0 (hb0 + 1) ⟨wn, ht, hbt, hlo, hhi, nn⟩ (.slice (some ⟨fg, 0, none⟩) nf fc) L R k wr) (fun i _ => nf - (intOf i).toNat)
          case atStart => exact ⟨0, rfl, H0.out⟩
          case round =>
            obtain ⟨k, rfl, acc, lp, lc, hk, hbk, hacc, hcod, hhb, hfb, hown, hfo, hbl⟩ := hrel
            rw [HNF.out] at hk hfo
            simp only at hhb hfb hacc
            by_cases hlt : k < nf
            · obtain ⟨y, hy⟩ : ∃ y, L[k]? = some y := ⟨_, List.getElem?_eq_getElem (by rw [HNF.out]; exact hlt)⟩
              have hdr : L.drop k = y :: L.drop (k + 1) := by
                rw [List.drop_eq_getElem_cons (by rw [HNF.out]; exact hlt)]
                have := (List.getElem?_eq_some_iff.1 hy).2
                rw [this]
              rw [hdr] at hbk
              obtain ⟨y', hy', f0, f1, f2⟩ := encF_get L k (by rw [HNF.out]; exact hlt)
              obtain rfl : y = y' := Option.some.inj (hy.symm.trans hy')
              have hyl := HEa.out y (List.mem_of_getElem? hy)
              obtain ⟨kd, pd, ps⟩ := y
              simp only at f0 f1 f2 hyl
              obtain ⟨S, hS⟩ : ∃ S : ByteArray, (⟨pd.toArray⟩ : ByteArray) = S := ⟨_, rfl⟩
              have hS2 : S.data.toList = pd := by rw [← hS]
              have hSs : S.size ≤ 65536 := by
                have h1 : S.size = S.data.toList.length := rfl
                rw [h1, hS2]
                exact hyl
              rw [hS] at f1
              have g0 : wr.cell? ⟨fg, k * 3, none⟩ = some (.int .i64 kd) := by rw [hfo.cellAt _ (by omega)]; exact f0
              have g1 : wr.cell? ⟨fg, k * 3 + 1, none⟩ = some (.string S) := by rw [hfo.cellAt _ (by omega)]; exact f1
              have g2 : wr.cell? ⟨fg, k * 3 + 2, none⟩ = some (.int .i64 (ps : Nat)) := by rw [hfo.cellAt _ (by omega)]; exact f2
              have i0' : (0 : Int) ≤ (k : Int) := by omega
              have i1' : (k : Int) < (nf : Int) := by omega
              have hlb := (Array.getElem?_eq_some_iff.1 hfb).1
              have HFo := Lib.hid hfo
              have HHb := Lib.hid hhb
              have HFb := Lib.hid hfb
              have HOwn := Lib.hid hown
              have HBl := Lib.hid hbl
              have hA : ∀ o, Below wr.heap.size wr (wr.alloc o) := fun o => (Below.refl _ wr).alloc (Nat.le_refl _) o
              by_cases hk5 : kd = 5
              · subst hk5
                unfold blocksR at hbk
                rw [if_neg (by simp)] at hbk
                have HBk := Lib.hid hbk
                have CE := entries_calls ⟨wn, ht, hbt, hlo, hhi, nn⟩ wn cb rfl hwc hcb S (by omega) (wr.alloc (.cells #[.int .i64 5, .string S, .int .i64 (ps : Nat)] 83))
                unfold Hd.val at CE
                have HCE := Lib.hid CE
                obtain ⟨d0, d1, d2, d3, d4, d5⟩ := cells6 ((hA (.cells #[.int .i64 5, .string S, .int .i64 (ps : Nat)] 83)).block hb0 (by omega) |>.trans hhb)
                clear CE hbk hfo hhb hfb hown hbl f0 f1 f2 hdr hy hy' hS
                go_wp2_with fail
                refine HCE.out.mono ?_
                rintro e w3 ⟨hb3, hor⟩
                have hb3' : Below wr.heap.size wr w3 := (hA (.cells #[.int .i64 5, .string S, .int .i64 (ps : Nat)] 83)).trans (hb3.mono (by simp))
                have hs3 := hb3'.size
                have hbl3 := HBl.out.trans (hb3'.mono HBl.out.size)
                have hfb3 := (hb3'.block _ hlb).trans HFb.out
                have hhb3 := (hb3'.block hb0 (by omega)).trans HHb.out
                rcases hor with ⟨L2, v2, hE, rfl, ho3⟩ | ⟨hE, rfl⟩
                · obtain ⟨q2, c2, rfl, _, _, _⟩ := own_rd ho3
                  have hl2 : L2.length ≤ 65537 := by
                    have := entsGo_len cb S.data.toList (S.data.toList.length + 1) 0 [] L2 hE
                    have h2 : S.data.toList.length = S.size := rfl
                    simp only [List.length_nil] at this
                    omega
                  have hbk2 := HBk.out
                  rw [hcw, ← hS2, hE] at hbk2
                  simp only at hbk2
                  have hwr : IntKind.i64.wrap ((acc.length : Int) + (L2.length : Int)) = (acc.length : Int) + (L2.length : Int) := by rw [IntKind.wrap_i64]; omega
                  obtain ⟨x6, _⟩ := arr_cell hfb3 (k := 6) (v := .slice lp acc.length lc) rfl
                  obtain ⟨_, _, _, _, _, e5⟩ := cells6 hhb3
                  obtain ⟨al, hal⟩ : ∃ q, acc.length = q := ⟨_, rfl⟩
                  obtain ⟨ll, hll⟩ : ∃ q, L2.length = q := ⟨_, rfl⟩
                  by_cases hgt : nn < al + ll
                  · rw [if_pos (by rw [hal, hll]; omega)] at hbk2
                    have hNo : openR b.data.toList = none := by
                      rw [HHD.out, ← hbk2]
                    have HEnd := Lib.hid (fun W hW => HNo.out W hNo (hbl3.trans (hW : Below w.heap.size w3 W)))
                    rw [hal] at x6 hwr
                    rw [hll] at hwr
                    rw [hll]
                    have hdc : decide ((nn : Int) < (al : Int) + (ll : Int)) = true := by simp; omega
                    clear hNo hb3 hE hbk2 ho3 hal hll
                    go_wp2
                    go_quiet (fail)
                    go_wp2
                    go_ret2
                    exact HEnd.out _ (drewN_below _ _ _)
                  · rw [if_neg (by rw [hal, hll]; omega)] at hbk2
                    rw [hal] at x6 hwr
                    rw [hll] at hwr
                    have hdc : decide ((nn : Int) < (al : Int) + (ll : Int)) = false := by simp; omega
                    have hown3 := own_belowAll HOwn.out hb3'
                    have hfo3 := own_belowAll HFo.out hb3'
                    have hnews := (el_own ho3 rfl).news
                    have hlen2 : (encE L2).length = ll * 5 := by rw [encE_length, hll]
                    have hp2 : q2 = none → ll = 0 ∧ c2 = 0 := fun e => by
                      subst e
                      rcases ho3.2 with ⟨h1, h2⟩ | ⟨g, cp, cu, h1, _⟩
                      · simp only [Value.slice.injEq, true_and] at h1
                        exact ⟨by omega, h1.2⟩
                      · simp at h1
                    rw [hal] at hown3 hfb3
                    rw [hll]
                    have HAL := Lib.hid hal
                    have HLL := Lib.hid hll
                    have HBk2 := Lib.hid hbk2
                    have hE2 := Lib.hid hE
                    have HW3 := Lib.hid (And.intro hown3 (And.intro hfo3 (And.intro hnews (And.intro hfb3 (And.intro hhb3 hbl3)))))
                    have hs3w : hb0 + 1 < w3.heap.size := by omega
                    clear hb3 hE hbk2 ho3 hal hll hown3 hfo3 hnews hfb3 hhb3 hbl3 hb3' hs3
                    go_wp2
                    go_quiet (fail)
                    clear x6 e5
                    have hW4 : (w3.drewN nq).ownsRow _ _ _ _ _ _ ∧ (w3.drewN nq).ownsRow _ _ _ _ _ _ ∧ (∀ j u, (encE L2)[j]? = some u → ∃ ad, q2 = some ad ∧ (w3.drewN nq).cell? (ad.add j) = some u) ∧ (w3.drewN nq).heap[hb0 + 1]? = _ ∧ (w3.drewN nq).heap[hb0]? = _ ∧ Below w.heap.size w (w3.drewN nq) := ⟨HW3.out.1, HW3.out.2.1, HW3.out.2.2.1, HW3.out.2.2.2.1, HW3.out.2.2.2.2.1, below_drewN HW3.out.2.2.2.2.2 _⟩
                    have hs4w : hb0 + 1 < (w3.drewN nq).heap.size := hs3w
                    generalize w3.drewN nq = w4 at hW4 hs4w ⊢
                    obtain ⟨hown4, hfo4, hnews4, hfb4, hhb4, hbl4⟩ := hW4
                    obtain ⟨x6, y6⟩ := arr_cell hfb4 (k := 6) rfl
                    have HW4 := Lib.hid (And.intro hown4 (And.intro hfo4 (And.intro hfb4 (And.intro hhb4 hbl4))))
                    go_wp2_with (at_builtin; refine wpList_append_opt rfl _ _ 24 rfl (hb0 + 1 + 1) 33 i0 _ 5 48 Tryd.underlying24 hi hz0 hz1 hz2 rfl (by decide) (.slice lp al lc) al _ rfl hown4 q2 ll c2 (encE L2) rfl hp2 hlen2 hnews4 encE_mem1 (by unfold maxLen; omega) (by omega) (by omega) ?_; intro v5 w5 hown5 hg5; obtain ⟨p5, c5, rfl, _, _, _⟩ := own_rd hown5; have hlo5 := fun g (hg : (Value.slice lp al lc).ownBlock = some g) => (HW4.out.1.lt g hg).1; have hfb5 := (hg5.block (hb0 + 1) hs4w (fun e => (by have := hlo5 _ e.symm; omega))).trans HW4.out.2.2.1; obtain ⟨x7, y7⟩ := arr_cell hfb5 (k := 6) rfl)
                    have hhb5 := (hg5.block hb0 (by omega) (fun e => (by have := hlo5 _ e.symm; omega))).trans HW4.out.2.2.2.1
                    have hbl5 := HW4.out.2.2.2.2.grown hg5 HW4.out.2.2.2.2.size (fun g hg => (by have := hlo5 g hg; omega))
                    have hfo5 := own_grown HW4.out.2.1 hg5 (fun g hg e => (by
                      have h1 := hlo5 g e
                      have h2 := (HFo.out.lt g hg).2
                      have h3 := own_ne HFo.out HOwn.out (by decide) g hg
                      rw [HAL.out] at h3
                      exact h3 e))
                    have hset5 := arr_set hfb5 (k := 6) (.slice p5 (al + ll) c5)
                    have HR : Hid (OpRel w hb0 (hb0 + 1) ⟨wn, ht, hbt, hlo, hhi, nn⟩ (.slice (some ⟨fg, 0, none⟩) nf fc) L R (k + 1) (w5.setCell ⟨hb0 + 1, 6, none⟩ (.slice p5 (al + ll) c5))) := Lib.hid (by
                      have hl : (acc ++ L2).length = al + ll := by rw [List.length_append, HAL.out, HLL.out]
                      refine ⟨acc ++ L2, p5, c5, by rw [HNF.out]; exact hlt, HBk2.out, by rw [hl]; show ((al + ll : Nat) : Int) ≤ (nn : Int); omega, fun e he => ?_, (Below.heap_setCell w5 ⟨hb0 + 1, 6, none⟩ (.slice p5 (al + ll) c5) hb0 (show hb0 ≠ hb0 + 1 by omega)).trans hhb5, ?_, ?_, ?_, hbl5.setCell (p := ⟨hb0 + 1, 6, none⟩) (show w.heap.size ≤ hb0 + 1 by omega) _⟩
                      · rcases List.mem_append.1 he with he | he
                        · exact hcod e he
                        · exact Nat.le_trans (entsGo_codes cb S.data.toList _ 0 [] L2 (fun y hy => by simp at hy) hE2.out e he) hcb
                      · rw [hl]
                        exact hset5
                      · rw [hl, encE_append]
                        exact own_setCell hown5 (p := ⟨hb0 + 1, 6, none⟩) (fun e => by have h1 : hb0 + 1 + 1 ≤ hb0 + 1 := (hown5.lt _ e).1; omega) _
                      · rw [HNF.out]
                        refine own_setCell hfo5 (p := ⟨hb0 + 1, 6, none⟩) (fun e => ?_) _
                        have h1 : fg = hb0 + 1 := Option.some.inj e
                        omega)
                    clear hfb5 hset5 hhb5 hbl5 hfo5 hown5 hg5 hown4 hfo4 hfb4 hhb4 hbl4
                    exact ⟨⟨k + 1, by go_num, HR.out⟩, by simp [intOf]; omega⟩
                · have hNo : openR b.data.toList = none := by
                    rw [HHD.out]
                    have h1 := HBk.out
                    rw [hcw, ← hS2, hE] at h1
                    rw [← h1]
                  have HEnd := Lib.hid (fun W hW => HNo.out W hNo (hbl3.trans (hW : Below w.heap.size w3 W)))
                  obtain ⟨e0, e1, e2, e3, e4, e5⟩ := cells6 hhb3
                  clear hNo hb3 hE
                  go_wp2
                  go_quiet (fail)
                  go_wp2
                  go_ret2
                  exact HEnd.out _ (drewN_below _ _ _)
              · have hne : (kd != 5) = true := by rw [bne_iff_ne]; exact hk5
                unfold blocksR at hbk
                rw [if_pos (by simpa using hk5)] at hbk
                have HR : Hid (OpRel w hb0 (hb0 + 1) ⟨wn, ht, hbt, hlo, hhi, nn⟩ (.slice (some ⟨fg, 0, none⟩) nf fc) L R (k + 1) (wr.alloc (.cells #[.int .i64 kd, .string S, .int .i64 (ps : Nat)] 83))) := Lib.hid (by
                  refine ⟨acc, lp, lc, by rw [HNF.out]; exact hlt, hbk, hacc, hcod, ((hA _).block hb0 (by omega)).trans hhb, ((hA _).block _ hlb).trans hfb, hown.alloc _, ?_, hbl.alloc hbl.size _⟩
                  rw [HNF.out]
                  exact hfo.alloc _)
                clear hbk hfo hhb hfb hown hbl f0 f1 f2 hdr hy hy' hS
                go_wp2
                go_roundw
                case rel => exact ⟨k + 1, by go_num, HR.out⟩
                case measure => simp [intOf]; omega
            · obtain rfl : k = nf := by omega
              have hR : R = some acc := by
                rw [← hbk, List.drop_of_length_le (by rw [HNF.out]; exact Nat.le_refl _)]
                rfl
              subst hR
              have hHD := HHD.out
              simp only at hHD
              have hac := own_cap hown
              obtain ⟨r, hr⟩ : ∃ r, builtR ⟨wn, ht, hbt, hlo, hhi, nn⟩ acc = r := ⟨_, rfl⟩
              have CB := fun W (hW : Below wr.heap.size wr W) => Build_calls ⟨wn, ht, hbt, hlo, hhi, nn⟩ lp acc.length lc acc rfl (by omega) hac (fun e he => Nat.le_trans (hcod e he) (by decide)) W (HT.out.below (hbl.trans (hW.mono hbl.size))) (el_own (own_belowAll hown hW) rfl)
              have CU := fun (hg : ∀ e ∈ acc, Good e) W (hW : Below wr.heap.size wr W) => build_calls ⟨wn, ht, hbt, hlo, hhi, nn⟩ lp acc.length lc acc rfl (by omega) hac hg W (HT.out.below (hbl.trans (hW.mono hbl.size))) (el_own (own_belowAll hown hW) rfl)
              rw [hr] at CB hHD
              unfold Hd.val BuildPost at CB
              unfold Hd.val at CU
              obtain ⟨SB, hSB⟩ : ∃ s, (⟨r.1.toArray⟩ : ByteArray) = s := ⟨_, rfl⟩
              rw [hSB] at CB
              obtain ⟨rb, re⟩ := r
              simp only at CB CU hHD hSB
              have HCB := Lib.hid CB
              have HCU := Lib.hid CU
              have HR := Lib.hid hr
              have HHD2 := Lib.hid hHD
              have HOwn := Lib.hid hown
              have HFb := Lib.hid hfb
              have HHb := Lib.hid hhb
              have HBl := Lib.hid hbl
              have hlb := (Array.getElem?_eq_some_iff.1 hfb).1
              have HKp : Hid (∀ W, Below wr.heap.size wr W → W.cell? ⟨hb0, 0, none⟩ = some (.int .i64 wn) ∧ W.cell? ⟨hb0, 1, none⟩ = some (.int .i64 ht) ∧ W.cell? ⟨hb0, 2, none⟩ = some (.int .i64 hbt) ∧ W.cell? ⟨hb0, 3, none⟩ = some (.int .i64 hlo) ∧ W.cell? ⟨hb0, 4, none⟩ = some (.int .i64 hhi) ∧ W.cell? ⟨hb0, 5, none⟩ = some (.int .i64 nn) ∧ W.cell? ⟨hb0 + 1, 6, none⟩ = some (.slice lp acc.length lc)) := Lib.hid (fun W hW => by
                obtain ⟨k0, k1, k2, k3, k4, k5⟩ := cells6 ((hW.block hb0 (by omega)).trans hhb)
                exact ⟨k0, k1, k2, k3, k4, k5, (arr_cell ((hW.block _ hlb).trans hfb) (k := 6) rfl).1⟩)
              obtain ⟨d0, d1, d2, d3, d4, d5, x6⟩ := HKp.out wr (Below.refl _ _)
              clear CB CU hr hHD hown hfb hhb hbl hbk HHD
              go_wp2
              refine wp_region_held_drew (S := (fun W => W.cell? ⟨hb0, 0, none⟩ = some (.int .i64 wn) ∧ W.cell? ⟨hb0, 1, none⟩ = some (.int .i64 ht) ∧ W.cell? ⟨hb0, 2, none⟩ = some (.int .i64 hbt) ∧ W.cell? ⟨hb0, 3, none⟩ = some (.int .i64 hlo) ∧ W.cell? ⟨hb0, 4, none⟩ = some (.int .i64 hhi) ∧ W.cell? ⟨hb0, 5, none⟩ = some (.int .i64 nn) ∧ W.cell? ⟨hb0 + 1, 6, none⟩ = some (.slice lp acc.length lc))) (by kernel_rfl) ?_ (fun hHeld => ?_)
              · exact HKp.out wr.drew (Below.refl _ wr).drew
              refine wpAnyH_take (i := 0) (oi := { dst := some 91, op := Op.load 23 (Operand.tmp 6), type := 23, pos := "file.go:102", after := #[], guard := none }) (v := ?_) rfl (by kernel_rfl) (by kernel_rfl) (by kernel_rfl) (fun _ _ _ h => h) (Or.inl ⟨by rfl, ?_⟩) (by assumption) ?_
              rotate_left 1
              · intro w hSw
                (try dsimp only at hSw)
                go_simp
                try with_reducible rfl
              (try simp only [Act.put, List.setIfInBounds_toArray, List.set_cons_zero, List.set_cons_succ])
              refine wpAnyH_take (i := 1) (oi := { dst := some 92, op := Op.move (Operand.tmp 8), type := 36, pos := "file.go:102", after := #[], guard := none }) (v := ?_) rfl (by kernel_rfl) (by kernel_rfl) (by kernel_rfl) (fun _ _ _ h => h) (Or.inl ⟨by rfl, ?_⟩) (by assumption) ?_
              rotate_left 1
              · intro w hSw
                (try dsimp only at hSw)
                go_simp
                try with_reducible rfl
              (try simp only [Act.put, List.setIfInBounds_toArray, List.set_cons_zero, List.set_cons_succ])
              refine wpAnyH_take (i := 2) (oi := { dst := some 93, op := Op.nilCheck (Operand.tmp 92), type := 0, pos := "file.go:102", after := #[{ on := 1, ground := Ground.data }], guard := none }) (v := ?_) rfl (by kernel_rfl) (by kernel_rfl) (by kernel_rfl) (fun _ _ _ h => h) (Or.inl ⟨by rfl, ?_⟩) (by assumption) ?_
              rotate_left 1
              · intro w hSw
                (try dsimp only at hSw)
                go_simp
                try with_reducible rfl
              (try simp only [Act.put, List.setIfInBounds_toArray, List.set_cons_zero, List.set_cons_succ])
              refine wpAnyH_take (i := 3) (oi := { dst := some 94, op := Op.fieldAddr 87 (Operand.tmp 93) 1, type := 0, pos := "file.go:102", after := #[{ on := 2, ground := Ground.data }], guard := none }) (v := ?_) rfl (by kernel_rfl) (by kernel_rfl) (by kernel_rfl) (fun _ _ _ h => h) (Or.inl ⟨by rfl, ?_⟩) (by assumption) ?_
              rotate_left 1
              · intro w hSw
                (try dsimp only at hSw)
                go_simp
                try with_reducible rfl
              (try simp only [Act.put, List.setIfInBounds_toArray, List.set_cons_zero, List.set_cons_succ])
              refine wpAnyH_take (i := 4) (oi := { dst := some 95, op := Op.load 24 (Operand.tmp 94), type := 24, pos := "file.go:102", after := #[{ on := 3, ground := Ground.data }], guard := none }) (v := ?_) rfl (by kernel_rfl) (by kernel_rfl) (by kernel_rfl) (fun _ _ _ h => h) (Or.inl ⟨by rfl, ?_⟩) (by assumption) ?_
              rotate_left 1
              · intro w hSw
                (try dsimp only at hSw)
                go_simp
                try with_reducible rfl
              (try simp only [Act.put, List.setIfInBounds_toArray, List.set_cons_zero, List.set_cons_succ])
              refine wpAnyH_ready (rs := [5]) (by kernel_rfl) (by simp) ?_
              refine AllReadyH.cons (o := { dst := some 96, op := Op.call { callee := Callee.value (Operand.func 12), args := #[Operand.tmp 91, Operand.tmp 95], argTypes := #[23, 24] }, type := 27, pos := "file.go:102", after := #[{ on := 0, ground := Ground.data }, { on := 4, ground := Ground.data }], guard := none }) rfl (fun K hK => ?_) ?_
              rotate_left 1
              · exact AllReadyH.nil
              go_simp
              go_at_call 12; refine (HCB.out wr.drew (Below.refl _ wr).drew).mono ?_; rintro e w6 ⟨rfl, hb6⟩
              refine hK.out _ _ ?_ (fun hHeld5 => ?_)
              · exact HKp.out _ (below_of hb6)
              clear hK K
              (try simp only [Act.put, List.setIfInBounds_toArray, List.set_cons_zero, List.set_cons_succ])
              refine wpAnyH_take (i := 6) (oi := { dst := some 90, op := Op.move (Operand.tmp 96), type := 27, pos := "file.go:102", after := #[{ on := 5, ground := Ground.data }], guard := none }) (v := ?_) rfl (by kernel_rfl) (by kernel_rfl) (by kernel_rfl) (fun _ _ _ h => h) (Or.inl ⟨by rfl, ?_⟩) (by assumption) ?_
              rotate_left 1
              · intro w hSw
                (try dsimp only at hSw)
                go_simp
                try with_reducible rfl
              (try simp only [Act.put, List.setIfInBounds_toArray, List.set_cons_zero, List.set_cons_succ])
              refine wpAnyH_take (i := 7) (oi := { dst := some 97, op := Op.extract (Operand.tmp 90) 0, type := 9, pos := "file.go:102", after := #[{ on := 6, ground := Ground.data }], guard := none }) (v := ?_) rfl (by kernel_rfl) (by kernel_rfl) (by kernel_rfl) (fun _ _ _ h => h) (Or.inl ⟨by rfl, ?_⟩) (by assumption) ?_
              rotate_left 1
              · intro w hSw
                (try dsimp only at hSw)
                go_simp
                try with_reducible rfl
              (try simp only [Act.put, List.setIfInBounds_toArray, List.set_cons_zero, List.set_cons_succ])
              refine wpAnyH_take (i := 8) (oi := { dst := some 98, op := Op.extract (Operand.tmp 90) 1, type := 26, pos := "file.go:102", after := #[{ on := 6, ground := Ground.data }, { on := 9, ground := Ground.gcOnly Departure.lateStores }], guard := none }) (v := ?_) rfl (by kernel_rfl) (by kernel_rfl) (by kernel_rfl) (fun _ _ _ h => h) (Or.inl ⟨by rfl, ?_⟩) (by assumption) ?_
              rotate_left 1
              · intro w hSw
                (try dsimp only at hSw)
                go_simp
                try with_reducible rfl
              (try simp only [Act.put, List.setIfInBounds_toArray, List.set_cons_zero, List.set_cons_succ])
              refine wpAnyH_take (i := 9) (oi := { dst := some 13, op := Op.assign (Operand.tmp 97), type := 9, pos := "file.go:102", after := #[{ on := 7, ground := Ground.data }, { on := 5, ground := Ground.chain }, { on := 0, ground := Ground.phase }, { on := 1, ground := Ground.phase }, { on := 2, ground := Ground.phase }, { on := 3, ground := Ground.phase }, { on := 4, ground := Ground.phase }, { on := 5, ground := Ground.phase }, { on := 6, ground := Ground.phase }, { on := 7, ground := Ground.phase }, { on := 8, ground := Ground.textOnly Departure.lateStores }], guard := none }) (v := ?_) rfl (by kernel_rfl) (by kernel_rfl) (by kernel_rfl) (fun _ _ _ h => h) (Or.inl ⟨by rfl, ?_⟩) (by assumption) ?_
              rotate_left 1
              · intro w hSw
                (try dsimp only at hSw)
                go_simp
                try with_reducible rfl
              (try simp only [Act.put, List.setIfInBounds_toArray, List.set_cons_zero, List.set_cons_succ])
              refine wpAnyH_take (i := 10) (oi := { dst := some 14, op := Op.assign (Operand.tmp 98), type := 26, pos := "file.go:102", after := #[{ on := 8, ground := Ground.data }, { on := 9, ground := Ground.chain }, { on := 0, ground := Ground.phase }, { on := 1, ground := Ground.phase }, { on := 2, ground := Ground.phase }, { on := 3, ground := Ground.phase }, { on := 4, ground := Ground.phase }, { on := 5, ground := Ground.phase }, { on := 6, ground := Ground.phase }, { on := 7, ground := Ground.phase }, { on := 8, ground := Ground.phase }, { on := 9, ground := Ground.phase }], guard := none }) (v := ?_) rfl (by kernel_rfl) (by kernel_rfl) (by kernel_rfl) (fun _ _ _ h => h) (Or.inl ⟨by rfl, ?_⟩) (by assumption) ?_
              rotate_left 1
              · intro w hSw
                (try dsimp only at hSw)
                go_simp
                try with_reducible rfl
              (try simp only [Act.put, List.setIfInBounds_toArray, List.set_cons_zero, List.set_cons_succ])
              refine wpAnyH_done (by kernel_rfl) ?_ _
              have HB6 := Lib.hid (below_of hb6)
              have HBl6 := Lib.hid (HBl.out.trans ((below_of hb6).mono HBl.out.size))
              clear hb6 d0 d1 d2 d3 d4 d5 x6
              by_cases hre : re = 0
              · subst hre
                by_cases hSe : SB = b
                · subst hSe
                  have hrb : rb = SB.data.toList := by rw [← hSB]
                  have hgo : goesR ⟨wn, ht, hbt, hlo, hhi, nn⟩ acc = 0 := by
                    have h1 := HR.out
                    unfold builtR at h1
                    split at h1
                    · assumption
                    · next h2 => exact absurd (congrArg Prod.snd h1) h2
                  have hgd := (goesR_good hgo).2.2
                  have hop := HHD2.out
                  rw [if_neg (by simp [hrb])] at hop
                  have HOp := Lib.hid hop
                  have HCU2 := Lib.hid (HCU.out hgd)
                  clear hgo hop hgd hrb hSB
                  go_wp2
                  refine wp_region_held_drew (S := (fun W => W.cell? ⟨hb0, 0, none⟩ = some (.int .i64 wn) ∧ W.cell? ⟨hb0, 1, none⟩ = some (.int .i64 ht) ∧ W.cell? ⟨hb0, 2, none⟩ = some (.int .i64 hbt) ∧ W.cell? ⟨hb0, 3, none⟩ = some (.int .i64 hlo) ∧ W.cell? ⟨hb0, 4, none⟩ = some (.int .i64 hhi) ∧ W.cell? ⟨hb0, 5, none⟩ = some (.int .i64 nn) ∧ W.cell? ⟨hb0 + 1, 6, none⟩ = some (.slice lp acc.length lc))) (by kernel_rfl) ?_ (fun hHeld => ?_)
                  · exact HKp.out w6.drew HB6.out.drew
                  refine wpAnyH_take (i := 0) (oi := { dst := some 107, op := Op.move (Operand.tmp 8), type := 36, pos := "file.go:106", after := #[], guard := none }) (v := ?_) rfl (by kernel_rfl) (by kernel_rfl) (by kernel_rfl) (fun _ _ _ h => h) (Or.inl ⟨by rfl, ?_⟩) (by assumption) ?_
                  rotate_left 1
                  · intro w hSw
                    (try dsimp only at hSw)
                    go_simp
                    try with_reducible rfl
                  (try simp only [Act.put, List.setIfInBounds_toArray, List.set_cons_zero, List.set_cons_succ])
                  refine wpAnyH_take (i := 1) (oi := { dst := some 108, op := Op.load 23 (Operand.tmp 6), type := 23, pos := "file.go:106", after := #[], guard := none }) (v := ?_) rfl (by kernel_rfl) (by kernel_rfl) (by kernel_rfl) (fun _ _ _ h => h) (Or.inl ⟨by rfl, ?_⟩) (by assumption) ?_
                  rotate_left 1
                  · intro w hSw
                    (try dsimp only at hSw)
                    go_simp
                    try with_reducible rfl
                  (try simp only [Act.put, List.setIfInBounds_toArray, List.set_cons_zero, List.set_cons_succ])
                  refine wpAnyH_take (i := 2) (oi := { dst := some 109, op := Op.move (Operand.tmp 8), type := 36, pos := "file.go:106", after := #[], guard := none }) (v := ?_) rfl (by kernel_rfl) (by kernel_rfl) (by kernel_rfl) (fun _ _ _ h => h) (Or.inl ⟨by rfl, ?_⟩) (by assumption) ?_
                  rotate_left 1
                  · intro w hSw
                    (try dsimp only at hSw)
                    go_simp
                    try with_reducible rfl
                  (try simp only [Act.put, List.setIfInBounds_toArray, List.set_cons_zero, List.set_cons_succ])
                  refine wpAnyH_take (i := 3) (oi := { dst := some 110, op := Op.nilCheck (Operand.tmp 109), type := 0, pos := "file.go:106", after := #[{ on := 2, ground := Ground.data }], guard := none }) (v := ?_) rfl (by kernel_rfl) (by kernel_rfl) (by kernel_rfl) (fun _ _ _ h => h) (Or.inl ⟨by rfl, ?_⟩) (by assumption) ?_
                  rotate_left 1
                  · intro w hSw
                    (try dsimp only at hSw)
                    go_simp
                    try with_reducible rfl
                  (try simp only [Act.put, List.setIfInBounds_toArray, List.set_cons_zero, List.set_cons_succ])
                  refine wpAnyH_take (i := 4) (oi := { dst := some 111, op := Op.fieldAddr 87 (Operand.tmp 110) 1, type := 0, pos := "file.go:106", after := #[{ on := 3, ground := Ground.data }], guard := none }) (v := ?_) rfl (by kernel_rfl) (by kernel_rfl) (by kernel_rfl) (fun _ _ _ h => h) (Or.inl ⟨by rfl, ?_⟩) (by assumption) ?_
                  rotate_left 1
                  · intro w hSw
                    (try dsimp only at hSw)
                    go_simp
                    try with_reducible rfl
                  (try simp only [Act.put, List.setIfInBounds_toArray, List.set_cons_zero, List.set_cons_succ])
                  refine wpAnyH_take (i := 5) (oi := { dst := some 112, op := Op.load 24 (Operand.tmp 111), type := 24, pos := "file.go:106", after := #[{ on := 4, ground := Ground.data }], guard := none }) (v := ?_) rfl (by kernel_rfl) (by kernel_rfl) (by kernel_rfl) (fun _ _ _ h => h) (Or.inl ⟨by rfl, ?_⟩) (by assumption) ?_
                  rotate_left 1
                  · intro w hSw
                    (try dsimp only at hSw)
                    go_simp
                    try with_reducible rfl
                  (try simp only [Act.put, List.setIfInBounds_toArray, List.set_cons_zero, List.set_cons_succ])
                  refine wpAnyH_ready (rs := [6]) (by kernel_rfl) (by simp) ?_
                  refine AllReadyH.cons (o := { dst := some 113, op := Op.call { callee := Callee.value (Operand.func 34), args := #[Operand.tmp 108, Operand.tmp 112], argTypes := #[23, 24] }, type := 67, pos := "file.go:106", after := #[{ on := 1, ground := Ground.data }, { on := 5, ground := Ground.data }], guard := none }) rfl (fun K hK => ?_) ?_
                  rotate_left 1
                  · exact AllReadyH.nil
                  go_simp
                  go_at_call 34; refine (HCU2.out w6.drew (HB6.out.drew)).mono ?_; rintro e w8 ⟨q, c, rfl, hb8, ho8⟩; have hb8' := HB6.out.trans ((below_of hb8).mono HB6.out.size); have hf8 := (hb8'.block _ hlb).trans HFb.out; obtain ⟨x7, y7⟩ := arr_cell hf8 (k := 7) rfl
                  refine hK.out _ _ ?_ (fun hHeld6 => ?_)
                  · exact HKp.out _ hb8'
                  clear hK K
                  (try simp only [Act.put, List.setIfInBounds_toArray, List.set_cons_zero, List.set_cons_succ])
                  refine wpAnyH_take (i := 7) (oi := { dst := some 106, op := Op.move (Operand.tmp 113), type := 67, pos := "file.go:106", after := #[{ on := 6, ground := Ground.data }], guard := none }) (v := ?_) rfl (by kernel_rfl) (by kernel_rfl) (by kernel_rfl) (fun _ _ _ h => h) (Or.inl ⟨by rfl, ?_⟩) (by assumption) ?_
                  rotate_left 1
                  · intro w hSw
                    (try dsimp only at hSw)
                    go_simp
                    try with_reducible rfl
                  (try simp only [Act.put, List.setIfInBounds_toArray, List.set_cons_zero, List.set_cons_succ])
                  refine wpAnyH_take (i := 8) (oi := { dst := some 114, op := Op.extract (Operand.tmp 106) 0, type := 9, pos := "file.go:106", after := #[{ on := 7, ground := Ground.data }], guard := none }) (v := ?_) rfl (by kernel_rfl) (by kernel_rfl) (by kernel_rfl) (fun _ _ _ h => h) (Or.inl ⟨by rfl, ?_⟩) (by assumption) ?_
                  rotate_left 1
                  · intro w hSw
                    (try dsimp only at hSw)
                    go_simp
                    try with_reducible rfl
                  (try simp only [Act.put, List.setIfInBounds_toArray, List.set_cons_zero, List.set_cons_succ])
                  refine wpAnyH_take (i := 9) (oi := { dst := some 115, op := Op.extract (Operand.tmp 106) 1, type := 66, pos := "file.go:106", after := #[{ on := 7, ground := Ground.data }], guard := none }) (v := ?_) rfl (by kernel_rfl) (by kernel_rfl) (by kernel_rfl) (fun _ _ _ h => h) (Or.inl ⟨by rfl, ?_⟩) (by assumption) ?_
                  rotate_left 1
                  · intro w hSw
                    (try dsimp only at hSw)
                    go_simp
                    try with_reducible rfl
                  (try simp only [Act.put, List.setIfInBounds_toArray, List.set_cons_zero, List.set_cons_succ])
                  refine wpAnyH_take (i := 10) (oi := { dst := some 116, op := Op.nilCheck (Operand.tmp 107), type := 0, pos := "file.go:106", after := #[{ on := 0, ground := Ground.data }, { on := 0, ground := Ground.phase }, { on := 1, ground := Ground.phase }, { on := 2, ground := Ground.phase }, { on := 3, ground := Ground.phase }, { on := 4, ground := Ground.phase }, { on := 5, ground := Ground.phase }, { on := 6, ground := Ground.phase }, { on := 7, ground := Ground.phase }, { on := 8, ground := Ground.phase }, { on := 9, ground := Ground.phase }], guard := none }) (v := ?_) rfl (by kernel_rfl) (by kernel_rfl) (by kernel_rfl) (fun _ _ _ h => h) (Or.inl ⟨by rfl, ?_⟩) (by assumption) ?_
                  rotate_left 1
                  · intro w hSw
                    (try dsimp only at hSw)
                    go_simp
                    try with_reducible rfl
                  (try simp only [Act.put, List.setIfInBounds_toArray, List.set_cons_zero, List.set_cons_succ])
                  refine wpAnyH_take (i := 11) (oi := { dst := some 117, op := Op.fieldAddr 87 (Operand.tmp 116) 2, type := 0, pos := "file.go:106", after := #[{ on := 10, ground := Ground.data }, { on := 0, ground := Ground.phase }, { on := 1, ground := Ground.phase }, { on := 2, ground := Ground.phase }, { on := 3, ground := Ground.phase }, { on := 4, ground := Ground.phase }, { on := 5, ground := Ground.phase }, { on := 6, ground := Ground.phase }, { on := 7, ground := Ground.phase }, { on := 8, ground := Ground.phase }, { on := 9, ground := Ground.phase }], guard := none }) (v := ?_) rfl (by kernel_rfl) (by kernel_rfl) (by kernel_rfl) (fun _ _ _ h => h) (Or.inl ⟨by rfl, ?_⟩) (by assumption) ?_
                  rotate_left 1
                  · intro w hSw
                    (try dsimp only at hSw)
                    go_simp
                    try with_reducible rfl
                  (try simp only [Act.put, List.setIfInBounds_toArray, List.set_cons_zero, List.set_cons_succ])
                  refine wpAnyH_ready (rs := [12]) (by kernel_rfl) (by simp) ?_
                  refine AllReadyH.cons (o := { dst := none, op := Op.store 66 (Operand.tmp 117) (Operand.tmp 115), type := 0, pos := "file.go:106", after := #[{ on := 11, ground := Ground.data }, { on := 9, ground := Ground.data }, { on := 6, ground := Ground.chain }, { on := 0, ground := Ground.phase }, { on := 1, ground := Ground.phase }, { on := 2, ground := Ground.phase }, { on := 3, ground := Ground.phase }, { on := 4, ground := Ground.phase }, { on := 5, ground := Ground.phase }, { on := 6, ground := Ground.phase }, { on := 7, ground := Ground.phase }, { on := 8, ground := Ground.phase }, { on := 9, ground := Ground.phase }], guard := none }) rfl (fun K hK => ?_) ?_
                  rotate_left 1
                  · exact AllReadyH.nil
                  go_simp
                  refine hK.out _ _ ?_ (fun hHeld12 => ?_)
                  · exact keepF (W := w8) (k := 7) (by omega) (by omega) (HKp.out w8 hb8')
                  clear hK K
                  (try simp only [Act.put, List.setIfInBounds_toArray, List.set_cons_zero, List.set_cons_succ])
                  refine wpAnyH_done (by kernel_rfl) ?_ _
                  go_wp2
                  go_ret2
                  have hs8 := hb8'.size
                  have hown8 := own_belowAll HOwn.out hb8'
                  have hset8 := arr_set hf8 (k := 7) (.slice q (linesB ⟨wn, ht, hbt, hlo, hhi, nn⟩ acc).length c)
                  have hs6 := HB6.out.size
                  have ho8q : ∀ g, (Value.slice q (linesB ⟨wn, ht, hbt, hlo, hhi, nn⟩ acc).length c).ownBlock = some g → w6.heap.size ≤ g := fun g hg => (ho8.lt g hg).1
                  refine ⟨(HBl.out.trans (hb8'.mono HBl.out.size)).setCell (p := ⟨hb0 + 1, 7, none⟩) (show w.heap.size ≤ hb0 + 1 by omega) _, .inr ⟨⟨wn, ht, hbt, hlo, hhi, nn⟩, acc, hb0 + 1, HOp.out, rfl, lp, lc, q, c, hset8, ?_, ?_, by omega⟩⟩
                  · refine own_setCell (own_le hown8 (by omega)) (p := ⟨hb0 + 1, 7, none⟩) (fun e => ?_) _
                    have h1 : hb0 + 1 + 1 ≤ hb0 + 1 := (hown8.lt _ e).1
                    omega
                  · refine own_setCell (own_le ho8 (show w.heap.size ≤ w6.drew.heap.size by rw [heap_drewX]; omega)) (p := ⟨hb0 + 1, 7, none⟩) (fun e => ?_) _
                    have h1 : w6.heap.size ≤ hb0 + 1 := ho8q _ e
                    omega
                · have hNo : openR b.data.toList = none := by
                    have hnb : rb ≠ b.data.toList := fun e => hSe (by rw [← hSB, e])
                    rw [HHD2.out, if_pos (.inr hnb)]
                  have HEnd := Lib.hid (HNo.out w6 hNo HBl6.out)
                  have hne : (SB.toList == b.toList) = false := by
                    rw [beq_eq_false_iff_ne]
                    intro e
                    rw [ByteArray.toList_eq, ByteArray.toList_eq] at e
                    exact hSe (ByteArray.ext (Array.toList_inj.1 e))
                  clear hNo hSB
                  go_wp2
                  go_ret2
                  exact HEnd.out
              · have hNo : openR b.data.toList = none := by
                  rw [HHD2.out, if_pos (.inl hre)]
                have HEnd := Lib.hid (HNo.out w6 hNo HBl6.out)
                have hne : (re != 0) = true := by rw [bne_iff_ne]; exact hre
                clear hNo hSB hre
                go_wp2
                go_ret2
                exact HEnd.out
      · have hNo : openR b.data.toList = none := by
          unfold openR
          rw [HFS.out]
          simp only
          rw [if_pos (.inr (by rw [hkd]; exact hk4))]
        have HEnd := Lib.hid (HNo.out _ hNo HB1.out)
        have hne : (kd != 4) = true := by rw [bne_iff_ne]; exact hk4
        clear hNo hfg3 hpl
        go_wp2
        go_ret2
        exact HEnd.out
  · have hNo : openR b.data.toList = none := by
      unfold openR
      rw [HFS.out, HEN.out]
      cases fs with
      | nil => rfl
      | cons x fs => simp only; rw [if_pos (.inl (by rw [hlen]; exact hend))]
    have HEnd := Lib.hid (HNo.out _ hNo HB1.out)
    have hne : ((en : Int) != (b.size : Int)) = true := by rw [bne_iff_ne]; omega
    clear hNo hfr
    go_wp2
    go_ret2
    exact HEnd.out
end Go.Proofs.YtihgjihdmlomaaaDoor
