/-
  WALK: a file opened, by the document (Open).
-/
import Derived.Test.YtihgjihdmlomaaaDoorJBwD
import Derived.Test.YtihgjihdmlomaaaDoorJBwF
namespace Go.Proofs.YtihgjihdmlomaaaDoor
open Go.RowKit ArgK
set_option linter.unusedVariables false

theorem ropen_none {b : List UInt8} (h : readR (framesR b).1 = none) : openR b = none := by
  cases ho : openR b with
  | none => rfl
  | some q =>
    obtain ⟨h', l'⟩ := q
    obtain ⟨hg, rfl⟩ := openR_some ho
    rw [readR_file hg] at h
    cases h
theorem ropen_yes {b : List UInt8} {h : Hd} {l : List Ent} (hb : builtR h l = (b, 0)) : goesR h l = 0 ∧ openR b = some (⟨h.w, h.t, h.b, h.lo, h.hi, (l.length : Nat)⟩, l) := by
  unfold builtR at hb
  by_cases hg : goesR h l = 0
  · rw [if_pos hg] at hb
    have h2 : fileB h l = b := congrArg Prod.fst hb
    rw [← h2]
    exact ⟨hg, openR_fileB hg⟩
  · rw [if_neg hg] at hb
    exact absurd (congrArg Prod.snd hb) hg
theorem ropen_no {b : List UInt8} {h : Hd} {l : List Ent} (hr : readR (framesR b).1 = some (h, l)) (hb : builtR h l ≠ (b, 0)) : openR b = none := by
  cases ho : openR b with
  | none => rfl
  | some q =>
    obtain ⟨h', l'⟩ := q
    obtain ⟨hg, rfl⟩ := openR_some ho
    rw [readR_file hg] at hr
    cases hr
    exfalso
    apply hb
    rw [builtR_n]
    unfold builtR
    rw [if_pos hg]

def ROpenPost (w : World) (b : List UInt8) (e : Ending) (w' : World) : Prop :=
  Below w.heap.size w w' ∧ ((openR b = none ∧ e = .returned (.tuple #[.pointer none, .int .i64 80])) ∨
    (∃ h l fb, openR b = some (h, l) ∧ e = .returned (.tuple #[.pointer (some ⟨fb, 0, none⟩), .int .i64 0]) ∧ RFileAt w' w.heap.size fb h l 0))

set_option maxRecDepth 100000 in
set_option maxHeartbeats 4000000 in
theorem ROpen_calls (b : ByteArray) (hb : b.size ≤ 1048576) (w : World) :
    Calls Tryd.prog 16 #[.string b] w (ROpenPost w b.data.toList) := by
  have hlen : b.data.toList.length = b.size := rfl
  have hle := (framesR_le b.data.toList).1
  have hEa := framesR_each b.data.toList
  have CF := RefFrames_calls b (by omega) w
  have CR := fun fv w1 (ho1 : World.ownsRow w1 w.heap.size 83 3 fv (framesR b.data.toList).1.length (encF (framesR b.data.toList).1)) => read_calls w.heap.size fv (framesR b.data.toList).1 (by omega) (fun x hx => by have := hEa x hx; omega) w1 ho1
  have HNo : Hid (∀ W, openR b.data.toList = none → Below w.heap.size w W → ROpenPost w b.data.toList (.returned (.tuple #[.pointer none, .int .i64 80])) W) := Lib.hid (fun W h hW => ⟨hW, .inl ⟨h, rfl⟩⟩)
  obtain ⟨fs, hfs⟩ : ∃ fs, (framesR b.data.toList).1 = fs := ⟨_, rfl⟩
  obtain ⟨en, hen⟩ : ∃ en, (framesR b.data.toList).2 = en := ⟨_, rfl⟩
  rw [hfs] at CF CR hle hEa
  rw [hen] at CF
  obtain ⟨nf, hnf⟩ : ∃ nf, fs.length = nf := ⟨_, rfl⟩
  rw [hnf] at CF CR
  have HCF := Lib.hid CF
  have HCR := Lib.hid CR
  have HFS := Lib.hid hfs
  clear CF CR hfs hen hEa hle
  go_enter Tryd.func16, Tryd.ntmps16
  go_wp2_with fail
  refine HCF.out.mono ?_
  rintro e w1 ⟨fv, rfl, ho1, hb1⟩
  have HB1 := Lib.hid hb1
  have HCR1 := Lib.hid (HCR.out fv w1 ho1)
  have hs1 := hb1.size
  clear ho1 hb1 HCR HCF
  cases hr : readR fs with
  | none =>
    have hN := HNo.out
    have hno : openR b.data.toList = none := ropen_none (by rw [HFS.out]; exact hr)
    have HE := Lib.hid (fun W hW => HNo.out W hno hW)
    clear hN hno HNo
    go_wp2_with fail
    refine HCR1.out.mono ?_
    rintro e w2 ⟨hb2, ⟨h', l', v, h1, _⟩ | ⟨_, rfl⟩⟩
    · rw [hr] at h1; cases h1
    · have HB2 := Lib.hid (HB1.out.trans (hb2.mono hs1))
      clear hb2
      go_wp2
      go_ret2
      exact HE.out _ (HB2.out.alloc HB2.out.size _)
  | some q =>
    obtain ⟨h, l⟩ := q
    have HNr : Hid (builtR h l ≠ (b.data.toList, 0) → openR b.data.toList = none) := Lib.hid (ropen_no (by rw [HFS.out]; exact hr))
    go_wp2_with fail
    refine HCR1.out.mono ?_
    rintro e w2 ⟨hb2, hor⟩
    obtain ⟨v, rfl, ho2, hl2, hc2⟩ : ∃ v, e = .returned (.tuple #[h.val, v, .bool true]) ∧ w2.ownsRow w1.heap.size 33 5 v l.length (encE l) ∧ l.length ≤ 4398046511104 ∧ ∀ x ∈ l, x.c.size ≤ 128 := by
      rcases hor with ⟨h', l', v, h1, h2, h3, h4, h5⟩ | ⟨h1, _⟩
      · rw [hr] at h1
        cases h1
        exact ⟨v, h2, h3, h4, h5⟩
      · rw [hr] at h1; cases h1
    have HB2 := Lib.hid (HB1.out.trans (hb2.mono hs1))
    obtain ⟨vp, vc, rfl, _⟩ := own_rd ho2
    have hbA : ∀ o, Below w2.heap.size w2 (w2.alloc o) := fun o => (Below.refl _ w2).alloc (Nat.le_refl _) o
    have CB := fun W (hW : Below w2.heap.size w2 W) => RefBuild_calls h vp l.length vc l rfl hl2 (fun e he => by have := hc2 e he; omega) W (el_own (own_belowAll ho2 hW) rfl)
    have CS := fun W (hW : Below w2.heap.size w2 W) (hg : ∀ e ∈ l, Good e) (hm : l.length ≤ 2097152) => Sizes_calls vp l.length vc l rfl hm hg W (el_own (own_belowAll ho2 hW) rfl)
    have HCB := Lib.hid CB
    have HCS := Lib.hid CS
    have HO2 := Lib.hid ho2
    have hws2 : w.heap.size ≤ w2.heap.size := HB2.out.size
    obtain ⟨hw, ht, hbt, hlo, hhi, hnn⟩ := h
    unfold Hd.val at HCB ⊢
    obtain ⟨r, hrr⟩ : ∃ r, builtR ⟨hw, ht, hbt, hlo, hhi, hnn⟩ l = r := ⟨_, rfl⟩
    obtain ⟨rb, re⟩ := r
    rw [hrr] at HCB HNr
    obtain ⟨n, hn⟩ : ∃ n, l.length = n := ⟨_, rfl⟩
    rw [hn] at HCB HCS HO2 ⊢
    have hn2 : n ≤ 4398046511104 := by omega
    clear CB CS ho2 hb2 hl2
    simp only
    go_wp2_with fail
    refine (HCB.out _ (hbA _)).mono ?_
    rintro e w3 ⟨rfl, hb3⟩
    have hb3' := (hbA (.cells #[.int .i64 hw, .int .i64 ht, .int .i64 hbt, .int .i64 hlo, .int .i64 hhi, .int .i64 hnn] 23)).trans (hb3.mono (by simp))
    have hbx := (hb3.block w2.heap.size (by simp)).trans (World.alloc_heap_new w2 (.cells #[.int .i64 hw, .int .i64 ht, .int .i64 hbt, .int .i64 hlo, .int .i64 hhi, .int .i64 hnn] 23))
    have HB23 := Lib.hid hb3'
    have HBX := Lib.hid hbx
    have HB3 := Lib.hid (HB2.out.trans (hb3'.mono hws2))
    have hxl : w2.heap.size < w3.heap.size := (Array.getElem?_eq_some_iff.1 hbx).1
    obtain ⟨SB, hSB⟩ : ∃ s : ByteArray, (⟨rb.toArray⟩ : ByteArray) = s := ⟨_, rfl⟩
    simp only [hSB]
    by_cases hre : re = 0
    · subst hre
      by_cases hSe : SB = b
      · subst hSe
        have hrb : rb = SB.data.toList := by rw [← hSB]
        rw [hrb] at hrr
        obtain ⟨hgo, hop⟩ := ropen_yes hrr
        obtain ⟨hh0, hl2, hgd⟩ := goesR_good hgo
        have HEnd : Hid (∀ W fb v, W.heap[fb]? = some (.cells #[.int .i64 hw, .int .i64 ht, .int .i64 hbt, .int .i64 hlo, .int .i64 hhi, .int .i64 n, .slice vp n vc, v, .int .i64 0] 94 (0, 0)) → Below w.heap.size w W → W.ownsRow w.heap.size 33 5 (.slice vp n vc) n (encE l) → W.ownsRow w.heap.size 3 1 v (groups l).length (natV ((groups l).map List.length)) → w.heap.size ≤ fb → ROpenPost w SB.data.toList (.returned (.tuple #[.pointer (some ⟨fb, 0, none⟩), .int .i64 0])) W) := Lib.hid (fun W fb v q1 q2 q3 q4 q5 => by
          obtain ⟨p2, c2, rfl, _⟩ := own_rd q4
          rw [hn] at hop
          exact ⟨q2, .inr ⟨_, l, fb, hop, rfl, vp, vc, p2, c2, by rw [hn]; exact q1, by rw [hn]; exact q3, q4, q5⟩⟩)
        have HCS2 := Lib.hid (fun W hW => HCS.out W hW hgd (by omega))
        obtain ⟨d0, _⟩ := arr_cell hbx (k := 0) rfl
        obtain ⟨d1, _⟩ := arr_cell hbx (k := 1) rfl
        obtain ⟨d2, _⟩ := arr_cell hbx (k := 2) rfl
        obtain ⟨d3, _⟩ := arr_cell hbx (k := 3) rfl
        obtain ⟨d4, _⟩ := arr_cell hbx (k := 4) rfl
        obtain ⟨d5, k5⟩ := arr_cell hbx (k := 5) rfl
        have hbu : ∀ (W : World) (p6 : Option Addr) (m6 c6 : Nat), (Instr.build 94 #[(0, .agg #[.int .i64 hw, .int .i64 ht, .int .i64 hbt, .int .i64 hlo, .int .i64 hhi, .int .i64 n]), (1, .slice vp n vc), (2, .slice p6 m6 c6)]).run Tryd.prog W = .ok (.agg #[.int .i64 hw, .int .i64 ht, .int .i64 hbt, .int .i64 hlo, .int .i64 hhi, .int .i64 n, .slice vp n vc, .slice p6 m6 c6, .int .i64 0]) W := fun W p6 m6 c6 => run_build W _ _ _ (by kernel_rfl)
        clear hb3 hb3' hbx hSB hrr hop HNr HNo hrb
        go_wp2
        obtain ⟨W5, hW5⟩ : ∃ W, w3.setCell ⟨w2.heap.size, 5, none⟩ (.int .i64 n) = W := ⟨_, rfl⟩
        have hxE : W5.heap[w2.heap.size]? = some (.cells #[.int .i64 hw, .int .i64 ht, .int .i64 hbt, .int .i64 hlo, .int .i64 hhi, .int .i64 n] 23 (0, 0)) := by rw [← hW5]; exact arr_set (k := 5) HBX.out _
        have hB5 : Below w2.heap.size w2 W5 := by rw [← hW5]; exact HB23.out.setCell (p := ⟨w2.heap.size, 5, none⟩) (Nat.le_refl _) _
        have HB5 := Lib.hid hB5
        have hxl5 : w2.heap.size < W5.heap.size := (Array.getElem?_eq_some_iff.1 hxE).1
        have HSK : Hid (∀ W, Below W5.heap.size W5 W → (fun W => W.cell? ⟨w2.heap.size, 0, none⟩ = some (.int .i64 hw) ∧ W.cell? ⟨w2.heap.size, 1, none⟩ = some (.int .i64 ht) ∧ W.cell? ⟨w2.heap.size, 2, none⟩ = some (.int .i64 hbt) ∧ W.cell? ⟨w2.heap.size, 3, none⟩ = some (.int .i64 hlo) ∧ W.cell? ⟨w2.heap.size, 4, none⟩ = some (.int .i64 hhi) ∧ W.cell? ⟨w2.heap.size, 5, none⟩ = some (.int .i64 n)) W) := Lib.hid (fun W hW => cells6 ((hW.block _ hxl5).trans hxE))
        rw [hW5]
        clear hW5 d0 d1 d2 d3 d4 d5 k5
        obtain ⟨d0, d1, d2, d3, d4, d5⟩ := cells6 hxE
        clear hxE hB5
        refine wp_region_held_drew (S := (fun W => W.cell? ⟨w2.heap.size, 0, none⟩ = some (.int .i64 hw) ∧ W.cell? ⟨w2.heap.size, 1, none⟩ = some (.int .i64 ht) ∧ W.cell? ⟨w2.heap.size, 2, none⟩ = some (.int .i64 hbt) ∧ W.cell? ⟨w2.heap.size, 3, none⟩ = some (.int .i64 hlo) ∧ W.cell? ⟨w2.heap.size, 4, none⟩ = some (.int .i64 hhi) ∧ W.cell? ⟨w2.heap.size, 5, none⟩ = some (.int .i64 n))) (by kernel_rfl) ?_ (fun hHeld => ?_)
        · exact HSK.out _ (Below.refl _ W5).drew
        refine wpAnyH_take (i := 0) (oi := { dst := some 40, op := Op.load 23 (Operand.tmp 6), type := 23, pos := "kindredref6.go:262", after := #[], guard := none }) (v := ?_) rfl (by kernel_rfl) (by kernel_rfl) (by kernel_rfl) (fun _ _ _ h => h) (Or.inl ⟨by rfl, ?_⟩) (by assumption) ?_
        rotate_left 1
        · intro w hSw
          (try dsimp only at hSw)
          go_simp
          try with_reducible rfl
        (try simp only [Act.put, List.setIfInBounds_toArray, List.set_cons_zero, List.set_cons_succ])
        refine wpAnyH_take (i := 1) (oi := { dst := some 41, op := Op.move (Operand.tmp 7), type := 24, pos := "kindredref6.go:262", after := #[], guard := none }) (v := ?_) rfl (by kernel_rfl) (by kernel_rfl) (by kernel_rfl) (fun _ _ _ h => h) (Or.inl ⟨by rfl, ?_⟩) (by assumption) ?_
        rotate_left 1
        · intro w hSw
          (try dsimp only at hSw)
          go_simp
          try with_reducible rfl
        (try simp only [Act.put, List.setIfInBounds_toArray, List.set_cons_zero, List.set_cons_succ])
        refine wpAnyH_take (i := 2) (oi := { dst := some 42, op := Op.move (Operand.tmp 7), type := 24, pos := "kindredref6.go:262", after := #[], guard := none }) (v := ?_) rfl (by kernel_rfl) (by kernel_rfl) (by kernel_rfl) (fun _ _ _ h => h) (Or.inl ⟨by rfl, ?_⟩) (by assumption) ?_
        rotate_left 1
        · intro w hSw
          (try dsimp only at hSw)
          go_simp
          try with_reducible rfl
        (try simp only [Act.put, List.setIfInBounds_toArray, List.set_cons_zero, List.set_cons_succ])
        refine wpAnyH_ready (rs := [3]) (by kernel_rfl) (by simp) ?_
        refine AllReadyH.cons (o := { dst := some 43, op := Op.call { callee := Callee.value (Operand.func 49), args := #[Operand.tmp 42], argTypes := #[24] }, type := 47, pos := "kindredref6.go:262", after := #[{ on := 2, ground := Ground.data }], guard := none }) rfl (fun K hK => ?_) ?_
        rotate_left 1
        · exact AllReadyH.nil
        go_simp
        go_at_call 49; refine (HCS2.out W5.drew HB5.out.drew).mono ?_; rintro e w6 ⟨v6, m6, rfl, hm6, _, ho6, hb6⟩; obtain ⟨p6, c6, hv6, _⟩ := own_rd ho6; subst hv6; have hb6' : Below W5.heap.size W5 w6 := below_of hb6
        refine hK.out _ _ ?_ (fun hHeld3 => ?_)
        · exact HSK.out _ hb6'
        clear hK K
        (try simp only [Act.put, List.setIfInBounds_toArray, List.set_cons_zero, List.set_cons_succ])
        refine wpAnyH_take (i := 4) (oi := { dst := some 44, op := Op.build 94 #[(0, Operand.tmp 40), (1, Operand.tmp 41), (2, Operand.tmp 43)], type := 94, pos := "kindredref6.go:262", after := #[{ on := 0, ground := Ground.data }, { on := 1, ground := Ground.data }, { on := 3, ground := Ground.data }], guard := none }) (v := ?_) rfl (by kernel_rfl) (by kernel_rfl) (by kernel_rfl) (fun _ _ _ h => h) (Or.inl ⟨by rfl, ?_⟩) (by assumption) ?_
        rotate_left 1
        · intro w hSw
          (try dsimp only at hSw)
          go_simp
          try with_reducible rfl
        (try simp only [Act.put, List.setIfInBounds_toArray, List.set_cons_zero, List.set_cons_succ])
        refine wpAnyH_ready (rs := [5]) (by kernel_rfl) (by simp) ?_
        refine AllReadyH.cons (o := { dst := some 45, op := Op.box 94 (Operand.tmp 44), type := 39, pos := "kindredref6.go:262", after := #[{ on := 4, ground := Ground.data }], guard := none }) rfl (fun K hK => ?_) ?_
        rotate_left 1
        · exact AllReadyH.nil
        go_simp
        refine hK.out _ _ ?_ (fun hHeld5 => ?_)
        · exact HSK.out _ (hb6'.alloc hb6'.size _)
        clear hK K
        (try simp only [Act.put, List.setIfInBounds_toArray, List.set_cons_zero, List.set_cons_succ])
        refine wpAnyH_take (i := 6) (oi := { dst := some 2, op := Op.assign (Operand.tmp 45), type := 39, pos := "kindredref6.go:262", after := #[{ on := 5, ground := Ground.data }, { on := 3, ground := Ground.chain }, { on := 0, ground := Ground.phase }, { on := 1, ground := Ground.phase }, { on := 2, ground := Ground.phase }, { on := 3, ground := Ground.phase }, { on := 4, ground := Ground.phase }, { on := 5, ground := Ground.phase }], guard := none }) (v := ?_) rfl (by kernel_rfl) (by kernel_rfl) (by kernel_rfl) (fun _ _ _ h => h) (Or.inl ⟨by rfl, ?_⟩) (by assumption) ?_
        rotate_left 1
        · intro w hSw
          (try dsimp only at hSw)
          go_simp
          try with_reducible rfl
        (try simp only [Act.put, List.setIfInBounds_toArray, List.set_cons_zero, List.set_cons_succ])
        refine wpAnyH_take (i := 7) (oi := { dst := some 3, op := Op.assign (Operand.const (Value.int IntKind.i64 0)), type := 3, pos := "kindredref6.go:262", after := #[{ on := 6, ground := Ground.chain }, { on := 0, ground := Ground.phase }, { on := 1, ground := Ground.phase }, { on := 2, ground := Ground.phase }, { on := 3, ground := Ground.phase }, { on := 4, ground := Ground.phase }, { on := 5, ground := Ground.phase }, { on := 6, ground := Ground.phase }], guard := none }) (v := ?_) rfl (by kernel_rfl) (by kernel_rfl) (by kernel_rfl) (fun _ _ _ h => h) (Or.inl ⟨by rfl, ?_⟩) (by assumption) ?_
        rotate_left 1
        · intro w hSw
          (try dsimp only at hSw)
          go_simp
          try with_reducible rfl
        (try simp only [Act.put, List.setIfInBounds_toArray, List.set_cons_zero, List.set_cons_succ])
        refine wpAnyH_done (by kernel_rfl) ?_ _
        have hmg : (groups l).length = m6 := by rw [← hm6, List.length_map]
        subst hmg
        have q2 := HB2.out.trans ((HB5.out.trans (hb6'.mono HB5.out.size)).mono hws2)
        have q3 := own_le (base' := w.heap.size) ((own_belowAll (own_belowAll HO2.out HB5.out) hb6').alloc (.cells #[.int .i64 hw, .int .i64 ht, .int .i64 hbt, .int .i64 hlo, .int .i64 hhi, .int .i64 n, .slice vp n vc, .slice p6 (groups l).length c6, .int .i64 0] 94)) hs1
        have hsw5 : w.heap.size ≤ W5.drew.heap.size := Nat.le_trans hws2 HB5.out.size
        have q4 := own_le (base' := w.heap.size) (ho6.alloc (.cells #[.int .i64 hw, .int .i64 ht, .int .i64 hbt, .int .i64 hlo, .int .i64 hhi, .int .i64 n, .slice vp n vc, .slice p6 (groups l).length c6, .int .i64 0] 94)) hsw5
        have HE := Lib.hid (HEnd.out _ w6.heap.size _ (World.alloc_heap_new w6 (.cells #[.int .i64 hw, .int .i64 ht, .int .i64 hbt, .int .i64 hlo, .int .i64 hhi, .int .i64 n, .slice vp n vc, .slice p6 (groups l).length c6, .int .i64 0] 94)) (q2.alloc q2.size _) q3 q4 q2.size)
        clear q2 q3 q4 ho6 hb6 hb6' hHeld hHeld3 hHeld5
        go_wp2
        go_ret2
        exact HE.out
      · have hno : openR b.data.toList = none := HNr.out (fun e => hSe (by
          have e2 : rb = b.data.toList := congrArg Prod.fst e
          rw [← hSB, e2]))
        have HE := Lib.hid (HNo.out w3 hno HB3.out)
        have hne : (SB.toList == b.toList) = false := by rw [beq_eq_false_iff_ne]; exact fun e => hSe (toList_inj e)
        clear hb3 hb3' hbx hSB hrr HNr HNo hno
        go_wp2
        go_ret2
        exact HE.out
    · have hno : openR b.data.toList = none := HNr.out (fun e => hre (congrArg Prod.snd e))
      have HE := Lib.hid (HNo.out w3 hno HB3.out)
      have hne : (re != 0) = true := by simpa using hre
      clear hb3 hb3' hbx hSB hrr HNr HNo hno
      go_wp2
      go_ret2
      exact HE.out
end Go.Proofs.YtihgjihdmlomaaaDoor
