/-
  WALKS: frames and blocks into a builder, by the program.
-/
import Derived.Test.YtihgjihdmlomaaaDoorJF
import Derived.Deep.AppendLies
import Derived.Deep.DeepCutAuto
import Derived.Deep.RegionLaw
import Derived.StillTailTactics
import Derived.BigRegion
import Derived.RegionTactic
import Derived.Laws.EntriesVeiled
namespace Go.Proofs.YtihgjihdmlomaaaDoor
open Go.RowKit
set_option linter.unusedVariables false

theorem grown_undrew {w w' : World} {r : Option Nat} (h : w.drew.grownBy w' r) : w.grownBy w' r := ⟨h.os, h.tape, h.output, h.size, h.block⟩

theorem Tab.belowB {w w' : World} {B : Nat} (h : Tab w) (hB : 1 < B) (hb : Below B w w') : Tab w' := fun i hi => (hb.cell (p := ⟨1, i, none⟩) hB).trans (h i hi)

set_option maxRecDepth 100000 in
set_option maxHeartbeats 1000000 in
theorem frame_calls (B r : Nat) (st : BSt) (k : Nat) (h1 : 1 ≤ k) (h2 : k ≤ 255) (p : ByteArray) (h3 : p.size ≤ 65536) (w : World) (hT : Tab w) (h : Bd w B r st) (hlen : st.l.length + p.size + 14 ≤ 140737488355328) :
    Calls Tryd.prog 57 #[.pointer (some ⟨r, 0, none⟩), .int .i64 k, .string p] w fun e w' => e = .returned (.tuple #[]) ∧ Bd w' B r ⟨st.l ++ frameB k p.data.toList, st.lines, st.sum⟩ ∧ Below B w w' ∧ Oth w w' r := by
  have C := Frame_calls k p (by omega) w hT
  rw [frameR_ok h1 h2 (by exact h3)] at C
  obtain ⟨s, hs, hsd, hsz⟩ := name_s (frameB k p.data.toList)
  have hfl := frameB_length k p.data.toList
  have hpl : p.data.toList.length = p.size := rfl
  simp only [hs] at C
  have hBw : B ≤ w.heap.size := Nat.le_trans h.le (Nat.le_of_lt h.lt)
  have HW : Hid (∀ W, Below w.heap.size w W → Calls Tryd.prog 81 #[.pointer (some ⟨r, 0, none⟩), .string s] W fun e w' => e = .returned (.tuple #[.int .i64 s.size, .nilIface]) ∧ Bd w' B r ⟨st.l ++ frameB k p.data.toList, st.lines, st.sum⟩ ∧ Below B w w' ∧ Oth w w' r) := Lib.hid (fun W hW => by
    have := WriteString_calls B r st s W (h.below hW) (by omega)
    rw [hsd] at this
    exact this.mono (fun e w' ⟨k1, k2, k3, k4⟩ => ⟨k1, k2, (hW.mono hBw).trans k3, (Oth.below r hW).trans k4⟩))
  have HC := Lib.hid C
  clear C hs hsd hsz hfl hpl h hBw
  go_enter Tryd.func57, Tryd.ntmps57
  go_wp2_with fail
  refine HC.out.mono ?_
  rintro e w1 ⟨rfl, hb⟩
  have HB := Lib.hid hb
  clear hb
  go_wp2_with fail
  refine (HW.out w1 HB.out).mono ?_
  rintro e w2 ⟨rfl, hd, hb, ho⟩
  have HD := Lib.hid hd
  have HB2 := Lib.hid hb
  have HO := Lib.hid ho
  clear hd hb ho
  go_wp2
  go_end0
  exact ⟨rfl, HD.out, HB2.out, HO.out⟩

set_option maxRecDepth 100000 in
set_option maxHeartbeats 2000000 in
theorem block_none (B r : Nat) (st : BSt) (q : Option Addr) (n c : Nat) (hn : n = 0) (p : ByteArray) (w : World) (h : Bd w B r st) :
    Calls Tryd.prog 84 #[.pointer (some ⟨r, 0, none⟩), .slice q n c, .string p] w fun e w' => e = .returned (.tuple #[]) ∧ Bd w' B r st ∧ Below B w w' := by
  have H := Lib.hid h
  have hni : ((n : Int) == 0) = true := by simp; omega
  clear h hn
  go_enter Tryd.func84, Tryd.ntmps84
  go_wp2
  exact bodyPost_ret (v := .tuple #[]) (results_none rfl _ _ _) rfl ⟨rfl, H.out, Below.refl _ _⟩

theorem lineinfo : (Tryd.prog.info? 134).map (fun i => (i.zero, i.size, i.bytes)) = some (some (.agg #[.int .i64 0, .string ⟨#[]⟩, .int .i64 0, .int .i64 0, .bool false, .int .i64 0, .int .i64 0]), 7, 64) := by kernel_rfl

/-- Where block stands once the line is laid down. -/
def BlMid (B r : Nat) (st : BSt) (x : Ent) (n : Nat) (w wx : World) : Prop := Bd wx B r ⟨st.l, st.lines ++ [⟨x, n, st.l.length⟩], st.sum⟩ ∧ Below B w wx

theorem BlMid.of {B r m lc : Nat} {st : BSt} {x : Ent} {n : Nat} {w w1 : World} {lp : Option Addr} {p0 v : Value} {o : Obj} {lv' : Value} (hm : st.lines.length = m) (hlt : r < w.heap.size) (hbk : w.heap[r]? = some (bdB p0 v (.slice lp m lc) st.sum)) (hown : w.ownsRow B 5 1 v st.l.length (Lib.byteCells st.l)) (hlin : w.ownsRow B 134 7 (.slice lp m lc) m (encL st.lines)) (hB : B ≤ r)
    (q1 : w1.ownsRow B 134 7 lv' (m + 1) (encL st.lines ++ [.int .i64 x.v, .string x.c, .int .i64 x.i, .int .i64 x.s, .bool x.d, .int .i64 n, .int .i64 st.l.length])) (q2 : (w.alloc o).grownBy w1 (Value.slice lp m lc).ownBlock) (hp : p0 = .pointer none ∨ p0 = .pointer (some ⟨r, 0, none⟩)) : BlMid B r st x n w (w1.setCell ⟨r, 2, none⟩ lv') := by
  have n1 := own_neB hlin hbk (by decide)
  have hb1 : w1.heap[r]? = some (bdB p0 v (.slice lp m lc) st.sum) := by
    rw [q2.block r (by simp; omega) (fun e => n1 e.symm), Below.heap_alloc _ _ _ hlt]
    exact hbk
  have hown1 : w1.ownsRow B 5 1 v st.l.length (Lib.byteCells st.l) := own_keepB (hown.alloc o) (fun g hg hl => q2.block g hl (fun e => own_ne hown hlin (by decide) g hg e.symm))
  have n2 := own_neB hown1 hb1 (by decide)
  have n3 := own_neB q1 hb1 (by decide)
  have key : Bp (w1.setCell ⟨r, 2, none⟩ lv') B r p0 ⟨st.l, st.lines ++ [⟨x, n, st.l.length⟩], st.sum⟩ := by
    refine ⟨hB, v, lv', set_bd hb1 2 lv', own_keepB hown1 (fun g hg _ => Below.heap_setCell _ _ _ _ (fun e => n2 (hg.trans (congrArg some e)))), ?_⟩
    rw [List.length_append, hm, encL_snoc]
    exact own_keepB q1 (fun g hg _ => Below.heap_setCell _ _ _ _ (fun e => n3 (hg.trans (congrArg some e))))
  refine ⟨?_, ?_⟩
  · rcases hp with rfl | rfl
    · exact .inl key
    · exact .inr key
  · exact (((Below.refl B w).alloc (Nat.le_trans hB (Nat.le_of_lt hlt)) o).grown q2 (by simp; omega) (fun b hb => (hlin.lt b hb).1)).setCell (p := ⟨r, 2, none⟩) hB lv'

set_option maxRecDepth 100000 in
set_option maxHeartbeats 4000000 in
theorem block_calls (B r : Nat) (st : BSt) (a : Addr) (x : Ent) (n : Nat) (c : Nat) (p : ByteArray) (h3 : p.size ≤ 65536) (hn0 : 0 < n) (hn : n ≤ 4398046511104) (w : World) (hT : Tab w) (hTB : 1 < B) (h : Bd w B r st) (hs : st.sum < 4294967296) (hlen : st.l.length + p.size + 14 ≤ 140737488355328) (hll : st.lines.length ≤ 2097152)
    (haB : a.block < B) (x0 : w.cell? a = some (.int .i64 x.v)) (x1 : w.cell? ⟨a.block, a.off + 1, none⟩ = some (.string x.c)) (x2 : w.cell? ⟨a.block, a.off + 2, none⟩ = some (.int .i64 x.i)) (x3 : w.cell? ⟨a.block, a.off + 3, none⟩ = some (.int .i64 x.s)) (x4 : w.cell? ⟨a.block, a.off + 4, none⟩ = some (.bool x.d)) :
    Calls Tryd.prog 84 #[.pointer (some ⟨r, 0, none⟩), .slice (some a) n c, .string p] w fun e w' => e = .returned (.tuple #[]) ∧ Bd w' B r ⟨st.l ++ frameB 5 p.data.toList, st.lines ++ [⟨x, n, st.l.length⟩], Crc.on st.sum p.data.toList⟩ ∧ Below B w w' := by
  obtain ⟨i0, hi0, hz0, hz1, hz2⟩ := info_parts lineinfo
  obtain ⟨p0, hp0, hB, v, lv, hbk, hown, hlin⟩ : ∃ p, (p = .pointer none ∨ p = .pointer (some ⟨r, 0, none⟩)) ∧ Bp w B r p st := by
    rcases h with h | h
    · exact ⟨_, .inl rfl, h⟩
    · exact ⟨_, .inr rfl, h⟩
  have hlt := h.lt
  have CL := Lib.hid (Len_calls B r st w.drew (h.below (Below.refl _ w).drew))
  have hbu : ∀ (W : World) (m : Nat) (L : Nat), (Instr.build 134 #[(0, .agg #[.int .i64 x.v, .string x.c, .int .i64 x.i, .int .i64 x.s, .bool x.d]), (1, .int .i64 m), (2, .int .i64 L)]).run Tryd.prog W = .ok (.agg #[.int .i64 x.v, .string x.c, .int .i64 x.i, .int .i64 x.s, .bool x.d, .int .i64 m, .int .i64 L]) W := fun W m L => run_build W _ _ _ (by kernel_rfl)
  obtain ⟨lp, lc, rfl, _⟩ := own_rd hlin
  have c2 : w.cell? ⟨r, 2, none⟩ = some (.slice lp st.lines.length lc) := by
    unfold bdB at hbk
    simp [World.cell?, hbk]
  have f2 : w.frozen? ⟨r, 2, none⟩ = false := by
    unfold bdB at hbk
    simp [World.frozen?, hbk]
  have hni : ((n : Int) == 0) = false := by simp; omega
  have hni0 : (0 : Int) < (n : Int) := by omega
  obtain ⟨m, hm⟩ : ∃ m, st.lines.length = m := ⟨_, rfl⟩
  rw [hm] at hll c2 hlin hbk
  have n1 := own_neB hlin hbk (by decide)
  have hBw : B ≤ w.heap.size := Nat.le_trans hB (Nat.le_of_lt hlt)
  have hva := hlin.alloc (.cells #[.int .i64 x.v, .string x.c, .int .i64 x.i, .int .i64 x.s, .bool x.d, .int .i64 n, .int .i64 st.l.length] 134)
  have hnews := World.news_of_block (cs := #[.int .i64 x.v, .string x.c, .int .i64 x.i, .int .i64 x.s, .bool x.d, .int .i64 n, .int .i64 st.l.length]) (t := 134) (fr := (0, 0)) (heap_alloc_new w (.cells #[.int .i64 x.v, .string x.c, .int .i64 x.i, .int .i64 x.s, .bool x.d, .int .i64 n, .int .i64 st.l.length] 134))
  have hMid : Hid (∀ (g cap : Nat) (w1 : World), w1.ownsRow B 134 7 (.slice (some ⟨g, 0, none⟩) (m + 1) cap) (m + 1) (encL st.lines ++ [.int .i64 x.v, .string x.c, .int .i64 x.i, .int .i64 x.s, .bool x.d, .int .i64 n, .int .i64 st.l.length]) → (w.alloc (.cells #[.int .i64 x.v, .string x.c, .int .i64 x.i, .int .i64 x.s, .bool x.d, .int .i64 n, .int .i64 st.l.length] 134)).grownBy w1 (Value.slice lp m lc).ownBlock → BlMid B r st x n w (w1.setCell ⟨r, 2, none⟩ (.slice (some ⟨g, 0, none⟩) (m + 1) cap))) := Lib.hid (fun g cap w1 q1 q2 => BlMid.of hm h.lt hbk hown hlin hB q1 q2 hp0)
  have hfar : ∀ (w1 : World), (w.alloc (.cells #[.int .i64 x.v, .string x.c, .int .i64 x.i, .int .i64 x.s, .bool x.d, .int .i64 n, .int .i64 st.l.length] 134)).grownBy w1 (Value.slice lp m lc).ownBlock → w1.heap[r]? = some (bdB p0 v (.slice lp m lc) st.sum) := fun w1 hg => by
    rw [hg.block r (by simp; omega) (fun e => n1 e.symm), Below.heap_alloc _ _ _ hlt]
    rw [hbk]
  clear hbk hown hlin n1 h
  go_enter Tryd.func84, Tryd.ntmps84
  go_upto_region 1 with fail
  go_cut [] (fun wx => BlMid B r st x n w wx)
  case first =>
    go_region_law
      (first
       | (go_simp; go_at_call 85; refine CL.out.mono ?_; rintro e w' ⟨rfl, rfl⟩)
       | (refine step_append_lies _ (by rfl) _ _ _ (by rfl) B 134 i0 _ 7 64 Tryd.underlying66 hi0 hz0 hz1 hz2 rfl (by omega) (.slice lp m lc) m (encL st.lines) (by rfl) hva ⟨w.heap.size, 0, none⟩ 1 1 [.int .i64 x.v, .string x.c, .int .i64 x.i, .int .i64 x.s, .bool x.d, .int .i64 n, .int .i64 st.l.length] (by rfl) (by rfl) hnews (by simp [Value.oneCell'])
             (by omega) (by unfold maxLen; omega) (by omega) (by simp; omega) (w.heap.size + 1) (by simp) ?_; intro gg cap w1 hown1 hgrow hat hlt1
          have hgr2 := grown_undrew hgrow
          have d0 := hfar w1 hgr2
          have d1 : w1.cell? ⟨r, 2, none⟩ = some (.slice lp m lc) := by (unfold bdB at d0; simp [World.cell?, d0])
          have d2 : w1.frozen? ⟨r, 2, none⟩ = false := by (unfold bdB at d0; simp [World.frozen?, d0])))
    all_goals
      go_wp2_with fail
      go_meet
      exact hMid.out _ _ _ hown1 hgr2
  case rest =>
    obtain ⟨hd, hbw⟩ := hcut
    obtain ⟨p1, hp1, _, v', lv', hbk', hown', hlin'⟩ : ∃ p, (p = .pointer none ∨ p = .pointer (some ⟨r, 0, none⟩)) ∧ Bp wc B r p ⟨st.l, st.lines ++ [⟨x, n, st.l.length⟩], st.sum⟩ := by
      rcases hd with h | h
      · exact ⟨_, .inl rfl, h⟩
      · exact ⟨_, .inr rfl, h⟩
    have hlt' := hd.lt
    have d3 : wc.cell? ⟨r, 3, none⟩ = some (.int .u32 st.sum) := by
      unfold bdB at hbk'
      simp [World.cell?, hbk']
    have e3 : wc.frozen? ⟨r, 3, none⟩ = false := by
      unfold bdB at hbk'
      simp [World.frozen?, hbk']
    have CO := Lib.hid (On_calls st.sum hs p (by omega) wc (hT.belowB hTB hbw))
    have n2 := own_neB hown' hbk' (by decide)
    have n3 := own_neB hlin' hbk' (by decide)
    obtain ⟨so, hso⟩ : ∃ so, Crc.on st.sum p.data.toList = so := ⟨_, rfl⟩
    have hD2 : Hid (Bd (wc.setCell ⟨r, 3, none⟩ (.int .u32 (so : Nat))) B r ⟨st.l, st.lines ++ [⟨x, n, st.l.length⟩], so⟩) := Lib.hid (by
      have key : Bp (wc.setCell ⟨r, 3, none⟩ (.int .u32 (so : Nat))) B r p1 ⟨st.l, st.lines ++ [⟨x, n, st.l.length⟩], so⟩ := ⟨hB, v', lv', set_bd hbk' 3 _, own_keepB hown' (fun g hg _ => Below.heap_setCell _ _ _ _ (fun e => n2 (hg.trans (congrArg some e)))), own_keepB hlin' (fun g hg _ => Below.heap_setCell _ _ _ _ (fun e => n3 (hg.trans (congrArg some e))))⟩
      rcases hp1 with rfl | rfl
      · exact .inl key
      · exact .inr key)
    have hBW : Hid (Below B w (wc.setCell ⟨r, 3, none⟩ (.int .u32 (so : Nat)))) := Lib.hid (hbw.setCell (p := ⟨r, 3, none⟩) hB _)
    have hT2 := Lib.hid (hT.belowB hTB hBW.out)
    have HCF := Lib.hid (frame_calls B r ⟨st.l, st.lines ++ [⟨x, n, st.l.length⟩], so⟩ 5 (by decide) (by decide) p h3 _ hT2.out hD2.out hlen)
    rw [hso] at CO
    have HSO := Lib.hid hso
    clear hd hbw hbk' hown' hlin' n2 n3 hMid hfar hva hnews hso x0 x1 x2 x3 x4 c2 f2
    go_wp2_with fail
    refine CO.out.mono ?_
    rintro e w1 ⟨rfl, rfl⟩
    go_wp2_with fail
    refine HCF.out.mono ?_
    rintro e w2 ⟨rfl, hd2, hb2, _⟩
    have HD := Lib.hid hd2
    have HB := Lib.hid (hBW.out.trans hb2)
    clear hd2 hb2
    go_wp2
    go_end0
    exact ⟨rfl, by rw [HSO.out]; exact HD.out, HB.out⟩
end Go.Proofs.YtihgjihdmlomaaaDoor
