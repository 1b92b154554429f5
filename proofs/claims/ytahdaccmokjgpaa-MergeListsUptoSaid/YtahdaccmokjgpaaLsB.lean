/-
  THE LAW MergeLists, walked: lists merged, five times asked of a twin that is written over meanwhile. (Printed by mlistsgen.py.)
-/
import Derived.Test.YtahdaccmokjgpaaLsA
namespace Go.Proofs.Ytahdaccmokjgpaa
open Go.RowKit ArgK
set_option linter.unusedVariables false

theorem sameT {p1 p2 : Option Addr} {c1 c2 n : Nat} {T : List Ent} (hn : T.length = n) (hb : n ≤ 1048576) (w : World) (h1 : EL w w.heap.size p1 T) (h2 : EL w w.heap.size p2 T) :
    Calls Try.prog 14 #[.slice p1 n c1, .slice p2 n c2] w fun x w' => x = .returned (.bool true) ∧ Below w.heap.size w w' := by
  subst hn
  exact sameE_true _ _ T (by omega) w (h1.esl c1) (h2.esl c2)

theorem Fr.behind {a b c : World} {S : List (Option Nat)} (h : Fr a b S) (k : Below a.heap.size b c) : Fr a c S :=
  ⟨k.os.trans h.1, k.tape.trans h.2.1, k.output.trans h.2.2.1, Nat.le_trans h.2.2.2.1 k.size, fun x hx hn => (k.block x hx).trans (h.2.2.2.2 x hx hn)⟩

theorem el_ownT {W : World} {base n c : Nat} {p : Option Addr} {L : List Ent} (h : W.ownsRow base 24 5 (.slice p n c) n (encE L)) : EL W W.heap.size p L := by
  by_cases hn : n = 0
  · have := own_lenE h
    have e : L = [] := List.eq_nil_of_length_eq_zero (by omega)
    subst e
    intro i x hx
    simp at hx
  · obtain ⟨g, rfl, _⟩ := own_some2 h (by omega)
    exact own_el h (h.lt g rfl).2

theorem DL.fr {B : Nat} {lv : Value} {lists : List (List Ent)} {w w' : World} {S : List (Option Nat)} (h : DL B lv lists w) (hf : Fr w w' S) (hS : ∀ x, some x ∈ S → x < B) : DL B lv lists w' := by
  obtain ⟨vs, h1, h2⟩ := h
  exact ⟨vs, hf.own h1 (fun g hg hm => by have := (h1.lt g hg).1; have := hS g hm; omega), fun i v L hv hL => hf.own (h2 i v L hv hL) (fun g hg hm => by have := ((h2 i v L hv hL).lt g hg).1; have := hS g hm; omega)⟩

theorem Lists.fr {w w' : World} {B : Nat} {S : List (Option Nat)} {tl te : TypeId} {sz k : Nat} {l : Value} {L : Nat → Value} {Nn : Nat → Nat} {X : Nat → List Value} (h : Lists w B tl te sz k l L Nn X) (hf : Fr w w' S) (hS : ∀ x, some x ∈ S → x < B) : Lists w' B tl te sz k l L Nn X :=
  ⟨hf.own h.1 (fun g hg hm => by have := (h.1.lt g hg).1; have := hS g hm; omega), fun j hj => hf.own (h.2.1 j hj) (fun g hg hm => by have := ((h.2.1 j hj).lt g hg).1; have := hS g hm; omega), h.2.2⟩

theorem LLs.monoT {W : World} {B B' : Nat} {p : Option Addr} {lists : List (List Ent)} (h : LLs W B p lists) (hB : B ≤ B') : LLs W B' p lists := by
  intro i L hL
  obtain ⟨a, q, c, e, h1, h2, h3, h4⟩ := h i L hL
  exact ⟨a, q, c, e, by omega, h2, h3, h4.mono hB⟩
theorem LLs.behind {w w' : World} {p : Option Addr} {l : List (List Ent)} (h : LLs w w.heap.size p l) (hb : Below w.heap.size w w') : LLs w' w'.heap.size p l := (h.below hb).monoT hb.size
theorem EL.behind {w w' : World} {p : Option Addr} {l : List Ent} (h : EL w w.heap.size p l) (hb : Below w.heap.size w w') : EL w' w'.heap.size p l := (h.below hb (Nat.le_refl _)).mono hb.size

/-- What stands in the twin ahead of round k. -/
def curZ (zz zn : List (List Ent)) (k : Nat) : List (List Ent) := if k = 3 ∨ k = 4 then zn else zz

theorem curZ_or (zz zn : List (List Ent)) (k : Nat) : curZ zz zn k = zz ∨ curZ zz zn k = zn := by
  unfold curZ; split
  · exact .inr rfl
  · exact .inl rfl

theorem written_go {gT capT cap B m k : Nat} {p : Option Addr} {zz zn now : List (List Ent)} {L : Nat → Value} (hm : zz.length = m) (hsh : zz.map List.length = zn.map List.length) (hnow : now = zz ∨ now = zn) (hfb : zz.flatten.length + m ≤ 1048576) (w : World)
    (hT : TwIs w B (m + 64) (curZ zz zn k) (.slice (some ⟨gT, 0, none⟩) (m + 64) capT) L) (hF : ∀ W, Fr w W (rowsS m L) → LLs W W.heap.size p now) :
    Calls Try.prog 21 #[.slice (some ⟨gT, 0, none⟩) m capT, .slice p m cap] w fun e w' => e = .returned (.tuple #[]) ∧ Fr w w' (rowsS m L) ∧ w'.heap.size = w.heap.size ∧ TwIs w' B (m + 64) now (.slice (some ⟨gT, 0, none⟩) (m + 64) capT) L := by
  have key : ∀ y, y = zz ∨ y = zn → y.map List.length = zz.map List.length := fun y hy => by
    rcases hy with rfl | rfl
    · rfl
    · exact hsh.symm
  have k1 := key _ (curZ_or zz zn k)
  have k2 := key _ hnow
  have l1 : (curZ zz zn k).length = m := by have := shape_len k1; omega
  have l2 : now.length = m := by have := shape_len k2; omega
  have f1 : (curZ zz zn k).flatten.length = zz.flatten.length := by rw [List.length_flatten, List.length_flatten, k1]
  have h := written_calls gT capT p cap B (curZ zz zn k) now L (k1.trans k2.symm) (by omega) w (by rw [l1]; exact hT) (by rw [l1]; exact hF)
  rw [l1, l2] at h
  exact h

/-- The twin's blocks. -/
def TwG (B N m gT : Nat) (LT : Nat → Value) : Prop := (∀ j, j < m + 64 → ∀ g, (LT j).ownBlock = some g → B ≤ g ∧ g < N) ∧ B ≤ gT ∧ gT < N

theorem TwG.rows {B N m gT : Nat} {LT : Nat → Value} (h : TwG B N m gT LT) : ∀ x, some x ∈ rowsS m LT → B ≤ x ∧ x < N := fun x hx => by
  obtain ⟨j, hj, he⟩ := List.mem_map.1 hx
  exact h.1 j (by have := List.mem_range.1 hj; omega) x he

theorem TwIs.keepB {ws ws' : World} {B N m B' gT capT : Nat} {zz : List (List Ent)} {LT : Nat → Value} (h : TwIs ws B (m + 64) zz (.slice (some ⟨gT, 0, none⟩) (m + 64) capT) LT) (hG : TwG B N m gT LT) (hN : N ≤ B') (hb : Below B' ws ws') : TwIs ws' B (m + 64) zz (.slice (some ⟨gT, 0, none⟩) (m + 64) capT) LT :=
  ⟨own_below h.1 hb (fun g hg => by have h1 := hG.2.2; have h2 : gT = g := Option.some.inj hg; omega), fun j hj => own_below (h.2.1 j hj) hb (fun g hg => by have := (hG.1 j hj g hg).2; omega), h.2.2⟩

/-- What the rounds read: all that lies there but the twin. -/
def Env (p po pb pc : Option Addr) (zz zn : List (List Ent)) (T O : List Ent) (ws : World) : Prop := LLs ws ws.heap.size p zz ∧ LLs ws ws.heap.size po zn ∧ EL ws ws.heap.size pb T ∧ EL ws ws.heap.size pc O

theorem Env.below {p po pb pc : Option Addr} {zz zn : List (List Ent)} {T O : List Ent} {ws ws' : World} (h : Env p po pb pc zz zn T O ws) (hg : Below ws.heap.size ws ws') : Env p po pb pc zz zn T O ws' := ⟨h.1.behind hg, h.2.1.behind hg, h.2.2.1.behind hg, h.2.2.2.behind hg⟩

theorem env_made {w w1 w2 w3 w4 : World} {p po pb pc : Option Addr} {co cb cc m N1 N2 : Nat} {zz zn : List (List Ent)} {T O : List Ent} {S : List (Option Nat)} (hL : LLs w w.heap.size p zz) (hb1 : Below w.heap.size w w1) (hb2 : Below w1.heap.size w1 w2) (hb3 : Below w2.heap.size w2 w3) (hb4 : Below w3.heap.size w3 w4)
    (hLo : DL w1.heap.size (.slice po m co) zn w2)
    (hr : w3.ownsRow w2.heap.size 24 5 (.slice pb N1 cb) N1 (encE T)) (hs : w4.ownsRow w3.heap.size 24 5 (.slice pc N2 cc) N2 (encE O)) (hS : ∀ x, some x ∈ S → w.heap.size ≤ x ∧ x < w1.heap.size) :
    ∀ ws, Fr w4 ws S → Env p po pb pc zz zn T O ws := by
  intro ws hf
  have s1 := hb1.size
  have s2 := hb2.size
  have s3 := hb3.size
  have s4 := hb4.size
  have hbw : Below w.heap.size w4 ws := hf.below (by omega) (fun b hb => (hS b hb).1)
  have hb := (((hb1.trans (hb2.mono s1)).trans (hb3.mono (by omega))).trans (hb4.mono (by omega))).trans hbw
  have hl4 := ((hLo.below hb3).below hb4).fr hf (fun x hx => (hS x hx).2)
  refine ⟨(hL.below hb).monoT (by have := hb.size; omega), hl4.lls.2, el_ownT (hf.own (own_belowAll hr hb4) (fun g hg k => ?_)), el_ownT (hf.own hs (fun g hg k => ?_))⟩
  · have := (hr.lt g hg).1
    have := (hS g k).2
    omega
  · have := (hs.lt g hg).1
    have := (hS g k).2
    omega

def q23 {α : Type} (x y : α) : Nat → α := fun j => if j = 2 ∨ j = 3 then y else x
theorem q23_x {α : Type} (x y : α) {j : Nat} (h : ¬ (j = 2 ∨ j = 3)) : q23 x y j = x := if_neg h
theorem q23_y {α : Type} (x y : α) {j : Nat} (h : j = 2 ∨ j = 3) : q23 x y j = y := if_pos h

set_option maxRecDepth 100000 in
set_option maxHeartbeats 8000000 in
theorem MergeLists_gen (bottom : Bool) (ec ed : Int) (T O : List Ent) (p : Option Addr) (cap : Nat) (zz zn : List (List Ent)) (hzn : zn = zz.map movedL) (hfb : zz.flatten.length + zz.length ≤ 1048576) (hTl : T.length ≤ 1048576) (hOl : O.length ≤ 1048576) (w : World) (hLL : LLs w w.heap.size p zz) (hnil : NilOk w p zz)
    (hwf : ∀ L ∈ zz, ∀ x ∈ L, (Lit.int .i64 x.s).wf = true)
    (hB1 : ∀ W p c, LLs W W.heap.size p zz → Calls Try.prog 22 #[.slice p zz.length c, .bool bottom] W (MrgE W T ec))
    (hB2 : ∀ W p c, LLs W W.heap.size p zn → Calls Try.prog 22 #[.slice p zz.length c, .bool bottom] W (MrgE W O ed))
    (hR1 : ∀ W p c, LLs W W.heap.size p zz → Calls Try.prog 20 #[.slice p zz.length c, .bool bottom] W (MrgE W T ec))
    (hR2 : ∀ W p c, LLs W W.heap.size p zn → Calls Try.prog 20 #[.slice p zz.length c, .bool bottom] W (MrgE W O ed)) :
    Calls Try.prog 6 #[.slice p zz.length cap, .bool bottom] w fun e w' => e = .returned (.bool true) ∧ Below w.heap.size w w' := by
  obtain ⟨i1, hj, hy0, hy1, hy2⟩ := info_parts entsinfoM
  have hsh : zz.map List.length = zn.map List.length := by rw [hzn, moved_shape]
  have hln : zn.length = zz.length := (shape_len hsh).symm
  have hfn : zn.flatten.length = zz.flatten.length := by rw [hzn, moved_flat]
  have hK1 := fun gT capT B L W h1 h2 => kept_calls gT capT p cap B zz L hfb W h1 h2
  have hK2 := fun gT capT po co B L W h1 h2 => kept_calls gT capT po co B zn L (by rw [hfn, hln]; exact hfb) W h1 h2
  rw [hln] at hK2
  have hTw := twins_calls p cap zz hfb w hLL hnil
  have hMv : ∀ W, Below w.heap.size w W → LLs W W.heap.size p zz → NilOk W p zz → Calls Try.prog 19 #[.slice p zz.length cap] W fun e w' => ∃ v, e = .returned v ∧ DL W.heap.size v zn w' ∧ Below W.heap.size W w' := fun W _ h1 h2 => by
    rw [hzn]
    exact moved_calls (c := cap) rfl (by omega) h1 (fun L h => by have := part_le h; omega) hwf h2
  have hNk : ∀ W, Below w.heap.size w W → NilOk W p zz := fun W hW i L a c hi ha hu => by
    obtain ⟨a', q, c', ha', hlt, hu', _⟩ := hLL i L hi
    obtain rfl : a = a' := Option.some.inj (ha.symm.trans ha')
    have hu2 := (World.cell?_of_block (hW.block _ (by rw [add_blockE]; exact hlt))).trans hu'
    rw [hu2] at hu
    exact hnil i L a c hi ha (by rw [hu']; exact hu)
  obtain ⟨m, hm⟩ : ∃ m, zz.length = m := ⟨_, rfl⟩
  obtain ⟨N1, hN1⟩ : ∃ n, T.length = n := ⟨_, rfl⟩
  obtain ⟨N2, hN2⟩ : ∃ n, O.length = n := ⟨_, rfl⟩
  rw [hm] at hB1 hB2 hR1 hR2 hK1 hK2 hTw hMv hfb hln ⊢
  rw [hN1] at hTl
  rw [hN2] at hOl
  have HM := Lib.hid hm
  have HMo := Lib.hid hln
  have HSh := Lib.hid hsh
  have HFb := Lib.hid hfb
  have HN1 := Lib.hid hN1
  have HN2 := Lib.hid hN2
  have HB1 := Lib.hid hB1
  have HB2 := Lib.hid hB2
  have HR1 := Lib.hid hR1
  have HR2 := Lib.hid hR2
  have HK1 := Lib.hid hK1
  have HK2 := Lib.hid hK2
  have HTw := Lib.hid hTw
  have HMv := Lib.hid hMv
  have HNk := Lib.hid hNk
  have HLL0 := Lib.hid hLL
  have hm1 : m ≤ 1048576 := by omega
  have hec : (ec != ec) = false := by simp
  have hed : (ed != ed) = false := by simp
  clear hm hN1 hN2 hB1 hB2 hR1 hR2 hK1 hK2 hTw hMv hLL hfb hNk hln hsh hfn hnil hwf hzn
  go_enter Try.func6, Try.ntmps6
  go_wp2_with fail
  refine HTw.out.mono ?_
  rintro e w1 ⟨gT, capT, LT, rfl, hb1, hT1⟩
  have HBa := Lib.hid hb1
  have HT1 := Lib.hid hT1
  clear hb1 hT1
  go_wp2_with fail
  refine (HMv.out w1 HBa.out (HLL0.out.behind HBa.out) (HNk.out _ HBa.out)).mono ?_
  rintro e w2 ⟨vo, rfl, hLo, hb2⟩
  obtain ⟨_, hLo1, _⟩ := id hLo
  rw [HMo.out] at hLo1
  obtain ⟨po, co, rfl, _⟩ := own_rd hLo1
  have HBb := Lib.hid hb2
  have HLo := Lib.hid hLo
  clear hb2 hLo hLo1
  go_wp2_with fail
  refine (HR1.out w2 p cap ((HLL0.out.behind HBa.out).behind HBb.out)).mono ?_
  rintro e w3 ⟨vb, rfl, hrb, hb3⟩
  rw [HN1.out] at hrb
  obtain ⟨pb, cb, rfl, _⟩ := own_rd hrb
  have HBc := Lib.hid hb3
  have HRb := Lib.hid hrb
  clear hb3 hrb
  go_wp2_with fail
  refine (HR2.out w3 po co (HLo.out.lls.2.behind HBc.out)).mono ?_
  rintro e w4 ⟨vc, rfl, hrc, hb4⟩
  rw [HN2.out] at hrc
  obtain ⟨pc, cc, rfl, _⟩ := own_rd hrc
  have HG : Hid (TwG w.heap.size w1.heap.size m gT LT) := Lib.hid ⟨fun j hj g hg => (HT1.out.2.1 j hj).lt g hg, HT1.out.1.lt gT rfl⟩
  have HE : Hid (∀ ws, Fr w4 ws (rowsS m LT) → Env p po pb pc zz zn T O ws) := Lib.hid (env_made HLL0.out HBa.out HBb.out HBc.out hb4 HLo.out HRb.out hrc HG.out.rows)
  have HT4 : Hid (TwIs w4 w.heap.size (m + 64) zz (.slice (some ⟨gT, 0, none⟩) (m + 64) capT) LT) := Lib.hid (((HT1.out.below HBb.out).below HBc.out).below hb4)
  have HBw4 : Hid (Below w.heap.size w w4 ∧ w.heap.size ≤ w1.heap.size ∧ w1.heap.size ≤ w4.heap.size) := Lib.hid (by
    have s1 := HBa.out.size
    have s2 := HBb.out.size
    have s3 := HBc.out.size
    have s4 := hb4.size
    exact ⟨((HBa.out.trans (HBb.out.mono s1)).trans (HBc.out.mono (by omega))).trans (hb4.mono (by omega)), s1, by omega⟩)
  have hs14 := HBw4.out.2.2
  have hs01 := HBw4.out.2.1
  clear hrc hb4 HLo HRb HBa HBb HBc HTw HMv HT1 HLL0 HR1 HR2 HNk
  obtain ⟨Nw, hNw⟩ : ∃ n, w1.heap.size = n := ⟨_, rfl⟩
  obtain ⟨B, hBe⟩ : ∃ n, w4.heap.size = n := ⟨_, rfl⟩
  rw [hNw] at HG hs14 hs01
  rw [hBe] at hs14
  have HBS := Lib.hid hBe
  have HSB : Hid (∀ x, some x ∈ rowsS m LT → x < B) := Lib.hid (fun x hx => by have := (HG.out.rows x hx).2; omega)
  clear hNw hBe
  go_wp2
  go_loopw [11, 12] (fun l i ws => ∃ (k : Nat) (L : Nat → Value) (lv : Value), k ≤ 5 ∧ i = .int .i64 k ∧ lv = l ∧ Fr w4 ws (rowsS m LT) ∧ Hid (TwIs ws w.heap.size (m + 64) (curZ zz zn k) (.slice (some ⟨gT, 0, none⟩) (m + 64) capT) LT) ∧ Hid (Lists ws B 25 24 5 k l L (q23 N1 N2) (q23 (encE T) (encE O)))) (fun _ i _ => 5 - (intOf i).toNat)
  case atStart => exact ⟨0, fun _ => undef, _, by omega, rfl, rfl, Fr.refl _ _, HT4, Lib.hid (Lists.none_ _ _ _ _ _ _ _ _)⟩
  case round =>
    obtain ⟨k5, L, lv, hk, rfl, rfl, hFr, HTk, HH⟩ := hrel
    obtain ⟨wo, rfl⟩ : ∃ wo : World, wo = wr := ⟨_, rfl⟩
    have hsz : B ≤ wo.heap.size := by rw [← HBS.out]; exact hFr.2.2.2.1
    have HFr := Lib.hid hFr
    clear hFr
    by_cases hlt : k5 < 5
    · by_cases hq : k5 = 2 ∨ k5 = 3
      · rcases hq with rfl | rfl
        · have HQ : True := trivial
          have HF3 : Hid (∀ W, Fr wo W (rowsS m LT) → LLs W W.heap.size po zn) := Lib.hid (fun W hW => (HE.out W (HFr.out.trans hW)).2.1)
          have HWr := Lib.hid (written_go (cap := co) (now := zn) HM.out HSh.out (.inr rfl) HFb.out wo HTk.out HF3.out)
          go_wp2_with fail
          refine HWr.out.mono ?_
          rintro e wx ⟨rfl, hFx, hsx, hTx⟩
          have HFn : Hid (Fr w4 wx (rowsS m LT)) := Lib.hid (HFr.out.trans hFx)
          have HLn := Lib.hid (HH.out.fr hFx HSB.out)
          have hszx : B ≤ wx.heap.size := by rw [hsx]; exact hsz
          have HTn := Lib.hid hTx
          have HEn := Lib.hid (HE.out wx HFn.out)
          have hhl := Lib.hid (hTx.lls (by rw [HMo.out]; omega))
          clear hFx hTx HTk HH HF3 HWr
          go_wp2_with fail
          refine (HB2.out wx (some ⟨gT, 0, none⟩) capT hhl.out).mono ?_
          rintro e y1 ⟨va, rfl, hra, hb1⟩
          rw [HN2.out] at hra
          obtain ⟨pa, ca, rfl, _⟩ := own_rd hra
          have HRa := Lib.hid hra
          have HBa := Lib.hid hb1
          clear hra hb1 hhl
          go_wp2_with fail
          refine (sameT HN2.out (by omega) y1 (el_ownT HRa.out) (HEn.out.below HBa.out).2.2.2).mono ?_
          rintro e y2 ⟨rfl, hg2⟩
          have HG2 := Lib.hid hg2
          clear hg2
          go_wp2_with fail
          refine (HK2.out gT capT po co _ LT y2 ((HTn.out.below HBa.out).below HG2.out) ((HEn.out.below HBa.out).below HG2.out).2.1).mono ?_
          rintro e y3 ⟨rfl, hg3⟩
          have HB23 : Hid (Below y1.heap.size y1 y3) := Lib.hid (HG2.out.trans (hg3.mono HG2.out.size))
          have HB3 : Hid (Below wx.heap.size wx y3) := Lib.hid (HBa.out.trans (HB23.out.mono HBa.out.size))
          have HR3 : Hid (y3.ownsRow B 24 5 (.slice pa N2 ca) N2 (encE O)) := Lib.hid (own_le (own_belowAll HRa.out HB23.out) hszx)
          have HL3 := Lib.hid (HLn.out.below HB3.out)
          have hnew := HLn.out.fresh (va := .slice pa N2 ca) (H := wx.heap.size) (Nat.le_refl _) (fun b hb => (HRa.out.lt b hb).1)
          have HNw := Lib.hid hnew
          have hsz3 : B ≤ y3.heap.size := Nat.le_trans hszx HB3.out.size
          have hlr := HL3.out.1
          clear hg3 hnew HG2 HBa HRa HB23
          go_wp2_with (at_builtin; refine wpList_append_two _ rfl _ _ 43 rfl B 25 i1 (.slice none 0 0) 1 24 Try.underlying43 hj hy0 hy1 hy2 rfl (by decide) lv 2 _ rfl (hlr.alloc _) ⟨y3.heap.size, 0, none⟩ 1 1 [.slice pa N2 ca] rfl rfl (World.news_of_block (heap_alloc_new y3 _)) (by simp [Value.oneCell']) (by decide) (by unfold maxLen; omega) (by omega) (by simp; omega) ?_; intro g' capn y4 hown' hold hlies hlt2)
          have hln := Lists.step HL3.out (by rw [q23_y _ _ (by decide), q23_y _ _ (by decide)]; exact HR3.out) HNw.out (by decide) _ hown' hlies
          have hbn : Below B y3 y4 := hlies.below ((Below.refl B y3).alloc (by omega) _) (by simp; omega) (fun b hb => (hlr.lt b hb).1)
          have HLN := Lib.hid hln
          have HTN : Hid (TwIs y4 w.heap.size (m + 64) (curZ zz zn (2 + 1)) (.slice (some ⟨gT, 0, none⟩) (m + 64) capT) LT) := Lib.hid (by
            rw [show curZ zz zn (2 + 1) = zn from by unfold curZ; simp]
            exact (HTn.out.below HB3.out).keepB HG.out hs14 hbn)
          have HFN : Hid (Fr w4 y4 (rowsS m LT)) := Lib.hid (by
            refine (HFn.out.behind ?_).behind (by rw [HBS.out]; exact hbn)
            rw [HBS.out]; exact HB3.out.mono hszx)
          clear hln hbn hown' hold hlies hlt2 hlr
          go_wp2
          go_roundw
          case rel => exact ⟨2 + 1, _, _, by omega, by go_num, rfl, HFN.out, HTN, HLN⟩
          case measure => simp [intOf]
        · have HQ : True := trivial
          have HF3 : Hid (∀ W, Fr wo W (rowsS m LT) → LLs W W.heap.size po zn) := Lib.hid (fun W hW => (HE.out W (HFr.out.trans hW)).2.1)
          have HWr := Lib.hid (written_go (cap := co) (now := zn) HM.out HSh.out (.inr rfl) HFb.out wo HTk.out HF3.out)
          go_wp2_with fail
          refine HWr.out.mono ?_
          rintro e wx ⟨rfl, hFx, hsx, hTx⟩
          have HFn : Hid (Fr w4 wx (rowsS m LT)) := Lib.hid (HFr.out.trans hFx)
          have HLn := Lib.hid (HH.out.fr hFx HSB.out)
          have hszx : B ≤ wx.heap.size := by rw [hsx]; exact hsz
          have HTn := Lib.hid hTx
          have HEn := Lib.hid (HE.out wx HFn.out)
          have hhl := Lib.hid (hTx.lls (by rw [HMo.out]; omega))
          clear hFx hTx HTk HH HF3 HWr
          go_wp2_with fail
          refine (HB2.out wx (some ⟨gT, 0, none⟩) capT hhl.out).mono ?_
          rintro e y1 ⟨va, rfl, hra, hb1⟩
          rw [HN2.out] at hra
          obtain ⟨pa, ca, rfl, _⟩ := own_rd hra
          have HRa := Lib.hid hra
          have HBa := Lib.hid hb1
          clear hra hb1 hhl
          go_wp2_with fail
          refine (sameT HN2.out (by omega) y1 (el_ownT HRa.out) (HEn.out.below HBa.out).2.2.2).mono ?_
          rintro e y2 ⟨rfl, hg2⟩
          have HG2 := Lib.hid hg2
          clear hg2
          go_wp2_with fail
          refine (HK2.out gT capT po co _ LT y2 ((HTn.out.below HBa.out).below HG2.out) ((HEn.out.below HBa.out).below HG2.out).2.1).mono ?_
          rintro e y3 ⟨rfl, hg3⟩
          have HB23 : Hid (Below y1.heap.size y1 y3) := Lib.hid (HG2.out.trans (hg3.mono HG2.out.size))
          have HB3 : Hid (Below wx.heap.size wx y3) := Lib.hid (HBa.out.trans (HB23.out.mono HBa.out.size))
          have HR3 : Hid (y3.ownsRow B 24 5 (.slice pa N2 ca) N2 (encE O)) := Lib.hid (own_le (own_belowAll HRa.out HB23.out) hszx)
          have HL3 := Lib.hid (HLn.out.below HB3.out)
          have hnew := HLn.out.fresh (va := .slice pa N2 ca) (H := wx.heap.size) (Nat.le_refl _) (fun b hb => (HRa.out.lt b hb).1)
          have HNw := Lib.hid hnew
          have hsz3 : B ≤ y3.heap.size := Nat.le_trans hszx HB3.out.size
          have hlr := HL3.out.1
          clear hg3 hnew HG2 HBa HRa HB23
          go_wp2_with (at_builtin; refine wpList_append_two _ rfl _ _ 43 rfl B 25 i1 (.slice none 0 0) 1 24 Try.underlying43 hj hy0 hy1 hy2 rfl (by decide) lv 3 _ rfl (hlr.alloc _) ⟨y3.heap.size, 0, none⟩ 1 1 [.slice pa N2 ca] rfl rfl (World.news_of_block (heap_alloc_new y3 _)) (by simp [Value.oneCell']) (by decide) (by unfold maxLen; omega) (by omega) (by simp; omega) ?_; intro g' capn y4 hown' hold hlies hlt2)
          have hln := Lists.step HL3.out (by rw [q23_y _ _ (by decide), q23_y _ _ (by decide)]; exact HR3.out) HNw.out (by decide) _ hown' hlies
          have hbn : Below B y3 y4 := hlies.below ((Below.refl B y3).alloc (by omega) _) (by simp; omega) (fun b hb => (hlr.lt b hb).1)
          have HLN := Lib.hid hln
          have HTN : Hid (TwIs y4 w.heap.size (m + 64) (curZ zz zn (3 + 1)) (.slice (some ⟨gT, 0, none⟩) (m + 64) capT) LT) := Lib.hid (by
            rw [show curZ zz zn (3 + 1) = zn from by unfold curZ; simp]
            exact (HTn.out.below HB3.out).keepB HG.out hs14 hbn)
          have HFN : Hid (Fr w4 y4 (rowsS m LT)) := Lib.hid (by
            refine (HFn.out.behind ?_).behind (by rw [HBS.out]; exact hbn)
            rw [HBS.out]; exact HB3.out.mono hszx)
          clear hln hbn hown' hold hlies hlt2 hlr
          go_wp2
          go_roundw
          case rel => exact ⟨3 + 1, _, _, by omega, by go_num, rfl, HFN.out, HTN, HLN⟩
          case measure => simp [intOf]
      · have e2 : ((k5 : Int) == 2) = false := by rw [beq_eq_false_iff_ne]; omega
        have e3 : ((k5 : Int) == 3) = false := by rw [beq_eq_false_iff_ne]; omega
        have HQ := Lib.hid hq
        clear hq
        have HF3 : Hid (∀ W, Fr wo W (rowsS m LT) → LLs W W.heap.size p zz) := Lib.hid (fun W hW => (HE.out W (HFr.out.trans hW)).1)
        have HWr := Lib.hid (written_go (cap := cap) (now := zz) HM.out HSh.out (.inl rfl) HFb.out wo HTk.out HF3.out)
        go_wp2_with fail
        refine HWr.out.mono ?_
        rintro e wx ⟨rfl, hFx, hsx, hTx⟩
        have HFn : Hid (Fr w4 wx (rowsS m LT)) := Lib.hid (HFr.out.trans hFx)
        have HLn := Lib.hid (HH.out.fr hFx HSB.out)
        have hszx : B ≤ wx.heap.size := by rw [hsx]; exact hsz
        have HTn := Lib.hid hTx
        have HEn := Lib.hid (HE.out wx HFn.out)
        have hhl := Lib.hid (hTx.lls (by rw [HM.out]; omega))
        clear hFx hTx HTk HH HF3 HWr
        go_wp2_with fail
        refine (HB1.out wx (some ⟨gT, 0, none⟩) capT hhl.out).mono ?_
        rintro e y1 ⟨va, rfl, hra, hb1⟩
        rw [HN1.out] at hra
        obtain ⟨pa, ca, rfl, _⟩ := own_rd hra
        have HRa := Lib.hid hra
        have HBa := Lib.hid hb1
        clear hra hb1 hhl
        go_wp2_with fail
        refine (sameT HN1.out (by omega) y1 (el_ownT HRa.out) (HEn.out.below HBa.out).2.2.1).mono ?_
        rintro e y2 ⟨rfl, hg2⟩
        have HG2 := Lib.hid hg2
        clear hg2
        go_wp2_with fail
        refine (HK1.out gT capT _ LT y2 ((HTn.out.below HBa.out).below HG2.out) ((HEn.out.below HBa.out).below HG2.out).1).mono ?_
        rintro e y3 ⟨rfl, hg3⟩
        have HB23 : Hid (Below y1.heap.size y1 y3) := Lib.hid (HG2.out.trans (hg3.mono HG2.out.size))
        have HB3 : Hid (Below wx.heap.size wx y3) := Lib.hid (HBa.out.trans (HB23.out.mono HBa.out.size))
        have HR3 : Hid (y3.ownsRow B 24 5 (.slice pa N1 ca) N1 (encE T)) := Lib.hid (own_le (own_belowAll HRa.out HB23.out) hszx)
        have HL3 := Lib.hid (HLn.out.below HB3.out)
        have hnew := HLn.out.fresh (va := .slice pa N1 ca) (H := wx.heap.size) (Nat.le_refl _) (fun b hb => (HRa.out.lt b hb).1)
        have HNw := Lib.hid hnew
        have hsz3 : B ≤ y3.heap.size := Nat.le_trans hszx HB3.out.size
        have hlr := HL3.out.1
        clear hg3 hnew HG2 HBa HRa HB23
        go_wp2_with (at_builtin; refine wpList_append_two _ rfl _ _ 43 rfl B 25 i1 (.slice none 0 0) 1 24 Try.underlying43 hj hy0 hy1 hy2 rfl (by decide) lv k5 _ rfl (hlr.alloc _) ⟨y3.heap.size, 0, none⟩ 1 1 [.slice pa N1 ca] rfl rfl (World.news_of_block (heap_alloc_new y3 _)) (by simp [Value.oneCell']) (by decide) (by unfold maxLen; omega) (by omega) (by simp; omega) ?_; intro g' capn y4 hown' hold hlies hlt2)
        have hln := Lists.step HL3.out (by rw [q23_x _ _ HQ.out, q23_x _ _ HQ.out]; exact HR3.out) HNw.out (by decide) _ hown' hlies
        have hbn : Below B y3 y4 := hlies.below ((Below.refl B y3).alloc (by omega) _) (by simp; omega) (fun b hb => (hlr.lt b hb).1)
        have HLN := Lib.hid hln
        have HTN : Hid (TwIs y4 w.heap.size (m + 64) (curZ zz zn (k5 + 1)) (.slice (some ⟨gT, 0, none⟩) (m + 64) capT) LT) := Lib.hid (by
          rw [show curZ zz zn (k5 + 1) = zz from by have := HQ.out; unfold curZ; rw [if_neg (by omega)]]
          exact (HTn.out.below HB3.out).keepB HG.out hs14 hbn)
        have HFN : Hid (Fr w4 y4 (rowsS m LT)) := Lib.hid (by
          refine (HFn.out.behind ?_).behind (by rw [HBS.out]; exact hbn)
          rw [HBS.out]; exact HB3.out.mono hszx)
        clear hln hbn hown' hold hlies hlt2 hlr
        go_wp2
        go_roundw
        case rel => exact ⟨k5 + 1, _, _, by omega, by go_num, rfl, HFN.out, HTN, HLN⟩
        case measure => simp [intOf]; omega
    · obtain rfl : k5 = 5 := by omega
      have HT5 : Hid (TwIs wo w.heap.size (m + 64) zz (.slice (some ⟨gT, 0, none⟩) (m + 64) capT) LT) := HTk
      have HEn := Lib.hid (HE.out wo HFr.out)
      obtain ⟨gl, cl, rfl, hgl1, hgl2⟩ := HH.out.1.form (by decide)
      have r0 := HH.out.2.1 0 (by decide)
      rw [q23_x _ _ (by decide), q23_x _ _ (by decide)] at r0
      have k0 : wo.cell? ⟨gl, 0, none⟩ = some (L 0) := by rw [HH.out.1.cellAt 0 (by decide)]; rfl
      obtain ⟨p0, c0, e0, _, _, _⟩ := own_rd r0
      rw [e0] at r0 k0
      have h0 := el_ownT r0
      have r1 := HH.out.2.1 1 (by decide)
      rw [q23_x _ _ (by decide), q23_x _ _ (by decide)] at r1
      have k1 : wo.cell? ⟨gl, 1, none⟩ = some (L 1) := by rw [HH.out.1.cellAt 1 (by decide)]; rfl
      obtain ⟨p1, c1, e1, _, _, _⟩ := own_rd r1
      rw [e1] at r1 k1
      have h1 := el_ownT r1
      have r2 := HH.out.2.1 2 (by decide)
      rw [q23_y _ _ (by decide), q23_y _ _ (by decide)] at r2
      have k2 : wo.cell? ⟨gl, 2, none⟩ = some (L 2) := by rw [HH.out.1.cellAt 2 (by decide)]; rfl
      obtain ⟨p2, c2, e2, _, _, _⟩ := own_rd r2
      rw [e2] at r2 k2
      have h2 := el_ownT r2
      have r3 := HH.out.2.1 3 (by decide)
      rw [q23_y _ _ (by decide), q23_y _ _ (by decide)] at r3
      have k3 : wo.cell? ⟨gl, 3, none⟩ = some (L 3) := by rw [HH.out.1.cellAt 3 (by decide)]; rfl
      obtain ⟨p3, c3, e3, _, _, _⟩ := own_rd r3
      rw [e3] at r3 k3
      have h3 := el_ownT r3
      have r4 := HH.out.2.1 4 (by decide)
      rw [q23_x _ _ (by decide), q23_x _ _ (by decide)] at r4
      have k4 : wo.cell? ⟨gl, 4, none⟩ = some (L 4) := by rw [HH.out.1.cellAt 4 (by decide)]; rfl
      obtain ⟨p4, c4, e4, _, _, _⟩ := own_rd r4
      rw [e4] at r4 k4
      have h4 := el_ownT r4
      have K : Hid (∀ z, Below wo.heap.size wo z → (z.cell? ⟨gl, 0, none⟩ = some (.slice p0 N1 c0) ∧ z.cell? ⟨gl, 1, none⟩ = some (.slice p1 N1 c1) ∧ z.cell? ⟨gl, 2, none⟩ = some (.slice p2 N2 c2) ∧ z.cell? ⟨gl, 3, none⟩ = some (.slice p3 N2 c3) ∧ z.cell? ⟨gl, 4, none⟩ = some (.slice p4 N1 c4))) := Lib.hid (fun z hz => ⟨(hz.cell (p := ⟨gl, 0, none⟩) hgl2).trans k0, (hz.cell (p := ⟨gl, 1, none⟩) hgl2).trans k1, (hz.cell (p := ⟨gl, 2, none⟩) hgl2).trans k2, (hz.cell (p := ⟨gl, 3, none⟩) hgl2).trans k3, (hz.cell (p := ⟨gl, 4, none⟩) hgl2).trans k4⟩)
      have R : Hid ((EL wo wo.heap.size p0 T ∧ EL wo wo.heap.size p1 T ∧ EL wo wo.heap.size p2 O ∧ EL wo wo.heap.size p3 O ∧ EL wo wo.heap.size p4 T)) := Lib.hid ⟨h0, h1, h2, h3, h4⟩
      clear r0 k0 e0 h0 r1 k1 e1 h1 r2 k2 e2 h2 r3 k3 e3 h3 r4 k4 e4 h4
      have hyw : Below wo.heap.size wo wo := Below.refl _ _
      obtain ⟨k0, k1, k2, k3, k4⟩ := K.out wo hyw
      go_wp2_with fail
      refine (sameT HN1.out (by omega) wo ((R.out.1).behind hyw) ((HEn.out.below hyw).2.2.1)).mono ?_
      rintro e z0 ⟨rfl, hz0⟩
      have hy0 : Below wo.heap.size wo z0 := hyw.trans (hz0.mono hyw.size)
      clear k0 k1 k2 k3 k4 hz0
      obtain ⟨k0, k1, k2, k3, k4⟩ := K.out z0 hy0
      go_wp2_with fail
      refine (sameT HN1.out (by omega) z0 ((R.out.2.1).behind hy0) ((HEn.out.below hy0).2.2.1)).mono ?_
      rintro e z1 ⟨rfl, hz1⟩
      have hy1 : Below wo.heap.size wo z1 := hy0.trans (hz1.mono hy0.size)
      clear k0 k1 k2 k3 k4 hz1
      obtain ⟨k0, k1, k2, k3, k4⟩ := K.out z1 hy1
      go_wp2_with fail
      refine (sameT HN1.out (by omega) z1 ((R.out.2.2.2.2).behind hy1) ((HEn.out.below hy1).2.2.1)).mono ?_
      rintro e z2 ⟨rfl, hz2⟩
      have hy2 : Below wo.heap.size wo z2 := hy1.trans (hz2.mono hy1.size)
      clear k0 k1 k2 k3 k4 hz2
      obtain ⟨k0, k1, k2, k3, k4⟩ := K.out z2 hy2
      go_wp2_with fail
      refine (sameT HN2.out (by omega) z2 ((R.out.2.2.1).behind hy2) ((HEn.out.below hy2).2.2.2)).mono ?_
      rintro e z3 ⟨rfl, hz3⟩
      have hy3 : Below wo.heap.size wo z3 := hy2.trans (hz3.mono hy2.size)
      clear k0 k1 k2 k3 k4 hz3
      obtain ⟨k0, k1, k2, k3, k4⟩ := K.out z3 hy3
      go_wp2_with fail
      refine (sameT HN2.out (by omega) z3 ((R.out.2.2.2.1).behind hy3) ((HEn.out.below hy3).2.2.2)).mono ?_
      rintro e z4 ⟨rfl, hz4⟩
      have hy4 : Below wo.heap.size wo z4 := hy3.trans (hz4.mono hy3.size)
      clear k0 k1 k2 k3 k4 hz4
      obtain ⟨k0, k1, k2, k3, k4⟩ := K.out z4 hy4
      have hly := HH.out.below hy4
      have hs4 := hy4.size
      go_wp2_with fail
      refine (apartM_calls (.slice (some ⟨gl, 0, none⟩) 5 cl) 5 L (q23 N1 N2) B (by decide) (fun i _ => by unfold q23; split <;> omega) z4 (by omega) hly.1 (fun i hi => ⟨_, hly.2.1 i hi⟩) hly.2.2).mono ?_
      rintro e z5 ⟨rfl, hz5⟩
      have HTz : Hid (TwIs z5 w.heap.size (m + 64) zz (.slice (some ⟨gT, 0, none⟩) (m + 64) capT) LT) := Lib.hid ((HT5.out.below hy4).keepB HG.out hs14 hz5)
      have HFz : Hid (Fr w4 z5 (rowsS m LT)) := Lib.hid ((HFr.out.behind (by rw [HBS.out]; exact hy4.mono hsz)).behind (by rw [HBS.out]; exact hz5))
      clear hly hs4 hz5 k0 k1 k2 k3 k4
      go_wp2_with fail
      refine (HK1.out gT capT _ LT z5 HTz.out (HE.out z5 HFz.out).1).mono ?_
      rintro e z6 ⟨rfl, hg6⟩
      have HEnd : Hid (Below w.heap.size w z6) := Lib.hid (by
        have hF6 : Fr w4 z6 (rowsS m LT) := HFz.out.behind (hg6.mono HFz.out.2.2.2.1)
        exact HBw4.out.1.trans (hF6.below (Nat.le_trans HBw4.out.2.1 HBw4.out.2.2) (fun b hb => (HG.out.rows b hb).1)))
      clear hg6
      go_wp2
      go_ret
      exact ⟨rfl, HEnd.out⟩

theorem MergeLists_walk (v : Value) (zz : List (List Ent)) (bottom : Bool) (w : World) (h1 : IsSl w 1 24 (IsSl w 5 48 IsEnt) [v] zz)
    (hbk : (zz.map fun l => (l.map bkEnt).sum + 1).sum ≤ 1048576) :
    Calls Try.prog 6 #[v, .bool bottom] w fun e w' => e = .returned (.bool true) ∧ Below w.heap.size w w' := by
  obtain ⟨p, cap, rfl, hLL, hnil, hwf⟩ := lists_of_arg h1
  have hfl := bk_flat zz
  have hfb : zz.flatten.length + zz.length ≤ 1048576 := by omega
  have hln : (zz.map movedL).length = zz.length := List.length_map ..
  have hfn := moved_flat zz
  have l1 := docX_len zz bottom
  have l2 := docX_len (zz.map movedL) bottom
  exact MergeLists_gen bottom (docX zz bottom).2 (docX (zz.map movedL) bottom).2 (docX zz bottom).1 (docX (zz.map movedL) bottom).1 p cap zz _ rfl hfb (by omega) (by omega) w hLL hnil hwf
    (fun W p c h => prog_merge bottom rfl hfb h hwf) (fun W p c h => prog_merge bottom hln (by omega) h (moved_wf hwf)) (fun W p c h => ref_merge bottom rfl hfb h) (fun W p c h => ref_merge bottom hln (by omega) h)
end Go.Proofs.Ytahdaccmokjgpaa
