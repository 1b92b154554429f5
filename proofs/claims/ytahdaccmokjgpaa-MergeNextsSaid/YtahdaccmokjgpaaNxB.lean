/-
  WALK: the document's merger asks a source (its own ask).
-/
import Derived.Test.YtahdaccmokjgpaaNxA
import Derived.Deep.RegionLaw
namespace Go.Proofs.Ytahdaccmokjgpaa
open Go.RowKit ArgK
set_option linter.unusedVariables false

theorem asked_mute {s : Sst} (h : s.mute = true) : s.asked = (s, 0, none) := by unfold Sst.asked; rw [h]; rfl
theorem asked_end {s : Sst} (hm : s.mute = false) (h : s.es[s.used]? = none) : s.asked = (s.next, s.fin, none) := by unfold Sst.asked; rw [hm, h]; rfl
theorem asked_zero {s : Sst} {e : Ent} (hm : s.mute = false) (h : s.es[s.used]? = some e) (h0 : s.used = 0) : s.asked = (s.next, 0, some e) := by
  have hl : s.last = none := by unfold Sst.last; rw [if_pos h0]
  unfold Sst.asked
  rw [hm, h, hl]
  rfl
theorem asked_pos {s : Sst} {e l : Ent} (hm : s.mute = false) (h : s.es[s.used]? = some e) (hl : s.es[s.used - 1]? = some l) (h0 : 0 < s.used) : s.asked = if eless l e then (s.next, 0, some e) else (s.next, 50, none) := by
  have hl : s.last = some l := by unfold Sst.last; rw [if_neg (by omega), hl]
  unfold Sst.asked
  rw [hm, h, hl]
  rfl

/-- A source as it is behind one more asking. -/
theorem rl_next {x : Kl} {u : Nat} (hu : x.u3 = u) (d : Bool) : ({ x with u3 := ((u : Int) + 1), dn := d } : Kl).rl = ⟨x.rl.s.next, d⟩ := by
  unfold Kl.rl Sst.next
  simp only [hu, Rl.mk.injEq, Sst.mk.injEq, true_and, and_true]
  omega

/-- What ask leaves. -/
def RAskPost (w : World) (B rb : Nat) (p : Option Addr) (n c : Nat) (bottom : Bool) (ks : List Kl) (begun : Bool) (bad : Int) (i : Nat) (e : Ending) (w' : World) : Prop :=
  e = .returned (.tuple #[]) ∧ ∃ (ks' : List Kl) (bad' : Int), RmAt w' B rb p n c bottom ks' begun bad' ∧ (⟨ks'.map Kl.rl, begun, bad'⟩ : Rmt) = (⟨ks.map Kl.rl, begun, bad⟩ : Rmt).ask i ∧ Kp B rT w w'

theorem rask_none {ks : List Kl} {begun : Bool} {bad : Int} {i : Nat} {x : Kl} (hx : ks[i]? = some x) (h : bad ≠ 0 ∨ x.dn = true) : (⟨ks.map Kl.rl, begun, bad⟩ : Rmt).ask i = ⟨ks.map Kl.rl, begun, bad⟩ := by
  unfold Rmt.ask
  simp only [List.getElem?_map, hx, Option.map_some]
  exact if_pos h

theorem rask_some {ks : List Kl} {begun : Bool} {i : Nat} {x : Kl} (hx : ks[i]? = some x) (h : x.dn = false) : (⟨ks.map Kl.rl, begun, 0⟩ : Rmt).ask i = ⟨(ks.map Kl.rl).set i x.rl.asked, begun, x.rl.s.asked.2.1⟩ :=
  Rmt.ask_eq rfl (by simp only [List.getElem?_map, hx]; rfl) h

/-- What ask leaves, by what the source is then. -/
theorem RAskPost.of {w w' : World} {B rb : Nat} {p : Option Addr} {n c : Nat} {bottom : Bool} {ks : List Kl} {begun : Bool} {i : Nat} {x y : Kl} {b : Int} (hx : ks[i]? = some x) (hd : x.dn = false) (hy : y.rl = x.rl.asked) (hb : b = x.rl.s.asked.2.1) (h : RmAt w' B rb p n c bottom (ks.set i y) begun b) (k : Kp B rT w w') :
    RAskPost w B rb p n c bottom ks begun 0 i (.returned (.tuple #[])) w' :=
  ⟨rfl, _, _, h, by rw [rask_some hx hd, List.map_set, hy, hb], k⟩

set_option maxRecDepth 100000 in
set_option maxHeartbeats 4000000 in
theorem RAsk_calls {w : World} {B rb : Nat} {p : Option Addr} {n c : Nat} {bottom : Bool} {ks : List Kl} {begun : Bool} {bad : Int} (h : RmAt w B rb p n c bottom ks begun bad) {i : Nat} (hi : i < n) (hB : B ≤ w.heap.size) (hub : bad = 0 → ∀ x, ks[i]? = some x → x.dn = false → x.u3 ≤ x.es.length) :
    Calls Try.prog 49 #[.pointer (some ⟨rb, 0, none⟩), .int .i64 i] w (RAskPost w B rb p n c bottom ks begun bad i) := by
  obtain ⟨x, hx⟩ : ∃ x, ks[i]? = some x := ⟨_, List.getElem?_eq_getElem (by rw [h.len]; exact hi)⟩
  obtain ⟨g, rfl, hgB, y0, y1, y2, y3, y4⟩ := h.list hx
  obtain ⟨c0, _, _, c3, _⟩ := h.cells
  obtain ⟨hE, hlx, u, hu⟩ := h.ents x (List.mem_of_getElem? hx)
  have hi0 : (0 : Int) ≤ (i : Int) := by omega
  have hin : (i : Int) < (n : Int) := by omega
  have HX := Lib.hid hx
  have HR := Lib.hid h
  have HE := Lib.hid hE
  rw [hu] at y3
  have HU := Lib.hid hu
  have HUB := Lib.hid hub
  have HLX := Lib.hid hlx
  have HN1 : Hid (bad ≠ 0 ∨ x.dn = true → RAskPost w B rb (some ⟨g, 0, none⟩) n c bottom ks begun bad i (.returned (.tuple #[])) w) := Lib.hid (fun hc => ⟨rfl, ks, bad, h, (rask_none hx hc).symm, Kp.refl _ _ _⟩)
  clear hx h hE hu hub
  go_enter Try.func49, Try.ntmps49
  by_cases hb0 : bad = 0
  · subst hb0
    obtain ⟨d, hd⟩ : ∃ d, x.dn = d := ⟨_, rfl⟩
    rw [hd] at y4
    have HD := Lib.hid hd
    clear hd
    cases d with
    | true =>
      go_wp2
      go_end0
      exact HN1.out (.inr HD.out)
    | false =>
      obtain ⟨mu, hm⟩ : ∃ d, x.mute = d := ⟨_, rfl⟩
      rw [hm] at y2
      have HM := Lib.hid hm
      clear hm
      cases mu with
      | true =>
        have HS := Lib.hid (HR.out.setL (y := { x with dn := true }) (k := 4) (u := .bool true) HX.out (by decide) rfl ⟨rfl, rfl⟩ ⟨u, HU.out⟩)
        have f4 := HR.out.row.frozenAt (i * 5 + 4)
        go_wp2
        go_end0
        exact RAskPost.of HX.out HD.out (by unfold Rl.asked; rw [asked_mute (s := x.rl.s) HM.out]; unfold Kl.rl; simp [HM.out]) (by rw [asked_mute (s := x.rl.s) HM.out]) HS.out.1 HS.out.2
      | false =>
        have hu1 : u ≤ x.es.length := by have := HUB.out rfl x HX.out HD.out; have := HU.out; omega
        have f3 := HR.out.row.frozenAt (i * 5 + 3)
        obtain ⟨HS1, HS2⟩ := HR.out.setL (y := { x with u3 := ((u : Int) + 1), dn := false }) (k := 3) (u := .int .i64 ((u : Int) + 1)) HX.out (by decide) (by unfold Kl.cells; simp [HD.out]) ⟨rfl, rfl⟩ ⟨u + 1, by simp⟩
        have hx1 : (ks.set i { x with u3 := ((u : Int) + 1), dn := false })[i]? = some { x with u3 := ((u : Int) + 1), dn := false } := List.getElem?_set_self (List.getElem?_eq_some_iff.1 HX.out).1
        have hlen := HLX.out
        have hwr : IntKind.i64.wrap ((u : Int) + 1) = (u : Int) + 1 := by rw [IntKind.wrap_i64]; omega
        have hwr2 : IntKind.i64.wrap (u : Int) = (u : Int) := by rw [IntKind.wrap_i64]; omega
        rcases Nat.lt_or_ge u x.es.length with hlt | hge
        · obtain ⟨e, he⟩ : ∃ e, x.es[u]? = some e := ⟨_, List.getElem?_eq_getElem hlt⟩
          obtain ⟨a, hq, haB, _, _, _, _, _⟩ := HE.out u e he
          have hes : x.rl.s.es[x.rl.s.used]? = some e := by
            unfold Kl.rl
            simp only [HU.out]
            simpa using he
          have hlt' : (u : Int) < (x.es.length : Int) := by omega
          have hge' : ¬ ((x.es.length : Int) ≤ (u : Int)) := by omega
          have HGO : Hid (∀ (W : World) (b : Int), b = x.rl.s.asked.2.1 → x.rl.s.asked.1 = x.rl.s.next → RmAt W B rb (some ⟨g, 0, none⟩) n c bottom (ks.set i { x with u3 := ((u : Int) + 1), dn := false }) begun b → Kp B rT w W → RAskPost w B rb (some ⟨g, 0, none⟩) n c bottom ks begun 0 i (.returned (.tuple #[])) W) := Lib.hid (fun W b hb hs hW hk => RAskPost.of HX.out HD.out (by unfold Rl.asked; rw [hs, hes, rl_next HU.out]; unfold Kl.rl; simp [HM.out]) hb hW hk)
          have HS1' := Lib.hid HS1
          have HS2' := Lib.hid HS2
          have HES := Lib.hid hes
          have HEE := Lib.hid he
          obtain ⟨_, hne, _, y0', _, _, y3', _⟩ := HS1.list hx1
          cases hne
          simp only at y0' y3'
          rw [hq] at y0 y0'
          obtain ⟨nl, hnl⟩ : ∃ nl, x.es.length = nl := ⟨_, rfl⟩
          rw [hnl] at y0 y0' hlt' hge' hlen
          have HQ := Lib.hid hq
          have HNL := Lib.hid hnl
          clear HS1 HS2 hx1 he hes hq haB hnl
          rcases Nat.eq_zero_or_pos u with hu0 | hu0
          · have hup : ¬ ((0 : Int) < (u : Int)) := by omega
            have hup2 : decide ((0 : Int) < (u : Int)) = false := by simpa using hup
            have ha := asked_zero (s := x.rl.s) HM.out HES.out (by unfold Kl.rl; simp only [HU.out]; simpa using hu0)
            have HFIN := Lib.hid (fun W hW hk => HGO.out W 0 (by rw [ha]) (by rw [ha]) hW hk)
            clear ha
            have hw1 : w.setCell ⟨g, i * 5 + 3, none⟩ (.int .i64 1) = w.setCell ⟨g, i * 5 + 3, none⟩ (.int .i64 ((u : Int) + 1)) := by rw [show ((u : Int) + 1) = 1 by omega]
            have HW1 := Lib.hid hw1
            clear hw1
            go_wp2
            rw [HW1.out]
            have HSa := HS1'
            have HSb := HS2'
            generalize w.setCell ⟨g, i * 5 + 3, none⟩ (.int .i64 ((u : Int) + 1)) = W1 at HSa HSb ⊢
            have HSK : Hid (∀ W, Below W1.heap.size W1 W → W.cell? ⟨rb, 0, none⟩ = some (.slice (some ⟨g, 0, none⟩) n c)) := Lib.hid (fun W hW => (HSa.out.below hW).cells.1)
            refine wp_region_held_drew (S := (fun W => W.cell? ⟨rb, 0, none⟩ = some (.slice (some ⟨g, 0, none⟩) n c))) (by kernel_rfl) ?_ (fun hHeld => ?_)
            · exact HSK.out _ (Below.refl _ _).drew
            refine wpAnyH_take (i := 0) (oi := { dst := some 59, op := Op.move (Operand.tmp 5), type := 3, pos := "one.go:51", after := #[], guard := none }) (v := ?_) rfl (by kernel_rfl) (by kernel_rfl) (by kernel_rfl) (fun _ _ _ h => h) (Or.inl ⟨by rfl, ?_⟩) (by assumption) ?_
            rotate_left 1
            · intro w hSw
              (try dsimp only at hSw)
              go_simp
              try with_reducible rfl
            (try simp only [Act.put, List.setIfInBounds_toArray, List.set_cons_zero, List.set_cons_succ])
            refine wpAnyH_take (i := 1) (oi := { dst := some 60, op := Op.binOp BinOp.gtr 3 (Operand.tmp 59) (Operand.const (Value.int IntKind.i64 0)) 3, type := 4, pos := "one.go:51", after := #[{ on := 0, ground := Ground.data }], guard := none }) (v := ?_) rfl (by kernel_rfl) (by kernel_rfl) (by kernel_rfl) (fun _ _ _ h => h) (Or.inl ⟨by rfl, ?_⟩) (by assumption) ?_
            rotate_left 1
            · intro w hSw
              (try dsimp only at hSw)
              go_simp
              try with_reducible rfl
            (try simp only [Act.put, List.setIfInBounds_toArray, List.set_cons_zero, List.set_cons_succ])
            refine wpAnyH_take (i := 2) (oi := { dst := some 61, op := Op.move (Operand.tmp 60), type := 4, pos := "one.go:51", after := #[{ on := 1, ground := Ground.data }], guard := none }) (v := ?_) rfl (by kernel_rfl) (by kernel_rfl) (by kernel_rfl) (fun _ _ _ h => h) (Or.inl ⟨by rfl, ?_⟩) (by assumption) ?_
            rotate_left 1
            · intro w hSw
              (try dsimp only at hSw)
              go_simp
              try with_reducible rfl
            (try simp only [Act.put, List.setIfInBounds_toArray, List.set_cons_zero, List.set_cons_succ])
            refine wpAnyH_take (i := 3) (oi := { dst := some 62, op := Op.move (Operand.tmp 4), type := 102, pos := "one.go:51", after := #[{ on := 2, ground := Ground.guard }], guard := some (2, true) }) (v := undef) rfl (by kernel_rfl) (by kernel_rfl) (by kernel_rfl) (fun _ _ _ h => h) (Or.inr ⟨by rfl, rfl⟩) (by assumption) ?_
            (try simp only [Act.put, List.setIfInBounds_toArray, List.set_cons_zero, List.set_cons_succ])
            refine wpAnyH_take (i := 4) (oi := { dst := some 63, op := Op.nilCheck (Operand.tmp 62), type := 0, pos := "one.go:51", after := #[{ on := 3, ground := Ground.data }, { on := 2, ground := Ground.guard }], guard := some (2, true) }) (v := undef) rfl (by kernel_rfl) (by kernel_rfl) (by kernel_rfl) (fun _ _ _ h => h) (Or.inr ⟨by rfl, rfl⟩) (by assumption) ?_
            (try simp only [Act.put, List.setIfInBounds_toArray, List.set_cons_zero, List.set_cons_succ])
            refine wpAnyH_take (i := 5) (oi := { dst := some 64, op := Op.fieldAddr 35 (Operand.tmp 63) 0, type := 0, pos := "one.go:51", after := #[{ on := 4, ground := Ground.data }, { on := 2, ground := Ground.guard }], guard := some (2, true) }) (v := undef) rfl (by kernel_rfl) (by kernel_rfl) (by kernel_rfl) (fun _ _ _ h => h) (Or.inr ⟨by rfl, rfl⟩) (by assumption) ?_
            (try simp only [Act.put, List.setIfInBounds_toArray, List.set_cons_zero, List.set_cons_succ])
            refine wpAnyH_take (i := 6) (oi := { dst := some 65, op := Op.load 25 (Operand.tmp 64), type := 25, pos := "one.go:51", after := #[{ on := 5, ground := Ground.data }, { on := 2, ground := Ground.guard }], guard := some (2, true) }) (v := undef) rfl (by kernel_rfl) (by kernel_rfl) (by kernel_rfl) (fun _ _ _ h => h) (Or.inr ⟨by rfl, rfl⟩) (by assumption) ?_
            (try simp only [Act.put, List.setIfInBounds_toArray, List.set_cons_zero, List.set_cons_succ])
            refine wpAnyH_take (i := 7) (oi := { dst := some 66, op := Op.move (Operand.tmp 5), type := 3, pos := "one.go:51", after := #[{ on := 2, ground := Ground.guard }], guard := some (2, true) }) (v := undef) rfl (by kernel_rfl) (by kernel_rfl) (by kernel_rfl) (fun _ _ _ h => h) (Or.inr ⟨by rfl, rfl⟩) (by assumption) ?_
            (try simp only [Act.put, List.setIfInBounds_toArray, List.set_cons_zero, List.set_cons_succ])
            refine wpAnyH_take (i := 8) (oi := { dst := some 67, op := Op.binOp BinOp.sub 3 (Operand.tmp 66) (Operand.const (Value.int IntKind.i64 1)) 3, type := 3, pos := "one.go:51", after := #[{ on := 7, ground := Ground.data }, { on := 2, ground := Ground.guard }], guard := some (2, true) }) (v := undef) rfl (by kernel_rfl) (by kernel_rfl) (by kernel_rfl) (fun _ _ _ h => h) (Or.inr ⟨by rfl, rfl⟩) (by assumption) ?_
            (try simp only [Act.put, List.setIfInBounds_toArray, List.set_cons_zero, List.set_cons_succ])
            refine wpAnyH_take (i := 9) (oi := { dst := some 68, op := Op.indexAddr 25 (Operand.tmp 65) (Operand.tmp 67), type := 0, pos := "one.go:51", after := #[{ on := 6, ground := Ground.data }, { on := 8, ground := Ground.data }, { on := 2, ground := Ground.guard }], guard := some (2, true) }) (v := undef) rfl (by kernel_rfl) (by kernel_rfl) (by kernel_rfl) (fun _ _ _ h => h) (Or.inr ⟨by rfl, rfl⟩) (by assumption) ?_
            (try simp only [Act.put, List.setIfInBounds_toArray, List.set_cons_zero, List.set_cons_succ])
            refine wpAnyH_take (i := 10) (oi := { dst := some 69, op := Op.load 24 (Operand.tmp 68), type := 24, pos := "one.go:51", after := #[{ on := 9, ground := Ground.data }, { on := 2, ground := Ground.guard }], guard := some (2, true) }) (v := undef) rfl (by kernel_rfl) (by kernel_rfl) (by kernel_rfl) (fun _ _ _ h => h) (Or.inr ⟨by rfl, rfl⟩) (by assumption) ?_
            (try simp only [Act.put, List.setIfInBounds_toArray, List.set_cons_zero, List.set_cons_succ])
            refine wpAnyH_take (i := 11) (oi := { dst := some 70, op := Op.move (Operand.tmp 4), type := 102, pos := "one.go:51", after := #[{ on := 2, ground := Ground.guard }], guard := some (2, true) }) (v := undef) rfl (by kernel_rfl) (by kernel_rfl) (by kernel_rfl) (fun _ _ _ h => h) (Or.inr ⟨by rfl, rfl⟩) (by assumption) ?_
            (try simp only [Act.put, List.setIfInBounds_toArray, List.set_cons_zero, List.set_cons_succ])
            refine wpAnyH_take (i := 12) (oi := { dst := some 71, op := Op.nilCheck (Operand.tmp 70), type := 0, pos := "one.go:51", after := #[{ on := 11, ground := Ground.data }, { on := 2, ground := Ground.guard }], guard := some (2, true) }) (v := undef) rfl (by kernel_rfl) (by kernel_rfl) (by kernel_rfl) (fun _ _ _ h => h) (Or.inr ⟨by rfl, rfl⟩) (by assumption) ?_
            (try simp only [Act.put, List.setIfInBounds_toArray, List.set_cons_zero, List.set_cons_succ])
            refine wpAnyH_take (i := 13) (oi := { dst := some 72, op := Op.fieldAddr 35 (Operand.tmp 71) 0, type := 0, pos := "one.go:51", after := #[{ on := 12, ground := Ground.data }, { on := 2, ground := Ground.guard }], guard := some (2, true) }) (v := undef) rfl (by kernel_rfl) (by kernel_rfl) (by kernel_rfl) (fun _ _ _ h => h) (Or.inr ⟨by rfl, rfl⟩) (by assumption) ?_
            (try simp only [Act.put, List.setIfInBounds_toArray, List.set_cons_zero, List.set_cons_succ])
            refine wpAnyH_take (i := 14) (oi := { dst := some 73, op := Op.load 25 (Operand.tmp 72), type := 25, pos := "one.go:51", after := #[{ on := 13, ground := Ground.data }, { on := 2, ground := Ground.guard }], guard := some (2, true) }) (v := undef) rfl (by kernel_rfl) (by kernel_rfl) (by kernel_rfl) (fun _ _ _ h => h) (Or.inr ⟨by rfl, rfl⟩) (by assumption) ?_
            (try simp only [Act.put, List.setIfInBounds_toArray, List.set_cons_zero, List.set_cons_succ])
            refine wpAnyH_take (i := 15) (oi := { dst := some 74, op := Op.move (Operand.tmp 5), type := 3, pos := "one.go:51", after := #[{ on := 2, ground := Ground.guard }], guard := some (2, true) }) (v := undef) rfl (by kernel_rfl) (by kernel_rfl) (by kernel_rfl) (fun _ _ _ h => h) (Or.inr ⟨by rfl, rfl⟩) (by assumption) ?_
            (try simp only [Act.put, List.setIfInBounds_toArray, List.set_cons_zero, List.set_cons_succ])
            refine wpAnyH_take (i := 16) (oi := { dst := some 75, op := Op.indexAddr 25 (Operand.tmp 73) (Operand.tmp 74), type := 0, pos := "one.go:51", after := #[{ on := 14, ground := Ground.data }, { on := 15, ground := Ground.data }, { on := 2, ground := Ground.guard }], guard := some (2, true) }) (v := undef) rfl (by kernel_rfl) (by kernel_rfl) (by kernel_rfl) (fun _ _ _ h => h) (Or.inr ⟨by rfl, rfl⟩) (by assumption) ?_
            (try simp only [Act.put, List.setIfInBounds_toArray, List.set_cons_zero, List.set_cons_succ])
            refine wpAnyH_take (i := 17) (oi := { dst := some 76, op := Op.load 24 (Operand.tmp 75), type := 24, pos := "one.go:51", after := #[{ on := 16, ground := Ground.data }, { on := 2, ground := Ground.guard }], guard := some (2, true) }) (v := undef) rfl (by kernel_rfl) (by kernel_rfl) (by kernel_rfl) (fun _ _ _ h => h) (Or.inr ⟨by rfl, rfl⟩) (by assumption) ?_
            (try simp only [Act.put, List.setIfInBounds_toArray, List.set_cons_zero, List.set_cons_succ])
            refine wpAnyH_take (i := 18) (oi := { dst := some 77, op := Op.call { callee := Callee.value (Operand.func 11), args := #[Operand.tmp 69, Operand.tmp 76], argTypes := #[24, 24] }, type := 3, pos := "one.go:51", after := #[{ on := 10, ground := Ground.data }, { on := 17, ground := Ground.data }, { on := 2, ground := Ground.chain }, { on := 2, ground := Ground.guard }], guard := some (2, true) }) (v := undef) rfl (by kernel_rfl) (by kernel_rfl) (by kernel_rfl) (fun _ _ _ h => h) (Or.inr ⟨by rfl, rfl⟩) (by assumption) ?_
            (try simp only [Act.put, List.setIfInBounds_toArray, List.set_cons_zero, List.set_cons_succ])
            refine wpAnyH_take (i := 19) (oi := { dst := some 78, op := Op.binOp BinOp.geq 3 (Operand.tmp 77) (Operand.const (Value.int IntKind.i64 0)) 3, type := 4, pos := "one.go:51", after := #[{ on := 18, ground := Ground.data }, { on := 2, ground := Ground.guard }], guard := some (2, true) }) (v := undef) rfl (by kernel_rfl) (by kernel_rfl) (by kernel_rfl) (fun _ _ _ h => h) (Or.inr ⟨by rfl, rfl⟩) (by assumption) ?_
            (try simp only [Act.put, List.setIfInBounds_toArray, List.set_cons_zero, List.set_cons_succ])
            refine wpAnyH_take (i := 20) (oi := { dst := some 79, op := Op.pick (Operand.tmp 61) (Operand.tmp 78) (Operand.const (Value.bool false)), type := 4, pos := "one.go:51", after := #[{ on := 2, ground := Ground.data }, { on := 19, ground := Ground.data }], guard := none }) (v := ?_) rfl (by kernel_rfl) (by kernel_rfl) (by kernel_rfl) (fun _ _ _ h => h) (Or.inl ⟨by rfl, ?_⟩) (by assumption) ?_
            rotate_left 1
            · intro w hSw
              (try dsimp only at hSw)
              go_simp
              try with_reducible rfl
            (try simp only [Act.put, List.setIfInBounds_toArray, List.set_cons_zero, List.set_cons_succ])
            refine wpAnyH_done (by kernel_rfl) ?_ _
            clear hHeld
            go_wp2
            go_end0
            exact HFIN.out _ (HSa.out.below (Below.refl _ _).drew) HSb.out.drew
          · have hup : (0 : Int) < (u : Int) := by omega
            have hup2 : decide ((0 : Int) < (u : Int)) = true := by simpa using hup
            obtain ⟨v, hv⟩ : ∃ v, u = v + 1 := ⟨u - 1, by omega⟩
            obtain ⟨l, hl⟩ : ∃ l, x.es[v]? = some l := ⟨_, List.getElem?_eq_getElem (by omega)⟩
            have hvl : (v : Int) < (nl : Int) := by omega
            have hv0 : (0 : Int) ≤ (v : Int) := by omega
            have hwv : IntKind.i64.wrap ((u : Int) - 1) = (v : Int) := by rw [IntKind.wrap_i64]; omega
            have ha := asked_pos (s := x.rl.s) (l := l) HM.out HES.out (by unfold Kl.rl; simp only [HU.out]; rw [show ((u : Int).toNat - 1) = v by omega]; exact hl) (by unfold Kl.rl; simp only [HU.out]; omega)
            have HV := Lib.hid hv
            have HL := Lib.hid hl
            clear hv hl
            obtain ⟨cc, hcc⟩ : ∃ cc, cmpE l e = cc := ⟨_, rfl⟩
            have CC := fun W => RefCompare_calls l e W
            unfold Ent.val at CC
            simp only [hcc] at CC
            have HCM := Lib.hid CC
            have HCC := Lib.hid hcc
            clear CC hcc
            go_wp2
            have HSa := HS1'
            have HSb := HS2'
            generalize w.setCell ⟨g, i * 5 + 3, none⟩ (.int .i64 ((u : Int) + 1)) = W1 at HSa HSb ⊢
            have HSK : Hid (∀ W, Below W1.heap.size W1 W → W.cell? ⟨g, i * 5, none⟩ = some (.slice (some a) nl x.c) ∧ W.cell? (a.add (v * 5)) = some (.int .i64 l.v) ∧ W.cell? ⟨(a.add (v * 5)).block, (a.add (v * 5)).off + 1, none⟩ = some (.string l.c) ∧ W.cell? ⟨(a.add (v * 5)).block, (a.add (v * 5)).off + 2, none⟩ = some (.int .i64 l.i) ∧ W.cell? ⟨(a.add (v * 5)).block, (a.add (v * 5)).off + 3, none⟩ = some (.int .i64 l.s) ∧ W.cell? ⟨(a.add (v * 5)).block, (a.add (v * 5)).off + 4, none⟩ = some (.bool l.d) ∧ W.cell? (a.add (u * 5)) = some (.int .i64 e.v) ∧ W.cell? ⟨(a.add (u * 5)).block, (a.add (u * 5)).off + 1, none⟩ = some (.string e.c) ∧ W.cell? ⟨(a.add (u * 5)).block, (a.add (u * 5)).off + 2, none⟩ = some (.int .i64 e.i) ∧ W.cell? ⟨(a.add (u * 5)).block, (a.add (u * 5)).off + 3, none⟩ = some (.int .i64 e.s) ∧ W.cell? ⟨(a.add (u * 5)).block, (a.add (u * 5)).off + 4, none⟩ = some (.bool e.d)) := Lib.hid (fun W hW => by
              have hR := HSa.out.below hW
              obtain ⟨_, hne2, _, z0, _⟩ := hR.list (i := i) (List.getElem?_set_self (List.getElem?_eq_some_iff.1 HX.out).1)
              cases hne2
              obtain ⟨hE2, _⟩ := hR.ents _ (List.mem_of_getElem? (List.getElem?_set_self (i := i) (List.getElem?_eq_some_iff.1 HX.out).1))
              obtain ⟨a1, q1, _, k0, k1, k2, k3, k4⟩ := hE2 v l HL.out
              obtain ⟨a2, q2, _, j0, j1, j2, j3, j4⟩ := hE2 u e HEE.out
              simp only at z0 q1 q2
              rw [HQ.out] at q1 q2 z0
              cases q1
              cases q2
              rw [HNL.out] at z0
              exact ⟨z0, k0, k1, k2, k3, k4, j0, j1, j2, j3, j4⟩)
            rcases Int.lt_or_le cc 0 with hc | hc
            · have hce : eless l e := cmpE_neg.1 (by rw [HCC.out]; exact hc)
              rw [if_pos hce] at ha
              have HFIN := Lib.hid (fun W hW hk => HGO.out W 0 (by rw [ha]) (by rw [ha]) hW hk)
              have hc1 : ¬ (0 : Int) ≤ cc := by omega
              have hc2 : decide ((0 : Int) ≤ cc) = false := by simpa using hc1
              clear ha hce
              refine wp_region_held_drew (S := (fun W => W.cell? ⟨g, i * 5, none⟩ = some (.slice (some a) nl x.c) ∧ W.cell? (a.add (v * 5)) = some (.int .i64 l.v) ∧ W.cell? ⟨(a.add (v * 5)).block, (a.add (v * 5)).off + 1, none⟩ = some (.string l.c) ∧ W.cell? ⟨(a.add (v * 5)).block, (a.add (v * 5)).off + 2, none⟩ = some (.int .i64 l.i) ∧ W.cell? ⟨(a.add (v * 5)).block, (a.add (v * 5)).off + 3, none⟩ = some (.int .i64 l.s) ∧ W.cell? ⟨(a.add (v * 5)).block, (a.add (v * 5)).off + 4, none⟩ = some (.bool l.d) ∧ W.cell? (a.add (u * 5)) = some (.int .i64 e.v) ∧ W.cell? ⟨(a.add (u * 5)).block, (a.add (u * 5)).off + 1, none⟩ = some (.string e.c) ∧ W.cell? ⟨(a.add (u * 5)).block, (a.add (u * 5)).off + 2, none⟩ = some (.int .i64 e.i) ∧ W.cell? ⟨(a.add (u * 5)).block, (a.add (u * 5)).off + 3, none⟩ = some (.int .i64 e.s) ∧ W.cell? ⟨(a.add (u * 5)).block, (a.add (u * 5)).off + 4, none⟩ = some (.bool e.d))) (by kernel_rfl) ?_ (fun hHeld => ?_)
              · exact HSK.out _ (Below.refl _ _).drew
              refine wpAnyH_take (i := 0) (oi := { dst := some 59, op := Op.move (Operand.tmp 5), type := 3, pos := "one.go:51", after := #[], guard := none }) (v := ?_) rfl (by kernel_rfl) (by kernel_rfl) (by kernel_rfl) (fun _ _ _ h => h) (Or.inl ⟨by rfl, ?_⟩) (by assumption) ?_
              rotate_left 1
              · intro w hSw
                (try dsimp only at hSw)
                go_simp
                try with_reducible rfl
              (try simp only [Act.put, List.setIfInBounds_toArray, List.set_cons_zero, List.set_cons_succ])
              refine wpAnyH_take (i := 1) (oi := { dst := some 60, op := Op.binOp BinOp.gtr 3 (Operand.tmp 59) (Operand.const (Value.int IntKind.i64 0)) 3, type := 4, pos := "one.go:51", after := #[{ on := 0, ground := Ground.data }], guard := none }) (v := ?_) rfl (by kernel_rfl) (by kernel_rfl) (by kernel_rfl) (fun _ _ _ h => h) (Or.inl ⟨by rfl, ?_⟩) (by assumption) ?_
              rotate_left 1
              · intro w hSw
                (try dsimp only at hSw)
                go_simp
                try with_reducible rfl
              (try simp only [Act.put, List.setIfInBounds_toArray, List.set_cons_zero, List.set_cons_succ])
              refine wpAnyH_take (i := 2) (oi := { dst := some 61, op := Op.move (Operand.tmp 60), type := 4, pos := "one.go:51", after := #[{ on := 1, ground := Ground.data }], guard := none }) (v := ?_) rfl (by kernel_rfl) (by kernel_rfl) (by kernel_rfl) (fun _ _ _ h => h) (Or.inl ⟨by rfl, ?_⟩) (by assumption) ?_
              rotate_left 1
              · intro w hSw
                (try dsimp only at hSw)
                go_simp
                try with_reducible rfl
              (try simp only [Act.put, List.setIfInBounds_toArray, List.set_cons_zero, List.set_cons_succ])
              refine wpAnyH_take (i := 3) (oi := { dst := some 62, op := Op.move (Operand.tmp 4), type := 102, pos := "one.go:51", after := #[{ on := 2, ground := Ground.guard }], guard := some (2, true) }) (v := ?_) rfl (by kernel_rfl) (by kernel_rfl) (by kernel_rfl) (fun _ _ _ h => h) (Or.inl ⟨by rfl, ?_⟩) (by assumption) ?_
              rotate_left 1
              · intro w hSw
                (try dsimp only at hSw)
                go_simp
                try with_reducible rfl
              (try simp only [Act.put, List.setIfInBounds_toArray, List.set_cons_zero, List.set_cons_succ])
              refine wpAnyH_take (i := 4) (oi := { dst := some 63, op := Op.nilCheck (Operand.tmp 62), type := 0, pos := "one.go:51", after := #[{ on := 3, ground := Ground.data }, { on := 2, ground := Ground.guard }], guard := some (2, true) }) (v := ?_) rfl (by kernel_rfl) (by kernel_rfl) (by kernel_rfl) (fun _ _ _ h => h) (Or.inl ⟨by rfl, ?_⟩) (by assumption) ?_
              rotate_left 1
              · intro w hSw
                (try dsimp only at hSw)
                go_simp
                try with_reducible rfl
              (try simp only [Act.put, List.setIfInBounds_toArray, List.set_cons_zero, List.set_cons_succ])
              refine wpAnyH_take (i := 5) (oi := { dst := some 64, op := Op.fieldAddr 35 (Operand.tmp 63) 0, type := 0, pos := "one.go:51", after := #[{ on := 4, ground := Ground.data }, { on := 2, ground := Ground.guard }], guard := some (2, true) }) (v := ?_) rfl (by kernel_rfl) (by kernel_rfl) (by kernel_rfl) (fun _ _ _ h => h) (Or.inl ⟨by rfl, ?_⟩) (by assumption) ?_
              rotate_left 1
              · intro w hSw
                (try dsimp only at hSw)
                go_simp
                try with_reducible rfl
              (try simp only [Act.put, List.setIfInBounds_toArray, List.set_cons_zero, List.set_cons_succ])
              refine wpAnyH_take (i := 6) (oi := { dst := some 65, op := Op.load 25 (Operand.tmp 64), type := 25, pos := "one.go:51", after := #[{ on := 5, ground := Ground.data }, { on := 2, ground := Ground.guard }], guard := some (2, true) }) (v := ?_) rfl (by kernel_rfl) (by kernel_rfl) (by kernel_rfl) (fun _ _ _ h => h) (Or.inl ⟨by rfl, ?_⟩) (by assumption) ?_
              rotate_left 1
              · intro w hSw
                (try dsimp only at hSw)
                go_simp
                try with_reducible rfl
              (try simp only [Act.put, List.setIfInBounds_toArray, List.set_cons_zero, List.set_cons_succ])
              refine wpAnyH_take (i := 7) (oi := { dst := some 66, op := Op.move (Operand.tmp 5), type := 3, pos := "one.go:51", after := #[{ on := 2, ground := Ground.guard }], guard := some (2, true) }) (v := ?_) rfl (by kernel_rfl) (by kernel_rfl) (by kernel_rfl) (fun _ _ _ h => h) (Or.inl ⟨by rfl, ?_⟩) (by assumption) ?_
              rotate_left 1
              · intro w hSw
                (try dsimp only at hSw)
                go_simp
                try with_reducible rfl
              (try simp only [Act.put, List.setIfInBounds_toArray, List.set_cons_zero, List.set_cons_succ])
              refine wpAnyH_take (i := 8) (oi := { dst := some 67, op := Op.binOp BinOp.sub 3 (Operand.tmp 66) (Operand.const (Value.int IntKind.i64 1)) 3, type := 3, pos := "one.go:51", after := #[{ on := 7, ground := Ground.data }, { on := 2, ground := Ground.guard }], guard := some (2, true) }) (v := ?_) rfl (by kernel_rfl) (by kernel_rfl) (by kernel_rfl) (fun _ _ _ h => h) (Or.inl ⟨by rfl, ?_⟩) (by assumption) ?_
              rotate_left 1
              · intro w hSw
                (try dsimp only at hSw)
                go_simp
                try with_reducible rfl
              (try simp only [Act.put, List.setIfInBounds_toArray, List.set_cons_zero, List.set_cons_succ])
              refine wpAnyH_take (i := 9) (oi := { dst := some 68, op := Op.indexAddr 25 (Operand.tmp 65) (Operand.tmp 67), type := 0, pos := "one.go:51", after := #[{ on := 6, ground := Ground.data }, { on := 8, ground := Ground.data }, { on := 2, ground := Ground.guard }], guard := some (2, true) }) (v := ?_) rfl (by kernel_rfl) (by kernel_rfl) (by kernel_rfl) (fun _ _ _ h => h) (Or.inl ⟨by rfl, ?_⟩) (by assumption) ?_
              rotate_left 1
              · intro w hSw
                (try dsimp only at hSw)
                go_simp
                try with_reducible rfl
              (try simp only [Act.put, List.setIfInBounds_toArray, List.set_cons_zero, List.set_cons_succ])
              refine wpAnyH_take (i := 10) (oi := { dst := some 69, op := Op.load 24 (Operand.tmp 68), type := 24, pos := "one.go:51", after := #[{ on := 9, ground := Ground.data }, { on := 2, ground := Ground.guard }], guard := some (2, true) }) (v := ?_) rfl (by kernel_rfl) (by kernel_rfl) (by kernel_rfl) (fun _ _ _ h => h) (Or.inl ⟨by rfl, ?_⟩) (by assumption) ?_
              rotate_left 1
              · intro w hSw
                (try dsimp only at hSw)
                go_simp
                try with_reducible rfl
              (try simp only [Act.put, List.setIfInBounds_toArray, List.set_cons_zero, List.set_cons_succ])
              refine wpAnyH_take (i := 11) (oi := { dst := some 70, op := Op.move (Operand.tmp 4), type := 102, pos := "one.go:51", after := #[{ on := 2, ground := Ground.guard }], guard := some (2, true) }) (v := ?_) rfl (by kernel_rfl) (by kernel_rfl) (by kernel_rfl) (fun _ _ _ h => h) (Or.inl ⟨by rfl, ?_⟩) (by assumption) ?_
              rotate_left 1
              · intro w hSw
                (try dsimp only at hSw)
                go_simp
                try with_reducible rfl
              (try simp only [Act.put, List.setIfInBounds_toArray, List.set_cons_zero, List.set_cons_succ])
              refine wpAnyH_take (i := 12) (oi := { dst := some 71, op := Op.nilCheck (Operand.tmp 70), type := 0, pos := "one.go:51", after := #[{ on := 11, ground := Ground.data }, { on := 2, ground := Ground.guard }], guard := some (2, true) }) (v := ?_) rfl (by kernel_rfl) (by kernel_rfl) (by kernel_rfl) (fun _ _ _ h => h) (Or.inl ⟨by rfl, ?_⟩) (by assumption) ?_
              rotate_left 1
              · intro w hSw
                (try dsimp only at hSw)
                go_simp
                try with_reducible rfl
              (try simp only [Act.put, List.setIfInBounds_toArray, List.set_cons_zero, List.set_cons_succ])
              refine wpAnyH_take (i := 13) (oi := { dst := some 72, op := Op.fieldAddr 35 (Operand.tmp 71) 0, type := 0, pos := "one.go:51", after := #[{ on := 12, ground := Ground.data }, { on := 2, ground := Ground.guard }], guard := some (2, true) }) (v := ?_) rfl (by kernel_rfl) (by kernel_rfl) (by kernel_rfl) (fun _ _ _ h => h) (Or.inl ⟨by rfl, ?_⟩) (by assumption) ?_
              rotate_left 1
              · intro w hSw
                (try dsimp only at hSw)
                go_simp
                try with_reducible rfl
              (try simp only [Act.put, List.setIfInBounds_toArray, List.set_cons_zero, List.set_cons_succ])
              refine wpAnyH_take (i := 14) (oi := { dst := some 73, op := Op.load 25 (Operand.tmp 72), type := 25, pos := "one.go:51", after := #[{ on := 13, ground := Ground.data }, { on := 2, ground := Ground.guard }], guard := some (2, true) }) (v := ?_) rfl (by kernel_rfl) (by kernel_rfl) (by kernel_rfl) (fun _ _ _ h => h) (Or.inl ⟨by rfl, ?_⟩) (by assumption) ?_
              rotate_left 1
              · intro w hSw
                (try dsimp only at hSw)
                go_simp
                try with_reducible rfl
              (try simp only [Act.put, List.setIfInBounds_toArray, List.set_cons_zero, List.set_cons_succ])
              refine wpAnyH_take (i := 15) (oi := { dst := some 74, op := Op.move (Operand.tmp 5), type := 3, pos := "one.go:51", after := #[{ on := 2, ground := Ground.guard }], guard := some (2, true) }) (v := ?_) rfl (by kernel_rfl) (by kernel_rfl) (by kernel_rfl) (fun _ _ _ h => h) (Or.inl ⟨by rfl, ?_⟩) (by assumption) ?_
              rotate_left 1
              · intro w hSw
                (try dsimp only at hSw)
                go_simp
                try with_reducible rfl
              (try simp only [Act.put, List.setIfInBounds_toArray, List.set_cons_zero, List.set_cons_succ])
              refine wpAnyH_take (i := 16) (oi := { dst := some 75, op := Op.indexAddr 25 (Operand.tmp 73) (Operand.tmp 74), type := 0, pos := "one.go:51", after := #[{ on := 14, ground := Ground.data }, { on := 15, ground := Ground.data }, { on := 2, ground := Ground.guard }], guard := some (2, true) }) (v := ?_) rfl (by kernel_rfl) (by kernel_rfl) (by kernel_rfl) (fun _ _ _ h => h) (Or.inl ⟨by rfl, ?_⟩) (by assumption) ?_
              rotate_left 1
              · intro w hSw
                (try dsimp only at hSw)
                go_simp
                try with_reducible rfl
              (try simp only [Act.put, List.setIfInBounds_toArray, List.set_cons_zero, List.set_cons_succ])
              refine wpAnyH_take (i := 17) (oi := { dst := some 76, op := Op.load 24 (Operand.tmp 75), type := 24, pos := "one.go:51", after := #[{ on := 16, ground := Ground.data }, { on := 2, ground := Ground.guard }], guard := some (2, true) }) (v := ?_) rfl (by kernel_rfl) (by kernel_rfl) (by kernel_rfl) (fun _ _ _ h => h) (Or.inl ⟨by rfl, ?_⟩) (by assumption) ?_
              rotate_left 1
              · intro w hSw
                (try dsimp only at hSw)
                go_simp
                try with_reducible rfl
              (try simp only [Act.put, List.setIfInBounds_toArray, List.set_cons_zero, List.set_cons_succ])
              refine wpAnyH_ready (rs := [18]) (by kernel_rfl) (by simp) ?_
              refine AllReadyH.cons (o := { dst := some 77, op := Op.call { callee := Callee.value (Operand.func 11), args := #[Operand.tmp 69, Operand.tmp 76], argTypes := #[24, 24] }, type := 3, pos := "one.go:51", after := #[{ on := 10, ground := Ground.data }, { on := 17, ground := Ground.data }, { on := 2, ground := Ground.chain }, { on := 2, ground := Ground.guard }], guard := some (2, true) }) rfl (fun K hK => ?_) ?_
              rotate_left 1
              · exact AllReadyH.nil
              go_simp
              go_at_call 11; refine (HCM.out _).mono ?_; rintro e' w5 ⟨rfl, hb5⟩; have HB5 := Lib.hid (below_of_drew hb5); clear hb5
              refine hK.out _ _ ?_ (fun hHeld18 => ?_)
              · exact HSK.out _ HB5.out
              clear hK K
              (try simp only [Act.put, List.setIfInBounds_toArray, List.set_cons_zero, List.set_cons_succ])
              refine wpAnyH_take (i := 19) (oi := { dst := some 78, op := Op.binOp BinOp.geq 3 (Operand.tmp 77) (Operand.const (Value.int IntKind.i64 0)) 3, type := 4, pos := "one.go:51", after := #[{ on := 18, ground := Ground.data }, { on := 2, ground := Ground.guard }], guard := some (2, true) }) (v := ?_) rfl (by kernel_rfl) (by kernel_rfl) (by kernel_rfl) (fun _ _ _ h => h) (Or.inl ⟨by rfl, ?_⟩) (by assumption) ?_
              rotate_left 1
              · intro w hSw
                (try dsimp only at hSw)
                go_simp
                try with_reducible rfl
              (try simp only [Act.put, List.setIfInBounds_toArray, List.set_cons_zero, List.set_cons_succ])
              refine wpAnyH_take (i := 20) (oi := { dst := some 79, op := Op.pick (Operand.tmp 61) (Operand.tmp 78) (Operand.const (Value.bool false)), type := 4, pos := "one.go:51", after := #[{ on := 2, ground := Ground.data }, { on := 19, ground := Ground.data }], guard := none }) (v := ?_) rfl (by kernel_rfl) (by kernel_rfl) (by kernel_rfl) (fun _ _ _ h => h) (Or.inl ⟨by rfl, ?_⟩) (by assumption) ?_
              rotate_left 1
              · intro w hSw
                (try dsimp only at hSw)
                go_simp
                try with_reducible rfl
              (try simp only [Act.put, List.setIfInBounds_toArray, List.set_cons_zero, List.set_cons_succ])
              refine wpAnyH_done (by kernel_rfl) ?_ _
              clear hHeld hHeld18
              go_wp2
              go_end0
              exact HFIN.out _ (HSa.out.below HB5.out) (HSb.out.trans (Kp.of_below HB5.out))
            · have hce : ¬ eless l e := fun k => by have := cmpE_neg.2 k; rw [HCC.out] at this; omega
              rw [if_neg hce] at ha
              have HFIN := Lib.hid (fun W hW hk => HGO.out W 50 (by rw [ha]) (by rw [ha]) hW hk)
              have hc2 : decide ((0 : Int) ≤ cc) = true := by simpa using hc
              clear ha hce
              refine wp_region_held_drew (S := (fun W => W.cell? ⟨g, i * 5, none⟩ = some (.slice (some a) nl x.c) ∧ W.cell? (a.add (v * 5)) = some (.int .i64 l.v) ∧ W.cell? ⟨(a.add (v * 5)).block, (a.add (v * 5)).off + 1, none⟩ = some (.string l.c) ∧ W.cell? ⟨(a.add (v * 5)).block, (a.add (v * 5)).off + 2, none⟩ = some (.int .i64 l.i) ∧ W.cell? ⟨(a.add (v * 5)).block, (a.add (v * 5)).off + 3, none⟩ = some (.int .i64 l.s) ∧ W.cell? ⟨(a.add (v * 5)).block, (a.add (v * 5)).off + 4, none⟩ = some (.bool l.d) ∧ W.cell? (a.add (u * 5)) = some (.int .i64 e.v) ∧ W.cell? ⟨(a.add (u * 5)).block, (a.add (u * 5)).off + 1, none⟩ = some (.string e.c) ∧ W.cell? ⟨(a.add (u * 5)).block, (a.add (u * 5)).off + 2, none⟩ = some (.int .i64 e.i) ∧ W.cell? ⟨(a.add (u * 5)).block, (a.add (u * 5)).off + 3, none⟩ = some (.int .i64 e.s) ∧ W.cell? ⟨(a.add (u * 5)).block, (a.add (u * 5)).off + 4, none⟩ = some (.bool e.d))) (by kernel_rfl) ?_ (fun hHeld => ?_)
              · exact HSK.out _ (Below.refl _ _).drew
              refine wpAnyH_take (i := 0) (oi := { dst := some 59, op := Op.move (Operand.tmp 5), type := 3, pos := "one.go:51", after := #[], guard := none }) (v := ?_) rfl (by kernel_rfl) (by kernel_rfl) (by kernel_rfl) (fun _ _ _ h => h) (Or.inl ⟨by rfl, ?_⟩) (by assumption) ?_
              rotate_left 1
              · intro w hSw
                (try dsimp only at hSw)
                go_simp
                try with_reducible rfl
              (try simp only [Act.put, List.setIfInBounds_toArray, List.set_cons_zero, List.set_cons_succ])
              refine wpAnyH_take (i := 1) (oi := { dst := some 60, op := Op.binOp BinOp.gtr 3 (Operand.tmp 59) (Operand.const (Value.int IntKind.i64 0)) 3, type := 4, pos := "one.go:51", after := #[{ on := 0, ground := Ground.data }], guard := none }) (v := ?_) rfl (by kernel_rfl) (by kernel_rfl) (by kernel_rfl) (fun _ _ _ h => h) (Or.inl ⟨by rfl, ?_⟩) (by assumption) ?_
              rotate_left 1
              · intro w hSw
                (try dsimp only at hSw)
                go_simp
                try with_reducible rfl
              (try simp only [Act.put, List.setIfInBounds_toArray, List.set_cons_zero, List.set_cons_succ])
              refine wpAnyH_take (i := 2) (oi := { dst := some 61, op := Op.move (Operand.tmp 60), type := 4, pos := "one.go:51", after := #[{ on := 1, ground := Ground.data }], guard := none }) (v := ?_) rfl (by kernel_rfl) (by kernel_rfl) (by kernel_rfl) (fun _ _ _ h => h) (Or.inl ⟨by rfl, ?_⟩) (by assumption) ?_
              rotate_left 1
              · intro w hSw
                (try dsimp only at hSw)
                go_simp
                try with_reducible rfl
              (try simp only [Act.put, List.setIfInBounds_toArray, List.set_cons_zero, List.set_cons_succ])
              refine wpAnyH_take (i := 3) (oi := { dst := some 62, op := Op.move (Operand.tmp 4), type := 102, pos := "one.go:51", after := #[{ on := 2, ground := Ground.guard }], guard := some (2, true) }) (v := ?_) rfl (by kernel_rfl) (by kernel_rfl) (by kernel_rfl) (fun _ _ _ h => h) (Or.inl ⟨by rfl, ?_⟩) (by assumption) ?_
              rotate_left 1
              · intro w hSw
                (try dsimp only at hSw)
                go_simp
                try with_reducible rfl
              (try simp only [Act.put, List.setIfInBounds_toArray, List.set_cons_zero, List.set_cons_succ])
              refine wpAnyH_take (i := 4) (oi := { dst := some 63, op := Op.nilCheck (Operand.tmp 62), type := 0, pos := "one.go:51", after := #[{ on := 3, ground := Ground.data }, { on := 2, ground := Ground.guard }], guard := some (2, true) }) (v := ?_) rfl (by kernel_rfl) (by kernel_rfl) (by kernel_rfl) (fun _ _ _ h => h) (Or.inl ⟨by rfl, ?_⟩) (by assumption) ?_
              rotate_left 1
              · intro w hSw
                (try dsimp only at hSw)
                go_simp
                try with_reducible rfl
              (try simp only [Act.put, List.setIfInBounds_toArray, List.set_cons_zero, List.set_cons_succ])
              refine wpAnyH_take (i := 5) (oi := { dst := some 64, op := Op.fieldAddr 35 (Operand.tmp 63) 0, type := 0, pos := "one.go:51", after := #[{ on := 4, ground := Ground.data }, { on := 2, ground := Ground.guard }], guard := some (2, true) }) (v := ?_) rfl (by kernel_rfl) (by kernel_rfl) (by kernel_rfl) (fun _ _ _ h => h) (Or.inl ⟨by rfl, ?_⟩) (by assumption) ?_
              rotate_left 1
              · intro w hSw
                (try dsimp only at hSw)
                go_simp
                try with_reducible rfl
              (try simp only [Act.put, List.setIfInBounds_toArray, List.set_cons_zero, List.set_cons_succ])
              refine wpAnyH_take (i := 6) (oi := { dst := some 65, op := Op.load 25 (Operand.tmp 64), type := 25, pos := "one.go:51", after := #[{ on := 5, ground := Ground.data }, { on := 2, ground := Ground.guard }], guard := some (2, true) }) (v := ?_) rfl (by kernel_rfl) (by kernel_rfl) (by kernel_rfl) (fun _ _ _ h => h) (Or.inl ⟨by rfl, ?_⟩) (by assumption) ?_
              rotate_left 1
              · intro w hSw
                (try dsimp only at hSw)
                go_simp
                try with_reducible rfl
              (try simp only [Act.put, List.setIfInBounds_toArray, List.set_cons_zero, List.set_cons_succ])
              refine wpAnyH_take (i := 7) (oi := { dst := some 66, op := Op.move (Operand.tmp 5), type := 3, pos := "one.go:51", after := #[{ on := 2, ground := Ground.guard }], guard := some (2, true) }) (v := ?_) rfl (by kernel_rfl) (by kernel_rfl) (by kernel_rfl) (fun _ _ _ h => h) (Or.inl ⟨by rfl, ?_⟩) (by assumption) ?_
              rotate_left 1
              · intro w hSw
                (try dsimp only at hSw)
                go_simp
                try with_reducible rfl
              (try simp only [Act.put, List.setIfInBounds_toArray, List.set_cons_zero, List.set_cons_succ])
              refine wpAnyH_take (i := 8) (oi := { dst := some 67, op := Op.binOp BinOp.sub 3 (Operand.tmp 66) (Operand.const (Value.int IntKind.i64 1)) 3, type := 3, pos := "one.go:51", after := #[{ on := 7, ground := Ground.data }, { on := 2, ground := Ground.guard }], guard := some (2, true) }) (v := ?_) rfl (by kernel_rfl) (by kernel_rfl) (by kernel_rfl) (fun _ _ _ h => h) (Or.inl ⟨by rfl, ?_⟩) (by assumption) ?_
              rotate_left 1
              · intro w hSw
                (try dsimp only at hSw)
                go_simp
                try with_reducible rfl
              (try simp only [Act.put, List.setIfInBounds_toArray, List.set_cons_zero, List.set_cons_succ])
              refine wpAnyH_take (i := 9) (oi := { dst := some 68, op := Op.indexAddr 25 (Operand.tmp 65) (Operand.tmp 67), type := 0, pos := "one.go:51", after := #[{ on := 6, ground := Ground.data }, { on := 8, ground := Ground.data }, { on := 2, ground := Ground.guard }], guard := some (2, true) }) (v := ?_) rfl (by kernel_rfl) (by kernel_rfl) (by kernel_rfl) (fun _ _ _ h => h) (Or.inl ⟨by rfl, ?_⟩) (by assumption) ?_
              rotate_left 1
              · intro w hSw
                (try dsimp only at hSw)
                go_simp
                try with_reducible rfl
              (try simp only [Act.put, List.setIfInBounds_toArray, List.set_cons_zero, List.set_cons_succ])
              refine wpAnyH_take (i := 10) (oi := { dst := some 69, op := Op.load 24 (Operand.tmp 68), type := 24, pos := "one.go:51", after := #[{ on := 9, ground := Ground.data }, { on := 2, ground := Ground.guard }], guard := some (2, true) }) (v := ?_) rfl (by kernel_rfl) (by kernel_rfl) (by kernel_rfl) (fun _ _ _ h => h) (Or.inl ⟨by rfl, ?_⟩) (by assumption) ?_
              rotate_left 1
              · intro w hSw
                (try dsimp only at hSw)
                go_simp
                try with_reducible rfl
              (try simp only [Act.put, List.setIfInBounds_toArray, List.set_cons_zero, List.set_cons_succ])
              refine wpAnyH_take (i := 11) (oi := { dst := some 70, op := Op.move (Operand.tmp 4), type := 102, pos := "one.go:51", after := #[{ on := 2, ground := Ground.guard }], guard := some (2, true) }) (v := ?_) rfl (by kernel_rfl) (by kernel_rfl) (by kernel_rfl) (fun _ _ _ h => h) (Or.inl ⟨by rfl, ?_⟩) (by assumption) ?_
              rotate_left 1
              · intro w hSw
                (try dsimp only at hSw)
                go_simp
                try with_reducible rfl
              (try simp only [Act.put, List.setIfInBounds_toArray, List.set_cons_zero, List.set_cons_succ])
              refine wpAnyH_take (i := 12) (oi := { dst := some 71, op := Op.nilCheck (Operand.tmp 70), type := 0, pos := "one.go:51", after := #[{ on := 11, ground := Ground.data }, { on := 2, ground := Ground.guard }], guard := some (2, true) }) (v := ?_) rfl (by kernel_rfl) (by kernel_rfl) (by kernel_rfl) (fun _ _ _ h => h) (Or.inl ⟨by rfl, ?_⟩) (by assumption) ?_
              rotate_left 1
              · intro w hSw
                (try dsimp only at hSw)
                go_simp
                try with_reducible rfl
              (try simp only [Act.put, List.setIfInBounds_toArray, List.set_cons_zero, List.set_cons_succ])
              refine wpAnyH_take (i := 13) (oi := { dst := some 72, op := Op.fieldAddr 35 (Operand.tmp 71) 0, type := 0, pos := "one.go:51", after := #[{ on := 12, ground := Ground.data }, { on := 2, ground := Ground.guard }], guard := some (2, true) }) (v := ?_) rfl (by kernel_rfl) (by kernel_rfl) (by kernel_rfl) (fun _ _ _ h => h) (Or.inl ⟨by rfl, ?_⟩) (by assumption) ?_
              rotate_left 1
              · intro w hSw
                (try dsimp only at hSw)
                go_simp
                try with_reducible rfl
              (try simp only [Act.put, List.setIfInBounds_toArray, List.set_cons_zero, List.set_cons_succ])
              refine wpAnyH_take (i := 14) (oi := { dst := some 73, op := Op.load 25 (Operand.tmp 72), type := 25, pos := "one.go:51", after := #[{ on := 13, ground := Ground.data }, { on := 2, ground := Ground.guard }], guard := some (2, true) }) (v := ?_) rfl (by kernel_rfl) (by kernel_rfl) (by kernel_rfl) (fun _ _ _ h => h) (Or.inl ⟨by rfl, ?_⟩) (by assumption) ?_
              rotate_left 1
              · intro w hSw
                (try dsimp only at hSw)
                go_simp
                try with_reducible rfl
              (try simp only [Act.put, List.setIfInBounds_toArray, List.set_cons_zero, List.set_cons_succ])
              refine wpAnyH_take (i := 15) (oi := { dst := some 74, op := Op.move (Operand.tmp 5), type := 3, pos := "one.go:51", after := #[{ on := 2, ground := Ground.guard }], guard := some (2, true) }) (v := ?_) rfl (by kernel_rfl) (by kernel_rfl) (by kernel_rfl) (fun _ _ _ h => h) (Or.inl ⟨by rfl, ?_⟩) (by assumption) ?_
              rotate_left 1
              · intro w hSw
                (try dsimp only at hSw)
                go_simp
                try with_reducible rfl
              (try simp only [Act.put, List.setIfInBounds_toArray, List.set_cons_zero, List.set_cons_succ])
              refine wpAnyH_take (i := 16) (oi := { dst := some 75, op := Op.indexAddr 25 (Operand.tmp 73) (Operand.tmp 74), type := 0, pos := "one.go:51", after := #[{ on := 14, ground := Ground.data }, { on := 15, ground := Ground.data }, { on := 2, ground := Ground.guard }], guard := some (2, true) }) (v := ?_) rfl (by kernel_rfl) (by kernel_rfl) (by kernel_rfl) (fun _ _ _ h => h) (Or.inl ⟨by rfl, ?_⟩) (by assumption) ?_
              rotate_left 1
              · intro w hSw
                (try dsimp only at hSw)
                go_simp
                try with_reducible rfl
              (try simp only [Act.put, List.setIfInBounds_toArray, List.set_cons_zero, List.set_cons_succ])
              refine wpAnyH_take (i := 17) (oi := { dst := some 76, op := Op.load 24 (Operand.tmp 75), type := 24, pos := "one.go:51", after := #[{ on := 16, ground := Ground.data }, { on := 2, ground := Ground.guard }], guard := some (2, true) }) (v := ?_) rfl (by kernel_rfl) (by kernel_rfl) (by kernel_rfl) (fun _ _ _ h => h) (Or.inl ⟨by rfl, ?_⟩) (by assumption) ?_
              rotate_left 1
              · intro w hSw
                (try dsimp only at hSw)
                go_simp
                try with_reducible rfl
              (try simp only [Act.put, List.setIfInBounds_toArray, List.set_cons_zero, List.set_cons_succ])
              refine wpAnyH_ready (rs := [18]) (by kernel_rfl) (by simp) ?_
              refine AllReadyH.cons (o := { dst := some 77, op := Op.call { callee := Callee.value (Operand.func 11), args := #[Operand.tmp 69, Operand.tmp 76], argTypes := #[24, 24] }, type := 3, pos := "one.go:51", after := #[{ on := 10, ground := Ground.data }, { on := 17, ground := Ground.data }, { on := 2, ground := Ground.chain }, { on := 2, ground := Ground.guard }], guard := some (2, true) }) rfl (fun K hK => ?_) ?_
              rotate_left 1
              · exact AllReadyH.nil
              go_simp
              go_at_call 11; refine (HCM.out _).mono ?_; rintro e' w5 ⟨rfl, hb5⟩; have HB5 := Lib.hid (below_of_drew hb5); clear hb5
              refine hK.out _ _ ?_ (fun hHeld18 => ?_)
              · exact HSK.out _ HB5.out
              clear hK K
              (try simp only [Act.put, List.setIfInBounds_toArray, List.set_cons_zero, List.set_cons_succ])
              refine wpAnyH_take (i := 19) (oi := { dst := some 78, op := Op.binOp BinOp.geq 3 (Operand.tmp 77) (Operand.const (Value.int IntKind.i64 0)) 3, type := 4, pos := "one.go:51", after := #[{ on := 18, ground := Ground.data }, { on := 2, ground := Ground.guard }], guard := some (2, true) }) (v := ?_) rfl (by kernel_rfl) (by kernel_rfl) (by kernel_rfl) (fun _ _ _ h => h) (Or.inl ⟨by rfl, ?_⟩) (by assumption) ?_
              rotate_left 1
              · intro w hSw
                (try dsimp only at hSw)
                go_simp
                try with_reducible rfl
              (try simp only [Act.put, List.setIfInBounds_toArray, List.set_cons_zero, List.set_cons_succ])
              refine wpAnyH_take (i := 20) (oi := { dst := some 79, op := Op.pick (Operand.tmp 61) (Operand.tmp 78) (Operand.const (Value.bool false)), type := 4, pos := "one.go:51", after := #[{ on := 2, ground := Ground.data }, { on := 19, ground := Ground.data }], guard := none }) (v := ?_) rfl (by kernel_rfl) (by kernel_rfl) (by kernel_rfl) (fun _ _ _ h => h) (Or.inl ⟨by rfl, ?_⟩) (by assumption) ?_
              rotate_left 1
              · intro w hSw
                (try dsimp only at hSw)
                go_simp
                try with_reducible rfl
              (try simp only [Act.put, List.setIfInBounds_toArray, List.set_cons_zero, List.set_cons_succ])
              refine wpAnyH_done (by kernel_rfl) ?_ _
              clear hHeld hHeld18
              have HT := Lib.hid ((HSa.out.below HB5.out).setB 50)
              have HK := Lib.hid (HSb.out.trans (Kp.of_below HB5.out))
              have fb := (HSa.out.below HB5.out).cells.2.2.2.2 3
              have fc := (HSa.out.below HB5.out).cells.2.2.2.1
              go_wp2
              go_end0
              exact HFIN.out _ HT.out.1 (HK.out.trans HT.out.2)
        · have hge' : (x.es.length : Int) ≤ (u : Int) := by omega
          obtain ⟨HT1, HT2⟩ := HS1.setB x.fin
          obtain ⟨HQ1, HQ2⟩ := HT1.setL (y := { x with u3 := ((u : Int) + 1), dn := true }) (k := 4) (u := .bool true) hx1 (by decide) (by unfold Kl.cells; simp) ⟨rfl, rfl⟩ ⟨u + 1, by simp⟩
          rw [List.set_set] at HQ1
          have hn : x.rl.s.es[x.rl.s.used]? = none := by
            unfold Kl.rl
            simp only [HU.out]
            exact List.getElem?_eq_none_iff.2 (by simpa using hge)
          have ha := asked_end (s := x.rl.s) HM.out hn
          have HFIN := Lib.hid (RAskPost.of HX.out HD.out (by unfold Rl.asked; rw [ha, rl_next HU.out, hn]; simp) (by rw [ha]; rfl) HQ1 ((HS2.trans HT2).trans HQ2))
          clear hn ha
          have f4 := HR.out.row.frozenAt (i * 5 + 4)
          obtain ⟨_, _, _, _, fb⟩ := HR.out.cells
          have fb3 := fb 3
          have nb := HR.out.blk.1
          have nb2 : ¬ (g = rb) := fun e => nb e.symm
          clear HS1 HS2 HT1 HT2 HQ1 HQ2 hx1 fb
          go_wp2
          go_end0
          exact HFIN.out
  · have hb1 : (bad == 0) = false := by simpa using hb0
    have hb2 : (bad != 0) = true := by simpa using hb0
    go_wp2
    go_end0
    exact HN1.out (.inl hb0)
end Go.Proofs.Ytahdaccmokjgpaa
