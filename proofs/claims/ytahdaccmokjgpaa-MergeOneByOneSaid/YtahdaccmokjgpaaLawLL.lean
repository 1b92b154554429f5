/-
  WALK: the last words of entries (the law's own last).
-/
import Derived.Test.YtahdaccmokjgpaaLawLE
import Derived.Deep.RegionLaw
namespace Go.Proofs.Ytahdaccmokjgpaa
open Go.RowKit ArgK
set_option linter.unusedVariables false

/-- Is a later word there at its place? -/
def later (all : List Ent) (x : Ent) : Bool := all.any (fun y => decide (eat x y) && decide (x.s < y.s))

theorem later_snoc (all : List Ent) (y x : Ent) : later (all ++ [y]) x = (later all x || (decide (eat x y) && decide (x.s < y.s))) := by
  unfold later
  rw [List.any_append]
  simp

open Classical in
/-- An entry put, if its place is not there. -/
noncomputable def putL (L : List Ent) (e : Ent) : List Ent := if there L e then L else insL L e

/-- The last words, put one by one. -/
noncomputable def lastG (all : List Ent) (bottom : Bool) : List Ent → List Ent → List Ent
  | acc, [] => acc
  | acc, x :: l => if (!later all x && (!bottom || !x.d)) = true then lastG all bottom (putL acc x) l else lastG all bottom acc l

theorem putL_length (L : List Ent) (e : Ent) : (putL L e).length ≤ L.length + 1 := by
  unfold putL
  split
  · omega
  · unfold insL
    simp
    omega

/-- At the head of each round. -/
def LaRel (w : World) (all R : List Ent) (bottom : Bool) (k : Nat) (ov : Value) (wr : World) : Prop :=
  ∃ acc, k ≤ all.length ∧ acc.length ≤ k ∧ wr.ownsRow w.heap.size 24 5 ov acc.length (encE acc) ∧ lastG all bottom acc (all.drop k) = R ∧ Below w.heap.size w wr

/-- What put leaves, for the round. -/
theorem LaRel.put {w wr w1 : World} {v : Value} {acc : List Ent} {x : Ent} {en : Ending} (ho : wr.ownsRow w.heap.size 24 5 v acc.length (encE acc)) (hb : Below w.heap.size w wr) (h : PutPost wr v acc x en w1) :
    ∃ v' b, en = .returned (.tuple #[v', .bool b]) ∧ w1.ownsRow w.heap.size 24 5 v' (putL acc x).length (encE (putL acc x)) ∧ Below w.heap.size w w1 := by
  obtain ⟨hb1, hp⟩ := h
  have hbw := hb.trans (hb1.mono hb.size)
  rcases hp with ⟨ht, he⟩ | ⟨ht, v', he, hr⟩
  · refine ⟨v, false, he, ?_, hbw⟩
    unfold putL
    rw [if_pos ht]
    exact own_belowAll ho hb1
  · refine ⟨v', true, he, ?_, hbw⟩
    unfold putL
    rw [if_neg ht]
    rw [insL_length]
    exact own_le hr hb.size

set_option maxRecDepth 100000 in
set_option maxHeartbeats 4000000 in
theorem last_calls {w : World} {v : Value} {all : List Ent} (bottom : Bool) (hv : ESl w v all) (hn : all.length ≤ 4294967296) :
    Calls Try.prog 28 #[v, .bool bottom] w (FreshPost w (lastG all bottom [] all)) := by
  obtain ⟨p, c, rfl, hp⟩ := hv
  obtain ⟨n, hln⟩ : ∃ n, all.length = n := ⟨_, rfl⟩
  have HLN := Lib.hid hln
  have HP := Lib.hid hp
  obtain ⟨R, hR⟩ : ∃ R, lastG all bottom [] all = R := ⟨_, rfl⟩
  rw [hR]
  have H0 : Hid (LaRel w all R bottom 0 (.slice none 0 0) w) := Lib.hid ⟨[], Nat.zero_le _, by simp, own_none, hR, Below.refl _ _⟩
  rw [hln] at hn ⊢
  clear hln hp hR
  go_enter Try.func28, Try.ntmps28
  go_wp2
  go_loopw [5, 6] (fun ov i wr => ∃ k : Nat, i = .int .i64 k ∧ LaRel w all R bottom k ov wr) (fun _ i _ => n - (intOf i).toNat)
  case atStart => exact ⟨0, rfl, H0.out⟩
  case round =>
    obtain ⟨ov, rfl⟩ : ∃ ov : Value, ov = u5 := ⟨_, rfl⟩
    obtain ⟨k, rfl, acc, hk, hac, hrow, hF, hbl⟩ := hrel
    obtain ⟨wo, rfl⟩ : ∃ wo : World, wo = wr := ⟨_, rfl⟩
    rw [HLN.out] at hk
    by_cases hlt : k < n
    · obtain ⟨x, hx⟩ : ∃ x, all[k]? = some x := ⟨_, List.getElem?_eq_getElem (by rw [HLN.out]; exact hlt)⟩
      have hd : all.drop k = x :: all.drop (k + 1) := by
        rw [List.drop_eq_getElem_cons (by rw [HLN.out]; exact hlt)]
        have := (List.getElem?_eq_some_iff.1 hx).2
        rw [this]
      obtain ⟨a, rfl, hc⟩ := HP.out k x hx
      have fx := Five.of hc
      have hlx := fx.lt
      have HLX := Lib.hid hlx
      have HFX := Lib.hid fx
      have HBL := Lib.hid hbl
      have HSkip : Hid ((!later all x && (!bottom || !x.d)) = false → ∀ W, Below wo.heap.size wo W → LaRel w all R bottom (k + 1) ov W) := Lib.hid (fun ht W hW => ⟨acc, by rw [HLN.out]; omega, by omega, own_belowAll hrow hW, by rw [← hF, hd, lastG, if_neg (by rw [ht]; simp)], hbl.trans (hW.mono hbl.size)⟩)
      have HAdd : Hid ((!later all x && (!bottom || !x.d)) = true → ∀ W v', W.ownsRow w.heap.size 24 5 v' (putL acc x).length (encE (putL acc x)) → Below w.heap.size w W → LaRel w all R bottom (k + 1) v' W) := Lib.hid (fun ht W v' hW hB => ⟨putL acc x, by rw [HLN.out]; omega, by have := putL_length acc x; omega, hW, by rw [← hF, hd, lastG, if_pos ht], hB⟩)
      have HPut : Hid (∀ wr, Below wo.heap.size wo wr → Calls Try.prog 43 #[ov, x.val] wr (fun en w1 => ∃ v' b, en = .returned (.tuple #[v', .bool b]) ∧ w1.ownsRow w.heap.size 24 5 v' (putL acc x).length (encE (putL acc x)) ∧ Below w.heap.size w w1)) := Lib.hid (fun wr hW => (lput_calls x (own_belowAll hrow hW) (by omega)).mono (fun en w1 h => LaRel.put (own_belowAll hrow hW) (hbl.trans (hW.mono hbl.size)) h))
      unfold Ent.val at HPut
      have hsw := Lib.hid hbl.size
      have q0 : (0 : Int) ≤ (k : Int) := by omega
      have q1 : (k : Int) < (n : Int) := by omega
      have q2 : (n : Int) ≤ 4294967296 := by omega
      clear hc fx hrow hF hbl hd hx hlx hac
      go_wp2
      go_loopw [7, 8] (fun cb ji wr => ∃ j : Nat, j ≤ n ∧ ji = .int .i64 j ∧ cb = .bool (!later (all.take j) x) ∧ Below wo.heap.size wo wr) (fun _ ji _ => n - (intOf ji).toNat)
      case atStart => exact ⟨0, Nat.zero_le _, rfl, by simp [later], Below.refl _ _⟩
      case round =>
        obtain ⟨j, hj, rfl, rfl, hbi⟩ := hrel
        by_cases hjn : j < n
        · obtain ⟨y, hy⟩ : ∃ y, all[j]? = some y := ⟨_, List.getElem?_eq_getElem (by rw [HLN.out]; exact hjn)⟩
          obtain ⟨a', ha', hc⟩ := HP.out j y hy
          cases ha'
          have fy := Five.of hc
          have hly := fy.lt
          have hfy := (fy.below HBL.out hly).below hbi (Nat.lt_of_lt_of_le hly hsw.out)
          have hfx := (HFX.out.below HBL.out HLX.out).below hbi (Nat.lt_of_lt_of_le HLX.out hsw.out)
          have HKeep : Hid (∀ W, Below wr.heap.size wr W → W.cell? (a.add (j * 5)) = some (.int .i64 y.v) ∧ W.cell? ⟨(a.add (j * 5)).block, (a.add (j * 5)).off + 1, none⟩ = some (.string y.c) ∧ W.cell? ⟨(a.add (j * 5)).block, (a.add (j * 5)).off + 2, none⟩ = some (.int .i64 y.i) ∧ W.cell? ⟨(a.add (j * 5)).block, (a.add (j * 5)).off + 3, none⟩ = some (.int .i64 y.s) ∧ W.cell? ⟨(a.add (j * 5)).block, (a.add (j * 5)).off + 4, none⟩ = some (.bool y.d) ∧ W.cell? (a.add (k * 5)) = some (.int .i64 x.v) ∧ W.cell? ⟨(a.add (k * 5)).block, (a.add (k * 5)).off + 1, none⟩ = some (.string x.c) ∧ W.cell? ⟨(a.add (k * 5)).block, (a.add (k * 5)).off + 2, none⟩ = some (.int .i64 x.i) ∧ W.cell? ⟨(a.add (k * 5)).block, (a.add (k * 5)).off + 3, none⟩ = some (.int .i64 x.s) ∧ W.cell? ⟨(a.add (k * 5)).block, (a.add (k * 5)).off + 4, none⟩ = some (.bool x.d)) := Lib.hid (fun W hW => by
            obtain ⟨h0, h1, h2, h3, h4⟩ := hfy.below hW hfy.lt
            exact ⟨h0, h1, h2, h3, h4, hfx.below hW hfx.lt⟩)
          obtain ⟨y0, y1, y2, y3, y4, x0, x1, x2, x3, x4⟩ := HKeep.out wr (Below.refl _ _)
          obtain ⟨e1, he1⟩ : ∃ e1, decide (eat x y) = e1 := ⟨_, rfl⟩
          have HCA : Hid (∀ W : World, Calls Try.prog 42 #[x.val, y.val] W fun e' w' => e' = .returned (.bool e1) ∧ Below W.heap.size W w') := Lib.hid (fun W => by rw [← he1]; exact at_calls x y W)
          unfold Ent.val at HCA
          have HTK : Hid (later (all.take (j + 1)) x = (later (all.take j) x || (e1 && decide (x.s < y.s)))) := Lib.hid (by rw [take_getE hy, later_snoc, he1])
          have j0' : (0 : Int) ≤ (j : Int) := by omega
          have j1' : (j : Int) < (n : Int) := by omega
          have HBI := Lib.hid hbi
          clear hc hfx hfy hbi hy fy hly he1
          cases e1 with
          | false =>
            go_wp2
            refine wp_region_held_drew (S := (fun W => W.cell? (a.add (j * 5)) = some (.int .i64 y.v) ∧ W.cell? ⟨(a.add (j * 5)).block, (a.add (j * 5)).off + 1, none⟩ = some (.string y.c) ∧ W.cell? ⟨(a.add (j * 5)).block, (a.add (j * 5)).off + 2, none⟩ = some (.int .i64 y.i) ∧ W.cell? ⟨(a.add (j * 5)).block, (a.add (j * 5)).off + 3, none⟩ = some (.int .i64 y.s) ∧ W.cell? ⟨(a.add (j * 5)).block, (a.add (j * 5)).off + 4, none⟩ = some (.bool y.d) ∧ W.cell? (a.add (k * 5)) = some (.int .i64 x.v) ∧ W.cell? ⟨(a.add (k * 5)).block, (a.add (k * 5)).off + 1, none⟩ = some (.string x.c) ∧ W.cell? ⟨(a.add (k * 5)).block, (a.add (k * 5)).off + 2, none⟩ = some (.int .i64 x.i) ∧ W.cell? ⟨(a.add (k * 5)).block, (a.add (k * 5)).off + 3, none⟩ = some (.int .i64 x.s) ∧ W.cell? ⟨(a.add (k * 5)).block, (a.add (k * 5)).off + 4, none⟩ = some (.bool x.d))) (by kernel_rfl) ?_ (fun hHeld => ?_)
            · exact ⟨y0, y1, y2, y3, y4, x0, x1, x2, x3, x4⟩
            refine wpAnyH_take (i := 0) (oi := { dst := some 23, op := Op.move (Operand.tmp 0), type := 25, pos := "plain.go:89", after := #[], guard := none }) (v := ?_) rfl (by kernel_rfl) (by kernel_rfl) (by kernel_rfl) (fun _ _ _ h => h) (Or.inl ⟨by rfl, ?_⟩) (by assumption) ?_
            rotate_left 1
            · intro w hSw
              (try dsimp only at hSw)
              go_simp
              try with_reducible rfl
            (try simp only [Act.put, List.setIfInBounds_toArray, List.set_cons_zero, List.set_cons_succ])
            refine wpAnyH_take (i := 1) (oi := { dst := some 24, op := Op.move (Operand.tmp 6), type := 3, pos := "plain.go:89", after := #[], guard := none }) (v := ?_) rfl (by kernel_rfl) (by kernel_rfl) (by kernel_rfl) (fun _ _ _ h => h) (Or.inl ⟨by rfl, ?_⟩) (by assumption) ?_
            rotate_left 1
            · intro w hSw
              (try dsimp only at hSw)
              go_simp
              try with_reducible rfl
            (try simp only [Act.put, List.setIfInBounds_toArray, List.set_cons_zero, List.set_cons_succ])
            refine wpAnyH_take (i := 2) (oi := { dst := some 25, op := Op.indexAddr 25 (Operand.tmp 23) (Operand.tmp 24), type := 0, pos := "plain.go:89", after := #[{ on := 0, ground := Ground.data }, { on := 1, ground := Ground.data }], guard := none }) (v := ?_) rfl (by kernel_rfl) (by kernel_rfl) (by kernel_rfl) (fun _ _ _ h => h) (Or.inl ⟨by rfl, ?_⟩) (by assumption) ?_
            rotate_left 1
            · intro w hSw
              (try dsimp only at hSw)
              go_simp
              try with_reducible rfl
            (try simp only [Act.put, List.setIfInBounds_toArray, List.set_cons_zero, List.set_cons_succ])
            refine wpAnyH_take (i := 3) (oi := { dst := some 26, op := Op.load 24 (Operand.tmp 25), type := 24, pos := "plain.go:89", after := #[{ on := 2, ground := Ground.data }], guard := none }) (v := ?_) rfl (by kernel_rfl) (by kernel_rfl) (by kernel_rfl) (fun _ _ _ h => h) (Or.inl ⟨by rfl, ?_⟩) (by assumption) ?_
            rotate_left 1
            · intro w hSw
              (try dsimp only at hSw)
              go_simp
              try with_reducible rfl
            (try simp only [Act.put, List.setIfInBounds_toArray, List.set_cons_zero, List.set_cons_succ])
            refine wpAnyH_take (i := 4) (oi := { dst := some 27, op := Op.move (Operand.tmp 0), type := 25, pos := "plain.go:89", after := #[], guard := none }) (v := ?_) rfl (by kernel_rfl) (by kernel_rfl) (by kernel_rfl) (fun _ _ _ h => h) (Or.inl ⟨by rfl, ?_⟩) (by assumption) ?_
            rotate_left 1
            · intro w hSw
              (try dsimp only at hSw)
              go_simp
              try with_reducible rfl
            (try simp only [Act.put, List.setIfInBounds_toArray, List.set_cons_zero, List.set_cons_succ])
            refine wpAnyH_take (i := 5) (oi := { dst := some 28, op := Op.move (Operand.tmp 8), type := 3, pos := "plain.go:89", after := #[], guard := none }) (v := ?_) rfl (by kernel_rfl) (by kernel_rfl) (by kernel_rfl) (fun _ _ _ h => h) (Or.inl ⟨by rfl, ?_⟩) (by assumption) ?_
            rotate_left 1
            · intro w hSw
              (try dsimp only at hSw)
              go_simp
              try with_reducible rfl
            (try simp only [Act.put, List.setIfInBounds_toArray, List.set_cons_zero, List.set_cons_succ])
            refine wpAnyH_take (i := 6) (oi := { dst := some 29, op := Op.indexAddr 25 (Operand.tmp 27) (Operand.tmp 28), type := 0, pos := "plain.go:89", after := #[{ on := 4, ground := Ground.data }, { on := 5, ground := Ground.data }], guard := none }) (v := ?_) rfl (by kernel_rfl) (by kernel_rfl) (by kernel_rfl) (fun _ _ _ h => h) (Or.inl ⟨by rfl, ?_⟩) (by assumption) ?_
            rotate_left 1
            · intro w hSw
              (try dsimp only at hSw)
              go_simp
              try with_reducible rfl
            (try simp only [Act.put, List.setIfInBounds_toArray, List.set_cons_zero, List.set_cons_succ])
            refine wpAnyH_take (i := 7) (oi := { dst := some 30, op := Op.load 24 (Operand.tmp 29), type := 24, pos := "plain.go:89", after := #[{ on := 6, ground := Ground.data }], guard := none }) (v := ?_) rfl (by kernel_rfl) (by kernel_rfl) (by kernel_rfl) (fun _ _ _ h => h) (Or.inl ⟨by rfl, ?_⟩) (by assumption) ?_
            rotate_left 1
            · intro w hSw
              (try dsimp only at hSw)
              go_simp
              try with_reducible rfl
            (try simp only [Act.put, List.setIfInBounds_toArray, List.set_cons_zero, List.set_cons_succ])
            refine wpAnyH_ready (rs := [8]) (by kernel_rfl) (by simp) ?_
            refine AllReadyH.cons (o := { dst := some 31, op := Op.call { callee := Callee.value (Operand.func 42), args := #[Operand.tmp 26, Operand.tmp 30], argTypes := #[24, 24] }, type := 4, pos := "plain.go:89", after := #[{ on := 3, ground := Ground.data }, { on := 7, ground := Ground.data }], guard := none }) rfl (fun K hK => ?_) ?_
            rotate_left 1
            · exact AllReadyH.nil
            go_simp
            go_at_call 42; refine (HCA.out _).mono ?_; rintro e' w2 ⟨rfl, hb1⟩
            refine hK.out _ _ ?_ (fun hHeld2 => ?_)
            · exact HKeep.out _ (below_of_drew hb1)
            clear hK K
            (try simp only [Act.put, List.setIfInBounds_toArray, List.set_cons_zero, List.set_cons_succ])
            refine wpAnyH_take (i := 9) (oi := { dst := some 32, op := Op.move (Operand.tmp 31), type := 4, pos := "plain.go:89", after := #[{ on := 8, ground := Ground.data }, { on := 8, ground := Ground.chain }], guard := none }) (v := ?_) rfl (by kernel_rfl) (by kernel_rfl) (by kernel_rfl) (fun _ _ _ h => h) (Or.inl ⟨by rfl, ?_⟩) (by assumption) ?_
            rotate_left 1
            · intro w hSw
              (try dsimp only at hSw)
              go_simp
              try with_reducible rfl
            (try simp only [Act.put, List.setIfInBounds_toArray, List.set_cons_zero, List.set_cons_succ])
            refine wpAnyH_take (i := 10) (oi := { dst := some 33, op := Op.move (Operand.tmp 0), type := 25, pos := "plain.go:89", after := #[{ on := 9, ground := Ground.guard }], guard := some (9, true) }) (v := undef) rfl (by kernel_rfl) (by kernel_rfl) (by kernel_rfl) (fun _ _ _ h => h) (Or.inr ⟨by rfl, rfl⟩) (by assumption) ?_
            (try simp only [Act.put, List.setIfInBounds_toArray, List.set_cons_zero, List.set_cons_succ])
            refine wpAnyH_take (i := 11) (oi := { dst := some 34, op := Op.move (Operand.tmp 8), type := 3, pos := "plain.go:89", after := #[{ on := 9, ground := Ground.guard }], guard := some (9, true) }) (v := undef) rfl (by kernel_rfl) (by kernel_rfl) (by kernel_rfl) (fun _ _ _ h => h) (Or.inr ⟨by rfl, rfl⟩) (by assumption) ?_
            (try simp only [Act.put, List.setIfInBounds_toArray, List.set_cons_zero, List.set_cons_succ])
            refine wpAnyH_take (i := 12) (oi := { dst := some 35, op := Op.indexAddr 25 (Operand.tmp 33) (Operand.tmp 34), type := 0, pos := "plain.go:89", after := #[{ on := 10, ground := Ground.data }, { on := 11, ground := Ground.data }, { on := 9, ground := Ground.guard }], guard := some (9, true) }) (v := undef) rfl (by kernel_rfl) (by kernel_rfl) (by kernel_rfl) (fun _ _ _ h => h) (Or.inr ⟨by rfl, rfl⟩) (by assumption) ?_
            (try simp only [Act.put, List.setIfInBounds_toArray, List.set_cons_zero, List.set_cons_succ])
            refine wpAnyH_take (i := 13) (oi := { dst := some 36, op := Op.fieldAddr 24 (Operand.tmp 35) 3, type := 0, pos := "plain.go:89", after := #[{ on := 12, ground := Ground.data }, { on := 9, ground := Ground.guard }], guard := some (9, true) }) (v := undef) rfl (by kernel_rfl) (by kernel_rfl) (by kernel_rfl) (fun _ _ _ h => h) (Or.inr ⟨by rfl, rfl⟩) (by assumption) ?_
            (try simp only [Act.put, List.setIfInBounds_toArray, List.set_cons_zero, List.set_cons_succ])
            refine wpAnyH_take (i := 14) (oi := { dst := some 37, op := Op.load 3 (Operand.tmp 36), type := 3, pos := "plain.go:89", after := #[{ on := 13, ground := Ground.data }, { on := 9, ground := Ground.guard }], guard := some (9, true) }) (v := undef) rfl (by kernel_rfl) (by kernel_rfl) (by kernel_rfl) (fun _ _ _ h => h) (Or.inr ⟨by rfl, rfl⟩) (by assumption) ?_
            (try simp only [Act.put, List.setIfInBounds_toArray, List.set_cons_zero, List.set_cons_succ])
            refine wpAnyH_take (i := 15) (oi := { dst := some 38, op := Op.move (Operand.tmp 0), type := 25, pos := "plain.go:89", after := #[{ on := 9, ground := Ground.guard }], guard := some (9, true) }) (v := undef) rfl (by kernel_rfl) (by kernel_rfl) (by kernel_rfl) (fun _ _ _ h => h) (Or.inr ⟨by rfl, rfl⟩) (by assumption) ?_
            (try simp only [Act.put, List.setIfInBounds_toArray, List.set_cons_zero, List.set_cons_succ])
            refine wpAnyH_take (i := 16) (oi := { dst := some 39, op := Op.move (Operand.tmp 6), type := 3, pos := "plain.go:89", after := #[{ on := 9, ground := Ground.guard }], guard := some (9, true) }) (v := undef) rfl (by kernel_rfl) (by kernel_rfl) (by kernel_rfl) (fun _ _ _ h => h) (Or.inr ⟨by rfl, rfl⟩) (by assumption) ?_
            (try simp only [Act.put, List.setIfInBounds_toArray, List.set_cons_zero, List.set_cons_succ])
            refine wpAnyH_take (i := 17) (oi := { dst := some 40, op := Op.indexAddr 25 (Operand.tmp 38) (Operand.tmp 39), type := 0, pos := "plain.go:89", after := #[{ on := 15, ground := Ground.data }, { on := 16, ground := Ground.data }, { on := 9, ground := Ground.guard }], guard := some (9, true) }) (v := undef) rfl (by kernel_rfl) (by kernel_rfl) (by kernel_rfl) (fun _ _ _ h => h) (Or.inr ⟨by rfl, rfl⟩) (by assumption) ?_
            (try simp only [Act.put, List.setIfInBounds_toArray, List.set_cons_zero, List.set_cons_succ])
            refine wpAnyH_take (i := 18) (oi := { dst := some 41, op := Op.fieldAddr 24 (Operand.tmp 40) 3, type := 0, pos := "plain.go:89", after := #[{ on := 17, ground := Ground.data }, { on := 9, ground := Ground.guard }], guard := some (9, true) }) (v := undef) rfl (by kernel_rfl) (by kernel_rfl) (by kernel_rfl) (fun _ _ _ h => h) (Or.inr ⟨by rfl, rfl⟩) (by assumption) ?_
            (try simp only [Act.put, List.setIfInBounds_toArray, List.set_cons_zero, List.set_cons_succ])
            refine wpAnyH_take (i := 19) (oi := { dst := some 42, op := Op.load 3 (Operand.tmp 41), type := 3, pos := "plain.go:89", after := #[{ on := 18, ground := Ground.data }, { on := 9, ground := Ground.guard }], guard := some (9, true) }) (v := undef) rfl (by kernel_rfl) (by kernel_rfl) (by kernel_rfl) (fun _ _ _ h => h) (Or.inr ⟨by rfl, rfl⟩) (by assumption) ?_
            (try simp only [Act.put, List.setIfInBounds_toArray, List.set_cons_zero, List.set_cons_succ])
            refine wpAnyH_take (i := 20) (oi := { dst := some 43, op := Op.binOp BinOp.gtr 3 (Operand.tmp 37) (Operand.tmp 42) 3, type := 4, pos := "plain.go:89", after := #[{ on := 14, ground := Ground.data }, { on := 19, ground := Ground.data }, { on := 9, ground := Ground.guard }], guard := some (9, true) }) (v := undef) rfl (by kernel_rfl) (by kernel_rfl) (by kernel_rfl) (fun _ _ _ h => h) (Or.inr ⟨by rfl, rfl⟩) (by assumption) ?_
            (try simp only [Act.put, List.setIfInBounds_toArray, List.set_cons_zero, List.set_cons_succ])
            refine wpAnyH_take (i := 21) (oi := { dst := some 44, op := Op.pick (Operand.tmp 32) (Operand.tmp 43) (Operand.const (Value.bool false)), type := 4, pos := "plain.go:89", after := #[{ on := 9, ground := Ground.data }, { on := 20, ground := Ground.data }], guard := none }) (v := ?_) rfl (by kernel_rfl) (by kernel_rfl) (by kernel_rfl) (fun _ _ _ h => h) (Or.inl ⟨by rfl, ?_⟩) (by assumption) ?_
            rotate_left 1
            · intro w hSw
              (try dsimp only at hSw)
              go_simp
              try with_reducible rfl
            (try simp only [Act.put, List.setIfInBounds_toArray, List.set_cons_zero, List.set_cons_succ])
            refine wpAnyH_done (by kernel_rfl) ?_ _
            have HB2 : Hid (Below wo.heap.size wo w2) := Lib.hid (HBI.out.trans ((below_of_drew hb1).mono HBI.out.size))
            clear hb1
            go_wp2
            go_roundw
            case rel => exact ⟨j + 1, by omega, by go_num, by rw [HTK.out]; simp, HB2.out⟩
            case measure => simp [intOf]; omega
          | true =>
            by_cases hs : x.s < y.s
            · have hsb : decide (y.s > x.s) = true := by simp; exact hs
              have hsc : decide (x.s < y.s) = true := by simp; exact hs
              rw [hsc] at HTK
              go_wp2
              go_region_held3 (fun W => W.cell? (a.add (j * 5)) = some (.int .i64 y.v) ∧ W.cell? ⟨(a.add (j * 5)).block, (a.add (j * 5)).off + 1, none⟩ = some (.string y.c) ∧ W.cell? ⟨(a.add (j * 5)).block, (a.add (j * 5)).off + 2, none⟩ = some (.int .i64 y.i) ∧ W.cell? ⟨(a.add (j * 5)).block, (a.add (j * 5)).off + 3, none⟩ = some (.int .i64 y.s) ∧ W.cell? ⟨(a.add (j * 5)).block, (a.add (j * 5)).off + 4, none⟩ = some (.bool y.d) ∧ W.cell? (a.add (k * 5)) = some (.int .i64 x.v) ∧ W.cell? ⟨(a.add (k * 5)).block, (a.add (k * 5)).off + 1, none⟩ = some (.string x.c) ∧ W.cell? ⟨(a.add (k * 5)).block, (a.add (k * 5)).off + 2, none⟩ = some (.int .i64 x.i) ∧ W.cell? ⟨(a.add (k * 5)).block, (a.add (k * 5)).off + 3, none⟩ = some (.int .i64 x.s) ∧ W.cell? ⟨(a.add (k * 5)).block, (a.add (k * 5)).off + 4, none⟩ = some (.bool x.d)) (first | exact ⟨y0, y1, y2, y3, y4, x0, x1, x2, x3, x4⟩ | exact HKeep.out _ (below_of_drew hb1)) (first | (go_at_call 42; refine (HCA.out _).mono ?_; rintro e' w2 ⟨rfl, hb1⟩))
              have HB2 : Hid (Below wo.heap.size wo w2) := Lib.hid (HBI.out.trans ((below_of_drew hb1).mono HBI.out.size))
              clear hb1
              go_wp2
              go_roundw
              case rel => exact ⟨j + 1, by omega, by go_num, by rw [HTK.out]; simp, HB2.out⟩
              case measure => simp [intOf]; omega
            · have hsb : decide (y.s > x.s) = false := by simp; omega
              have hsc : decide (x.s < y.s) = false := by simp; omega
              rw [hsc] at HTK
              go_wp2
              go_region_held3 (fun W => W.cell? (a.add (j * 5)) = some (.int .i64 y.v) ∧ W.cell? ⟨(a.add (j * 5)).block, (a.add (j * 5)).off + 1, none⟩ = some (.string y.c) ∧ W.cell? ⟨(a.add (j * 5)).block, (a.add (j * 5)).off + 2, none⟩ = some (.int .i64 y.i) ∧ W.cell? ⟨(a.add (j * 5)).block, (a.add (j * 5)).off + 3, none⟩ = some (.int .i64 y.s) ∧ W.cell? ⟨(a.add (j * 5)).block, (a.add (j * 5)).off + 4, none⟩ = some (.bool y.d) ∧ W.cell? (a.add (k * 5)) = some (.int .i64 x.v) ∧ W.cell? ⟨(a.add (k * 5)).block, (a.add (k * 5)).off + 1, none⟩ = some (.string x.c) ∧ W.cell? ⟨(a.add (k * 5)).block, (a.add (k * 5)).off + 2, none⟩ = some (.int .i64 x.i) ∧ W.cell? ⟨(a.add (k * 5)).block, (a.add (k * 5)).off + 3, none⟩ = some (.int .i64 x.s) ∧ W.cell? ⟨(a.add (k * 5)).block, (a.add (k * 5)).off + 4, none⟩ = some (.bool x.d)) (first | exact ⟨y0, y1, y2, y3, y4, x0, x1, x2, x3, x4⟩ | exact HKeep.out _ (below_of_drew hb1)) (first | (go_at_call 42; refine (HCA.out _).mono ?_; rintro e' w2 ⟨rfl, hb1⟩))
              have HB2 : Hid (Below wo.heap.size wo w2) := Lib.hid (HBI.out.trans ((below_of_drew hb1).mono HBI.out.size))
              clear hb1
              go_wp2
              go_roundw
              case rel => exact ⟨j + 1, by omega, by go_num, by rw [HTK.out]; simp, HB2.out⟩
              case measure => simp [intOf]; omega
        · obtain rfl : j = n := by omega
          have htk : all.take j = all := List.take_of_length_le (Nat.le_of_eq HLN.out)
          rw [htk]
          have hfx := (HFX.out.below HBL.out HLX.out).below hbi (Nat.lt_of_lt_of_le HLX.out hsw.out)
          obtain ⟨x0, x1, x2, x3, x4⟩ := hfx
          have HP2 := Lib.hid (HPut.out wr hbi)
          have HS2 := Lib.hid (fun h => HSkip.out h wr hbi)
          obtain ⟨lb, hlb⟩ : ∃ lb, later all x = lb := ⟨_, rfl⟩
          rw [hlb] at HS2 HAdd ⊢
          clear hbi htk hlb
          obtain ⟨xd, hxd⟩ : ∃ xd, x.d = xd := ⟨_, rfl⟩
          rw [hxd] at HS2 HAdd x4 HP2
          go_upto_region 11 with fail
          go_cut [57] from 11 to 67 (fun tv wx => wr = wx ∧ tv = .bool (!lb && (!bottom || !xd)))
          case first =>
            cases lb with
            | true =>
              go_wp2_with fail
              go_meet
              exact ⟨rfl, by simp⟩
            | false =>
              cases bottom with
              | false =>
                go_wp2_with fail
                go_meet
                exact ⟨rfl, by simp⟩
              | true =>
                go_wp2_with fail
                go_meet
                exact ⟨rfl, by simp⟩
          case rest =>
            obtain ⟨rfl, rfl⟩ := hcut
            obtain ⟨tb, htb⟩ : ∃ tb, (!lb && (!bottom || !xd)) = tb := ⟨_, rfl⟩
            rw [htb] at HS2 HAdd ⊢
            clear htb
            cases tb with
            | true =>
              have HA2 := Lib.hid (HAdd.out rfl)
              go_wp2_with (go_at_call 43; refine HP2.out.mono ?_; rintro en w1 ⟨v', b', rfl, hown1, hbw1⟩; have HR := Lib.hid (HA2.out w1 v' hown1 hbw1); clear hown1 hbw1)
              go_roundw
              case rel => exact ⟨k + 1, by go_num, HR.out⟩
              case measure => simp [intOf]; omega
            | false =>
              have HR := Lib.hid (HS2.out rfl)
              go_wp2
              go_roundw
              case rel => exact ⟨k + 1, by go_num, HR.out⟩
              case measure => simp [intOf]; omega
    · obtain rfl : k = n := by omega
      have HE : Hid (FreshPost w R (.returned ov) wo) := Lib.hid ⟨_, rfl, hbl, by
        rw [List.drop_eq_nil_of_le (Nat.le_of_eq HLN.out)] at hF
        rw [← hF]
        exact hrow⟩
      clear hrow hF hbl
      go_wp2
      go_ret
      exact HE.out
end Go.Proofs.Ytahdaccmokjgpaa
