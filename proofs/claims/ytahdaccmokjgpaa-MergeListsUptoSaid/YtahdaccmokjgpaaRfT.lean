/-
  WALK: do two entries of one place, in two lists, have the same word (the document's twice)?
-/
import Derived.Test.YtahdaccmokjgpaaRfP
namespace Go.Proofs.Ytahdaccmokjgpaa
open Go.RowKit ArgK
set_option linter.unusedVariables false

def NoP (lists : List (List Ent)) (i j : Nat) : Prop := ∀ x ∈ lx lists i, ∀ y ∈ lx lists j, ¬ (eat x y ∧ x.s = y.s)
theorem twice_no {lists : List (List Ent)} {n : Nat} (hn : lists.length = n) (h : ∀ i j, j < i → i < n → NoP lists i j) : ¬ Twice lists := by
  rintro ⟨i, j, x, y, hi, hj, hij, hx, hy, hat, hs⟩
  rcases Nat.lt_or_gt_of_ne hij with h1 | h1
  · exact h j i h1 (by omega) y hy x hx ⟨eat_symm hat, hs.symm⟩
  · exact h i j h1 (by omega) x hx y hy ⟨hat, hs⟩
theorem lx_of {lists : List (List Ent)} {i : Nat} {L : List Ent} (h : lists[i]? = some L) : lx lists i = L := by
  unfold lx
  simp [List.getD, h]

set_option maxRecDepth 100000 in
set_option maxHeartbeats 4000000 in
theorem twice_calls {w : World} {p : Option Addr} {n c : Nat} {lists : List (List Ent)} (hn : lists.length = n) (h1024 : n ≤ 1024) (hL : LLs w w.heap.size p lists) (hz : ∀ L ∈ lists, L.length ≤ 4398046511104) :
    Calls Try.prog 39 #[.slice p n c] w fun e w' => ∃ t : Bool, e = .returned (.bool t) ∧ (t = true ↔ Twice lists) ∧ Below w.heap.size w w' := by
  have HN := Lib.hid hn
  have HL := Lib.hid hL
  have HZ := Lib.hid hz
  clear hn hL hz
  go_enter Try.func39, Try.ntmps39
  go_wp2
  go_loopw [3] (fun iv wr => ∃ i : Nat, iv = .int .i64 i ∧ i ≤ n ∧ Hid (∀ i' j', j' < i' → i' < i → NoP lists i' j') ∧ Below w.heap.size w wr) (fun iv _ => n - (intOf iv).toNat)
  case atStart => exact ⟨0, rfl, Nat.zero_le _, Lib.hid (fun _ _ _ h => absurd h (Nat.not_lt_zero _)), Below.refl _ _⟩
  case round =>
    obtain ⟨i, rfl, hi, HI, hb1⟩ := hrel
    by_cases hlt : i < n
    · obtain ⟨Li, hLi⟩ : ∃ L, lists[i]? = some L := ⟨_, List.getElem?_eq_getElem (by rw [HN.out]; exact hlt)⟩
      obtain ⟨pa, qi, ci, rfl, hpa, hci, hlci, hei⟩ := HL.out i Li hLi
      have hzi := HZ.out Li (List.mem_of_getElem? hLi)
      have hlxi := lx_of hLi
      have HLX := Lib.hid hlxi
      have hi1 : (i : Int) < (n : Int) := by omega
      have hi0 : (0 : Int) ≤ (i : Int) := by omega
      obtain ⟨ni, hni⟩ : ∃ q, Li.length = q := ⟨_, rfl⟩
      rw [hni] at hci hlci hzi
      have HNi := Lib.hid hni
      have HEi := Lib.hid hei
      clear hLi hlxi hni hei
      go_wp2
      rename World => v1
      go_loopw [4] (fun jv wr => ∃ j : Nat, jv = .int .i64 j ∧ j ≤ i ∧ Hid (∀ j', j' < j → NoP lists i j') ∧ Below w.heap.size w wr) (fun jv _ => i - (intOf jv).toNat)
      case atStart => exact ⟨0, rfl, Nat.zero_le _, Lib.hid (fun _ h => absurd h (Nat.not_lt_zero _)), hb1⟩
      case round =>
        obtain ⟨j, rfl, hj, HJ, hb2⟩ := hrel
        by_cases hltj : j < i
        · obtain ⟨Lj, hLj⟩ : ∃ L, lists[j]? = some L := ⟨_, List.getElem?_eq_getElem (by rw [HN.out]; omega)⟩
          obtain ⟨pa', qj, cj, hpa', _, hcj, hlcj, hej⟩ := HL.out j Lj hLj
          cases hpa'
          have hzj := HZ.out Lj (List.mem_of_getElem? hLj)
          have HLY := Lib.hid (lx_of hLj)
          have hj1 : (j : Int) < (n : Int) := by omega
          have hj0 : (0 : Int) ≤ (j : Int) := by omega
          have hji : (j : Int) < (i : Int) := by omega
          obtain ⟨nj, hnj⟩ : ∃ q, Lj.length = q := ⟨_, rfl⟩
          rw [hnj] at hcj hlcj hzj
          have HNj := Lib.hid hnj
          have HEj := Lib.hid hej
          have HCi : Hid (∀ W, Below w.heap.size w W → W.cell? (pa.add i) = some (.slice qi ni ci)) := Lib.hid (fun W hW => (World.cell?_of_block (hW.block _ (by rw [add_blockE]; exact hpa))).trans hci)
          have HCj : Hid (∀ W, Below w.heap.size w W → W.cell? (pa.add j) = some (.slice qj nj cj)) := Lib.hid (fun W hW => (World.cell?_of_block (hW.block _ (by rw [add_blockE]; exact hpa))).trans hcj)
          clear hLj hnj hej hci hcj
          go_wp2
          rename World => v2
          go_loopw [5] (fun av wr => ∃ a : Nat, av = .int .i64 a ∧ a ≤ ni ∧ Hid (∀ a', a' < a → ∀ x, Li[a']? = some x → ∀ y ∈ Lj, ¬ (eat x y ∧ x.s = y.s)) ∧ Below w.heap.size w wr) (fun av _ => ni - (intOf av).toNat)
          case atStart => exact ⟨0, rfl, Nat.zero_le _, Lib.hid (fun _ h => absurd h (Nat.not_lt_zero _)), hb2⟩
          case round =>
            obtain ⟨a, rfl, ha, HA, hb3⟩ := hrel
            have hci3 := HCi.out _ hb3
            by_cases hlta : a < ni
            · obtain ⟨x, hx⟩ : ∃ x, Li[a]? = some x := ⟨_, List.getElem?_eq_getElem (by rw [HNi.out]; exact hlta)⟩
              obtain ⟨ai, rfl, hai, h5x⟩ := HEi.out a x hx
              have HX := Lib.hid hx
              have ha1 : (a : Int) < (ni : Int) := by omega
              have ha0 : (0 : Int) ≤ (a : Int) := by omega
              have H5x : Hid (∀ W, Below w.heap.size w W → Five W (ai.add (a * 5)) x) := Lib.hid (fun W hW => h5x.below hW (by rw [add_blockE]; exact hai))
              clear hx h5x
              go_wp2
              rename World => v3
              go_loopw [6] (fun bv wr => ∃ b : Nat, bv = .int .i64 b ∧ b ≤ nj ∧ Hid (∀ b', b' < b → ∀ y, Lj[b']? = some y → ¬ (eat x y ∧ x.s = y.s)) ∧ Below w.heap.size w wr) (fun bv _ => nj - (intOf bv).toNat)
              case atStart => exact ⟨0, rfl, Nat.zero_le _, Lib.hid (fun _ h => absurd h (Nat.not_lt_zero _)), hb3⟩
              case round =>
                obtain ⟨b, rfl, hbn, HBB, hb4⟩ := hrel
                have hci4 := HCi.out _ hb4
                have hcj4 := HCj.out _ hb4
                by_cases hltb : b < nj
                · obtain ⟨y, hy⟩ : ∃ y, Lj[b]? = some y := ⟨_, List.getElem?_eq_getElem (by rw [HNj.out]; exact hltb)⟩
                  obtain ⟨aj, rfl, haj, h5y⟩ := HEj.out b y hy
                  have HY := Lib.hid hy
                  have hbb1 : (b : Int) < (nj : Int) := by omega
                  have hbb0 : (0 : Int) ≤ (b : Int) := by omega
                  have H5y : Hid (∀ W, Below w.heap.size w W → Five W (aj.add (b * 5)) y) := Lib.hid (fun W hW => h5y.below hW (by rw [add_blockE]; exact haj))
                  clear hy h5y
                  have HB4 := Lib.hid hb4
                  obtain ⟨x0, x1, x2, x3, x4⟩ := H5x.out _ hb4
                  obtain ⟨y0, y1, y2, y3, y4⟩ := H5y.out _ hb4
                  have HSK : Hid (∀ W, Below w.heap.size w W → W.cell? (pa.add i) = some (.slice (some ai) ni ci) ∧ W.cell? (pa.add j) = some (.slice (some aj) nj cj) ∧ W.cell? (ai.add (a * 5)) = some (.int .i64 x.v) ∧ W.cell? ⟨(ai.add (a * 5)).block, (ai.add (a * 5)).off + 1, none⟩ = some (.string x.c) ∧ W.cell? ⟨(ai.add (a * 5)).block, (ai.add (a * 5)).off + 2, none⟩ = some (.int .i64 x.i) ∧ W.cell? ⟨(ai.add (a * 5)).block, (ai.add (a * 5)).off + 3, none⟩ = some (.int .i64 x.s) ∧ W.cell? ⟨(ai.add (a * 5)).block, (ai.add (a * 5)).off + 4, none⟩ = some (.bool x.d) ∧ W.cell? (aj.add (b * 5)) = some (.int .i64 y.v) ∧ W.cell? ⟨(aj.add (b * 5)).block, (aj.add (b * 5)).off + 1, none⟩ = some (.string y.c) ∧ W.cell? ⟨(aj.add (b * 5)).block, (aj.add (b * 5)).off + 2, none⟩ = some (.int .i64 y.i) ∧ W.cell? ⟨(aj.add (b * 5)).block, (aj.add (b * 5)).off + 3, none⟩ = some (.int .i64 y.s) ∧ W.cell? ⟨(aj.add (b * 5)).block, (aj.add (b * 5)).off + 4, none⟩ = some (.bool y.d)) := Lib.hid (fun W hW => by
                    obtain ⟨x0, x1, x2, x3, x4⟩ := H5x.out _ hW
                    obtain ⟨y0, y1, y2, y3, y4⟩ := H5y.out _ hW
                    exact ⟨HCi.out _ hW, HCj.out _ hW, x0, x1, x2, x3, x4, y0, y1, y2, y3, y4⟩)
                  have CC := fun W => RefCompare_calls x y W
                  unfold Ent.val at CC
                  have HNB : (¬ (eat x y ∧ x.s = y.s)) → Hid (∀ b', b' < b + 1 → ∀ y, Lj[b']? = some y → ¬ (eat x y ∧ x.s = y.s)) := fun hno => Lib.hid (fun b' h y' hy' => by
                    rcases Nat.lt_or_ge b' b with h1 | h1
                    · exact HBB.out b' h1 y' hy'
                    · obtain rfl : b' = b := by omega
                      rw [HY.out] at hy'
                      cases hy'
                      exact hno)
                  clear hb4
                  by_cases hss : x.s = y.s
                  · have hsb : (x.s == y.s) = true := by simpa using hss
                    by_cases hat : eat x y
                    · rw [cmpE_eq hat] at CC
                      have HCM := Lib.hid CC
                      have HTw : Hid (Twice lists) := Lib.hid ⟨i, j, x, y, by have := HN.out; omega, by have := HN.out; omega, by omega, by rw [HLX.out]; exact List.mem_of_getElem? HX.out, by rw [HLY.out]; exact List.mem_of_getElem? HY.out, hat, hss⟩
                      clear CC hat hss HNB
                      go_wp2
                      refine wp_region_held_drew (S := (fun W => W.cell? (pa.add i) = some (.slice (some ai) ni ci) ∧ W.cell? (pa.add j) = some (.slice (some aj) nj cj) ∧ W.cell? (ai.add (a * 5)) = some (.int .i64 x.v) ∧ W.cell? ⟨(ai.add (a * 5)).block, (ai.add (a * 5)).off + 1, none⟩ = some (.string x.c) ∧ W.cell? ⟨(ai.add (a * 5)).block, (ai.add (a * 5)).off + 2, none⟩ = some (.int .i64 x.i) ∧ W.cell? ⟨(ai.add (a * 5)).block, (ai.add (a * 5)).off + 3, none⟩ = some (.int .i64 x.s) ∧ W.cell? ⟨(ai.add (a * 5)).block, (ai.add (a * 5)).off + 4, none⟩ = some (.bool x.d) ∧ W.cell? (aj.add (b * 5)) = some (.int .i64 y.v) ∧ W.cell? ⟨(aj.add (b * 5)).block, (aj.add (b * 5)).off + 1, none⟩ = some (.string y.c) ∧ W.cell? ⟨(aj.add (b * 5)).block, (aj.add (b * 5)).off + 2, none⟩ = some (.int .i64 y.i) ∧ W.cell? ⟨(aj.add (b * 5)).block, (aj.add (b * 5)).off + 3, none⟩ = some (.int .i64 y.s) ∧ W.cell? ⟨(aj.add (b * 5)).block, (aj.add (b * 5)).off + 4, none⟩ = some (.bool y.d))) (by kernel_rfl) ?_ (fun hHeld => ?_)
                      · exact HSK.out _ HB4.out.drew
                      refine wpAnyH_take (i := 0) (oi := { dst := some 36, op := Op.move (Operand.tmp 0), type := 43, pos := "kindredref7.go:68", after := #[], guard := none }) (v := ?_) rfl (by kernel_rfl) (by kernel_rfl) (by kernel_rfl) (fun _ _ _ h => h) (Or.inl ⟨by rfl, ?_⟩) (by assumption) ?_
                      rotate_left 1
                      · intro w hSw
                        (try dsimp only at hSw)
                        go_simp
                        try with_reducible rfl
                      (try simp only [Act.put, List.setIfInBounds_toArray, List.set_cons_zero, List.set_cons_succ])
                      refine wpAnyH_take (i := 1) (oi := { dst := some 37, op := Op.move (Operand.tmp 3), type := 3, pos := "kindredref7.go:68", after := #[], guard := none }) (v := ?_) rfl (by kernel_rfl) (by kernel_rfl) (by kernel_rfl) (fun _ _ _ h => h) (Or.inl ⟨by rfl, ?_⟩) (by assumption) ?_
                      rotate_left 1
                      · intro w hSw
                        (try dsimp only at hSw)
                        go_simp
                        try with_reducible rfl
                      (try simp only [Act.put, List.setIfInBounds_toArray, List.set_cons_zero, List.set_cons_succ])
                      refine wpAnyH_take (i := 2) (oi := { dst := some 38, op := Op.indexAddr 43 (Operand.tmp 36) (Operand.tmp 37), type := 0, pos := "kindredref7.go:68", after := #[{ on := 0, ground := Ground.data }, { on := 1, ground := Ground.data }], guard := none }) (v := ?_) rfl (by kernel_rfl) (by kernel_rfl) (by kernel_rfl) (fun _ _ _ h => h) (Or.inl ⟨by rfl, ?_⟩) (by assumption) ?_
                      rotate_left 1
                      · intro w hSw
                        (try dsimp only at hSw)
                        go_simp
                        try with_reducible rfl
                      (try simp only [Act.put, List.setIfInBounds_toArray, List.set_cons_zero, List.set_cons_succ])
                      refine wpAnyH_take (i := 3) (oi := { dst := some 39, op := Op.load 25 (Operand.tmp 38), type := 25, pos := "kindredref7.go:68", after := #[{ on := 2, ground := Ground.data }], guard := none }) (v := ?_) rfl (by kernel_rfl) (by kernel_rfl) (by kernel_rfl) (fun _ _ _ h => h) (Or.inl ⟨by rfl, ?_⟩) (by assumption) ?_
                      rotate_left 1
                      · intro w hSw
                        (try dsimp only at hSw)
                        go_simp
                        try with_reducible rfl
                      (try simp only [Act.put, List.setIfInBounds_toArray, List.set_cons_zero, List.set_cons_succ])
                      refine wpAnyH_take (i := 4) (oi := { dst := some 40, op := Op.move (Operand.tmp 5), type := 3, pos := "kindredref7.go:68", after := #[], guard := none }) (v := ?_) rfl (by kernel_rfl) (by kernel_rfl) (by kernel_rfl) (fun _ _ _ h => h) (Or.inl ⟨by rfl, ?_⟩) (by assumption) ?_
                      rotate_left 1
                      · intro w hSw
                        (try dsimp only at hSw)
                        go_simp
                        try with_reducible rfl
                      (try simp only [Act.put, List.setIfInBounds_toArray, List.set_cons_zero, List.set_cons_succ])
                      refine wpAnyH_take (i := 5) (oi := { dst := some 41, op := Op.indexAddr 25 (Operand.tmp 39) (Operand.tmp 40), type := 0, pos := "kindredref7.go:68", after := #[{ on := 3, ground := Ground.data }, { on := 4, ground := Ground.data }], guard := none }) (v := ?_) rfl (by kernel_rfl) (by kernel_rfl) (by kernel_rfl) (fun _ _ _ h => h) (Or.inl ⟨by rfl, ?_⟩) (by assumption) ?_
                      rotate_left 1
                      · intro w hSw
                        (try dsimp only at hSw)
                        go_simp
                        try with_reducible rfl
                      (try simp only [Act.put, List.setIfInBounds_toArray, List.set_cons_zero, List.set_cons_succ])
                      refine wpAnyH_take (i := 6) (oi := { dst := some 42, op := Op.fieldAddr 24 (Operand.tmp 41) 3, type := 0, pos := "kindredref7.go:68", after := #[{ on := 5, ground := Ground.data }], guard := none }) (v := ?_) rfl (by kernel_rfl) (by kernel_rfl) (by kernel_rfl) (fun _ _ _ h => h) (Or.inl ⟨by rfl, ?_⟩) (by assumption) ?_
                      rotate_left 1
                      · intro w hSw
                        (try dsimp only at hSw)
                        go_simp
                        try with_reducible rfl
                      (try simp only [Act.put, List.setIfInBounds_toArray, List.set_cons_zero, List.set_cons_succ])
                      refine wpAnyH_take (i := 7) (oi := { dst := some 43, op := Op.load 3 (Operand.tmp 42), type := 3, pos := "kindredref7.go:68", after := #[{ on := 6, ground := Ground.data }], guard := none }) (v := ?_) rfl (by kernel_rfl) (by kernel_rfl) (by kernel_rfl) (fun _ _ _ h => h) (Or.inl ⟨by rfl, ?_⟩) (by assumption) ?_
                      rotate_left 1
                      · intro w hSw
                        (try dsimp only at hSw)
                        go_simp
                        try with_reducible rfl
                      (try simp only [Act.put, List.setIfInBounds_toArray, List.set_cons_zero, List.set_cons_succ])
                      refine wpAnyH_take (i := 8) (oi := { dst := some 44, op := Op.move (Operand.tmp 0), type := 43, pos := "kindredref7.go:68", after := #[], guard := none }) (v := ?_) rfl (by kernel_rfl) (by kernel_rfl) (by kernel_rfl) (fun _ _ _ h => h) (Or.inl ⟨by rfl, ?_⟩) (by assumption) ?_
                      rotate_left 1
                      · intro w hSw
                        (try dsimp only at hSw)
                        go_simp
                        try with_reducible rfl
                      (try simp only [Act.put, List.setIfInBounds_toArray, List.set_cons_zero, List.set_cons_succ])
                      refine wpAnyH_take (i := 9) (oi := { dst := some 45, op := Op.move (Operand.tmp 4), type := 3, pos := "kindredref7.go:68", after := #[], guard := none }) (v := ?_) rfl (by kernel_rfl) (by kernel_rfl) (by kernel_rfl) (fun _ _ _ h => h) (Or.inl ⟨by rfl, ?_⟩) (by assumption) ?_
                      rotate_left 1
                      · intro w hSw
                        (try dsimp only at hSw)
                        go_simp
                        try with_reducible rfl
                      (try simp only [Act.put, List.setIfInBounds_toArray, List.set_cons_zero, List.set_cons_succ])
                      refine wpAnyH_take (i := 10) (oi := { dst := some 46, op := Op.indexAddr 43 (Operand.tmp 44) (Operand.tmp 45), type := 0, pos := "kindredref7.go:68", after := #[{ on := 8, ground := Ground.data }, { on := 9, ground := Ground.data }], guard := none }) (v := ?_) rfl (by kernel_rfl) (by kernel_rfl) (by kernel_rfl) (fun _ _ _ h => h) (Or.inl ⟨by rfl, ?_⟩) (by assumption) ?_
                      rotate_left 1
                      · intro w hSw
                        (try dsimp only at hSw)
                        go_simp
                        try with_reducible rfl
                      (try simp only [Act.put, List.setIfInBounds_toArray, List.set_cons_zero, List.set_cons_succ])
                      refine wpAnyH_take (i := 11) (oi := { dst := some 47, op := Op.load 25 (Operand.tmp 46), type := 25, pos := "kindredref7.go:68", after := #[{ on := 10, ground := Ground.data }], guard := none }) (v := ?_) rfl (by kernel_rfl) (by kernel_rfl) (by kernel_rfl) (fun _ _ _ h => h) (Or.inl ⟨by rfl, ?_⟩) (by assumption) ?_
                      rotate_left 1
                      · intro w hSw
                        (try dsimp only at hSw)
                        go_simp
                        try with_reducible rfl
                      (try simp only [Act.put, List.setIfInBounds_toArray, List.set_cons_zero, List.set_cons_succ])
                      refine wpAnyH_take (i := 12) (oi := { dst := some 48, op := Op.move (Operand.tmp 6), type := 3, pos := "kindredref7.go:68", after := #[], guard := none }) (v := ?_) rfl (by kernel_rfl) (by kernel_rfl) (by kernel_rfl) (fun _ _ _ h => h) (Or.inl ⟨by rfl, ?_⟩) (by assumption) ?_
                      rotate_left 1
                      · intro w hSw
                        (try dsimp only at hSw)
                        go_simp
                        try with_reducible rfl
                      (try simp only [Act.put, List.setIfInBounds_toArray, List.set_cons_zero, List.set_cons_succ])
                      refine wpAnyH_take (i := 13) (oi := { dst := some 49, op := Op.indexAddr 25 (Operand.tmp 47) (Operand.tmp 48), type := 0, pos := "kindredref7.go:68", after := #[{ on := 11, ground := Ground.data }, { on := 12, ground := Ground.data }], guard := none }) (v := ?_) rfl (by kernel_rfl) (by kernel_rfl) (by kernel_rfl) (fun _ _ _ h => h) (Or.inl ⟨by rfl, ?_⟩) (by assumption) ?_
                      rotate_left 1
                      · intro w hSw
                        (try dsimp only at hSw)
                        go_simp
                        try with_reducible rfl
                      (try simp only [Act.put, List.setIfInBounds_toArray, List.set_cons_zero, List.set_cons_succ])
                      refine wpAnyH_take (i := 14) (oi := { dst := some 50, op := Op.fieldAddr 24 (Operand.tmp 49) 3, type := 0, pos := "kindredref7.go:68", after := #[{ on := 13, ground := Ground.data }], guard := none }) (v := ?_) rfl (by kernel_rfl) (by kernel_rfl) (by kernel_rfl) (fun _ _ _ h => h) (Or.inl ⟨by rfl, ?_⟩) (by assumption) ?_
                      rotate_left 1
                      · intro w hSw
                        (try dsimp only at hSw)
                        go_simp
                        try with_reducible rfl
                      (try simp only [Act.put, List.setIfInBounds_toArray, List.set_cons_zero, List.set_cons_succ])
                      refine wpAnyH_take (i := 15) (oi := { dst := some 51, op := Op.load 3 (Operand.tmp 50), type := 3, pos := "kindredref7.go:68", after := #[{ on := 14, ground := Ground.data }], guard := none }) (v := ?_) rfl (by kernel_rfl) (by kernel_rfl) (by kernel_rfl) (fun _ _ _ h => h) (Or.inl ⟨by rfl, ?_⟩) (by assumption) ?_
                      rotate_left 1
                      · intro w hSw
                        (try dsimp only at hSw)
                        go_simp
                        try with_reducible rfl
                      (try simp only [Act.put, List.setIfInBounds_toArray, List.set_cons_zero, List.set_cons_succ])
                      refine wpAnyH_take (i := 16) (oi := { dst := some 52, op := Op.binOp BinOp.eql 3 (Operand.tmp 43) (Operand.tmp 51) 3, type := 4, pos := "kindredref7.go:68", after := #[{ on := 7, ground := Ground.data }, { on := 15, ground := Ground.data }], guard := none }) (v := ?_) rfl (by kernel_rfl) (by kernel_rfl) (by kernel_rfl) (fun _ _ _ h => h) (Or.inl ⟨by rfl, ?_⟩) (by assumption) ?_
                      rotate_left 1
                      · intro w hSw
                        (try dsimp only at hSw)
                        go_simp
                        try with_reducible rfl
                      (try simp only [Act.put, List.setIfInBounds_toArray, List.set_cons_zero, List.set_cons_succ])
                      refine wpAnyH_take (i := 17) (oi := { dst := some 53, op := Op.move (Operand.tmp 52), type := 4, pos := "kindredref7.go:68", after := #[{ on := 16, ground := Ground.data }], guard := none }) (v := ?_) rfl (by kernel_rfl) (by kernel_rfl) (by kernel_rfl) (fun _ _ _ h => h) (Or.inl ⟨by rfl, ?_⟩) (by assumption) ?_
                      rotate_left 1
                      · intro w hSw
                        (try dsimp only at hSw)
                        go_simp
                        try with_reducible rfl
                      (try simp only [Act.put, List.setIfInBounds_toArray, List.set_cons_zero, List.set_cons_succ])
                      refine wpAnyH_take (i := 18) (oi := { dst := some 54, op := Op.move (Operand.tmp 0), type := 43, pos := "kindredref7.go:68", after := #[{ on := 17, ground := Ground.guard }], guard := some (17, true) }) (v := ?_) rfl (by kernel_rfl) (by kernel_rfl) (by kernel_rfl) (fun _ _ _ h => h) (Or.inl ⟨by rfl, ?_⟩) (by assumption) ?_
                      rotate_left 1
                      · intro w hSw
                        (try dsimp only at hSw)
                        go_simp
                        try with_reducible rfl
                      (try simp only [Act.put, List.setIfInBounds_toArray, List.set_cons_zero, List.set_cons_succ])
                      refine wpAnyH_take (i := 19) (oi := { dst := some 55, op := Op.move (Operand.tmp 3), type := 3, pos := "kindredref7.go:68", after := #[{ on := 17, ground := Ground.guard }], guard := some (17, true) }) (v := ?_) rfl (by kernel_rfl) (by kernel_rfl) (by kernel_rfl) (fun _ _ _ h => h) (Or.inl ⟨by rfl, ?_⟩) (by assumption) ?_
                      rotate_left 1
                      · intro w hSw
                        (try dsimp only at hSw)
                        go_simp
                        try with_reducible rfl
                      (try simp only [Act.put, List.setIfInBounds_toArray, List.set_cons_zero, List.set_cons_succ])
                      refine wpAnyH_take (i := 20) (oi := { dst := some 56, op := Op.indexAddr 43 (Operand.tmp 54) (Operand.tmp 55), type := 0, pos := "kindredref7.go:68", after := #[{ on := 18, ground := Ground.data }, { on := 19, ground := Ground.data }, { on := 17, ground := Ground.guard }], guard := some (17, true) }) (v := ?_) rfl (by kernel_rfl) (by kernel_rfl) (by kernel_rfl) (fun _ _ _ h => h) (Or.inl ⟨by rfl, ?_⟩) (by assumption) ?_
                      rotate_left 1
                      · intro w hSw
                        (try dsimp only at hSw)
                        go_simp
                        try with_reducible rfl
                      (try simp only [Act.put, List.setIfInBounds_toArray, List.set_cons_zero, List.set_cons_succ])
                      refine wpAnyH_take (i := 21) (oi := { dst := some 57, op := Op.load 25 (Operand.tmp 56), type := 25, pos := "kindredref7.go:68", after := #[{ on := 20, ground := Ground.data }, { on := 17, ground := Ground.guard }], guard := some (17, true) }) (v := ?_) rfl (by kernel_rfl) (by kernel_rfl) (by kernel_rfl) (fun _ _ _ h => h) (Or.inl ⟨by rfl, ?_⟩) (by assumption) ?_
                      rotate_left 1
                      · intro w hSw
                        (try dsimp only at hSw)
                        go_simp
                        try with_reducible rfl
                      (try simp only [Act.put, List.setIfInBounds_toArray, List.set_cons_zero, List.set_cons_succ])
                      refine wpAnyH_take (i := 22) (oi := { dst := some 58, op := Op.move (Operand.tmp 5), type := 3, pos := "kindredref7.go:68", after := #[{ on := 17, ground := Ground.guard }], guard := some (17, true) }) (v := ?_) rfl (by kernel_rfl) (by kernel_rfl) (by kernel_rfl) (fun _ _ _ h => h) (Or.inl ⟨by rfl, ?_⟩) (by assumption) ?_
                      rotate_left 1
                      · intro w hSw
                        (try dsimp only at hSw)
                        go_simp
                        try with_reducible rfl
                      (try simp only [Act.put, List.setIfInBounds_toArray, List.set_cons_zero, List.set_cons_succ])
                      refine wpAnyH_take (i := 23) (oi := { dst := some 59, op := Op.indexAddr 25 (Operand.tmp 57) (Operand.tmp 58), type := 0, pos := "kindredref7.go:68", after := #[{ on := 21, ground := Ground.data }, { on := 22, ground := Ground.data }, { on := 17, ground := Ground.guard }], guard := some (17, true) }) (v := ?_) rfl (by kernel_rfl) (by kernel_rfl) (by kernel_rfl) (fun _ _ _ h => h) (Or.inl ⟨by rfl, ?_⟩) (by assumption) ?_
                      rotate_left 1
                      · intro w hSw
                        (try dsimp only at hSw)
                        go_simp
                        try with_reducible rfl
                      (try simp only [Act.put, List.setIfInBounds_toArray, List.set_cons_zero, List.set_cons_succ])
                      refine wpAnyH_take (i := 24) (oi := { dst := some 60, op := Op.load 24 (Operand.tmp 59), type := 24, pos := "kindredref7.go:68", after := #[{ on := 23, ground := Ground.data }, { on := 17, ground := Ground.guard }], guard := some (17, true) }) (v := ?_) rfl (by kernel_rfl) (by kernel_rfl) (by kernel_rfl) (fun _ _ _ h => h) (Or.inl ⟨by rfl, ?_⟩) (by assumption) ?_
                      rotate_left 1
                      · intro w hSw
                        (try dsimp only at hSw)
                        go_simp
                        try with_reducible rfl
                      (try simp only [Act.put, List.setIfInBounds_toArray, List.set_cons_zero, List.set_cons_succ])
                      refine wpAnyH_take (i := 25) (oi := { dst := some 61, op := Op.move (Operand.tmp 0), type := 43, pos := "kindredref7.go:68", after := #[{ on := 17, ground := Ground.guard }], guard := some (17, true) }) (v := ?_) rfl (by kernel_rfl) (by kernel_rfl) (by kernel_rfl) (fun _ _ _ h => h) (Or.inl ⟨by rfl, ?_⟩) (by assumption) ?_
                      rotate_left 1
                      · intro w hSw
                        (try dsimp only at hSw)
                        go_simp
                        try with_reducible rfl
                      (try simp only [Act.put, List.setIfInBounds_toArray, List.set_cons_zero, List.set_cons_succ])
                      refine wpAnyH_take (i := 26) (oi := { dst := some 62, op := Op.move (Operand.tmp 4), type := 3, pos := "kindredref7.go:68", after := #[{ on := 17, ground := Ground.guard }], guard := some (17, true) }) (v := ?_) rfl (by kernel_rfl) (by kernel_rfl) (by kernel_rfl) (fun _ _ _ h => h) (Or.inl ⟨by rfl, ?_⟩) (by assumption) ?_
                      rotate_left 1
                      · intro w hSw
                        (try dsimp only at hSw)
                        go_simp
                        try with_reducible rfl
                      (try simp only [Act.put, List.setIfInBounds_toArray, List.set_cons_zero, List.set_cons_succ])
                      refine wpAnyH_take (i := 27) (oi := { dst := some 63, op := Op.indexAddr 43 (Operand.tmp 61) (Operand.tmp 62), type := 0, pos := "kindredref7.go:68", after := #[{ on := 25, ground := Ground.data }, { on := 26, ground := Ground.data }, { on := 17, ground := Ground.guard }], guard := some (17, true) }) (v := ?_) rfl (by kernel_rfl) (by kernel_rfl) (by kernel_rfl) (fun _ _ _ h => h) (Or.inl ⟨by rfl, ?_⟩) (by assumption) ?_
                      rotate_left 1
                      · intro w hSw
                        (try dsimp only at hSw)
                        go_simp
                        try with_reducible rfl
                      (try simp only [Act.put, List.setIfInBounds_toArray, List.set_cons_zero, List.set_cons_succ])
                      refine wpAnyH_take (i := 28) (oi := { dst := some 64, op := Op.load 25 (Operand.tmp 63), type := 25, pos := "kindredref7.go:68", after := #[{ on := 27, ground := Ground.data }, { on := 17, ground := Ground.guard }], guard := some (17, true) }) (v := ?_) rfl (by kernel_rfl) (by kernel_rfl) (by kernel_rfl) (fun _ _ _ h => h) (Or.inl ⟨by rfl, ?_⟩) (by assumption) ?_
                      rotate_left 1
                      · intro w hSw
                        (try dsimp only at hSw)
                        go_simp
                        try with_reducible rfl
                      (try simp only [Act.put, List.setIfInBounds_toArray, List.set_cons_zero, List.set_cons_succ])
                      refine wpAnyH_take (i := 29) (oi := { dst := some 65, op := Op.move (Operand.tmp 6), type := 3, pos := "kindredref7.go:68", after := #[{ on := 17, ground := Ground.guard }], guard := some (17, true) }) (v := ?_) rfl (by kernel_rfl) (by kernel_rfl) (by kernel_rfl) (fun _ _ _ h => h) (Or.inl ⟨by rfl, ?_⟩) (by assumption) ?_
                      rotate_left 1
                      · intro w hSw
                        (try dsimp only at hSw)
                        go_simp
                        try with_reducible rfl
                      (try simp only [Act.put, List.setIfInBounds_toArray, List.set_cons_zero, List.set_cons_succ])
                      refine wpAnyH_take (i := 30) (oi := { dst := some 66, op := Op.indexAddr 25 (Operand.tmp 64) (Operand.tmp 65), type := 0, pos := "kindredref7.go:68", after := #[{ on := 28, ground := Ground.data }, { on := 29, ground := Ground.data }, { on := 17, ground := Ground.guard }], guard := some (17, true) }) (v := ?_) rfl (by kernel_rfl) (by kernel_rfl) (by kernel_rfl) (fun _ _ _ h => h) (Or.inl ⟨by rfl, ?_⟩) (by assumption) ?_
                      rotate_left 1
                      · intro w hSw
                        (try dsimp only at hSw)
                        go_simp
                        try with_reducible rfl
                      (try simp only [Act.put, List.setIfInBounds_toArray, List.set_cons_zero, List.set_cons_succ])
                      refine wpAnyH_take (i := 31) (oi := { dst := some 67, op := Op.load 24 (Operand.tmp 66), type := 24, pos := "kindredref7.go:68", after := #[{ on := 30, ground := Ground.data }, { on := 17, ground := Ground.guard }], guard := some (17, true) }) (v := ?_) rfl (by kernel_rfl) (by kernel_rfl) (by kernel_rfl) (fun _ _ _ h => h) (Or.inl ⟨by rfl, ?_⟩) (by assumption) ?_
                      rotate_left 1
                      · intro w hSw
                        (try dsimp only at hSw)
                        go_simp
                        try with_reducible rfl
                      (try simp only [Act.put, List.setIfInBounds_toArray, List.set_cons_zero, List.set_cons_succ])
                      refine wpAnyH_ready (rs := [32]) (by kernel_rfl) (by simp) ?_
                      refine AllReadyH.cons (o := { dst := some 68, op := Op.call { callee := Callee.value (Operand.func 11), args := #[Operand.tmp 60, Operand.tmp 67], argTypes := #[24, 24] }, type := 3, pos := "kindredref7.go:68", after := #[{ on := 24, ground := Ground.data }, { on := 31, ground := Ground.data }, { on := 17, ground := Ground.chain }, { on := 17, ground := Ground.guard }], guard := some (17, true) }) rfl (fun K hK => ?_) ?_
                      rotate_left 1
                      · exact AllReadyH.nil
                      go_simp
                      go_at_call 11; refine (HCM.out _).mono ?_; rintro e w5 ⟨rfl, hb5⟩; have HB5 := Lib.hid (HB4.out.trans ((below_of_drew hb5).mono HB4.out.size)); clear hb5
                      refine hK.out _ _ ?_ (fun hHeld32 => ?_)
                      · exact HSK.out _ HB5.out
                      clear hK K
                      (try simp only [Act.put, List.setIfInBounds_toArray, List.set_cons_zero, List.set_cons_succ])
                      refine wpAnyH_take (i := 33) (oi := { dst := some 69, op := Op.binOp BinOp.eql 3 (Operand.tmp 68) (Operand.const (Value.int IntKind.i64 0)) 3, type := 4, pos := "kindredref7.go:68", after := #[{ on := 32, ground := Ground.data }, { on := 17, ground := Ground.guard }], guard := some (17, true) }) (v := ?_) rfl (by kernel_rfl) (by kernel_rfl) (by kernel_rfl) (fun _ _ _ h => h) (Or.inl ⟨by rfl, ?_⟩) (by assumption) ?_
                      rotate_left 1
                      · intro w hSw
                        (try dsimp only at hSw)
                        go_simp
                        try with_reducible rfl
                      (try simp only [Act.put, List.setIfInBounds_toArray, List.set_cons_zero, List.set_cons_succ])
                      refine wpAnyH_take (i := 34) (oi := { dst := some 70, op := Op.pick (Operand.tmp 53) (Operand.tmp 69) (Operand.const (Value.bool false)), type := 4, pos := "kindredref7.go:68", after := #[{ on := 17, ground := Ground.data }, { on := 33, ground := Ground.data }], guard := none }) (v := ?_) rfl (by kernel_rfl) (by kernel_rfl) (by kernel_rfl) (fun _ _ _ h => h) (Or.inl ⟨by rfl, ?_⟩) (by assumption) ?_
                      rotate_left 1
                      · intro w hSw
                        (try dsimp only at hSw)
                        go_simp
                        try with_reducible rfl
                      (try simp only [Act.put, List.setIfInBounds_toArray, List.set_cons_zero, List.set_cons_succ])
                      refine wpAnyH_done (by kernel_rfl) ?_ _
                      clear hHeld hHeld32
                      go_wp2
                      go_ret
                      first | exact ⟨true, rfl, by simpa using HTw.out, HB5.out⟩ | exact ⟨rfl, by simpa using HTw.out, HB5.out⟩
                    · have HN2 := HNB (fun h => hat h.1)
                      have hc0 : cmpE x y ≠ 0 := fun h => hat (cmpE_zero.1 h)
                      obtain ⟨cc, hcc⟩ : ∃ cc, cmpE x y = cc := ⟨_, rfl⟩
                      simp only [hcc] at CC
                      rw [hcc] at hc0
                      have hcb : (cc == 0) = false := by simpa using hc0
                      have HCM := Lib.hid CC
                      clear CC hat hss HNB hcc hc0
                      go_wp2
                      refine wp_region_held_drew (S := (fun W => W.cell? (pa.add i) = some (.slice (some ai) ni ci) ∧ W.cell? (pa.add j) = some (.slice (some aj) nj cj) ∧ W.cell? (ai.add (a * 5)) = some (.int .i64 x.v) ∧ W.cell? ⟨(ai.add (a * 5)).block, (ai.add (a * 5)).off + 1, none⟩ = some (.string x.c) ∧ W.cell? ⟨(ai.add (a * 5)).block, (ai.add (a * 5)).off + 2, none⟩ = some (.int .i64 x.i) ∧ W.cell? ⟨(ai.add (a * 5)).block, (ai.add (a * 5)).off + 3, none⟩ = some (.int .i64 x.s) ∧ W.cell? ⟨(ai.add (a * 5)).block, (ai.add (a * 5)).off + 4, none⟩ = some (.bool x.d) ∧ W.cell? (aj.add (b * 5)) = some (.int .i64 y.v) ∧ W.cell? ⟨(aj.add (b * 5)).block, (aj.add (b * 5)).off + 1, none⟩ = some (.string y.c) ∧ W.cell? ⟨(aj.add (b * 5)).block, (aj.add (b * 5)).off + 2, none⟩ = some (.int .i64 y.i) ∧ W.cell? ⟨(aj.add (b * 5)).block, (aj.add (b * 5)).off + 3, none⟩ = some (.int .i64 y.s) ∧ W.cell? ⟨(aj.add (b * 5)).block, (aj.add (b * 5)).off + 4, none⟩ = some (.bool y.d))) (by kernel_rfl) ?_ (fun hHeld => ?_)
                      · exact HSK.out _ HB4.out.drew
                      refine wpAnyH_take (i := 0) (oi := { dst := some 36, op := Op.move (Operand.tmp 0), type := 43, pos := "kindredref7.go:68", after := #[], guard := none }) (v := ?_) rfl (by kernel_rfl) (by kernel_rfl) (by kernel_rfl) (fun _ _ _ h => h) (Or.inl ⟨by rfl, ?_⟩) (by assumption) ?_
                      rotate_left 1
                      · intro w hSw
                        (try dsimp only at hSw)
                        go_simp
                        try with_reducible rfl
                      (try simp only [Act.put, List.setIfInBounds_toArray, List.set_cons_zero, List.set_cons_succ])
                      refine wpAnyH_take (i := 1) (oi := { dst := some 37, op := Op.move (Operand.tmp 3), type := 3, pos := "kindredref7.go:68", after := #[], guard := none }) (v := ?_) rfl (by kernel_rfl) (by kernel_rfl) (by kernel_rfl) (fun _ _ _ h => h) (Or.inl ⟨by rfl, ?_⟩) (by assumption) ?_
                      rotate_left 1
                      · intro w hSw
                        (try dsimp only at hSw)
                        go_simp
                        try with_reducible rfl
                      (try simp only [Act.put, List.setIfInBounds_toArray, List.set_cons_zero, List.set_cons_succ])
                      refine wpAnyH_take (i := 2) (oi := { dst := some 38, op := Op.indexAddr 43 (Operand.tmp 36) (Operand.tmp 37), type := 0, pos := "kindredref7.go:68", after := #[{ on := 0, ground := Ground.data }, { on := 1, ground := Ground.data }], guard := none }) (v := ?_) rfl (by kernel_rfl) (by kernel_rfl) (by kernel_rfl) (fun _ _ _ h => h) (Or.inl ⟨by rfl, ?_⟩) (by assumption) ?_
                      rotate_left 1
                      · intro w hSw
                        (try dsimp only at hSw)
                        go_simp
                        try with_reducible rfl
                      (try simp only [Act.put, List.setIfInBounds_toArray, List.set_cons_zero, List.set_cons_succ])
                      refine wpAnyH_take (i := 3) (oi := { dst := some 39, op := Op.load 25 (Operand.tmp 38), type := 25, pos := "kindredref7.go:68", after := #[{ on := 2, ground := Ground.data }], guard := none }) (v := ?_) rfl (by kernel_rfl) (by kernel_rfl) (by kernel_rfl) (fun _ _ _ h => h) (Or.inl ⟨by rfl, ?_⟩) (by assumption) ?_
                      rotate_left 1
                      · intro w hSw
                        (try dsimp only at hSw)
                        go_simp
                        try with_reducible rfl
                      (try simp only [Act.put, List.setIfInBounds_toArray, List.set_cons_zero, List.set_cons_succ])
                      refine wpAnyH_take (i := 4) (oi := { dst := some 40, op := Op.move (Operand.tmp 5), type := 3, pos := "kindredref7.go:68", after := #[], guard := none }) (v := ?_) rfl (by kernel_rfl) (by kernel_rfl) (by kernel_rfl) (fun _ _ _ h => h) (Or.inl ⟨by rfl, ?_⟩) (by assumption) ?_
                      rotate_left 1
                      · intro w hSw
                        (try dsimp only at hSw)
                        go_simp
                        try with_reducible rfl
                      (try simp only [Act.put, List.setIfInBounds_toArray, List.set_cons_zero, List.set_cons_succ])
                      refine wpAnyH_take (i := 5) (oi := { dst := some 41, op := Op.indexAddr 25 (Operand.tmp 39) (Operand.tmp 40), type := 0, pos := "kindredref7.go:68", after := #[{ on := 3, ground := Ground.data }, { on := 4, ground := Ground.data }], guard := none }) (v := ?_) rfl (by kernel_rfl) (by kernel_rfl) (by kernel_rfl) (fun _ _ _ h => h) (Or.inl ⟨by rfl, ?_⟩) (by assumption) ?_
                      rotate_left 1
                      · intro w hSw
                        (try dsimp only at hSw)
                        go_simp
                        try with_reducible rfl
                      (try simp only [Act.put, List.setIfInBounds_toArray, List.set_cons_zero, List.set_cons_succ])
                      refine wpAnyH_take (i := 6) (oi := { dst := some 42, op := Op.fieldAddr 24 (Operand.tmp 41) 3, type := 0, pos := "kindredref7.go:68", after := #[{ on := 5, ground := Ground.data }], guard := none }) (v := ?_) rfl (by kernel_rfl) (by kernel_rfl) (by kernel_rfl) (fun _ _ _ h => h) (Or.inl ⟨by rfl, ?_⟩) (by assumption) ?_
                      rotate_left 1
                      · intro w hSw
                        (try dsimp only at hSw)
                        go_simp
                        try with_reducible rfl
                      (try simp only [Act.put, List.setIfInBounds_toArray, List.set_cons_zero, List.set_cons_succ])
                      refine wpAnyH_take (i := 7) (oi := { dst := some 43, op := Op.load 3 (Operand.tmp 42), type := 3, pos := "kindredref7.go:68", after := #[{ on := 6, ground := Ground.data }], guard := none }) (v := ?_) rfl (by kernel_rfl) (by kernel_rfl) (by kernel_rfl) (fun _ _ _ h => h) (Or.inl ⟨by rfl, ?_⟩) (by assumption) ?_
                      rotate_left 1
                      · intro w hSw
                        (try dsimp only at hSw)
                        go_simp
                        try with_reducible rfl
                      (try simp only [Act.put, List.setIfInBounds_toArray, List.set_cons_zero, List.set_cons_succ])
                      refine wpAnyH_take (i := 8) (oi := { dst := some 44, op := Op.move (Operand.tmp 0), type := 43, pos := "kindredref7.go:68", after := #[], guard := none }) (v := ?_) rfl (by kernel_rfl) (by kernel_rfl) (by kernel_rfl) (fun _ _ _ h => h) (Or.inl ⟨by rfl, ?_⟩) (by assumption) ?_
                      rotate_left 1
                      · intro w hSw
                        (try dsimp only at hSw)
                        go_simp
                        try with_reducible rfl
                      (try simp only [Act.put, List.setIfInBounds_toArray, List.set_cons_zero, List.set_cons_succ])
                      refine wpAnyH_take (i := 9) (oi := { dst := some 45, op := Op.move (Operand.tmp 4), type := 3, pos := "kindredref7.go:68", after := #[], guard := none }) (v := ?_) rfl (by kernel_rfl) (by kernel_rfl) (by kernel_rfl) (fun _ _ _ h => h) (Or.inl ⟨by rfl, ?_⟩) (by assumption) ?_
                      rotate_left 1
                      · intro w hSw
                        (try dsimp only at hSw)
                        go_simp
                        try with_reducible rfl
                      (try simp only [Act.put, List.setIfInBounds_toArray, List.set_cons_zero, List.set_cons_succ])
                      refine wpAnyH_take (i := 10) (oi := { dst := some 46, op := Op.indexAddr 43 (Operand.tmp 44) (Operand.tmp 45), type := 0, pos := "kindredref7.go:68", after := #[{ on := 8, ground := Ground.data }, { on := 9, ground := Ground.data }], guard := none }) (v := ?_) rfl (by kernel_rfl) (by kernel_rfl) (by kernel_rfl) (fun _ _ _ h => h) (Or.inl ⟨by rfl, ?_⟩) (by assumption) ?_
                      rotate_left 1
                      · intro w hSw
                        (try dsimp only at hSw)
                        go_simp
                        try with_reducible rfl
                      (try simp only [Act.put, List.setIfInBounds_toArray, List.set_cons_zero, List.set_cons_succ])
                      refine wpAnyH_take (i := 11) (oi := { dst := some 47, op := Op.load 25 (Operand.tmp 46), type := 25, pos := "kindredref7.go:68", after := #[{ on := 10, ground := Ground.data }], guard := none }) (v := ?_) rfl (by kernel_rfl) (by kernel_rfl) (by kernel_rfl) (fun _ _ _ h => h) (Or.inl ⟨by rfl, ?_⟩) (by assumption) ?_
                      rotate_left 1
                      · intro w hSw
                        (try dsimp only at hSw)
                        go_simp
                        try with_reducible rfl
                      (try simp only [Act.put, List.setIfInBounds_toArray, List.set_cons_zero, List.set_cons_succ])
                      refine wpAnyH_take (i := 12) (oi := { dst := some 48, op := Op.move (Operand.tmp 6), type := 3, pos := "kindredref7.go:68", after := #[], guard := none }) (v := ?_) rfl (by kernel_rfl) (by kernel_rfl) (by kernel_rfl) (fun _ _ _ h => h) (Or.inl ⟨by rfl, ?_⟩) (by assumption) ?_
                      rotate_left 1
                      · intro w hSw
                        (try dsimp only at hSw)
                        go_simp
                        try with_reducible rfl
                      (try simp only [Act.put, List.setIfInBounds_toArray, List.set_cons_zero, List.set_cons_succ])
                      refine wpAnyH_take (i := 13) (oi := { dst := some 49, op := Op.indexAddr 25 (Operand.tmp 47) (Operand.tmp 48), type := 0, pos := "kindredref7.go:68", after := #[{ on := 11, ground := Ground.data }, { on := 12, ground := Ground.data }], guard := none }) (v := ?_) rfl (by kernel_rfl) (by kernel_rfl) (by kernel_rfl) (fun _ _ _ h => h) (Or.inl ⟨by rfl, ?_⟩) (by assumption) ?_
                      rotate_left 1
                      · intro w hSw
                        (try dsimp only at hSw)
                        go_simp
                        try with_reducible rfl
                      (try simp only [Act.put, List.setIfInBounds_toArray, List.set_cons_zero, List.set_cons_succ])
                      refine wpAnyH_take (i := 14) (oi := { dst := some 50, op := Op.fieldAddr 24 (Operand.tmp 49) 3, type := 0, pos := "kindredref7.go:68", after := #[{ on := 13, ground := Ground.data }], guard := none }) (v := ?_) rfl (by kernel_rfl) (by kernel_rfl) (by kernel_rfl) (fun _ _ _ h => h) (Or.inl ⟨by rfl, ?_⟩) (by assumption) ?_
                      rotate_left 1
                      · intro w hSw
                        (try dsimp only at hSw)
                        go_simp
                        try with_reducible rfl
                      (try simp only [Act.put, List.setIfInBounds_toArray, List.set_cons_zero, List.set_cons_succ])
                      refine wpAnyH_take (i := 15) (oi := { dst := some 51, op := Op.load 3 (Operand.tmp 50), type := 3, pos := "kindredref7.go:68", after := #[{ on := 14, ground := Ground.data }], guard := none }) (v := ?_) rfl (by kernel_rfl) (by kernel_rfl) (by kernel_rfl) (fun _ _ _ h => h) (Or.inl ⟨by rfl, ?_⟩) (by assumption) ?_
                      rotate_left 1
                      · intro w hSw
                        (try dsimp only at hSw)
                        go_simp
                        try with_reducible rfl
                      (try simp only [Act.put, List.setIfInBounds_toArray, List.set_cons_zero, List.set_cons_succ])
                      refine wpAnyH_take (i := 16) (oi := { dst := some 52, op := Op.binOp BinOp.eql 3 (Operand.tmp 43) (Operand.tmp 51) 3, type := 4, pos := "kindredref7.go:68", after := #[{ on := 7, ground := Ground.data }, { on := 15, ground := Ground.data }], guard := none }) (v := ?_) rfl (by kernel_rfl) (by kernel_rfl) (by kernel_rfl) (fun _ _ _ h => h) (Or.inl ⟨by rfl, ?_⟩) (by assumption) ?_
                      rotate_left 1
                      · intro w hSw
                        (try dsimp only at hSw)
                        go_simp
                        try with_reducible rfl
                      (try simp only [Act.put, List.setIfInBounds_toArray, List.set_cons_zero, List.set_cons_succ])
                      refine wpAnyH_take (i := 17) (oi := { dst := some 53, op := Op.move (Operand.tmp 52), type := 4, pos := "kindredref7.go:68", after := #[{ on := 16, ground := Ground.data }], guard := none }) (v := ?_) rfl (by kernel_rfl) (by kernel_rfl) (by kernel_rfl) (fun _ _ _ h => h) (Or.inl ⟨by rfl, ?_⟩) (by assumption) ?_
                      rotate_left 1
                      · intro w hSw
                        (try dsimp only at hSw)
                        go_simp
                        try with_reducible rfl
                      (try simp only [Act.put, List.setIfInBounds_toArray, List.set_cons_zero, List.set_cons_succ])
                      refine wpAnyH_take (i := 18) (oi := { dst := some 54, op := Op.move (Operand.tmp 0), type := 43, pos := "kindredref7.go:68", after := #[{ on := 17, ground := Ground.guard }], guard := some (17, true) }) (v := ?_) rfl (by kernel_rfl) (by kernel_rfl) (by kernel_rfl) (fun _ _ _ h => h) (Or.inl ⟨by rfl, ?_⟩) (by assumption) ?_
                      rotate_left 1
                      · intro w hSw
                        (try dsimp only at hSw)
                        go_simp
                        try with_reducible rfl
                      (try simp only [Act.put, List.setIfInBounds_toArray, List.set_cons_zero, List.set_cons_succ])
                      refine wpAnyH_take (i := 19) (oi := { dst := some 55, op := Op.move (Operand.tmp 3), type := 3, pos := "kindredref7.go:68", after := #[{ on := 17, ground := Ground.guard }], guard := some (17, true) }) (v := ?_) rfl (by kernel_rfl) (by kernel_rfl) (by kernel_rfl) (fun _ _ _ h => h) (Or.inl ⟨by rfl, ?_⟩) (by assumption) ?_
                      rotate_left 1
                      · intro w hSw
                        (try dsimp only at hSw)
                        go_simp
                        try with_reducible rfl
                      (try simp only [Act.put, List.setIfInBounds_toArray, List.set_cons_zero, List.set_cons_succ])
                      refine wpAnyH_take (i := 20) (oi := { dst := some 56, op := Op.indexAddr 43 (Operand.tmp 54) (Operand.tmp 55), type := 0, pos := "kindredref7.go:68", after := #[{ on := 18, ground := Ground.data }, { on := 19, ground := Ground.data }, { on := 17, ground := Ground.guard }], guard := some (17, true) }) (v := ?_) rfl (by kernel_rfl) (by kernel_rfl) (by kernel_rfl) (fun _ _ _ h => h) (Or.inl ⟨by rfl, ?_⟩) (by assumption) ?_
                      rotate_left 1
                      · intro w hSw
                        (try dsimp only at hSw)
                        go_simp
                        try with_reducible rfl
                      (try simp only [Act.put, List.setIfInBounds_toArray, List.set_cons_zero, List.set_cons_succ])
                      refine wpAnyH_take (i := 21) (oi := { dst := some 57, op := Op.load 25 (Operand.tmp 56), type := 25, pos := "kindredref7.go:68", after := #[{ on := 20, ground := Ground.data }, { on := 17, ground := Ground.guard }], guard := some (17, true) }) (v := ?_) rfl (by kernel_rfl) (by kernel_rfl) (by kernel_rfl) (fun _ _ _ h => h) (Or.inl ⟨by rfl, ?_⟩) (by assumption) ?_
                      rotate_left 1
                      · intro w hSw
                        (try dsimp only at hSw)
                        go_simp
                        try with_reducible rfl
                      (try simp only [Act.put, List.setIfInBounds_toArray, List.set_cons_zero, List.set_cons_succ])
                      refine wpAnyH_take (i := 22) (oi := { dst := some 58, op := Op.move (Operand.tmp 5), type := 3, pos := "kindredref7.go:68", after := #[{ on := 17, ground := Ground.guard }], guard := some (17, true) }) (v := ?_) rfl (by kernel_rfl) (by kernel_rfl) (by kernel_rfl) (fun _ _ _ h => h) (Or.inl ⟨by rfl, ?_⟩) (by assumption) ?_
                      rotate_left 1
                      · intro w hSw
                        (try dsimp only at hSw)
                        go_simp
                        try with_reducible rfl
                      (try simp only [Act.put, List.setIfInBounds_toArray, List.set_cons_zero, List.set_cons_succ])
                      refine wpAnyH_take (i := 23) (oi := { dst := some 59, op := Op.indexAddr 25 (Operand.tmp 57) (Operand.tmp 58), type := 0, pos := "kindredref7.go:68", after := #[{ on := 21, ground := Ground.data }, { on := 22, ground := Ground.data }, { on := 17, ground := Ground.guard }], guard := some (17, true) }) (v := ?_) rfl (by kernel_rfl) (by kernel_rfl) (by kernel_rfl) (fun _ _ _ h => h) (Or.inl ⟨by rfl, ?_⟩) (by assumption) ?_
                      rotate_left 1
                      · intro w hSw
                        (try dsimp only at hSw)
                        go_simp
                        try with_reducible rfl
                      (try simp only [Act.put, List.setIfInBounds_toArray, List.set_cons_zero, List.set_cons_succ])
                      refine wpAnyH_take (i := 24) (oi := { dst := some 60, op := Op.load 24 (Operand.tmp 59), type := 24, pos := "kindredref7.go:68", after := #[{ on := 23, ground := Ground.data }, { on := 17, ground := Ground.guard }], guard := some (17, true) }) (v := ?_) rfl (by kernel_rfl) (by kernel_rfl) (by kernel_rfl) (fun _ _ _ h => h) (Or.inl ⟨by rfl, ?_⟩) (by assumption) ?_
                      rotate_left 1
                      · intro w hSw
                        (try dsimp only at hSw)
                        go_simp
                        try with_reducible rfl
                      (try simp only [Act.put, List.setIfInBounds_toArray, List.set_cons_zero, List.set_cons_succ])
                      refine wpAnyH_take (i := 25) (oi := { dst := some 61, op := Op.move (Operand.tmp 0), type := 43, pos := "kindredref7.go:68", after := #[{ on := 17, ground := Ground.guard }], guard := some (17, true) }) (v := ?_) rfl (by kernel_rfl) (by kernel_rfl) (by kernel_rfl) (fun _ _ _ h => h) (Or.inl ⟨by rfl, ?_⟩) (by assumption) ?_
                      rotate_left 1
                      · intro w hSw
                        (try dsimp only at hSw)
                        go_simp
                        try with_reducible rfl
                      (try simp only [Act.put, List.setIfInBounds_toArray, List.set_cons_zero, List.set_cons_succ])
                      refine wpAnyH_take (i := 26) (oi := { dst := some 62, op := Op.move (Operand.tmp 4), type := 3, pos := "kindredref7.go:68", after := #[{ on := 17, ground := Ground.guard }], guard := some (17, true) }) (v := ?_) rfl (by kernel_rfl) (by kernel_rfl) (by kernel_rfl) (fun _ _ _ h => h) (Or.inl ⟨by rfl, ?_⟩) (by assumption) ?_
                      rotate_left 1
                      · intro w hSw
                        (try dsimp only at hSw)
                        go_simp
                        try with_reducible rfl
                      (try simp only [Act.put, List.setIfInBounds_toArray, List.set_cons_zero, List.set_cons_succ])
                      refine wpAnyH_take (i := 27) (oi := { dst := some 63, op := Op.indexAddr 43 (Operand.tmp 61) (Operand.tmp 62), type := 0, pos := "kindredref7.go:68", after := #[{ on := 25, ground := Ground.data }, { on := 26, ground := Ground.data }, { on := 17, ground := Ground.guard }], guard := some (17, true) }) (v := ?_) rfl (by kernel_rfl) (by kernel_rfl) (by kernel_rfl) (fun _ _ _ h => h) (Or.inl ⟨by rfl, ?_⟩) (by assumption) ?_
                      rotate_left 1
                      · intro w hSw
                        (try dsimp only at hSw)
                        go_simp
                        try with_reducible rfl
                      (try simp only [Act.put, List.setIfInBounds_toArray, List.set_cons_zero, List.set_cons_succ])
                      refine wpAnyH_take (i := 28) (oi := { dst := some 64, op := Op.load 25 (Operand.tmp 63), type := 25, pos := "kindredref7.go:68", after := #[{ on := 27, ground := Ground.data }, { on := 17, ground := Ground.guard }], guard := some (17, true) }) (v := ?_) rfl (by kernel_rfl) (by kernel_rfl) (by kernel_rfl) (fun _ _ _ h => h) (Or.inl ⟨by rfl, ?_⟩) (by assumption) ?_
                      rotate_left 1
                      · intro w hSw
                        (try dsimp only at hSw)
                        go_simp
                        try with_reducible rfl
                      (try simp only [Act.put, List.setIfInBounds_toArray, List.set_cons_zero, List.set_cons_succ])
                      refine wpAnyH_take (i := 29) (oi := { dst := some 65, op := Op.move (Operand.tmp 6), type := 3, pos := "kindredref7.go:68", after := #[{ on := 17, ground := Ground.guard }], guard := some (17, true) }) (v := ?_) rfl (by kernel_rfl) (by kernel_rfl) (by kernel_rfl) (fun _ _ _ h => h) (Or.inl ⟨by rfl, ?_⟩) (by assumption) ?_
                      rotate_left 1
                      · intro w hSw
                        (try dsimp only at hSw)
                        go_simp
                        try with_reducible rfl
                      (try simp only [Act.put, List.setIfInBounds_toArray, List.set_cons_zero, List.set_cons_succ])
                      refine wpAnyH_take (i := 30) (oi := { dst := some 66, op := Op.indexAddr 25 (Operand.tmp 64) (Operand.tmp 65), type := 0, pos := "kindredref7.go:68", after := #[{ on := 28, ground := Ground.data }, { on := 29, ground := Ground.data }, { on := 17, ground := Ground.guard }], guard := some (17, true) }) (v := ?_) rfl (by kernel_rfl) (by kernel_rfl) (by kernel_rfl) (fun _ _ _ h => h) (Or.inl ⟨by rfl, ?_⟩) (by assumption) ?_
                      rotate_left 1
                      · intro w hSw
                        (try dsimp only at hSw)
                        go_simp
                        try with_reducible rfl
                      (try simp only [Act.put, List.setIfInBounds_toArray, List.set_cons_zero, List.set_cons_succ])
                      refine wpAnyH_take (i := 31) (oi := { dst := some 67, op := Op.load 24 (Operand.tmp 66), type := 24, pos := "kindredref7.go:68", after := #[{ on := 30, ground := Ground.data }, { on := 17, ground := Ground.guard }], guard := some (17, true) }) (v := ?_) rfl (by kernel_rfl) (by kernel_rfl) (by kernel_rfl) (fun _ _ _ h => h) (Or.inl ⟨by rfl, ?_⟩) (by assumption) ?_
                      rotate_left 1
                      · intro w hSw
                        (try dsimp only at hSw)
                        go_simp
                        try with_reducible rfl
                      (try simp only [Act.put, List.setIfInBounds_toArray, List.set_cons_zero, List.set_cons_succ])
                      refine wpAnyH_ready (rs := [32]) (by kernel_rfl) (by simp) ?_
                      refine AllReadyH.cons (o := { dst := some 68, op := Op.call { callee := Callee.value (Operand.func 11), args := #[Operand.tmp 60, Operand.tmp 67], argTypes := #[24, 24] }, type := 3, pos := "kindredref7.go:68", after := #[{ on := 24, ground := Ground.data }, { on := 31, ground := Ground.data }, { on := 17, ground := Ground.chain }, { on := 17, ground := Ground.guard }], guard := some (17, true) }) rfl (fun K hK => ?_) ?_
                      rotate_left 1
                      · exact AllReadyH.nil
                      go_simp
                      go_at_call 11; refine (HCM.out _).mono ?_; rintro e w5 ⟨rfl, hb5⟩; have HB5 := Lib.hid (HB4.out.trans ((below_of_drew hb5).mono HB4.out.size)); clear hb5
                      refine hK.out _ _ ?_ (fun hHeld32 => ?_)
                      · exact HSK.out _ HB5.out
                      clear hK K
                      (try simp only [Act.put, List.setIfInBounds_toArray, List.set_cons_zero, List.set_cons_succ])
                      refine wpAnyH_take (i := 33) (oi := { dst := some 69, op := Op.binOp BinOp.eql 3 (Operand.tmp 68) (Operand.const (Value.int IntKind.i64 0)) 3, type := 4, pos := "kindredref7.go:68", after := #[{ on := 32, ground := Ground.data }, { on := 17, ground := Ground.guard }], guard := some (17, true) }) (v := ?_) rfl (by kernel_rfl) (by kernel_rfl) (by kernel_rfl) (fun _ _ _ h => h) (Or.inl ⟨by rfl, ?_⟩) (by assumption) ?_
                      rotate_left 1
                      · intro w hSw
                        (try dsimp only at hSw)
                        go_simp
                        try with_reducible rfl
                      (try simp only [Act.put, List.setIfInBounds_toArray, List.set_cons_zero, List.set_cons_succ])
                      refine wpAnyH_take (i := 34) (oi := { dst := some 70, op := Op.pick (Operand.tmp 53) (Operand.tmp 69) (Operand.const (Value.bool false)), type := 4, pos := "kindredref7.go:68", after := #[{ on := 17, ground := Ground.data }, { on := 33, ground := Ground.data }], guard := none }) (v := ?_) rfl (by kernel_rfl) (by kernel_rfl) (by kernel_rfl) (fun _ _ _ h => h) (Or.inl ⟨by rfl, ?_⟩) (by assumption) ?_
                      rotate_left 1
                      · intro w hSw
                        (try dsimp only at hSw)
                        go_simp
                        try with_reducible rfl
                      (try simp only [Act.put, List.setIfInBounds_toArray, List.set_cons_zero, List.set_cons_succ])
                      refine wpAnyH_done (by kernel_rfl) ?_ _
                      clear hHeld hHeld32
                      go_wp2
                      go_roundw
                      case rel => exact ⟨b + 1, by go_num, hltb, HN2, HB5.out⟩
                      case measure => simp [intOf]; omega
                  · have hsb : (x.s == y.s) = false := by simpa using hss
                    have HN2 := HNB (fun h => hss h.2)
                    clear CC hss HNB
                    go_wp2
                    refine wp_region_held_drew (S := (fun W => W.cell? (pa.add i) = some (.slice (some ai) ni ci) ∧ W.cell? (pa.add j) = some (.slice (some aj) nj cj) ∧ W.cell? (ai.add (a * 5)) = some (.int .i64 x.v) ∧ W.cell? ⟨(ai.add (a * 5)).block, (ai.add (a * 5)).off + 1, none⟩ = some (.string x.c) ∧ W.cell? ⟨(ai.add (a * 5)).block, (ai.add (a * 5)).off + 2, none⟩ = some (.int .i64 x.i) ∧ W.cell? ⟨(ai.add (a * 5)).block, (ai.add (a * 5)).off + 3, none⟩ = some (.int .i64 x.s) ∧ W.cell? ⟨(ai.add (a * 5)).block, (ai.add (a * 5)).off + 4, none⟩ = some (.bool x.d) ∧ W.cell? (aj.add (b * 5)) = some (.int .i64 y.v) ∧ W.cell? ⟨(aj.add (b * 5)).block, (aj.add (b * 5)).off + 1, none⟩ = some (.string y.c) ∧ W.cell? ⟨(aj.add (b * 5)).block, (aj.add (b * 5)).off + 2, none⟩ = some (.int .i64 y.i) ∧ W.cell? ⟨(aj.add (b * 5)).block, (aj.add (b * 5)).off + 3, none⟩ = some (.int .i64 y.s) ∧ W.cell? ⟨(aj.add (b * 5)).block, (aj.add (b * 5)).off + 4, none⟩ = some (.bool y.d))) (by kernel_rfl) ?_ (fun hHeld => ?_)
                    · exact HSK.out _ HB4.out.drew
                    refine wpAnyH_take (i := 0) (oi := { dst := some 36, op := Op.move (Operand.tmp 0), type := 43, pos := "kindredref7.go:68", after := #[], guard := none }) (v := ?_) rfl (by kernel_rfl) (by kernel_rfl) (by kernel_rfl) (fun _ _ _ h => h) (Or.inl ⟨by rfl, ?_⟩) (by assumption) ?_
                    rotate_left 1
                    · intro w hSw
                      (try dsimp only at hSw)
                      go_simp
                      try with_reducible rfl
                    (try simp only [Act.put, List.setIfInBounds_toArray, List.set_cons_zero, List.set_cons_succ])
                    refine wpAnyH_take (i := 1) (oi := { dst := some 37, op := Op.move (Operand.tmp 3), type := 3, pos := "kindredref7.go:68", after := #[], guard := none }) (v := ?_) rfl (by kernel_rfl) (by kernel_rfl) (by kernel_rfl) (fun _ _ _ h => h) (Or.inl ⟨by rfl, ?_⟩) (by assumption) ?_
                    rotate_left 1
                    · intro w hSw
                      (try dsimp only at hSw)
                      go_simp
                      try with_reducible rfl
                    (try simp only [Act.put, List.setIfInBounds_toArray, List.set_cons_zero, List.set_cons_succ])
                    refine wpAnyH_take (i := 2) (oi := { dst := some 38, op := Op.indexAddr 43 (Operand.tmp 36) (Operand.tmp 37), type := 0, pos := "kindredref7.go:68", after := #[{ on := 0, ground := Ground.data }, { on := 1, ground := Ground.data }], guard := none }) (v := ?_) rfl (by kernel_rfl) (by kernel_rfl) (by kernel_rfl) (fun _ _ _ h => h) (Or.inl ⟨by rfl, ?_⟩) (by assumption) ?_
                    rotate_left 1
                    · intro w hSw
                      (try dsimp only at hSw)
                      go_simp
                      try with_reducible rfl
                    (try simp only [Act.put, List.setIfInBounds_toArray, List.set_cons_zero, List.set_cons_succ])
                    refine wpAnyH_take (i := 3) (oi := { dst := some 39, op := Op.load 25 (Operand.tmp 38), type := 25, pos := "kindredref7.go:68", after := #[{ on := 2, ground := Ground.data }], guard := none }) (v := ?_) rfl (by kernel_rfl) (by kernel_rfl) (by kernel_rfl) (fun _ _ _ h => h) (Or.inl ⟨by rfl, ?_⟩) (by assumption) ?_
                    rotate_left 1
                    · intro w hSw
                      (try dsimp only at hSw)
                      go_simp
                      try with_reducible rfl
                    (try simp only [Act.put, List.setIfInBounds_toArray, List.set_cons_zero, List.set_cons_succ])
                    refine wpAnyH_take (i := 4) (oi := { dst := some 40, op := Op.move (Operand.tmp 5), type := 3, pos := "kindredref7.go:68", after := #[], guard := none }) (v := ?_) rfl (by kernel_rfl) (by kernel_rfl) (by kernel_rfl) (fun _ _ _ h => h) (Or.inl ⟨by rfl, ?_⟩) (by assumption) ?_
                    rotate_left 1
                    · intro w hSw
                      (try dsimp only at hSw)
                      go_simp
                      try with_reducible rfl
                    (try simp only [Act.put, List.setIfInBounds_toArray, List.set_cons_zero, List.set_cons_succ])
                    refine wpAnyH_take (i := 5) (oi := { dst := some 41, op := Op.indexAddr 25 (Operand.tmp 39) (Operand.tmp 40), type := 0, pos := "kindredref7.go:68", after := #[{ on := 3, ground := Ground.data }, { on := 4, ground := Ground.data }], guard := none }) (v := ?_) rfl (by kernel_rfl) (by kernel_rfl) (by kernel_rfl) (fun _ _ _ h => h) (Or.inl ⟨by rfl, ?_⟩) (by assumption) ?_
                    rotate_left 1
                    · intro w hSw
                      (try dsimp only at hSw)
                      go_simp
                      try with_reducible rfl
                    (try simp only [Act.put, List.setIfInBounds_toArray, List.set_cons_zero, List.set_cons_succ])
                    refine wpAnyH_take (i := 6) (oi := { dst := some 42, op := Op.fieldAddr 24 (Operand.tmp 41) 3, type := 0, pos := "kindredref7.go:68", after := #[{ on := 5, ground := Ground.data }], guard := none }) (v := ?_) rfl (by kernel_rfl) (by kernel_rfl) (by kernel_rfl) (fun _ _ _ h => h) (Or.inl ⟨by rfl, ?_⟩) (by assumption) ?_
                    rotate_left 1
                    · intro w hSw
                      (try dsimp only at hSw)
                      go_simp
                      try with_reducible rfl
                    (try simp only [Act.put, List.setIfInBounds_toArray, List.set_cons_zero, List.set_cons_succ])
                    refine wpAnyH_take (i := 7) (oi := { dst := some 43, op := Op.load 3 (Operand.tmp 42), type := 3, pos := "kindredref7.go:68", after := #[{ on := 6, ground := Ground.data }], guard := none }) (v := ?_) rfl (by kernel_rfl) (by kernel_rfl) (by kernel_rfl) (fun _ _ _ h => h) (Or.inl ⟨by rfl, ?_⟩) (by assumption) ?_
                    rotate_left 1
                    · intro w hSw
                      (try dsimp only at hSw)
                      go_simp
                      try with_reducible rfl
                    (try simp only [Act.put, List.setIfInBounds_toArray, List.set_cons_zero, List.set_cons_succ])
                    refine wpAnyH_take (i := 8) (oi := { dst := some 44, op := Op.move (Operand.tmp 0), type := 43, pos := "kindredref7.go:68", after := #[], guard := none }) (v := ?_) rfl (by kernel_rfl) (by kernel_rfl) (by kernel_rfl) (fun _ _ _ h => h) (Or.inl ⟨by rfl, ?_⟩) (by assumption) ?_
                    rotate_left 1
                    · intro w hSw
                      (try dsimp only at hSw)
                      go_simp
                      try with_reducible rfl
                    (try simp only [Act.put, List.setIfInBounds_toArray, List.set_cons_zero, List.set_cons_succ])
                    refine wpAnyH_take (i := 9) (oi := { dst := some 45, op := Op.move (Operand.tmp 4), type := 3, pos := "kindredref7.go:68", after := #[], guard := none }) (v := ?_) rfl (by kernel_rfl) (by kernel_rfl) (by kernel_rfl) (fun _ _ _ h => h) (Or.inl ⟨by rfl, ?_⟩) (by assumption) ?_
                    rotate_left 1
                    · intro w hSw
                      (try dsimp only at hSw)
                      go_simp
                      try with_reducible rfl
                    (try simp only [Act.put, List.setIfInBounds_toArray, List.set_cons_zero, List.set_cons_succ])
                    refine wpAnyH_take (i := 10) (oi := { dst := some 46, op := Op.indexAddr 43 (Operand.tmp 44) (Operand.tmp 45), type := 0, pos := "kindredref7.go:68", after := #[{ on := 8, ground := Ground.data }, { on := 9, ground := Ground.data }], guard := none }) (v := ?_) rfl (by kernel_rfl) (by kernel_rfl) (by kernel_rfl) (fun _ _ _ h => h) (Or.inl ⟨by rfl, ?_⟩) (by assumption) ?_
                    rotate_left 1
                    · intro w hSw
                      (try dsimp only at hSw)
                      go_simp
                      try with_reducible rfl
                    (try simp only [Act.put, List.setIfInBounds_toArray, List.set_cons_zero, List.set_cons_succ])
                    refine wpAnyH_take (i := 11) (oi := { dst := some 47, op := Op.load 25 (Operand.tmp 46), type := 25, pos := "kindredref7.go:68", after := #[{ on := 10, ground := Ground.data }], guard := none }) (v := ?_) rfl (by kernel_rfl) (by kernel_rfl) (by kernel_rfl) (fun _ _ _ h => h) (Or.inl ⟨by rfl, ?_⟩) (by assumption) ?_
                    rotate_left 1
                    · intro w hSw
                      (try dsimp only at hSw)
                      go_simp
                      try with_reducible rfl
                    (try simp only [Act.put, List.setIfInBounds_toArray, List.set_cons_zero, List.set_cons_succ])
                    refine wpAnyH_take (i := 12) (oi := { dst := some 48, op := Op.move (Operand.tmp 6), type := 3, pos := "kindredref7.go:68", after := #[], guard := none }) (v := ?_) rfl (by kernel_rfl) (by kernel_rfl) (by kernel_rfl) (fun _ _ _ h => h) (Or.inl ⟨by rfl, ?_⟩) (by assumption) ?_
                    rotate_left 1
                    · intro w hSw
                      (try dsimp only at hSw)
                      go_simp
                      try with_reducible rfl
                    (try simp only [Act.put, List.setIfInBounds_toArray, List.set_cons_zero, List.set_cons_succ])
                    refine wpAnyH_take (i := 13) (oi := { dst := some 49, op := Op.indexAddr 25 (Operand.tmp 47) (Operand.tmp 48), type := 0, pos := "kindredref7.go:68", after := #[{ on := 11, ground := Ground.data }, { on := 12, ground := Ground.data }], guard := none }) (v := ?_) rfl (by kernel_rfl) (by kernel_rfl) (by kernel_rfl) (fun _ _ _ h => h) (Or.inl ⟨by rfl, ?_⟩) (by assumption) ?_
                    rotate_left 1
                    · intro w hSw
                      (try dsimp only at hSw)
                      go_simp
                      try with_reducible rfl
                    (try simp only [Act.put, List.setIfInBounds_toArray, List.set_cons_zero, List.set_cons_succ])
                    refine wpAnyH_take (i := 14) (oi := { dst := some 50, op := Op.fieldAddr 24 (Operand.tmp 49) 3, type := 0, pos := "kindredref7.go:68", after := #[{ on := 13, ground := Ground.data }], guard := none }) (v := ?_) rfl (by kernel_rfl) (by kernel_rfl) (by kernel_rfl) (fun _ _ _ h => h) (Or.inl ⟨by rfl, ?_⟩) (by assumption) ?_
                    rotate_left 1
                    · intro w hSw
                      (try dsimp only at hSw)
                      go_simp
                      try with_reducible rfl
                    (try simp only [Act.put, List.setIfInBounds_toArray, List.set_cons_zero, List.set_cons_succ])
                    refine wpAnyH_take (i := 15) (oi := { dst := some 51, op := Op.load 3 (Operand.tmp 50), type := 3, pos := "kindredref7.go:68", after := #[{ on := 14, ground := Ground.data }], guard := none }) (v := ?_) rfl (by kernel_rfl) (by kernel_rfl) (by kernel_rfl) (fun _ _ _ h => h) (Or.inl ⟨by rfl, ?_⟩) (by assumption) ?_
                    rotate_left 1
                    · intro w hSw
                      (try dsimp only at hSw)
                      go_simp
                      try with_reducible rfl
                    (try simp only [Act.put, List.setIfInBounds_toArray, List.set_cons_zero, List.set_cons_succ])
                    refine wpAnyH_take (i := 16) (oi := { dst := some 52, op := Op.binOp BinOp.eql 3 (Operand.tmp 43) (Operand.tmp 51) 3, type := 4, pos := "kindredref7.go:68", after := #[{ on := 7, ground := Ground.data }, { on := 15, ground := Ground.data }], guard := none }) (v := ?_) rfl (by kernel_rfl) (by kernel_rfl) (by kernel_rfl) (fun _ _ _ h => h) (Or.inl ⟨by rfl, ?_⟩) (by assumption) ?_
                    rotate_left 1
                    · intro w hSw
                      (try dsimp only at hSw)
                      go_simp
                      try with_reducible rfl
                    (try simp only [Act.put, List.setIfInBounds_toArray, List.set_cons_zero, List.set_cons_succ])
                    refine wpAnyH_take (i := 17) (oi := { dst := some 53, op := Op.move (Operand.tmp 52), type := 4, pos := "kindredref7.go:68", after := #[{ on := 16, ground := Ground.data }], guard := none }) (v := ?_) rfl (by kernel_rfl) (by kernel_rfl) (by kernel_rfl) (fun _ _ _ h => h) (Or.inl ⟨by rfl, ?_⟩) (by assumption) ?_
                    rotate_left 1
                    · intro w hSw
                      (try dsimp only at hSw)
                      go_simp
                      try with_reducible rfl
                    (try simp only [Act.put, List.setIfInBounds_toArray, List.set_cons_zero, List.set_cons_succ])
                    refine wpAnyH_take (i := 18) (oi := { dst := some 54, op := Op.move (Operand.tmp 0), type := 43, pos := "kindredref7.go:68", after := #[{ on := 17, ground := Ground.guard }], guard := some (17, true) }) (v := undef) rfl (by kernel_rfl) (by kernel_rfl) (by kernel_rfl) (fun _ _ _ h => h) (Or.inr ⟨by rfl, rfl⟩) (by assumption) ?_
                    (try simp only [Act.put, List.setIfInBounds_toArray, List.set_cons_zero, List.set_cons_succ])
                    refine wpAnyH_take (i := 19) (oi := { dst := some 55, op := Op.move (Operand.tmp 3), type := 3, pos := "kindredref7.go:68", after := #[{ on := 17, ground := Ground.guard }], guard := some (17, true) }) (v := undef) rfl (by kernel_rfl) (by kernel_rfl) (by kernel_rfl) (fun _ _ _ h => h) (Or.inr ⟨by rfl, rfl⟩) (by assumption) ?_
                    (try simp only [Act.put, List.setIfInBounds_toArray, List.set_cons_zero, List.set_cons_succ])
                    refine wpAnyH_take (i := 20) (oi := { dst := some 56, op := Op.indexAddr 43 (Operand.tmp 54) (Operand.tmp 55), type := 0, pos := "kindredref7.go:68", after := #[{ on := 18, ground := Ground.data }, { on := 19, ground := Ground.data }, { on := 17, ground := Ground.guard }], guard := some (17, true) }) (v := undef) rfl (by kernel_rfl) (by kernel_rfl) (by kernel_rfl) (fun _ _ _ h => h) (Or.inr ⟨by rfl, rfl⟩) (by assumption) ?_
                    (try simp only [Act.put, List.setIfInBounds_toArray, List.set_cons_zero, List.set_cons_succ])
                    refine wpAnyH_take (i := 21) (oi := { dst := some 57, op := Op.load 25 (Operand.tmp 56), type := 25, pos := "kindredref7.go:68", after := #[{ on := 20, ground := Ground.data }, { on := 17, ground := Ground.guard }], guard := some (17, true) }) (v := undef) rfl (by kernel_rfl) (by kernel_rfl) (by kernel_rfl) (fun _ _ _ h => h) (Or.inr ⟨by rfl, rfl⟩) (by assumption) ?_
                    (try simp only [Act.put, List.setIfInBounds_toArray, List.set_cons_zero, List.set_cons_succ])
                    refine wpAnyH_take (i := 22) (oi := { dst := some 58, op := Op.move (Operand.tmp 5), type := 3, pos := "kindredref7.go:68", after := #[{ on := 17, ground := Ground.guard }], guard := some (17, true) }) (v := undef) rfl (by kernel_rfl) (by kernel_rfl) (by kernel_rfl) (fun _ _ _ h => h) (Or.inr ⟨by rfl, rfl⟩) (by assumption) ?_
                    (try simp only [Act.put, List.setIfInBounds_toArray, List.set_cons_zero, List.set_cons_succ])
                    refine wpAnyH_take (i := 23) (oi := { dst := some 59, op := Op.indexAddr 25 (Operand.tmp 57) (Operand.tmp 58), type := 0, pos := "kindredref7.go:68", after := #[{ on := 21, ground := Ground.data }, { on := 22, ground := Ground.data }, { on := 17, ground := Ground.guard }], guard := some (17, true) }) (v := undef) rfl (by kernel_rfl) (by kernel_rfl) (by kernel_rfl) (fun _ _ _ h => h) (Or.inr ⟨by rfl, rfl⟩) (by assumption) ?_
                    (try simp only [Act.put, List.setIfInBounds_toArray, List.set_cons_zero, List.set_cons_succ])
                    refine wpAnyH_take (i := 24) (oi := { dst := some 60, op := Op.load 24 (Operand.tmp 59), type := 24, pos := "kindredref7.go:68", after := #[{ on := 23, ground := Ground.data }, { on := 17, ground := Ground.guard }], guard := some (17, true) }) (v := undef) rfl (by kernel_rfl) (by kernel_rfl) (by kernel_rfl) (fun _ _ _ h => h) (Or.inr ⟨by rfl, rfl⟩) (by assumption) ?_
                    (try simp only [Act.put, List.setIfInBounds_toArray, List.set_cons_zero, List.set_cons_succ])
                    refine wpAnyH_take (i := 25) (oi := { dst := some 61, op := Op.move (Operand.tmp 0), type := 43, pos := "kindredref7.go:68", after := #[{ on := 17, ground := Ground.guard }], guard := some (17, true) }) (v := undef) rfl (by kernel_rfl) (by kernel_rfl) (by kernel_rfl) (fun _ _ _ h => h) (Or.inr ⟨by rfl, rfl⟩) (by assumption) ?_
                    (try simp only [Act.put, List.setIfInBounds_toArray, List.set_cons_zero, List.set_cons_succ])
                    refine wpAnyH_take (i := 26) (oi := { dst := some 62, op := Op.move (Operand.tmp 4), type := 3, pos := "kindredref7.go:68", after := #[{ on := 17, ground := Ground.guard }], guard := some (17, true) }) (v := undef) rfl (by kernel_rfl) (by kernel_rfl) (by kernel_rfl) (fun _ _ _ h => h) (Or.inr ⟨by rfl, rfl⟩) (by assumption) ?_
                    (try simp only [Act.put, List.setIfInBounds_toArray, List.set_cons_zero, List.set_cons_succ])
                    refine wpAnyH_take (i := 27) (oi := { dst := some 63, op := Op.indexAddr 43 (Operand.tmp 61) (Operand.tmp 62), type := 0, pos := "kindredref7.go:68", after := #[{ on := 25, ground := Ground.data }, { on := 26, ground := Ground.data }, { on := 17, ground := Ground.guard }], guard := some (17, true) }) (v := undef) rfl (by kernel_rfl) (by kernel_rfl) (by kernel_rfl) (fun _ _ _ h => h) (Or.inr ⟨by rfl, rfl⟩) (by assumption) ?_
                    (try simp only [Act.put, List.setIfInBounds_toArray, List.set_cons_zero, List.set_cons_succ])
                    refine wpAnyH_take (i := 28) (oi := { dst := some 64, op := Op.load 25 (Operand.tmp 63), type := 25, pos := "kindredref7.go:68", after := #[{ on := 27, ground := Ground.data }, { on := 17, ground := Ground.guard }], guard := some (17, true) }) (v := undef) rfl (by kernel_rfl) (by kernel_rfl) (by kernel_rfl) (fun _ _ _ h => h) (Or.inr ⟨by rfl, rfl⟩) (by assumption) ?_
                    (try simp only [Act.put, List.setIfInBounds_toArray, List.set_cons_zero, List.set_cons_succ])
                    refine wpAnyH_take (i := 29) (oi := { dst := some 65, op := Op.move (Operand.tmp 6), type := 3, pos := "kindredref7.go:68", after := #[{ on := 17, ground := Ground.guard }], guard := some (17, true) }) (v := undef) rfl (by kernel_rfl) (by kernel_rfl) (by kernel_rfl) (fun _ _ _ h => h) (Or.inr ⟨by rfl, rfl⟩) (by assumption) ?_
                    (try simp only [Act.put, List.setIfInBounds_toArray, List.set_cons_zero, List.set_cons_succ])
                    refine wpAnyH_take (i := 30) (oi := { dst := some 66, op := Op.indexAddr 25 (Operand.tmp 64) (Operand.tmp 65), type := 0, pos := "kindredref7.go:68", after := #[{ on := 28, ground := Ground.data }, { on := 29, ground := Ground.data }, { on := 17, ground := Ground.guard }], guard := some (17, true) }) (v := undef) rfl (by kernel_rfl) (by kernel_rfl) (by kernel_rfl) (fun _ _ _ h => h) (Or.inr ⟨by rfl, rfl⟩) (by assumption) ?_
                    (try simp only [Act.put, List.setIfInBounds_toArray, List.set_cons_zero, List.set_cons_succ])
                    refine wpAnyH_take (i := 31) (oi := { dst := some 67, op := Op.load 24 (Operand.tmp 66), type := 24, pos := "kindredref7.go:68", after := #[{ on := 30, ground := Ground.data }, { on := 17, ground := Ground.guard }], guard := some (17, true) }) (v := undef) rfl (by kernel_rfl) (by kernel_rfl) (by kernel_rfl) (fun _ _ _ h => h) (Or.inr ⟨by rfl, rfl⟩) (by assumption) ?_
                    (try simp only [Act.put, List.setIfInBounds_toArray, List.set_cons_zero, List.set_cons_succ])
                    refine wpAnyH_take (i := 32) (oi := { dst := some 68, op := Op.call { callee := Callee.value (Operand.func 11), args := #[Operand.tmp 60, Operand.tmp 67], argTypes := #[24, 24] }, type := 3, pos := "kindredref7.go:68", after := #[{ on := 24, ground := Ground.data }, { on := 31, ground := Ground.data }, { on := 17, ground := Ground.chain }, { on := 17, ground := Ground.guard }], guard := some (17, true) }) (v := undef) rfl (by kernel_rfl) (by kernel_rfl) (by kernel_rfl) (fun _ _ _ h => h) (Or.inr ⟨by rfl, rfl⟩) (by assumption) ?_
                    (try simp only [Act.put, List.setIfInBounds_toArray, List.set_cons_zero, List.set_cons_succ])
                    refine wpAnyH_take (i := 33) (oi := { dst := some 69, op := Op.binOp BinOp.eql 3 (Operand.tmp 68) (Operand.const (Value.int IntKind.i64 0)) 3, type := 4, pos := "kindredref7.go:68", after := #[{ on := 32, ground := Ground.data }, { on := 17, ground := Ground.guard }], guard := some (17, true) }) (v := undef) rfl (by kernel_rfl) (by kernel_rfl) (by kernel_rfl) (fun _ _ _ h => h) (Or.inr ⟨by rfl, rfl⟩) (by assumption) ?_
                    (try simp only [Act.put, List.setIfInBounds_toArray, List.set_cons_zero, List.set_cons_succ])
                    refine wpAnyH_take (i := 34) (oi := { dst := some 70, op := Op.pick (Operand.tmp 53) (Operand.tmp 69) (Operand.const (Value.bool false)), type := 4, pos := "kindredref7.go:68", after := #[{ on := 17, ground := Ground.data }, { on := 33, ground := Ground.data }], guard := none }) (v := ?_) rfl (by kernel_rfl) (by kernel_rfl) (by kernel_rfl) (fun _ _ _ h => h) (Or.inl ⟨by rfl, ?_⟩) (by assumption) ?_
                    rotate_left 1
                    · intro w hSw
                      (try dsimp only at hSw)
                      go_simp
                      try with_reducible rfl
                    (try simp only [Act.put, List.setIfInBounds_toArray, List.set_cons_zero, List.set_cons_succ])
                    refine wpAnyH_done (by kernel_rfl) ?_ _
                    clear hHeld
                    go_wp2
                    go_roundw
                    case rel => exact ⟨b + 1, by go_num, hltb, HN2, HB4.out.drew⟩
                    case measure => simp [intOf]; omega
                · obtain rfl : b = nj := by omega
                  have HA2 : Hid (∀ a', a' < a + 1 → ∀ x, Li[a']? = some x → ∀ y ∈ Lj, ¬ (eat x y ∧ x.s = y.s)) := Lib.hid (fun a' h x' hx' y hy => by
                    rcases Nat.lt_or_ge a' a with h1 | h1
                    · exact HA.out a' h1 x' hx' y hy
                    · obtain rfl : a' = a := by omega
                      rw [HX.out] at hx'
                      cases hx'
                      obtain ⟨b', hb'⟩ := List.getElem?_of_mem hy
                      exact HBB.out b' (by have := (List.getElem?_eq_some_iff.1 hb').1; have := HNj.out; omega) y hb')
                  have HB4 := Lib.hid hb4
                  have hnl : ¬ ((b : Int) < (b : Int)) := by omega
                  clear hb4
                  go_wp2
                  go_roundw
                  case rel => exact ⟨a + 1, by go_num, hlta, HA2, HB4.out⟩
                  case measure => simp [intOf]; omega
            · obtain rfl : a = ni := by omega
              have HJ2 : Hid (∀ j', j' < j + 1 → NoP lists i j') := Lib.hid (fun j' h => by
                rcases Nat.lt_or_ge j' j with h1 | h1
                · exact HJ.out j' h1
                · obtain rfl : j' = j := by omega
                  intro x hx y hy
                  rw [HLX.out] at hx
                  rw [HLY.out] at hy
                  obtain ⟨a', ha'⟩ := List.getElem?_of_mem hx
                  exact HA.out a' (by have := (List.getElem?_eq_some_iff.1 ha').1; have := HNi.out; omega) x ha' y hy)
              have HB3 := Lib.hid hb3
              have hnl : ¬ ((a : Int) < (a : Int)) := by omega
              clear hb3
              go_wp2
              go_roundw
              case rel => exact ⟨j + 1, by go_num, hltj, HJ2, HB3.out⟩
              case measure => simp [intOf]; omega
        · obtain rfl : j = i := by omega
          have HI2 : Hid (∀ i' j', j' < i' → i' < j + 1 → NoP lists i' j') := Lib.hid (fun i' j' h1 h2 => by
            rcases Nat.lt_or_ge i' j with h3 | h3
            · exact HI.out i' j' h1 h3
            · obtain rfl : i' = j := by omega
              exact HJ.out j' h1)
          have HB2 := Lib.hid hb2
          have hnl : ¬ ((j : Int) < (j : Int)) := by omega
          clear hb2
          go_wp2
          go_roundw
          case rel => exact ⟨j + 1, by go_num, hlt, HI2, HB2.out⟩
          case measure => simp [intOf]; omega
    · obtain rfl : i = n := by omega
      have HTn := Lib.hid (twice_no HN.out (fun i' j' h1 h2 => HI.out i' j' h1 h2))
      have HB1 := Lib.hid hb1
      have hnl : ¬ ((i : Int) < (i : Int)) := by omega
      clear hb1
      go_wp2
      go_ret
      first | exact ⟨false, rfl, by simpa using HTn.out, HB1.out⟩ | exact .inl ⟨rfl, HTn.out, HB1.out⟩
end Go.Proofs.Ytahdaccmokjgpaa
