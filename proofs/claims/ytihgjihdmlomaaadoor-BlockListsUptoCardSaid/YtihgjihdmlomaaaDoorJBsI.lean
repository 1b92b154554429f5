/-
  WALK: From of none, All (slices.Clone out of the shelf), Head, Reads.
-/
import Derived.Test.YtihgjihdmlomaaaDoorJBsH
import Derived.Shelf.SlicesE.Clone
namespace Go.Proofs.YtihgjihdmlomaaaDoor
open Go.RowKit ArgK Go.Shelf Go.Lib
set_option linter.unusedVariables false

def cloneEnt_ren : Go.Shelf.Ren := ⟨fun | 41 => 52 | n => n, fun | 4 => 4 | 22 => 24 | 23 => 33 | n => n, fun n => n⟩

theorem cloneEnt : SlLaysE0.n41 Tryd.prog cloneEnt_ren := {
  mixed := by kernel_rfl,
  f41 := ⟨Tryd.f52.name, by decide, Tryd.func52.trans (congrArg some (by kernel_rfl))⟩,
  t4 := Tryd.underlying4,
  a4 := Tryd.isAgg4,
  z4 := Tryd.sizeOf4,
  v4 := Tryd.zeroValue4,
  t22 := Tryd.underlying24,
  a22 := Tryd.isAgg24,
  z22 := Tryd.sizeOf24,
  v22 := Tryd.zeroValue24 }

theorem cloneE_calls {w : World} {base : Nat} {v : Value} {m : Nat} {L : List Ent} (h : w.ownsRow base 33 5 v m (encE L)) (hb : m * 48 ≤ 140737488355328) :
    Calls Tryd.prog 52 #[v] w fun e w' => ∃ v', e = .returned v' ∧ w'.ownsRow w.heap.size 33 5 v' m (encE L) ∧ Below w.heap.size w w' := by
  obtain ⟨i0, hi0, hz0, hz1, hz2⟩ := info_parts entinfo6
  rcases h.2 with ⟨rfl, rfl⟩ | ⟨g, cap, cur, rfl, hbg, hg, hnc, hcm, hcs, htake⟩
  · have C := AnyE.slices_Clone_nil cloneEnt 0 0 w
    change Calls Tryd.prog 52 _ _ _ at C
    have hL : L = [] := List.eq_nil_of_length_eq_zero (own_lenE h)
    subst hL
    exact C.mono fun e w' ⟨he, hw⟩ => ⟨_, he, by rw [hw]; exact ⟨rfl, .inl ⟨rfl, rfl⟩⟩, by rw [hw]; exact Below.refl _ _⟩
  · have C := AnyE.slices_Clone cloneEnt i0 _ 5 48 hi0 hz0 hz1 hz2 rfl (by decide) (fun w => Tryd.sizeOf33 w) g 0 m cap (encE L) w h.1 (by omega) hb
      (fun j u hj => by
        have hj' := (List.getElem?_eq_some_iff.1 hj).1
        rw [Nat.zero_add, h.cellAt j (by rw [← h.1]; exact hj')]; exact hj)
      encE_mem1
    change Calls Tryd.prog 52 _ _ _ at C
    exact C.mono fun e w' ⟨v', he, ho, _, hbl⟩ => ⟨v', he, ho, hbl⟩

theorem results_cell1 {fn : Func} {p : Tmp} {ty : TypeId} (h : fn.results = #[.cell p ty]) (tmps : Array Value) (P : Program) (w : World) :
    (results fn tmps).run P w = ((asAddr (tmps.getD p undef)).run P w).andThen fun a w₁ => (loadVar ty a).run P w₁ := by
  simp only [results, h]
  simp [Sem.run_bind, Result.andThen]

theorem FileAt.cells {w : World} {base fb : Nat} {h : Hd} {l : List Ent} {r : Int} (hF : FileAt w base fb h l r) :
    ∃ lv, w.ownsRow base 33 5 lv l.length (encE l) ∧ w.cell? ⟨fb, 0, none⟩ = some (.int .i64 h.w) ∧ w.cell? ⟨fb, 1, none⟩ = some (.int .i64 h.t) ∧ w.cell? ⟨fb, 2, none⟩ = some (.int .i64 h.b) ∧ w.cell? ⟨fb, 3, none⟩ = some (.int .i64 h.lo) ∧ w.cell? ⟨fb, 4, none⟩ = some (.int .i64 h.hi) ∧ w.cell? ⟨fb, 5, none⟩ = some (.int .i64 h.n) ∧
      w.cell? ⟨fb, 6, none⟩ = some lv ∧ w.cell? ⟨fb, 8, none⟩ = some (.int .i64 r) := by
  obtain ⟨lp, lc, q, c, h1, h2, _, _⟩ := hF
  exact ⟨_, h2, (arr_cell h1 (k := 0) rfl).1, (arr_cell h1 (k := 1) rfl).1, (arr_cell h1 (k := 2) rfl).1, (arr_cell h1 (k := 3) rfl).1, (arr_cell h1 (k := 4) rfl).1, (arr_cell h1 (k := 5) rfl).1, (arr_cell h1 (k := 6) rfl).1, (arr_cell h1 (k := 8) rfl).1⟩

theorem Reads_calls (base fb : Nat) (h : Hd) (l : List Ent) (r : Int) (w : World) (hF : FileAt w base fb h l r) :
    Calls Tryd.prog 18 #[.pointer (some ⟨fb, 0, none⟩)] w fun e w' => e = .returned (.int .i64 r) ∧ w' = w := by
  obtain ⟨lv, _, _, _, _, _, _, _, _, c8⟩ := hF.cells
  clear hF
  go_enter Tryd.func18, Tryd.ntmps18
  go_wp2
  go_ret
  exact ⟨rfl, rfl⟩

theorem Head_calls (base fb : Nat) (h : Hd) (l : List Ent) (r : Int) (w : World) (hF : FileAt w base fb h l r) :
    Calls Tryd.prog 29 #[.pointer (some ⟨fb, 0, none⟩)] w fun e w' => e = .returned h.val ∧ Below w.heap.size w w' := by
  obtain ⟨lv, _, c0, c1, c2, c3, c4, c5, _, _⟩ := hF.cells
  have hfb : fb < w.heap.size := by
    obtain ⟨_, _, _, _, h1, _⟩ := hF
    exact (Array.getElem?_eq_some_iff.1 h1).1
  clear hF
  have hn : ¬ (w.heap.size = fb) := by omega
  unfold Hd.val
  go_enter Tryd.func29, Tryd.ntmps29
  go_wp2
  refine bodyPost_ret (v := .agg #[.int .i64 h.w, .int .i64 h.t, .int .i64 h.b, .int .i64 h.lo, .int .i64 h.hi, .int .i64 h.n]) ?_ rfl ⟨rfl, (Below.refl _ w).alloc (Nat.le_refl _) _⟩
  rw [results_cell1 rfl]
  go_simp

theorem All_calls (base fb : Nat) (h : Hd) (l : List Ent) (r : Int) (w : World) (hF : FileAt w base fb h l r) (hl : l.length ≤ 2097152) :
    Calls Tryd.prog 24 #[.pointer (some ⟨fb, 0, none⟩)] w fun e w' => ∃ v, e = .returned v ∧ w'.ownsRow w.heap.size 33 5 v l.length (encE l) ∧ Below w.heap.size w w' := by
  obtain ⟨lv, ho, _, _, _, _, _, _, c6, _⟩ := hF.cells
  have C := Lib.hid (cloneE_calls ho (by omega))
  clear hF ho
  go_enter Tryd.func24, Tryd.ntmps24
  go_wp2_with fail
  refine C.out.mono ?_
  rintro e w1 ⟨v, rfl, h1, h2⟩
  go_wp2
  go_ret
  exact ⟨v, rfl, h1, h2⟩

theorem From0_calls (fb : Nat) (en : Ent) (most : Int) (hm : most < 1) (w : World) :
    Calls Tryd.prog 23 #[.pointer (some ⟨fb, 0, none⟩), en.val, .int .i64 most] w fun e w' => e = .returned (.slice none 0 0) ∧ Below w.heap.size w w' := by
  have hb : ∀ o1 o2 o3 : Obj, Below w.heap.size w (((w.alloc o1).alloc o2).alloc o3) := fun o1 o2 o3 => (((Below.refl _ w).alloc (Nat.le_refl _) o1).alloc (by simp) o2).alloc (by simp; omega) o3
  have HB := Lib.hid hb
  clear hb
  unfold Ent.val
  go_enter Tryd.func23, Tryd.ntmps23
  go_wp2
  go_ret
  exact ⟨rfl, HB.out _ _ _⟩
end Go.Proofs.YtihgjihdmlomaaaDoor
