/-
  WALK: the program's Sums.
-/
import Derived.Test.YtcdlmjbjpeokfaaDoorSumsN
namespace Go.Proofs.YtcdlmjbjpeokfaaDoor
open Go.RowKit Go.Shelf
set_option linter.unusedVariables false

theorem partinfo : (Tryd.prog.info? 36).map (fun i => (i.zero, i.size, i.bytes)) = some (some (.agg #[.int .i64 0, .int .i64 0]), 2, 16) := by kernel_rfl

/-- What Sums answers. -/
def sgR (dm sd : Int) (h : Nat) (zs : List (Int × Int)) : List (Int × Int) := if sgE dm zs = 0 then sgL sd h zs else []

set_option maxRecDepth 100000 in
theorem Sums_no (Bs : Nat) (e : Int) (he : e ≠ 0) (v : Value) (w : World) (hS : ∀ W, W = w → Calls Tryd.prog 17 #[.pointer (some ⟨Bs, 0, none⟩), v] W fun e' w' => e' = .returned (.tuple #[.slice none 0 0, .int .i64 e]) ∧ Below W.heap.size W w') :
    Calls Tryd.prog 13 #[.pointer (some ⟨Bs, 0, none⟩), v] w fun e' w' => e' = .returned (.tuple #[.slice none 0 0, .int .i64 e]) ∧ Below w.heap.size w w' := by
  have H := Lib.hid hS
  have hd : (e != 0) = true := by rw [bne_iff_ne]; exact he
  clear he hS
  go_enter Tryd.func13, Tryd.ntmps13
  go_wp2_with fail
  refine (H.out w rfl).mono ?_
  rintro _ w1 ⟨rfl, hb⟩
  go_wp2
  go_ret2
  exact ⟨rfl, hb⟩

set_option maxRecDepth 100000 in
set_option maxHeartbeats 1000000 in
theorem Sums_ok (Bs h : Nat) (sd : Int) (p : Option Addr) (cap : Nat) (zs : List (Int × Int)) (hh : h ≤ 512) (hh1 : 1 ≤ h) (hm : zs.length ≤ 1024) (hm0 : 1 ≤ zs.length) (hfit : zs.all fitsP = true) (w : World) (hz : PL w p zs) (hs : Sg w 48 Bs ((2 * h : Nat) : Int) zs.length sd) :
    Calls Tryd.prog 13 #[.pointer (some ⟨Bs, 0, none⟩), .slice p zs.length cap] w fun e w' => ∃ v, e = .returned (.tuple #[v, .int .i64 0]) ∧ w'.ownsRow w.heap.size 36 2 v h (encP (sgL sd h zs)) ∧ Below w.heap.size w w' := by
  obtain ⟨i0, hi, hy0, hy1, hy2⟩ := info_parts partinfo
  have hmk := fun W : World => run_make (P := Tryd.prog) W 23 36 i0 _ Tryd.underlying23 hi hy0 .i64 .i64 0 h (by omega) (by omega) (by rw [hy2]; omega) (by omega)
  have S := Lib.hid (sums_calls Bs h sd p cap zs hh hm hm0 hfit w hz hs)
  have LB := Lib.hid (sgL_bound (sd := sd) (h := h) hm hfit)
  have LL := Lib.hid (sgL_length sd h zs)
  have LG := Lib.hid (sgL_get sd h zs)
  generalize sgL sd h zs = L at LB LL LG ⊢
  clear hz hs hfit
  go_enter Tryd.func13, Tryd.ntmps13
  go_wp2_with fail
  refine S.out.mono ?_
  rintro _ w1 ⟨v, rfl, hb, xs, ho, hx⟩
  obtain ⟨q, cl, rfl, _, _, hr⟩ := own_rd ho
  obtain ⟨gl, rfl, hg0, hg1, hgc, _⟩ := hr (by omega)
  have HB := Lib.hid hb
  have HC := Lib.hid hgc
  have HX : Hid (∀ i, i < h → ∃ a b x, xs[i]? = some (.complex .f64 a b) ∧ L[i]? = some x ∧ IsW a x.1 ∧ IsW b x.2) := Lib.hid (fun i hi => by
    obtain ⟨a, b, h1, h2, h3⟩ := hx i hi
    exact ⟨a, b, _, h1, LG.out i hi, h2, h3⟩)
  have hs1 := hb.size
  clear hb ho hx hr hgc S LG
  go_wp2
  obtain ⟨g0, hg0'⟩ : ∃ g0, w1.heap.size = g0 := ⟨_, rfl⟩
  have HG0 := Lib.hid hg0'
  have HW1 := Lib.hid (World.ownsRow_made (base := w1.heap.size) (e := 36) (size := 2) w1 (madeCells #[.int .i64 0, .int .i64 0] (h * 2)) h (by simp) (by unfold maxLen; omega) (by simp [madeCells]))
  have HBa := Lib.hid ((Below.refl w1.heap.size w1).alloc (Nat.le_refl _) (.cells (madeCells #[.int .i64 0, .int .i64 0] (h * 2)) 36))
  generalize w1.alloc (.cells (madeCells #[.int .i64 0, .int .i64 0] (h * 2)) 36) = w2 at HW1 HBa ⊢
  rw [hg0'] at HW1 HBa hg1 hs1 ⊢
  clear hg0' hmk
  go_loopw [8, 25] (fun lv i ws => ∃ (k : Nat) (v : Value), k ≤ h ∧ i = .int .i64 k ∧ lv = v ∧ Hid (ws.ownsRow g0 36 2 v k (encP (L.take k))) ∧ Hid (Below g0 w1 ws)) (fun _ i _ => h - (intOf i).toNat)
  case atStart => exact ⟨0, _, Nat.zero_le _, rfl, rfl, HW1, HBa⟩
  case round =>
    obtain ⟨k, lv, hk, rfl, rfl, HV, HBr⟩ := hrel
    clear HW1 HBa
    by_cases hlt : k < h
    · have hki : (k : Int) < (h : Int) := by omega
      have hk0 : (0 : Int) ≤ (k : Int) := by omega
      obtain ⟨a, b, x, hxa, hxl, ia, ib⟩ := HX.out k hlt
      obtain ⟨b1, b2⟩ := LB.out x (List.mem_of_getElem? hxl)
      have c1 : wr.cell? ⟨gl, k, none⟩ = some (.complex .f64 a b) := (HBr.out.cell (p := ⟨gl, k, none⟩) hg1).trans ((HC.out k (by omega)).trans hxa)
      have v1 := fun W => run_convert_float_int (P := Tryd.prog) W 53 3 .f64 .i64 a x.1 (by kernel_rfl) Tryd.underlying3 (ia.toInt (by omega))
      have v2 := fun W => run_convert_float_int (P := Tryd.prog) W 53 3 .f64 .i64 b x.2 (by kernel_rfl) Tryd.underlying3 (ib.toInt (by omega))
      have HTK : Hid (encP (L.take (k + 1)) = encP (L.take k) ++ cellsP x) := Lib.hid (by rw [List.take_add_one, hxl]; exact encP_snoc _ _)
      have hsz : g0 ≤ wr.heap.size := by have := HBr.out.size; have := HG0.out; omega
      have chk1 : (k + 1) * 16 ≤ 140737488355328 := by omega
      have chk2 : k + 1 ≤ maxLen := by unfold maxLen; omega
      have chk3 : ∀ j u, (cellsP x)[j]? = some u → (wr.alloc (.cells #[.int .i64 x.1, .int .i64 x.2] 36)).cell? ((⟨wr.heap.size, 0, none⟩ : Addr).add j) = some u := World.news_of_block (heap_lastS wr _)
      have chk4 : ∀ u ∈ cellsP x, u.oneCell' = true := by simp [cellsP, Value.oneCell']
      have chk5 : g0 ≤ (wr.alloc (.cells #[.int .i64 x.1, .int .i64 x.2] 36)).heap.size := by rw [World.size_alloc]; omega
      clear hxa hxl ia ib
      go_wp2_with (at_builtin; refine wpList_append_own _ rfl _ _ 23 rfl g0 36 i0 _ 2 16 Tryd.underlying23 hi hy0 hy1 hy2 rfl (by decide) _ k _ rfl (HV.out.alloc _) ⟨wr.heap.size, 0, none⟩ 1 1 (cellsP x) rfl rfl chk3 chk4 chk2 chk1 chk5 ?_)
      intro v' w3 hown' hgrow _
      have N1 : Hid (w3.ownsRow g0 36 2 v' (k + 1) (encP (L.take (k + 1)))) := Lib.hid (by rw [HTK.out]; exact hown')
      have N2 := Lib.hid ((HBr.out.alloc hsz (.cells #[.int .i64 x.1, .int .i64 x.2] 36)).grown hgrow chk5 (fun b hb => (HV.out.lt b hb).1))
      clear hown' hgrow chk1 chk2 chk3 chk4 chk5 v1 v2 c1
      go_wp2
      go_roundw
      case rel => exact ⟨k + 1, _, hlt, by go_num, rfl, N1, N2⟩
      case measure => simp [intOf]; omega
    · obtain rfl : k = h := by omega
      have hge : ¬ ((k : Int) < (k : Int)) := by omega
      have hto : L.take k = L := List.take_of_length_le (by rw [LL.out]; exact Nat.le_refl _)
      have hv := HV.out
      rw [hto] at hv
      have HV2 := Lib.hid hv
      clear hv hto HV
      go_wp2
      go_ret2
      exact ⟨_, rfl, own_le HV2.out hs1, HB.out.trans (HBr.out.mono hs1)⟩

theorem Sums_calls (Bs h : Nat) (dm sd : Int) (p : Option Addr) (cap : Nat) (zs : List (Int × Int)) (hh : h ≤ 512) (hh1 : 1 ≤ h) (hd : 1 ≤ dm ∧ dm ≤ 1024) (w : World) (hz : PL w p zs) (hs : Sg w 48 Bs ((2 * h : Nat) : Int) dm sd) :
    Calls Tryd.prog 13 #[.pointer (some ⟨Bs, 0, none⟩), .slice p zs.length cap] w fun e w' => ∃ v, e = .returned (.tuple #[v, .int .i64 (sgE dm zs)]) ∧ w'.ownsRow w.heap.size 36 2 v (sgR dm sd h zs).length (encP (sgR dm sd h zs)) ∧ Below w.heap.size w w' := by
  unfold sgR
  rcases sgE_cases dm zs with ⟨h1, h2⟩ | ⟨h1, h2, h3⟩ | ⟨h1, h2, h3⟩
  · rw [h2, if_neg (by decide)]
    exact (Sums_no Bs 190 (by decide) _ w (fun W hW => by subst hW; exact sums_dims Bs _ dm sd p zs.length cap h1 W hs)).mono fun _ _ ⟨e, hb⟩ => ⟨_, e, World.ownsRow_nil _ _ _ _, hb⟩
  · rw [h3, if_pos rfl, sgL_length]
    subst h1
    exact Sums_ok Bs h sd p cap zs hh hh1 (by omega) (by omega) h2 w hz hs
  · rw [h3, if_neg (by decide)]
    subst h1
    exact (Sums_no Bs 191 (by decide) _ w (fun W hW => by subst hW; exact sums_part Bs _ sd p cap zs (by omega) h2 W hz hs)).mono fun _ _ ⟨e, hb⟩ => ⟨_, e, World.ownsRow_nil _ _ _ _, hb⟩
end Go.Proofs.YtcdlmjbjpeokfaaDoor
