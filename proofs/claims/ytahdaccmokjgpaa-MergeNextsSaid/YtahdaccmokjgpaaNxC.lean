/-
  WALK: the least of what the document's sources stand at (its own least).
-/
import Derived.Test.YtahdaccmokjgpaaNxB
namespace Go.Proofs.Ytahdaccmokjgpaa
open Go.RowKit ArgK
set_option linter.unusedVariables false

theorem bestTo_dn {R : List Rl} {i : Nat} {x : Rl} (hx : R[i]? = some x) (hd : x.dn = true) : bestTo R (i + 1) = bestTo R i := by
  rw [bestTo, hx]
  simp only
  rw [if_pos hd]

theorem bestTo_first {R : List Rl} {i : Nat} {x : Rl} (hx : R[i]? = some x) (hd : x.dn = false) (h : bestTo R i = none) : bestTo R (i + 1) = some i := by
  rw [bestTo, hx]
  simp only
  rw [if_neg (by simp [hd]), h]

theorem bestTo_next {R : List Rl} {i b : Nat} {x y : Rl} (hx : R[i]? = some x) (hd : x.dn = false) (h : bestTo R i = some b) (hy : R[b]? = some y) : bestTo R (i + 1) = if eless x.top y.top ∨ (eat x.top y.top ∧ y.top.s < x.top.s) then some i else some b := by
  rw [bestTo, hx]
  simp only
  rw [if_neg (by simp [hd]), h]
  simp only
  rw [atR_eq hy]

def bI : Option Nat → Int
  | none => -1
  | some b => b

open Classical in
/-- What least answers. -/
noncomputable def leastRes (R : List Rl) : Int × Int := match bestTo R R.length with
  | none => (-1, 0)
  | some b => (b, if Dup R (atR R b) then 51 else 0)

/-- No two of one number so far. -/
def NoD (R : List Rl) (out : Ent) (i j : Nat) : Prop := ∀ (i' j' : Nat) (x y : Rl), j' < i' → (i' < i ∨ (i' = i ∧ j' < j)) → R[i']? = some x → R[j']? = some y → x.dn = false → y.dn = false → x.top.s = y.top.s → eat x.top y.top → ¬ eat x.top out

theorem NoD.zero (R : List Rl) (out : Ent) : NoD R out 0 0 := fun i' j' x y h1 h2 => by omega
theorem NoD.next {R : List Rl} {out : Ent} {i : Nat} (h : NoD R out i i) : NoD R out (i + 1) 0 := fun i' j' x y h1 h2 => h i' j' x y h1 (by omega)
theorem NoD.step {R : List Rl} {out : Ent} {i j : Nat} {x y : Rl} (h : NoD R out i j) (hx : R[i]? = some x) (hy : R[j]? = some y) (hn : ¬ (x.dn = false ∧ y.dn = false ∧ x.top.s = y.top.s ∧ eat x.top y.top ∧ eat x.top out)) : NoD R out i (j + 1) := fun i' j' x' y' h1 h2 hx' hy' d1 d2 d3 d4 d5 => by
  by_cases e : i' = i ∧ j' = j
  · obtain ⟨rfl, rfl⟩ := e
    rw [hx] at hx'
    rw [hy] at hy'
    cases hx'
    cases hy'
    exact hn ⟨d1, d2, d3, d4, d5⟩
  · exact h i' j' x' y' h1 (by omega) hx' hy' d1 d2 d3 d4 d5
theorem NoD.all {R : List Rl} {out : Ent} (h : NoD R out R.length 0) : ¬ Dup R out := by
  rintro ⟨i, j, x, y, h1, h2, h3, h4, h5, h6, h7, h8⟩
  exact h i j x y h1 (.inl (List.getElem?_eq_some_iff.1 h2).1) h2 h3 h4 h5 h6 h7 h8

/-- What a source stands at, asked of the document. -/
theorem RmAt.at_calls {w : World} {B rb : Nat} {p : Option Addr} {n c : Nat} {bottom : Bool} {ks : List Kl} {begun : Bool} {bad : Int} (h : RmAt w B rb p n c bottom ks begun bad) (hB : B ≤ w.heap.size) {i : Nat} {x : Kl} (hx : ks[i]? = some x) (hs : Stn x.rl) (hd : x.dn = false) {e : Ent} (he : x.rl.top = e) :
    Calls Try.prog 51 #[.pointer (some ⟨rb, 0, none⟩), .int .i64 i] w fun en w' => en = .returned e.val ∧ Below w.heap.size w w' := by
  obtain ⟨h1, h2, _⟩ := hs.top hd
  obtain ⟨_, _, u, hu⟩ := h.ents x (List.mem_of_getElem? hx)
  have hu2 : x.rl.s.used = u := by unfold Kl.rl; simp [hu]
  rw [hu2] at h1 h2
  rw [he] at h1
  exact RAt_calls h hx (u := u - 1) (by rw [hu]; omega) h1 hB

set_option maxRecDepth 100000 in
set_option maxHeartbeats 8000000 in
theorem RLeast_calls {w : World} {B rb : Nat} {p : Option Addr} {n c : Nat} {bottom : Bool} {ks : List Kl} {begun : Bool} {bad : Int} (h : RmAt w B rb p n c bottom ks begun bad) (hB : B ≤ w.heap.size) (hS : ∀ x ∈ ks, Stn x.rl) (hn : n ≤ 1024) :
    Calls Try.prog 50 #[.pointer (some ⟨rb, 0, none⟩)] w fun e w' => e = .returned (.tuple #[.int .i64 (leastRes (ks.map Kl.rl)).1, .int .i64 (leastRes (ks.map Kl.rl)).2]) ∧ Below w.heap.size w w' := by
  have HR := Lib.hid h
  have HRL : Hid (∀ {i : Nat} {x : Kl}, ks[i]? = some x → (ks.map Kl.rl)[i]? = some x.rl) := Lib.hid (fun hx => by rw [List.getElem?_map, hx]; rfl)
  have HLN : Hid ((ks.map Kl.rl).length = n ∧ ks.length = n) := Lib.hid ⟨by rw [List.length_map, h.len], h.len⟩
  have HAT : Hid (∀ (W : World) (i : Nat) (x : Kl) (e : Ent), Below w.heap.size w W → ks[i]? = some x → x.dn = false → x.rl.top = e → Calls Try.prog 51 #[.pointer (some ⟨rb, 0, none⟩), .int .i64 i] W fun en w' => en = .returned e.val ∧ Below w.heap.size w w' ∧ Below W.heap.size W w') := Lib.hid (fun W i x e hW hx hd he => ((h.below hW).at_calls (Nat.le_trans hB hW.size) hx (hS x (List.mem_of_getElem? hx)) hd he).mono (fun en w' k => ⟨k.1, hW.trans (k.2.mono hW.size), k.2⟩))
  unfold Ent.val at HAT
  have HCM : Hid (∀ (a b : Ent) (W : World), Below w.heap.size w W → Calls Try.prog 11 #[a.val, b.val] W fun e w' => e = .returned (.int .i64 (cmpE a b)) ∧ Below w.heap.size w w' ∧ Below W.heap.size W w') := Lib.hid (fun a b W hW => (RefCompare_calls a b W).mono (fun en w' k => ⟨k.1, hW.trans (k.2.mono hW.size), k.2⟩))
  unfold Ent.val at HCM
  obtain ⟨R, hR⟩ : ∃ R, ks.map Kl.rl = R := ⟨_, rfl⟩
  rw [hR]
  simp only [hR] at HRL HLN
  have hfl : ∀ (W : World) (a0 a1 a2 a3 a4 : Value), (Instr.field 24 (.agg #[a0, a1, a2, a3, a4]) 3).run Try.prog W = .ok a3 W := fun W a0 a1 a2 a3 a4 => by kernel_rfl
  clear h hS hR
  go_enter Try.func50, Try.ntmps50
  go_wp2
  go_loopw [4, 5] (fun bv iv wr => ∃ (i : Nat) (o : Option Nat), iv = .int .i64 i ∧ bestTo R i = o ∧ bv = .int .i64 (bI o) ∧ i ≤ n ∧ Below w.heap.size w wr) (fun _ iv _ => n - (intOf iv).toNat)
  case atStart => exact ⟨0, none, rfl, rfl, rfl, Nat.zero_le _, Below.refl _ _⟩
  case round =>
    obtain ⟨i, o, rfl, hbt, rfl, hi, hb⟩ := hrel
    have hc0 := (HR.out.below hb).cells.1
    by_cases hlt : i < n
    · obtain ⟨x, hx⟩ : ∃ x, ks[i]? = some x := ⟨_, List.getElem?_eq_getElem (by rw [HLN.out.2]; exact hlt)⟩
      have hRx := HRL.out hx
      obtain ⟨g, hpg, _, _, _, _, _, y4⟩ := (HR.out.below hb).list hx
      subst hpg
      have i0 : (0 : Int) ≤ (i : Int) := by omega
      have i1 : (i : Int) < (n : Int) := by omega
      obtain ⟨d, hd⟩ : ∃ d, x.dn = d := ⟨_, rfl⟩
      rw [hd] at y4
      cases d with
      | true =>
        have HG := Lib.hid ((bestTo_dn hRx hd).trans hbt)
        have HB := Lib.hid hb
        clear hbt hx hRx hd hb
        go_wp2
        go_roundw
        case rel => exact ⟨i + 1, o, by go_num, HG.out, rfl, by omega, HB.out⟩
        case measure => simp [intOf]; omega
      | false =>
        have HX := Lib.hid hx
        have HD := Lib.hid hd
        have HB := Lib.hid hb
        cases o with
        | none =>
          have HG := Lib.hid (bestTo_first hRx hd hbt)
          clear hbt hx hRx hd hb
          unfold bI
          go_wp2
          go_roundw
          case rel => exact ⟨i + 1, some i, by go_num, HG.out, rfl, by omega, HB.out⟩
          case measure => simp [intOf]; omega
        | some b =>
          have hsp := bestTo_spec R i
          rw [hbt] at hsp
          obtain ⟨hbi, y', hy', hyd, _⟩ := hsp
          obtain ⟨y, hy⟩ : ∃ y, ks[b]? = some y := ⟨_, List.getElem?_eq_getElem (by rw [HLN.out.2]; omega)⟩
          have := HRL.out hy
          rw [hy'] at this
          cases this
          have hG := bestTo_next hRx hd hbt hy'
          obtain ⟨ex, hex⟩ : ∃ e, x.rl.top = e := ⟨_, rfl⟩
          obtain ⟨ey, hey⟩ : ∃ e, y.rl.top = e := ⟨_, rfl⟩
          rw [hex, hey] at hG
          have HEX := Lib.hid hex
          have HEY := Lib.hid hey
          have HY := Lib.hid hy
          have HYD : Hid (y.dn = false) := Lib.hid hyd
          have hbn : ¬ ((b : Int) < 0) := by omega
          have hbn2 : (b : Int) < (n : Int) := by omega
          have hbn3 : (0 : Int) ≤ (b : Int) := by omega
          have HAX : Hid (∀ W, Below w.heap.size w W → Calls Try.prog 51 #[.pointer (some ⟨rb, 0, none⟩), .int .i64 i] W fun en w' => en = .returned (.agg #[.int .i64 ex.v, .string ex.c, .int .i64 ex.i, .int .i64 ex.s, .bool ex.d]) ∧ Below w.heap.size w w' ∧ Below W.heap.size W w') := Lib.hid (fun W hW => HAT.out W _ _ _ hW hx hd hex)
          have HAY : Hid (∀ W, Below w.heap.size w W → Calls Try.prog 51 #[.pointer (some ⟨rb, 0, none⟩), .int .i64 b] W fun en w' => en = .returned (.agg #[.int .i64 ey.v, .string ey.c, .int .i64 ey.i, .int .i64 ey.s, .bool ey.d]) ∧ Below w.heap.size w w' ∧ Below W.heap.size W w') := Lib.hid (fun W hW => HAT.out W _ _ _ hW hy hyd hey)
          have HBI := Lib.hid (And.intro hbi hi)
          clear hbt hx hRx hd hb hy hy' hyd hex hey hbi
          unfold bI
          rcases eless_or ex ey with hc | hc | hc
          · have hcm := cmpE_lt hc
            rw [if_pos (.inl hc)] at hG
            have HG := Lib.hid hG
            have HC1 := Lib.hid (fun W hW => HCM.out ex ey W hW)
            rw [hcm] at HC1
            clear hG hc hcm
            go_wp2_with (first | (go_at_call 51; with_reducible refine (HAX.out _ HB.out).mono ?_; rintro e' w2 ⟨rfl, hb2, hbb2⟩; have HB2 := Lib.hid hb2; have HBB2 := Lib.hid hbb2; clear hb2 hbb2) | (go_at_call 51; with_reducible refine (HAY.out _ HB2.out).mono ?_; rintro e' w3 ⟨rfl, hb3, hbb3⟩; have HB3 := Lib.hid hb3; have HBB3 := Lib.hid hbb3; clear hb3 hbb3) | (go_at_call 11; with_reducible refine (HC1.out _ HB3.out).mono ?_; rintro e' w4 ⟨rfl, hb4, hbb4⟩; have HB4 := Lib.hid hb4; have HBB4 := Lib.hid hbb4; clear hb4 hbb4))
            go_roundw
            case rel => exact ⟨i + 1, some i, by go_num, HG.out, rfl, by omega, HB4.out⟩
            case measure => simp [intOf]; omega
          · have hcm := cmpE_eq hc
            have HC1 := Lib.hid (fun W hW => HCM.out ex ey W hW)
            rw [hcm] at HC1
            by_cases hs : ey.s < ex.s
            · rw [if_pos (.inr ⟨hc, hs⟩)] at hG
              have HG := Lib.hid hG
              clear hG hc hcm
              go_wp2_with (first | (go_at_call 51; with_reducible refine (HAX.out _ HB.out).mono ?_; rintro e' w2 ⟨rfl, hb2, hbb2⟩; have HB2 := Lib.hid hb2; have HBB2 := Lib.hid hbb2; clear hb2 hbb2) | (go_at_call 51; with_reducible refine (HAY.out _ HB2.out).mono ?_; rintro e' w3 ⟨rfl, hb3, hbb3⟩; have HB3 := Lib.hid hb3; have HBB3 := Lib.hid hbb3; clear hb3 hbb3) | (go_at_call 11; with_reducible refine (HC1.out _ HB3.out).mono ?_; rintro e' w4 ⟨rfl, hb4, hbb4⟩; have HB4 := Lib.hid hb4; have HBB4 := Lib.hid hbb4; clear hb4 hbb4) | (go_at_call 51; with_reducible refine (HAX.out _ HB4.out).mono ?_; rintro e' w5 ⟨rfl, hb5, hbb5⟩; have HB5 := Lib.hid hb5; have HBB5 := Lib.hid hbb5; clear hb5 hbb5) | (go_at_call 51; with_reducible refine (HAY.out _ HB5.out).mono ?_; rintro e' w6 ⟨rfl, hb6, hbb6⟩; have HB6 := Lib.hid hb6; have HBB6 := Lib.hid hbb6; clear hb6 hbb6))
              go_roundw
              case rel => exact ⟨i + 1, some i, by go_num, HG.out, rfl, by omega, HB6.out⟩
              case measure => simp [intOf]; omega
            · rw [if_neg (fun k => k.elim (fun k => eless_not_eat k hc) (fun k => hs k.2))] at hG
              have HG := Lib.hid hG
              clear hG hc hcm
              go_wp2_with (first | (go_at_call 51; with_reducible refine (HAX.out _ HB.out).mono ?_; rintro e' w2 ⟨rfl, hb2, hbb2⟩; have HB2 := Lib.hid hb2; have HBB2 := Lib.hid hbb2; clear hb2 hbb2) | (go_at_call 51; with_reducible refine (HAY.out _ HB2.out).mono ?_; rintro e' w3 ⟨rfl, hb3, hbb3⟩; have HB3 := Lib.hid hb3; have HBB3 := Lib.hid hbb3; clear hb3 hbb3) | (go_at_call 11; with_reducible refine (HC1.out _ HB3.out).mono ?_; rintro e' w4 ⟨rfl, hb4, hbb4⟩; have HB4 := Lib.hid hb4; have HBB4 := Lib.hid hbb4; clear hb4 hbb4) | (go_at_call 51; with_reducible refine (HAX.out _ HB4.out).mono ?_; rintro e' w5 ⟨rfl, hb5, hbb5⟩; have HB5 := Lib.hid hb5; have HBB5 := Lib.hid hbb5; clear hb5 hbb5) | (go_at_call 51; with_reducible refine (HAY.out _ HB5.out).mono ?_; rintro e' w6 ⟨rfl, hb6, hbb6⟩; have HB6 := Lib.hid hb6; have HBB6 := Lib.hid hbb6; clear hb6 hbb6))
              go_roundw
              case rel => exact ⟨i + 1, some b, by go_num, HG.out, rfl, by omega, HB6.out⟩
              case measure => simp [intOf]; omega
          · have hcm := cmpE_gt hc
            rw [if_neg (fun k => k.elim (fun k => eless_asymm hc k) (fun k => eless_not_eat hc (eat_symm k.1)))] at hG
            have HG := Lib.hid hG
            have HC1 := Lib.hid (fun W hW => HCM.out ex ey W hW)
            rw [hcm] at HC1
            clear hG hc hcm
            go_wp2_with (first | (go_at_call 51; with_reducible refine (HAX.out _ HB.out).mono ?_; rintro e' w2 ⟨rfl, hb2, hbb2⟩; have HB2 := Lib.hid hb2; have HBB2 := Lib.hid hbb2; clear hb2 hbb2) | (go_at_call 51; with_reducible refine (HAY.out _ HB2.out).mono ?_; rintro e' w3 ⟨rfl, hb3, hbb3⟩; have HB3 := Lib.hid hb3; have HBB3 := Lib.hid hbb3; clear hb3 hbb3) | (go_at_call 11; with_reducible refine (HC1.out _ HB3.out).mono ?_; rintro e' w4 ⟨rfl, hb4, hbb4⟩; have HB4 := Lib.hid hb4; have HBB4 := Lib.hid hbb4; clear hb4 hbb4))
            go_roundw
            case rel => exact ⟨i + 1, some b, by go_num, HG.out, rfl, by omega, HB4.out⟩
            case measure => simp [intOf]; omega
    · obtain rfl : i = n := by omega
      cases o with
      | none =>
        have HRS : Hid (leastRes R = (-1, 0)) := Lib.hid (by unfold leastRes; rw [HLN.out.1, hbt])
        have HB := Lib.hid hb
        clear hbt hb
        unfold bI
        go_wp2
        go_ret2
        exact ⟨by rw [HRS.out]; rfl, HB.out⟩
      | some b =>
        have hsp := bestTo_spec R i
        rw [hbt] at hsp
        obtain ⟨hbi, y', hy', hyd, _⟩ := hsp
        obtain ⟨y, hy⟩ : ∃ y, ks[b]? = some y := ⟨_, List.getElem?_eq_getElem (by rw [HLN.out.2]; omega)⟩
        have := HRL.out hy
        rw [hy'] at this
        cases this
        obtain ⟨ey, hey⟩ : ∃ e, y.rl.top = e := ⟨_, rfl⟩
        have HRS : Hid (∀ q : Prop, q → leastRes R = ((b : Int), @ite Int (Dup R ey) (Classical.propDecidable _) 51 0)) := Lib.hid (fun _ _ => by unfold leastRes; rw [HLN.out.1, hbt]; simp only; rw [atR_eq hy', hey])
        have HBT := Lib.hid hbt
        have HB := Lib.hid hb
        have HAY : Hid (∀ W, Below w.heap.size w W → Calls Try.prog 51 #[.pointer (some ⟨rb, 0, none⟩), .int .i64 b] W fun en w' => en = .returned (.agg #[.int .i64 ey.v, .string ey.c, .int .i64 ey.i, .int .i64 ey.s, .bool ey.d]) ∧ Below w.heap.size w w' ∧ Below W.heap.size W w') := Lib.hid (fun W hW => HAT.out W _ _ _ hW hy hyd hey)
        have hbn : ¬ ((b : Int) < 0) := by omega
        have HBI := Lib.hid hbi
        clear hbt hb hy hy' hyd hey hbi
        unfold bI
        go_wp2
        go_loopw [7] (fun iv wr => ∃ k : Nat, iv = .int .i64 k ∧ k ≤ i ∧ Hid (NoD R ey k 0) ∧ Below w.heap.size w wr) (fun iv _ => i - (intOf iv).toNat)
        case atStart => exact ⟨0, rfl, Nat.zero_le _, Lib.hid (NoD.zero R ey), HB.out⟩
        case round =>
          obtain ⟨k, rfl, hk, HD, hb⟩ := hrel
          have hc0 := (HR.out.below hb).cells.1
          by_cases hlt : k < i
          · obtain ⟨x, hx⟩ : ∃ x, ks[k]? = some x := ⟨_, List.getElem?_eq_getElem (by rw [HLN.out.2]; exact hlt)⟩
            have hRx := HRL.out hx
            have k1 : (k : Int) < (i : Int) := by omega
            have k0 : (0 : Int) ≤ (k : Int) := by omega
            have HRX := Lib.hid hRx
            have HX := Lib.hid hx
            clear hRx hx
            go_wp2
            go_loopw [8] (fun jv wr => ∃ j : Nat, jv = .int .i64 j ∧ j ≤ k ∧ Hid (NoD R ey k j) ∧ Below w.heap.size w wr) (fun jv _ => k - (intOf jv).toNat)
            case atStart => exact ⟨0, rfl, Nat.zero_le _, HD, hb⟩
            case round =>
              obtain ⟨j, rfl, hj, HD2, hb2⟩ := hrel
              have hc0 := (HR.out.below hb2).cells.1
              by_cases hlt2 : j < k
              · obtain ⟨z, hz⟩ : ∃ z, ks[j]? = some z := ⟨_, List.getElem?_eq_getElem (by rw [HLN.out.2]; omega)⟩
                have hRz := HRL.out hz
                obtain ⟨g, hpg, _, _, _, _, _, y4⟩ := (HR.out.below hb2).list HX.out
                obtain ⟨g', hpg', _, _, _, _, _, z4⟩ := (HR.out.below hb2).list hz
                subst hpg
                cases hpg'
                have j1 : (j : Int) < (i : Int) := by omega
                have j2 : (j : Int) < (k : Int) := by omega
                have j0 : (0 : Int) ≤ (j : Int) := by omega
                have HSt := Lib.hid (fun hn => HD2.out.step HRX.out hRz hn)
                have HBb := Lib.hid hb2
                obtain ⟨dx, hdx⟩ : ∃ d, x.dn = d := ⟨_, rfl⟩
                obtain ⟨dz, hdz⟩ : ∃ d, z.dn = d := ⟨_, rfl⟩
                rw [hdx] at y4
                rw [hdz] at z4
                cases dx with
                | true =>
                  have HN := Lib.hid (HSt.out (fun h => by rw [show x.rl.dn = true from hdx] at h; exact absurd h.1 (by simp)))
                  clear hdx hdz hRz hz hb2
                  go_wp2
                  go_roundw
                  case rel => exact ⟨j + 1, by go_num, by omega, HN, HBb.out⟩
                  case measure => simp [intOf]; omega
                | false =>
                  cases dz with
                  | true =>
                    have HN := Lib.hid (HSt.out (fun h => by rw [show z.rl.dn = true from hdz] at h; exact absurd h.2.1 (by simp)))
                    clear hdx hdz hRz hz hb2
                    go_wp2
                    go_roundw
                    case rel => exact ⟨j + 1, by go_num, by omega, HN, HBb.out⟩
                    case measure => simp [intOf]; omega
                  | false =>
                    obtain ⟨ex, hex⟩ : ∃ e, x.rl.top = e := ⟨_, rfl⟩
                    obtain ⟨ez, hez⟩ : ∃ e, z.rl.top = e := ⟨_, rfl⟩
                    rw [hex, hez] at HSt
                    have HDD : Hid (ex.s = ez.s → eat ex ez → eat ex ey → Dup R ey) := Lib.hid (fun h1 h2 h3 => ⟨k, j, x.rl, z.rl, hlt2, HRX.out, hRz, hdx, hdz, by rw [hex, hez]; exact h1, by rw [hex, hez]; exact h2, by rw [hex]; exact h3⟩)
                    have HAX : Hid (∀ W, Below w.heap.size w W → Calls Try.prog 51 #[.pointer (some ⟨rb, 0, none⟩), .int .i64 k] W fun en w' => en = .returned (.agg #[.int .i64 ex.v, .string ex.c, .int .i64 ex.i, .int .i64 ex.s, .bool ex.d]) ∧ Below w.heap.size w w' ∧ Below W.heap.size W w') := Lib.hid (fun W hW => HAT.out W _ _ _ hW HX.out hdx hex)
                    have HAZ : Hid (∀ W, Below w.heap.size w W → Calls Try.prog 51 #[.pointer (some ⟨rb, 0, none⟩), .int .i64 j] W fun en w' => en = .returned (.agg #[.int .i64 ez.v, .string ez.c, .int .i64 ez.i, .int .i64 ez.s, .bool ez.d]) ∧ Below w.heap.size w w' ∧ Below W.heap.size W w') := Lib.hid (fun W hW => HAT.out W _ _ _ hW hz hdz hez)
                    clear hdx hdz hRz hz hb2 hex hez
                    go_wp2_with (first | (go_at_call 51; with_reducible refine (HAX.out _ HBb.out).mono ?_; rintro e' w2 ⟨rfl, hb2, hbb2⟩; have HB2 := Lib.hid hb2; have HBB2 := Lib.hid hbb2; clear hb2 hbb2) | (go_at_call 51; with_reducible refine (HAZ.out _ (HB2.out.alloc HB2.out.size _)).mono ?_; rintro e' w3 ⟨rfl, hb3, hbb3⟩; have HB3 := Lib.hid hb3; have HBB3 := Lib.hid hbb3; clear hb3 hbb3))
                    have HBa : Hid (w2.heap[w2.heap.size]? = none → True) := Lib.hid (fun _ => trivial)
                    have hha := (HBB3.out.block w2.heap.size (by simp)).trans (World.alloc_heap_new w2 (eBlk ex))
                    have hla : w2.heap.size < w3.heap.size := (Array.getElem?_eq_some_iff.1 hha).1
                    have hwa : (w3.alloc (eBlk ez)).heap[w2.heap.size]? = some (eBlk ex) := (Below.heap_alloc w3 _ _ hla).trans hha
                    have hwb : (w3.alloc (eBlk ez)).heap[w3.heap.size]? = some (eBlk ez) := World.alloc_heap_new w3 _
                    have hbW : Below w.heap.size w (w3.alloc (eBlk ez)) := HB3.out.alloc HB3.out.size _
                    have hzA : w3.alloc (eBlk ez) = w3.alloc (Obj.cells #[.int .i64 ez.v, .string ez.c, .int .i64 ez.i, .int .i64 ez.s, .bool ez.d] 24) := rfl
                    rw [hzA] at hwa hwb hbW
                    generalize w3.alloc (Obj.cells #[.int .i64 ez.v, .string ez.c, .int .i64 ez.i, .int .i64 ez.s, .bool ez.d] 24) = W1 at hwa hwb hbW ⊢
                    generalize w2.heap.size = ba at hwa ⊢
                    generalize w3.heap.size = bb at hwb ⊢
                    have HSK : Hid (∀ W, Below W1.heap.size W1 W → W.cell? ⟨ba, 0, none⟩ = some (.int .i64 ex.v) ∧ W.cell? ⟨ba, 1, none⟩ = some (.string ex.c) ∧ W.cell? ⟨ba, 2, none⟩ = some (.int .i64 ex.i) ∧ W.cell? ⟨ba, 3, none⟩ = some (.int .i64 ex.s) ∧ W.cell? ⟨ba, 4, none⟩ = some (.bool ex.d) ∧ W.cell? ⟨bb, 0, none⟩ = some (.int .i64 ez.v) ∧ W.cell? ⟨bb, 1, none⟩ = some (.string ez.c) ∧ W.cell? ⟨bb, 2, none⟩ = some (.int .i64 ez.i) ∧ W.cell? ⟨bb, 3, none⟩ = some (.int .i64 ez.s) ∧ W.cell? ⟨bb, 4, none⟩ = some (.bool ez.d)) := Lib.hid (fun W hW => by
                      have k1 := (hW.block ba (Array.getElem?_eq_some_iff.1 hwa).1).trans hwa
                      have k2 := (hW.block bb (Array.getElem?_eq_some_iff.1 hwb).1).trans hwb
                      unfold eBlk at k1 k2
                      exact ⟨by simp [World.cell?, k1], by simp [World.cell?, k1], by simp [World.cell?, k1], by simp [World.cell?, k1], by simp [World.cell?, k1], by simp [World.cell?, k2], by simp [World.cell?, k2], by simp [World.cell?, k2], by simp [World.cell?, k2], by simp [World.cell?, k2]⟩)
                    have HXX : Hid (Below W1.heap.size W1 W1.drew) := Lib.hid (Below.refl _ _).drew
                    have HBD : Hid (Below w.heap.size w W1.drew) := Lib.hid hbW.drew
                    clear hwa hwb hbW HBa hla hha hzA
                    by_cases hss : ex.s = ez.s
                    · have hsb : (ex.s == ez.s) = true := by simpa using hss
                      by_cases hat : eat ex ez
                      · have HC1 := Lib.hid (fun W hW => HCM.out ex ez W hW)
                        rw [cmpE_eq hat] at HC1
                        by_cases hat2 : eat ex ey
                        · have HC2 := Lib.hid (fun W hW => HCM.out ex ey W hW)
                          rw [cmpE_eq hat2] at HC2
                          have HE : Hid (leastRes R = ((b : Int), 51)) := Lib.hid (by
                            have hN := HDD.out hss hat hat2
                            rw [HRS.out True trivial, if_pos hN])
                          clear hat hss hat2
                          refine wp_region_held_drew (S := (fun W => W.cell? ⟨ba, 0, none⟩ = some (.int .i64 ex.v) ∧ W.cell? ⟨ba, 1, none⟩ = some (.string ex.c) ∧ W.cell? ⟨ba, 2, none⟩ = some (.int .i64 ex.i) ∧ W.cell? ⟨ba, 3, none⟩ = some (.int .i64 ex.s) ∧ W.cell? ⟨ba, 4, none⟩ = some (.bool ex.d) ∧ W.cell? ⟨bb, 0, none⟩ = some (.int .i64 ez.v) ∧ W.cell? ⟨bb, 1, none⟩ = some (.string ez.c) ∧ W.cell? ⟨bb, 2, none⟩ = some (.int .i64 ez.i) ∧ W.cell? ⟨bb, 3, none⟩ = some (.int .i64 ez.s) ∧ W.cell? ⟨bb, 4, none⟩ = some (.bool ez.d))) (by kernel_rfl) ?_ (fun hHeld => ?_)
                          · exact HSK.out _ HXX.out
                          refine wpAnyH_take (i := 0) (oi := { dst := some 96, op := Op.fieldAddr 24 (Operand.tmp 9) 3, type := 0, pos := "one.go:85", after := #[], guard := none }) (v := ?_) rfl (by kernel_rfl) (by kernel_rfl) (by kernel_rfl) (fun _ _ _ h => h) (Or.inl ⟨by rfl, ?_⟩) (by assumption) ?_
                          rotate_left 1
                          · intro w hSw
                            (try dsimp only at hSw)
                            go_simp
                            try with_reducible rfl
                          (try simp only [Act.put, List.setIfInBounds_toArray, List.set_cons_zero, List.set_cons_succ])
                          refine wpAnyH_take (i := 1) (oi := { dst := some 97, op := Op.load 3 (Operand.tmp 96), type := 3, pos := "one.go:85", after := #[{ on := 0, ground := Ground.data }], guard := none }) (v := ?_) rfl (by kernel_rfl) (by kernel_rfl) (by kernel_rfl) (fun _ _ _ h => h) (Or.inl ⟨by rfl, ?_⟩) (by assumption) ?_
                          rotate_left 1
                          · intro w hSw
                            (try dsimp only at hSw)
                            go_simp
                            try with_reducible rfl
                          (try simp only [Act.put, List.setIfInBounds_toArray, List.set_cons_zero, List.set_cons_succ])
                          refine wpAnyH_take (i := 2) (oi := { dst := some 98, op := Op.fieldAddr 24 (Operand.tmp 10) 3, type := 0, pos := "one.go:85", after := #[], guard := none }) (v := ?_) rfl (by kernel_rfl) (by kernel_rfl) (by kernel_rfl) (fun _ _ _ h => h) (Or.inl ⟨by rfl, ?_⟩) (by assumption) ?_
                          rotate_left 1
                          · intro w hSw
                            (try dsimp only at hSw)
                            go_simp
                            try with_reducible rfl
                          (try simp only [Act.put, List.setIfInBounds_toArray, List.set_cons_zero, List.set_cons_succ])
                          refine wpAnyH_take (i := 3) (oi := { dst := some 99, op := Op.load 3 (Operand.tmp 98), type := 3, pos := "one.go:85", after := #[{ on := 2, ground := Ground.data }], guard := none }) (v := ?_) rfl (by kernel_rfl) (by kernel_rfl) (by kernel_rfl) (fun _ _ _ h => h) (Or.inl ⟨by rfl, ?_⟩) (by assumption) ?_
                          rotate_left 1
                          · intro w hSw
                            (try dsimp only at hSw)
                            go_simp
                            try with_reducible rfl
                          (try simp only [Act.put, List.setIfInBounds_toArray, List.set_cons_zero, List.set_cons_succ])
                          refine wpAnyH_take (i := 4) (oi := { dst := some 100, op := Op.binOp BinOp.eql 3 (Operand.tmp 97) (Operand.tmp 99) 3, type := 4, pos := "one.go:85", after := #[{ on := 1, ground := Ground.data }, { on := 3, ground := Ground.data }], guard := none }) (v := ?_) rfl (by kernel_rfl) (by kernel_rfl) (by kernel_rfl) (fun _ _ _ h => h) (Or.inl ⟨by rfl, ?_⟩) (by assumption) ?_
                          rotate_left 1
                          · intro w hSw
                            (try dsimp only at hSw)
                            go_simp
                            try with_reducible rfl
                          (try simp only [Act.put, List.setIfInBounds_toArray, List.set_cons_zero, List.set_cons_succ])
                          refine wpAnyH_take (i := 5) (oi := { dst := some 101, op := Op.move (Operand.tmp 100), type := 4, pos := "one.go:85", after := #[{ on := 4, ground := Ground.data }], guard := none }) (v := ?_) rfl (by kernel_rfl) (by kernel_rfl) (by kernel_rfl) (fun _ _ _ h => h) (Or.inl ⟨by rfl, ?_⟩) (by assumption) ?_
                          rotate_left 1
                          · intro w hSw
                            (try dsimp only at hSw)
                            go_simp
                            try with_reducible rfl
                          (try simp only [Act.put, List.setIfInBounds_toArray, List.set_cons_zero, List.set_cons_succ])
                          refine wpAnyH_take (i := 6) (oi := { dst := some 102, op := Op.load 24 (Operand.tmp 9), type := 24, pos := "one.go:85", after := #[{ on := 5, ground := Ground.guard }], guard := some (5, true) }) (v := ?_) rfl (by kernel_rfl) (by kernel_rfl) (by kernel_rfl) (fun _ _ _ h => h) (Or.inl ⟨by rfl, ?_⟩) (by assumption) ?_
                          rotate_left 1
                          · intro w hSw
                            (try dsimp only at hSw)
                            go_simp
                            try with_reducible rfl
                          (try simp only [Act.put, List.setIfInBounds_toArray, List.set_cons_zero, List.set_cons_succ])
                          refine wpAnyH_take (i := 7) (oi := { dst := some 103, op := Op.load 24 (Operand.tmp 10), type := 24, pos := "one.go:85", after := #[{ on := 5, ground := Ground.guard }], guard := some (5, true) }) (v := ?_) rfl (by kernel_rfl) (by kernel_rfl) (by kernel_rfl) (fun _ _ _ h => h) (Or.inl ⟨by rfl, ?_⟩) (by assumption) ?_
                          rotate_left 1
                          · intro w hSw
                            (try dsimp only at hSw)
                            go_simp
                            try with_reducible rfl
                          (try simp only [Act.put, List.setIfInBounds_toArray, List.set_cons_zero, List.set_cons_succ])
                          refine wpAnyH_ready (rs := [8]) (by kernel_rfl) (by simp) ?_
                          refine AllReadyH.cons (o := { dst := some 104, op := Op.call { callee := Callee.value (Operand.func 11), args := #[Operand.tmp 102, Operand.tmp 103], argTypes := #[24, 24] }, type := 3, pos := "one.go:85", after := #[{ on := 6, ground := Ground.data }, { on := 7, ground := Ground.data }, { on := 5, ground := Ground.chain }, { on := 5, ground := Ground.guard }], guard := some (5, true) }) rfl (fun K hK => ?_) ?_
                          rotate_left 1
                          · exact AllReadyH.nil
                          go_simp
                          go_at_call 11; refine (HC1.out _ HBD.out).mono ?_; rintro e' w5 ⟨rfl, hb5, hbb5⟩; have HB5 := Lib.hid hb5; have HX5 := Lib.hid (HXX.out.trans (hbb5.mono HXX.out.size)); clear hb5 hbb5
                          refine hK.out _ _ ?_ (fun hHeld8 => ?_)
                          · exact HSK.out _ HX5.out
                          clear hK K
                          (try simp only [Act.put, List.setIfInBounds_toArray, List.set_cons_zero, List.set_cons_succ])
                          refine wpAnyH_take (i := 9) (oi := { dst := some 105, op := Op.binOp BinOp.eql 3 (Operand.tmp 104) (Operand.const (Value.int IntKind.i64 0)) 3, type := 4, pos := "one.go:85", after := #[{ on := 8, ground := Ground.data }, { on := 5, ground := Ground.guard }], guard := some (5, true) }) (v := ?_) rfl (by kernel_rfl) (by kernel_rfl) (by kernel_rfl) (fun _ _ _ h => h) (Or.inl ⟨by rfl, ?_⟩) (by assumption) ?_
                          rotate_left 1
                          · intro w hSw
                            (try dsimp only at hSw)
                            go_simp
                            try with_reducible rfl
                          (try simp only [Act.put, List.setIfInBounds_toArray, List.set_cons_zero, List.set_cons_succ])
                          refine wpAnyH_take (i := 10) (oi := { dst := some 106, op := Op.pick (Operand.tmp 101) (Operand.tmp 105) (Operand.const (Value.bool false)), type := 4, pos := "one.go:85", after := #[{ on := 5, ground := Ground.data }, { on := 9, ground := Ground.data }], guard := none }) (v := ?_) rfl (by kernel_rfl) (by kernel_rfl) (by kernel_rfl) (fun _ _ _ h => h) (Or.inl ⟨by rfl, ?_⟩) (by assumption) ?_
                          rotate_left 1
                          · intro w hSw
                            (try dsimp only at hSw)
                            go_simp
                            try with_reducible rfl
                          (try simp only [Act.put, List.setIfInBounds_toArray, List.set_cons_zero, List.set_cons_succ])
                          refine wpAnyH_take (i := 11) (oi := { dst := some 107, op := Op.move (Operand.tmp 106), type := 4, pos := "one.go:85", after := #[{ on := 10, ground := Ground.data }, { on := 8, ground := Ground.chain }], guard := none }) (v := ?_) rfl (by kernel_rfl) (by kernel_rfl) (by kernel_rfl) (fun _ _ _ h => h) (Or.inl ⟨by rfl, ?_⟩) (by assumption) ?_
                          rotate_left 1
                          · intro w hSw
                            (try dsimp only at hSw)
                            go_simp
                            try with_reducible rfl
                          (try simp only [Act.put, List.setIfInBounds_toArray, List.set_cons_zero, List.set_cons_succ])
                          refine wpAnyH_take (i := 12) (oi := { dst := some 108, op := Op.load 24 (Operand.tmp 9), type := 24, pos := "one.go:85", after := #[{ on := 11, ground := Ground.guard }], guard := some (11, true) }) (v := ?_) rfl (by kernel_rfl) (by kernel_rfl) (by kernel_rfl) (fun _ _ _ h => h) (Or.inl ⟨by rfl, ?_⟩) (by assumption) ?_
                          rotate_left 1
                          · intro w hSw
                            (try dsimp only at hSw)
                            go_simp
                            try with_reducible rfl
                          (try simp only [Act.put, List.setIfInBounds_toArray, List.set_cons_zero, List.set_cons_succ])
                          refine wpAnyH_take (i := 13) (oi := { dst := some 109, op := Op.move (Operand.tmp 0), type := 73, pos := "one.go:85", after := #[{ on := 11, ground := Ground.guard }], guard := some (11, true) }) (v := ?_) rfl (by kernel_rfl) (by kernel_rfl) (by kernel_rfl) (fun _ _ _ h => h) (Or.inl ⟨by rfl, ?_⟩) (by assumption) ?_
                          rotate_left 1
                          · intro w hSw
                            (try dsimp only at hSw)
                            go_simp
                            try with_reducible rfl
                          (try simp only [Act.put, List.setIfInBounds_toArray, List.set_cons_zero, List.set_cons_succ])
                          refine wpAnyH_take (i := 14) (oi := { dst := some 110, op := Op.move (Operand.tmp 4), type := 3, pos := "one.go:85", after := #[{ on := 11, ground := Ground.guard }], guard := some (11, true) }) (v := ?_) rfl (by kernel_rfl) (by kernel_rfl) (by kernel_rfl) (fun _ _ _ h => h) (Or.inl ⟨by rfl, ?_⟩) (by assumption) ?_
                          rotate_left 1
                          · intro w hSw
                            (try dsimp only at hSw)
                            go_simp
                            try with_reducible rfl
                          (try simp only [Act.put, List.setIfInBounds_toArray, List.set_cons_zero, List.set_cons_succ])
                          refine wpAnyH_ready (rs := [15]) (by kernel_rfl) (by simp) ?_
                          refine AllReadyH.cons (o := { dst := some 111, op := Op.call { callee := Callee.value (Operand.func 51), args := #[Operand.tmp 109, Operand.tmp 110], argTypes := #[73, 3] }, type := 24, pos := "one.go:85", after := #[{ on := 13, ground := Ground.data }, { on := 14, ground := Ground.data }, { on := 11, ground := Ground.chain }, { on := 11, ground := Ground.guard }], guard := some (11, true) }) rfl (fun K hK => ?_) ?_
                          rotate_left 1
                          · exact AllReadyH.nil
                          go_simp
                          go_at_call 51; refine (HAY.out _ HB5.out).mono ?_; rintro e' w6 ⟨rfl, hb6, hbb6⟩; have HB6 := Lib.hid hb6; have HX6 := Lib.hid (HX5.out.trans (hbb6.mono HX5.out.size)); clear hb6 hbb6
                          refine hK.out _ _ ?_ (fun hHeld15 => ?_)
                          · exact HSK.out _ HX6.out
                          clear hK K
                          (try simp only [Act.put, List.setIfInBounds_toArray, List.set_cons_zero, List.set_cons_succ])
                          refine wpAnyH_ready (rs := [16]) (by kernel_rfl) (by simp) ?_
                          refine AllReadyH.cons (o := { dst := some 112, op := Op.call { callee := Callee.value (Operand.func 11), args := #[Operand.tmp 108, Operand.tmp 111], argTypes := #[24, 24] }, type := 3, pos := "one.go:85", after := #[{ on := 12, ground := Ground.data }, { on := 15, ground := Ground.data }, { on := 15, ground := Ground.chain }, { on := 11, ground := Ground.guard }], guard := some (11, true) }) rfl (fun K hK => ?_) ?_
                          rotate_left 1
                          · exact AllReadyH.nil
                          go_simp
                          go_at_call 11; refine (HC2.out _ HB6.out).mono ?_; rintro e' w7 ⟨rfl, hb7, hbb7⟩; have HB7 := Lib.hid hb7; have HX7 := Lib.hid (HX6.out.trans (hbb7.mono HX6.out.size)); clear hb7 hbb7
                          refine hK.out _ _ ?_ (fun hHeld16 => ?_)
                          · exact HSK.out _ HX7.out
                          clear hK K
                          (try simp only [Act.put, List.setIfInBounds_toArray, List.set_cons_zero, List.set_cons_succ])
                          refine wpAnyH_take (i := 17) (oi := { dst := some 113, op := Op.binOp BinOp.eql 3 (Operand.tmp 112) (Operand.const (Value.int IntKind.i64 0)) 3, type := 4, pos := "one.go:85", after := #[{ on := 16, ground := Ground.data }, { on := 11, ground := Ground.guard }], guard := some (11, true) }) (v := ?_) rfl (by kernel_rfl) (by kernel_rfl) (by kernel_rfl) (fun _ _ _ h => h) (Or.inl ⟨by rfl, ?_⟩) (by assumption) ?_
                          rotate_left 1
                          · intro w hSw
                            (try dsimp only at hSw)
                            go_simp
                            try with_reducible rfl
                          (try simp only [Act.put, List.setIfInBounds_toArray, List.set_cons_zero, List.set_cons_succ])
                          refine wpAnyH_take (i := 18) (oi := { dst := some 114, op := Op.pick (Operand.tmp 107) (Operand.tmp 113) (Operand.const (Value.bool false)), type := 4, pos := "one.go:85", after := #[{ on := 11, ground := Ground.data }, { on := 17, ground := Ground.data }], guard := none }) (v := ?_) rfl (by kernel_rfl) (by kernel_rfl) (by kernel_rfl) (fun _ _ _ h => h) (Or.inl ⟨by rfl, ?_⟩) (by assumption) ?_
                          rotate_left 1
                          · intro w hSw
                            (try dsimp only at hSw)
                            go_simp
                            try with_reducible rfl
                          (try simp only [Act.put, List.setIfInBounds_toArray, List.set_cons_zero, List.set_cons_succ])
                          refine wpAnyH_done (by kernel_rfl) ?_ _
                          clear hHeld hHeld8 hHeld15 hHeld16
                          go_wp2
                          go_ret2
                          exact ⟨by rw [HE.out]; rfl, HB7.out⟩
                        · have HN := Lib.hid (HSt.out (fun h => hat2 h.2.2.2.2))
                          have hc0 : cmpE ex ey ≠ 0 := fun h => hat2 (cmpE_zero.1 h)
                          obtain ⟨cc, hcc⟩ : ∃ cc, cmpE ex ey = cc := ⟨_, rfl⟩
                          have HC2 := Lib.hid (fun W hW => HCM.out ex ey W hW)
                          simp only [hcc] at HC2
                          rw [hcc] at hc0
                          have hcb : (cc == 0) = false := by simpa using hc0
                          clear hat hss hat2 hcc hc0
                          refine wp_region_held_drew (S := (fun W => W.cell? ⟨ba, 0, none⟩ = some (.int .i64 ex.v) ∧ W.cell? ⟨ba, 1, none⟩ = some (.string ex.c) ∧ W.cell? ⟨ba, 2, none⟩ = some (.int .i64 ex.i) ∧ W.cell? ⟨ba, 3, none⟩ = some (.int .i64 ex.s) ∧ W.cell? ⟨ba, 4, none⟩ = some (.bool ex.d) ∧ W.cell? ⟨bb, 0, none⟩ = some (.int .i64 ez.v) ∧ W.cell? ⟨bb, 1, none⟩ = some (.string ez.c) ∧ W.cell? ⟨bb, 2, none⟩ = some (.int .i64 ez.i) ∧ W.cell? ⟨bb, 3, none⟩ = some (.int .i64 ez.s) ∧ W.cell? ⟨bb, 4, none⟩ = some (.bool ez.d))) (by kernel_rfl) ?_ (fun hHeld => ?_)
                          · exact HSK.out _ HXX.out
                          refine wpAnyH_take (i := 0) (oi := { dst := some 96, op := Op.fieldAddr 24 (Operand.tmp 9) 3, type := 0, pos := "one.go:85", after := #[], guard := none }) (v := ?_) rfl (by kernel_rfl) (by kernel_rfl) (by kernel_rfl) (fun _ _ _ h => h) (Or.inl ⟨by rfl, ?_⟩) (by assumption) ?_
                          rotate_left 1
                          · intro w hSw
                            (try dsimp only at hSw)
                            go_simp
                            try with_reducible rfl
                          (try simp only [Act.put, List.setIfInBounds_toArray, List.set_cons_zero, List.set_cons_succ])
                          refine wpAnyH_take (i := 1) (oi := { dst := some 97, op := Op.load 3 (Operand.tmp 96), type := 3, pos := "one.go:85", after := #[{ on := 0, ground := Ground.data }], guard := none }) (v := ?_) rfl (by kernel_rfl) (by kernel_rfl) (by kernel_rfl) (fun _ _ _ h => h) (Or.inl ⟨by rfl, ?_⟩) (by assumption) ?_
                          rotate_left 1
                          · intro w hSw
                            (try dsimp only at hSw)
                            go_simp
                            try with_reducible rfl
                          (try simp only [Act.put, List.setIfInBounds_toArray, List.set_cons_zero, List.set_cons_succ])
                          refine wpAnyH_take (i := 2) (oi := { dst := some 98, op := Op.fieldAddr 24 (Operand.tmp 10) 3, type := 0, pos := "one.go:85", after := #[], guard := none }) (v := ?_) rfl (by kernel_rfl) (by kernel_rfl) (by kernel_rfl) (fun _ _ _ h => h) (Or.inl ⟨by rfl, ?_⟩) (by assumption) ?_
                          rotate_left 1
                          · intro w hSw
                            (try dsimp only at hSw)
                            go_simp
                            try with_reducible rfl
                          (try simp only [Act.put, List.setIfInBounds_toArray, List.set_cons_zero, List.set_cons_succ])
                          refine wpAnyH_take (i := 3) (oi := { dst := some 99, op := Op.load 3 (Operand.tmp 98), type := 3, pos := "one.go:85", after := #[{ on := 2, ground := Ground.data }], guard := none }) (v := ?_) rfl (by kernel_rfl) (by kernel_rfl) (by kernel_rfl) (fun _ _ _ h => h) (Or.inl ⟨by rfl, ?_⟩) (by assumption) ?_
                          rotate_left 1
                          · intro w hSw
                            (try dsimp only at hSw)
                            go_simp
                            try with_reducible rfl
                          (try simp only [Act.put, List.setIfInBounds_toArray, List.set_cons_zero, List.set_cons_succ])
                          refine wpAnyH_take (i := 4) (oi := { dst := some 100, op := Op.binOp BinOp.eql 3 (Operand.tmp 97) (Operand.tmp 99) 3, type := 4, pos := "one.go:85", after := #[{ on := 1, ground := Ground.data }, { on := 3, ground := Ground.data }], guard := none }) (v := ?_) rfl (by kernel_rfl) (by kernel_rfl) (by kernel_rfl) (fun _ _ _ h => h) (Or.inl ⟨by rfl, ?_⟩) (by assumption) ?_
                          rotate_left 1
                          · intro w hSw
                            (try dsimp only at hSw)
                            go_simp
                            try with_reducible rfl
                          (try simp only [Act.put, List.setIfInBounds_toArray, List.set_cons_zero, List.set_cons_succ])
                          refine wpAnyH_take (i := 5) (oi := { dst := some 101, op := Op.move (Operand.tmp 100), type := 4, pos := "one.go:85", after := #[{ on := 4, ground := Ground.data }], guard := none }) (v := ?_) rfl (by kernel_rfl) (by kernel_rfl) (by kernel_rfl) (fun _ _ _ h => h) (Or.inl ⟨by rfl, ?_⟩) (by assumption) ?_
                          rotate_left 1
                          · intro w hSw
                            (try dsimp only at hSw)
                            go_simp
                            try with_reducible rfl
                          (try simp only [Act.put, List.setIfInBounds_toArray, List.set_cons_zero, List.set_cons_succ])
                          refine wpAnyH_take (i := 6) (oi := { dst := some 102, op := Op.load 24 (Operand.tmp 9), type := 24, pos := "one.go:85", after := #[{ on := 5, ground := Ground.guard }], guard := some (5, true) }) (v := ?_) rfl (by kernel_rfl) (by kernel_rfl) (by kernel_rfl) (fun _ _ _ h => h) (Or.inl ⟨by rfl, ?_⟩) (by assumption) ?_
                          rotate_left 1
                          · intro w hSw
                            (try dsimp only at hSw)
                            go_simp
                            try with_reducible rfl
                          (try simp only [Act.put, List.setIfInBounds_toArray, List.set_cons_zero, List.set_cons_succ])
                          refine wpAnyH_take (i := 7) (oi := { dst := some 103, op := Op.load 24 (Operand.tmp 10), type := 24, pos := "one.go:85", after := #[{ on := 5, ground := Ground.guard }], guard := some (5, true) }) (v := ?_) rfl (by kernel_rfl) (by kernel_rfl) (by kernel_rfl) (fun _ _ _ h => h) (Or.inl ⟨by rfl, ?_⟩) (by assumption) ?_
                          rotate_left 1
                          · intro w hSw
                            (try dsimp only at hSw)
                            go_simp
                            try with_reducible rfl
                          (try simp only [Act.put, List.setIfInBounds_toArray, List.set_cons_zero, List.set_cons_succ])
                          refine wpAnyH_ready (rs := [8]) (by kernel_rfl) (by simp) ?_
                          refine AllReadyH.cons (o := { dst := some 104, op := Op.call { callee := Callee.value (Operand.func 11), args := #[Operand.tmp 102, Operand.tmp 103], argTypes := #[24, 24] }, type := 3, pos := "one.go:85", after := #[{ on := 6, ground := Ground.data }, { on := 7, ground := Ground.data }, { on := 5, ground := Ground.chain }, { on := 5, ground := Ground.guard }], guard := some (5, true) }) rfl (fun K hK => ?_) ?_
                          rotate_left 1
                          · exact AllReadyH.nil
                          go_simp
                          go_at_call 11; refine (HC1.out _ HBD.out).mono ?_; rintro e' w5 ⟨rfl, hb5, hbb5⟩; have HB5 := Lib.hid hb5; have HX5 := Lib.hid (HXX.out.trans (hbb5.mono HXX.out.size)); clear hb5 hbb5
                          refine hK.out _ _ ?_ (fun hHeld8 => ?_)
                          · exact HSK.out _ HX5.out
                          clear hK K
                          (try simp only [Act.put, List.setIfInBounds_toArray, List.set_cons_zero, List.set_cons_succ])
                          refine wpAnyH_take (i := 9) (oi := { dst := some 105, op := Op.binOp BinOp.eql 3 (Operand.tmp 104) (Operand.const (Value.int IntKind.i64 0)) 3, type := 4, pos := "one.go:85", after := #[{ on := 8, ground := Ground.data }, { on := 5, ground := Ground.guard }], guard := some (5, true) }) (v := ?_) rfl (by kernel_rfl) (by kernel_rfl) (by kernel_rfl) (fun _ _ _ h => h) (Or.inl ⟨by rfl, ?_⟩) (by assumption) ?_
                          rotate_left 1
                          · intro w hSw
                            (try dsimp only at hSw)
                            go_simp
                            try with_reducible rfl
                          (try simp only [Act.put, List.setIfInBounds_toArray, List.set_cons_zero, List.set_cons_succ])
                          refine wpAnyH_take (i := 10) (oi := { dst := some 106, op := Op.pick (Operand.tmp 101) (Operand.tmp 105) (Operand.const (Value.bool false)), type := 4, pos := "one.go:85", after := #[{ on := 5, ground := Ground.data }, { on := 9, ground := Ground.data }], guard := none }) (v := ?_) rfl (by kernel_rfl) (by kernel_rfl) (by kernel_rfl) (fun _ _ _ h => h) (Or.inl ⟨by rfl, ?_⟩) (by assumption) ?_
                          rotate_left 1
                          · intro w hSw
                            (try dsimp only at hSw)
                            go_simp
                            try with_reducible rfl
                          (try simp only [Act.put, List.setIfInBounds_toArray, List.set_cons_zero, List.set_cons_succ])
                          refine wpAnyH_take (i := 11) (oi := { dst := some 107, op := Op.move (Operand.tmp 106), type := 4, pos := "one.go:85", after := #[{ on := 10, ground := Ground.data }, { on := 8, ground := Ground.chain }], guard := none }) (v := ?_) rfl (by kernel_rfl) (by kernel_rfl) (by kernel_rfl) (fun _ _ _ h => h) (Or.inl ⟨by rfl, ?_⟩) (by assumption) ?_
                          rotate_left 1
                          · intro w hSw
                            (try dsimp only at hSw)
                            go_simp
                            try with_reducible rfl
                          (try simp only [Act.put, List.setIfInBounds_toArray, List.set_cons_zero, List.set_cons_succ])
                          refine wpAnyH_take (i := 12) (oi := { dst := some 108, op := Op.load 24 (Operand.tmp 9), type := 24, pos := "one.go:85", after := #[{ on := 11, ground := Ground.guard }], guard := some (11, true) }) (v := ?_) rfl (by kernel_rfl) (by kernel_rfl) (by kernel_rfl) (fun _ _ _ h => h) (Or.inl ⟨by rfl, ?_⟩) (by assumption) ?_
                          rotate_left 1
                          · intro w hSw
                            (try dsimp only at hSw)
                            go_simp
                            try with_reducible rfl
                          (try simp only [Act.put, List.setIfInBounds_toArray, List.set_cons_zero, List.set_cons_succ])
                          refine wpAnyH_take (i := 13) (oi := { dst := some 109, op := Op.move (Operand.tmp 0), type := 73, pos := "one.go:85", after := #[{ on := 11, ground := Ground.guard }], guard := some (11, true) }) (v := ?_) rfl (by kernel_rfl) (by kernel_rfl) (by kernel_rfl) (fun _ _ _ h => h) (Or.inl ⟨by rfl, ?_⟩) (by assumption) ?_
                          rotate_left 1
                          · intro w hSw
                            (try dsimp only at hSw)
                            go_simp
                            try with_reducible rfl
                          (try simp only [Act.put, List.setIfInBounds_toArray, List.set_cons_zero, List.set_cons_succ])
                          refine wpAnyH_take (i := 14) (oi := { dst := some 110, op := Op.move (Operand.tmp 4), type := 3, pos := "one.go:85", after := #[{ on := 11, ground := Ground.guard }], guard := some (11, true) }) (v := ?_) rfl (by kernel_rfl) (by kernel_rfl) (by kernel_rfl) (fun _ _ _ h => h) (Or.inl ⟨by rfl, ?_⟩) (by assumption) ?_
                          rotate_left 1
                          · intro w hSw
                            (try dsimp only at hSw)
                            go_simp
                            try with_reducible rfl
                          (try simp only [Act.put, List.setIfInBounds_toArray, List.set_cons_zero, List.set_cons_succ])
                          refine wpAnyH_ready (rs := [15]) (by kernel_rfl) (by simp) ?_
                          refine AllReadyH.cons (o := { dst := some 111, op := Op.call { callee := Callee.value (Operand.func 51), args := #[Operand.tmp 109, Operand.tmp 110], argTypes := #[73, 3] }, type := 24, pos := "one.go:85", after := #[{ on := 13, ground := Ground.data }, { on := 14, ground := Ground.data }, { on := 11, ground := Ground.chain }, { on := 11, ground := Ground.guard }], guard := some (11, true) }) rfl (fun K hK => ?_) ?_
                          rotate_left 1
                          · exact AllReadyH.nil
                          go_simp
                          go_at_call 51; refine (HAY.out _ HB5.out).mono ?_; rintro e' w6 ⟨rfl, hb6, hbb6⟩; have HB6 := Lib.hid hb6; have HX6 := Lib.hid (HX5.out.trans (hbb6.mono HX5.out.size)); clear hb6 hbb6
                          refine hK.out _ _ ?_ (fun hHeld15 => ?_)
                          · exact HSK.out _ HX6.out
                          clear hK K
                          (try simp only [Act.put, List.setIfInBounds_toArray, List.set_cons_zero, List.set_cons_succ])
                          refine wpAnyH_ready (rs := [16]) (by kernel_rfl) (by simp) ?_
                          refine AllReadyH.cons (o := { dst := some 112, op := Op.call { callee := Callee.value (Operand.func 11), args := #[Operand.tmp 108, Operand.tmp 111], argTypes := #[24, 24] }, type := 3, pos := "one.go:85", after := #[{ on := 12, ground := Ground.data }, { on := 15, ground := Ground.data }, { on := 15, ground := Ground.chain }, { on := 11, ground := Ground.guard }], guard := some (11, true) }) rfl (fun K hK => ?_) ?_
                          rotate_left 1
                          · exact AllReadyH.nil
                          go_simp
                          go_at_call 11; refine (HC2.out _ HB6.out).mono ?_; rintro e' w7 ⟨rfl, hb7, hbb7⟩; have HB7 := Lib.hid hb7; have HX7 := Lib.hid (HX6.out.trans (hbb7.mono HX6.out.size)); clear hb7 hbb7
                          refine hK.out _ _ ?_ (fun hHeld16 => ?_)
                          · exact HSK.out _ HX7.out
                          clear hK K
                          (try simp only [Act.put, List.setIfInBounds_toArray, List.set_cons_zero, List.set_cons_succ])
                          refine wpAnyH_take (i := 17) (oi := { dst := some 113, op := Op.binOp BinOp.eql 3 (Operand.tmp 112) (Operand.const (Value.int IntKind.i64 0)) 3, type := 4, pos := "one.go:85", after := #[{ on := 16, ground := Ground.data }, { on := 11, ground := Ground.guard }], guard := some (11, true) }) (v := ?_) rfl (by kernel_rfl) (by kernel_rfl) (by kernel_rfl) (fun _ _ _ h => h) (Or.inl ⟨by rfl, ?_⟩) (by assumption) ?_
                          rotate_left 1
                          · intro w hSw
                            (try dsimp only at hSw)
                            go_simp
                            try with_reducible rfl
                          (try simp only [Act.put, List.setIfInBounds_toArray, List.set_cons_zero, List.set_cons_succ])
                          refine wpAnyH_take (i := 18) (oi := { dst := some 114, op := Op.pick (Operand.tmp 107) (Operand.tmp 113) (Operand.const (Value.bool false)), type := 4, pos := "one.go:85", after := #[{ on := 11, ground := Ground.data }, { on := 17, ground := Ground.data }], guard := none }) (v := ?_) rfl (by kernel_rfl) (by kernel_rfl) (by kernel_rfl) (fun _ _ _ h => h) (Or.inl ⟨by rfl, ?_⟩) (by assumption) ?_
                          rotate_left 1
                          · intro w hSw
                            (try dsimp only at hSw)
                            go_simp
                            try with_reducible rfl
                          (try simp only [Act.put, List.setIfInBounds_toArray, List.set_cons_zero, List.set_cons_succ])
                          refine wpAnyH_done (by kernel_rfl) ?_ _
                          clear hHeld hHeld8 hHeld15 hHeld16
                          go_wp2
                          go_roundw
                          case rel => exact ⟨j + 1, by go_num, by omega, HN, HB7.out⟩
                          case measure => simp [intOf]; omega
                      · have HN := Lib.hid (HSt.out (fun h => hat h.2.2.2.1))
                        have hc0 : cmpE ex ez ≠ 0 := fun h => hat (cmpE_zero.1 h)
                        obtain ⟨cc, hcc⟩ : ∃ cc, cmpE ex ez = cc := ⟨_, rfl⟩
                        have HC1 := Lib.hid (fun W hW => HCM.out ex ez W hW)
                        simp only [hcc] at HC1
                        rw [hcc] at hc0
                        have hcb : (cc == 0) = false := by simpa using hc0
                        clear hat hss hcc hc0
                        refine wp_region_held_drew (S := (fun W => W.cell? ⟨ba, 0, none⟩ = some (.int .i64 ex.v) ∧ W.cell? ⟨ba, 1, none⟩ = some (.string ex.c) ∧ W.cell? ⟨ba, 2, none⟩ = some (.int .i64 ex.i) ∧ W.cell? ⟨ba, 3, none⟩ = some (.int .i64 ex.s) ∧ W.cell? ⟨ba, 4, none⟩ = some (.bool ex.d) ∧ W.cell? ⟨bb, 0, none⟩ = some (.int .i64 ez.v) ∧ W.cell? ⟨bb, 1, none⟩ = some (.string ez.c) ∧ W.cell? ⟨bb, 2, none⟩ = some (.int .i64 ez.i) ∧ W.cell? ⟨bb, 3, none⟩ = some (.int .i64 ez.s) ∧ W.cell? ⟨bb, 4, none⟩ = some (.bool ez.d))) (by kernel_rfl) ?_ (fun hHeld => ?_)
                        · exact HSK.out _ HXX.out
                        refine wpAnyH_take (i := 0) (oi := { dst := some 96, op := Op.fieldAddr 24 (Operand.tmp 9) 3, type := 0, pos := "one.go:85", after := #[], guard := none }) (v := ?_) rfl (by kernel_rfl) (by kernel_rfl) (by kernel_rfl) (fun _ _ _ h => h) (Or.inl ⟨by rfl, ?_⟩) (by assumption) ?_
                        rotate_left 1
                        · intro w hSw
                          (try dsimp only at hSw)
                          go_simp
                          try with_reducible rfl
                        (try simp only [Act.put, List.setIfInBounds_toArray, List.set_cons_zero, List.set_cons_succ])
                        refine wpAnyH_take (i := 1) (oi := { dst := some 97, op := Op.load 3 (Operand.tmp 96), type := 3, pos := "one.go:85", after := #[{ on := 0, ground := Ground.data }], guard := none }) (v := ?_) rfl (by kernel_rfl) (by kernel_rfl) (by kernel_rfl) (fun _ _ _ h => h) (Or.inl ⟨by rfl, ?_⟩) (by assumption) ?_
                        rotate_left 1
                        · intro w hSw
                          (try dsimp only at hSw)
                          go_simp
                          try with_reducible rfl
                        (try simp only [Act.put, List.setIfInBounds_toArray, List.set_cons_zero, List.set_cons_succ])
                        refine wpAnyH_take (i := 2) (oi := { dst := some 98, op := Op.fieldAddr 24 (Operand.tmp 10) 3, type := 0, pos := "one.go:85", after := #[], guard := none }) (v := ?_) rfl (by kernel_rfl) (by kernel_rfl) (by kernel_rfl) (fun _ _ _ h => h) (Or.inl ⟨by rfl, ?_⟩) (by assumption) ?_
                        rotate_left 1
                        · intro w hSw
                          (try dsimp only at hSw)
                          go_simp
                          try with_reducible rfl
                        (try simp only [Act.put, List.setIfInBounds_toArray, List.set_cons_zero, List.set_cons_succ])
                        refine wpAnyH_take (i := 3) (oi := { dst := some 99, op := Op.load 3 (Operand.tmp 98), type := 3, pos := "one.go:85", after := #[{ on := 2, ground := Ground.data }], guard := none }) (v := ?_) rfl (by kernel_rfl) (by kernel_rfl) (by kernel_rfl) (fun _ _ _ h => h) (Or.inl ⟨by rfl, ?_⟩) (by assumption) ?_
                        rotate_left 1
                        · intro w hSw
                          (try dsimp only at hSw)
                          go_simp
                          try with_reducible rfl
                        (try simp only [Act.put, List.setIfInBounds_toArray, List.set_cons_zero, List.set_cons_succ])
                        refine wpAnyH_take (i := 4) (oi := { dst := some 100, op := Op.binOp BinOp.eql 3 (Operand.tmp 97) (Operand.tmp 99) 3, type := 4, pos := "one.go:85", after := #[{ on := 1, ground := Ground.data }, { on := 3, ground := Ground.data }], guard := none }) (v := ?_) rfl (by kernel_rfl) (by kernel_rfl) (by kernel_rfl) (fun _ _ _ h => h) (Or.inl ⟨by rfl, ?_⟩) (by assumption) ?_
                        rotate_left 1
                        · intro w hSw
                          (try dsimp only at hSw)
                          go_simp
                          try with_reducible rfl
                        (try simp only [Act.put, List.setIfInBounds_toArray, List.set_cons_zero, List.set_cons_succ])
                        refine wpAnyH_take (i := 5) (oi := { dst := some 101, op := Op.move (Operand.tmp 100), type := 4, pos := "one.go:85", after := #[{ on := 4, ground := Ground.data }], guard := none }) (v := ?_) rfl (by kernel_rfl) (by kernel_rfl) (by kernel_rfl) (fun _ _ _ h => h) (Or.inl ⟨by rfl, ?_⟩) (by assumption) ?_
                        rotate_left 1
                        · intro w hSw
                          (try dsimp only at hSw)
                          go_simp
                          try with_reducible rfl
                        (try simp only [Act.put, List.setIfInBounds_toArray, List.set_cons_zero, List.set_cons_succ])
                        refine wpAnyH_take (i := 6) (oi := { dst := some 102, op := Op.load 24 (Operand.tmp 9), type := 24, pos := "one.go:85", after := #[{ on := 5, ground := Ground.guard }], guard := some (5, true) }) (v := ?_) rfl (by kernel_rfl) (by kernel_rfl) (by kernel_rfl) (fun _ _ _ h => h) (Or.inl ⟨by rfl, ?_⟩) (by assumption) ?_
                        rotate_left 1
                        · intro w hSw
                          (try dsimp only at hSw)
                          go_simp
                          try with_reducible rfl
                        (try simp only [Act.put, List.setIfInBounds_toArray, List.set_cons_zero, List.set_cons_succ])
                        refine wpAnyH_take (i := 7) (oi := { dst := some 103, op := Op.load 24 (Operand.tmp 10), type := 24, pos := "one.go:85", after := #[{ on := 5, ground := Ground.guard }], guard := some (5, true) }) (v := ?_) rfl (by kernel_rfl) (by kernel_rfl) (by kernel_rfl) (fun _ _ _ h => h) (Or.inl ⟨by rfl, ?_⟩) (by assumption) ?_
                        rotate_left 1
                        · intro w hSw
                          (try dsimp only at hSw)
                          go_simp
                          try with_reducible rfl
                        (try simp only [Act.put, List.setIfInBounds_toArray, List.set_cons_zero, List.set_cons_succ])
                        refine wpAnyH_ready (rs := [8]) (by kernel_rfl) (by simp) ?_
                        refine AllReadyH.cons (o := { dst := some 104, op := Op.call { callee := Callee.value (Operand.func 11), args := #[Operand.tmp 102, Operand.tmp 103], argTypes := #[24, 24] }, type := 3, pos := "one.go:85", after := #[{ on := 6, ground := Ground.data }, { on := 7, ground := Ground.data }, { on := 5, ground := Ground.chain }, { on := 5, ground := Ground.guard }], guard := some (5, true) }) rfl (fun K hK => ?_) ?_
                        rotate_left 1
                        · exact AllReadyH.nil
                        go_simp
                        go_at_call 11; refine (HC1.out _ HBD.out).mono ?_; rintro e' w5 ⟨rfl, hb5, hbb5⟩; have HB5 := Lib.hid hb5; have HX5 := Lib.hid (HXX.out.trans (hbb5.mono HXX.out.size)); clear hb5 hbb5
                        refine hK.out _ _ ?_ (fun hHeld8 => ?_)
                        · exact HSK.out _ HX5.out
                        clear hK K
                        (try simp only [Act.put, List.setIfInBounds_toArray, List.set_cons_zero, List.set_cons_succ])
                        refine wpAnyH_take (i := 9) (oi := { dst := some 105, op := Op.binOp BinOp.eql 3 (Operand.tmp 104) (Operand.const (Value.int IntKind.i64 0)) 3, type := 4, pos := "one.go:85", after := #[{ on := 8, ground := Ground.data }, { on := 5, ground := Ground.guard }], guard := some (5, true) }) (v := ?_) rfl (by kernel_rfl) (by kernel_rfl) (by kernel_rfl) (fun _ _ _ h => h) (Or.inl ⟨by rfl, ?_⟩) (by assumption) ?_
                        rotate_left 1
                        · intro w hSw
                          (try dsimp only at hSw)
                          go_simp
                          try with_reducible rfl
                        (try simp only [Act.put, List.setIfInBounds_toArray, List.set_cons_zero, List.set_cons_succ])
                        refine wpAnyH_take (i := 10) (oi := { dst := some 106, op := Op.pick (Operand.tmp 101) (Operand.tmp 105) (Operand.const (Value.bool false)), type := 4, pos := "one.go:85", after := #[{ on := 5, ground := Ground.data }, { on := 9, ground := Ground.data }], guard := none }) (v := ?_) rfl (by kernel_rfl) (by kernel_rfl) (by kernel_rfl) (fun _ _ _ h => h) (Or.inl ⟨by rfl, ?_⟩) (by assumption) ?_
                        rotate_left 1
                        · intro w hSw
                          (try dsimp only at hSw)
                          go_simp
                          try with_reducible rfl
                        (try simp only [Act.put, List.setIfInBounds_toArray, List.set_cons_zero, List.set_cons_succ])
                        refine wpAnyH_take (i := 11) (oi := { dst := some 107, op := Op.move (Operand.tmp 106), type := 4, pos := "one.go:85", after := #[{ on := 10, ground := Ground.data }, { on := 8, ground := Ground.chain }], guard := none }) (v := ?_) rfl (by kernel_rfl) (by kernel_rfl) (by kernel_rfl) (fun _ _ _ h => h) (Or.inl ⟨by rfl, ?_⟩) (by assumption) ?_
                        rotate_left 1
                        · intro w hSw
                          (try dsimp only at hSw)
                          go_simp
                          try with_reducible rfl
                        (try simp only [Act.put, List.setIfInBounds_toArray, List.set_cons_zero, List.set_cons_succ])
                        refine wpAnyH_take (i := 12) (oi := { dst := some 108, op := Op.load 24 (Operand.tmp 9), type := 24, pos := "one.go:85", after := #[{ on := 11, ground := Ground.guard }], guard := some (11, true) }) (v := undef) rfl (by kernel_rfl) (by kernel_rfl) (by kernel_rfl) (fun _ _ _ h => h) (Or.inr ⟨by rfl, rfl⟩) (by assumption) ?_
                        (try simp only [Act.put, List.setIfInBounds_toArray, List.set_cons_zero, List.set_cons_succ])
                        refine wpAnyH_take (i := 13) (oi := { dst := some 109, op := Op.move (Operand.tmp 0), type := 73, pos := "one.go:85", after := #[{ on := 11, ground := Ground.guard }], guard := some (11, true) }) (v := undef) rfl (by kernel_rfl) (by kernel_rfl) (by kernel_rfl) (fun _ _ _ h => h) (Or.inr ⟨by rfl, rfl⟩) (by assumption) ?_
                        (try simp only [Act.put, List.setIfInBounds_toArray, List.set_cons_zero, List.set_cons_succ])
                        refine wpAnyH_take (i := 14) (oi := { dst := some 110, op := Op.move (Operand.tmp 4), type := 3, pos := "one.go:85", after := #[{ on := 11, ground := Ground.guard }], guard := some (11, true) }) (v := undef) rfl (by kernel_rfl) (by kernel_rfl) (by kernel_rfl) (fun _ _ _ h => h) (Or.inr ⟨by rfl, rfl⟩) (by assumption) ?_
                        (try simp only [Act.put, List.setIfInBounds_toArray, List.set_cons_zero, List.set_cons_succ])
                        refine wpAnyH_take (i := 15) (oi := { dst := some 111, op := Op.call { callee := Callee.value (Operand.func 51), args := #[Operand.tmp 109, Operand.tmp 110], argTypes := #[73, 3] }, type := 24, pos := "one.go:85", after := #[{ on := 13, ground := Ground.data }, { on := 14, ground := Ground.data }, { on := 11, ground := Ground.chain }, { on := 11, ground := Ground.guard }], guard := some (11, true) }) (v := undef) rfl (by kernel_rfl) (by kernel_rfl) (by kernel_rfl) (fun _ _ _ h => h) (Or.inr ⟨by rfl, rfl⟩) (by assumption) ?_
                        (try simp only [Act.put, List.setIfInBounds_toArray, List.set_cons_zero, List.set_cons_succ])
                        refine wpAnyH_take (i := 16) (oi := { dst := some 112, op := Op.call { callee := Callee.value (Operand.func 11), args := #[Operand.tmp 108, Operand.tmp 111], argTypes := #[24, 24] }, type := 3, pos := "one.go:85", after := #[{ on := 12, ground := Ground.data }, { on := 15, ground := Ground.data }, { on := 15, ground := Ground.chain }, { on := 11, ground := Ground.guard }], guard := some (11, true) }) (v := undef) rfl (by kernel_rfl) (by kernel_rfl) (by kernel_rfl) (fun _ _ _ h => h) (Or.inr ⟨by rfl, rfl⟩) (by assumption) ?_
                        (try simp only [Act.put, List.setIfInBounds_toArray, List.set_cons_zero, List.set_cons_succ])
                        refine wpAnyH_take (i := 17) (oi := { dst := some 113, op := Op.binOp BinOp.eql 3 (Operand.tmp 112) (Operand.const (Value.int IntKind.i64 0)) 3, type := 4, pos := "one.go:85", after := #[{ on := 16, ground := Ground.data }, { on := 11, ground := Ground.guard }], guard := some (11, true) }) (v := undef) rfl (by kernel_rfl) (by kernel_rfl) (by kernel_rfl) (fun _ _ _ h => h) (Or.inr ⟨by rfl, rfl⟩) (by assumption) ?_
                        (try simp only [Act.put, List.setIfInBounds_toArray, List.set_cons_zero, List.set_cons_succ])
                        refine wpAnyH_take (i := 18) (oi := { dst := some 114, op := Op.pick (Operand.tmp 107) (Operand.tmp 113) (Operand.const (Value.bool false)), type := 4, pos := "one.go:85", after := #[{ on := 11, ground := Ground.data }, { on := 17, ground := Ground.data }], guard := none }) (v := ?_) rfl (by kernel_rfl) (by kernel_rfl) (by kernel_rfl) (fun _ _ _ h => h) (Or.inl ⟨by rfl, ?_⟩) (by assumption) ?_
                        rotate_left 1
                        · intro w hSw
                          (try dsimp only at hSw)
                          go_simp
                          try with_reducible rfl
                        (try simp only [Act.put, List.setIfInBounds_toArray, List.set_cons_zero, List.set_cons_succ])
                        refine wpAnyH_done (by kernel_rfl) ?_ _
                        clear hHeld hHeld8
                        go_wp2
                        go_roundw
                        case rel => exact ⟨j + 1, by go_num, by omega, HN, HB5.out⟩
                        case measure => simp [intOf]; omega
                    · have hsb : (ex.s == ez.s) = false := by simpa using hss
                      have HN := Lib.hid (HSt.out (fun h => hss h.2.2.1))
                      clear hss
                      refine wp_region_held_drew (S := (fun W => W.cell? ⟨ba, 0, none⟩ = some (.int .i64 ex.v) ∧ W.cell? ⟨ba, 1, none⟩ = some (.string ex.c) ∧ W.cell? ⟨ba, 2, none⟩ = some (.int .i64 ex.i) ∧ W.cell? ⟨ba, 3, none⟩ = some (.int .i64 ex.s) ∧ W.cell? ⟨ba, 4, none⟩ = some (.bool ex.d) ∧ W.cell? ⟨bb, 0, none⟩ = some (.int .i64 ez.v) ∧ W.cell? ⟨bb, 1, none⟩ = some (.string ez.c) ∧ W.cell? ⟨bb, 2, none⟩ = some (.int .i64 ez.i) ∧ W.cell? ⟨bb, 3, none⟩ = some (.int .i64 ez.s) ∧ W.cell? ⟨bb, 4, none⟩ = some (.bool ez.d))) (by kernel_rfl) ?_ (fun hHeld => ?_)
                      · exact HSK.out _ HXX.out
                      refine wpAnyH_take (i := 0) (oi := { dst := some 96, op := Op.fieldAddr 24 (Operand.tmp 9) 3, type := 0, pos := "one.go:85", after := #[], guard := none }) (v := ?_) rfl (by kernel_rfl) (by kernel_rfl) (by kernel_rfl) (fun _ _ _ h => h) (Or.inl ⟨by rfl, ?_⟩) (by assumption) ?_
                      rotate_left 1
                      · intro w hSw
                        (try dsimp only at hSw)
                        go_simp
                        try with_reducible rfl
                      (try simp only [Act.put, List.setIfInBounds_toArray, List.set_cons_zero, List.set_cons_succ])
                      refine wpAnyH_take (i := 1) (oi := { dst := some 97, op := Op.load 3 (Operand.tmp 96), type := 3, pos := "one.go:85", after := #[{ on := 0, ground := Ground.data }], guard := none }) (v := ?_) rfl (by kernel_rfl) (by kernel_rfl) (by kernel_rfl) (fun _ _ _ h => h) (Or.inl ⟨by rfl, ?_⟩) (by assumption) ?_
                      rotate_left 1
                      · intro w hSw
                        (try dsimp only at hSw)
                        go_simp
                        try with_reducible rfl
                      (try simp only [Act.put, List.setIfInBounds_toArray, List.set_cons_zero, List.set_cons_succ])
                      refine wpAnyH_take (i := 2) (oi := { dst := some 98, op := Op.fieldAddr 24 (Operand.tmp 10) 3, type := 0, pos := "one.go:85", after := #[], guard := none }) (v := ?_) rfl (by kernel_rfl) (by kernel_rfl) (by kernel_rfl) (fun _ _ _ h => h) (Or.inl ⟨by rfl, ?_⟩) (by assumption) ?_
                      rotate_left 1
                      · intro w hSw
                        (try dsimp only at hSw)
                        go_simp
                        try with_reducible rfl
                      (try simp only [Act.put, List.setIfInBounds_toArray, List.set_cons_zero, List.set_cons_succ])
                      refine wpAnyH_take (i := 3) (oi := { dst := some 99, op := Op.load 3 (Operand.tmp 98), type := 3, pos := "one.go:85", after := #[{ on := 2, ground := Ground.data }], guard := none }) (v := ?_) rfl (by kernel_rfl) (by kernel_rfl) (by kernel_rfl) (fun _ _ _ h => h) (Or.inl ⟨by rfl, ?_⟩) (by assumption) ?_
                      rotate_left 1
                      · intro w hSw
                        (try dsimp only at hSw)
                        go_simp
                        try with_reducible rfl
                      (try simp only [Act.put, List.setIfInBounds_toArray, List.set_cons_zero, List.set_cons_succ])
                      refine wpAnyH_take (i := 4) (oi := { dst := some 100, op := Op.binOp BinOp.eql 3 (Operand.tmp 97) (Operand.tmp 99) 3, type := 4, pos := "one.go:85", after := #[{ on := 1, ground := Ground.data }, { on := 3, ground := Ground.data }], guard := none }) (v := ?_) rfl (by kernel_rfl) (by kernel_rfl) (by kernel_rfl) (fun _ _ _ h => h) (Or.inl ⟨by rfl, ?_⟩) (by assumption) ?_
                      rotate_left 1
                      · intro w hSw
                        (try dsimp only at hSw)
                        go_simp
                        try with_reducible rfl
                      (try simp only [Act.put, List.setIfInBounds_toArray, List.set_cons_zero, List.set_cons_succ])
                      refine wpAnyH_take (i := 5) (oi := { dst := some 101, op := Op.move (Operand.tmp 100), type := 4, pos := "one.go:85", after := #[{ on := 4, ground := Ground.data }], guard := none }) (v := ?_) rfl (by kernel_rfl) (by kernel_rfl) (by kernel_rfl) (fun _ _ _ h => h) (Or.inl ⟨by rfl, ?_⟩) (by assumption) ?_
                      rotate_left 1
                      · intro w hSw
                        (try dsimp only at hSw)
                        go_simp
                        try with_reducible rfl
                      (try simp only [Act.put, List.setIfInBounds_toArray, List.set_cons_zero, List.set_cons_succ])
                      refine wpAnyH_take (i := 6) (oi := { dst := some 102, op := Op.load 24 (Operand.tmp 9), type := 24, pos := "one.go:85", after := #[{ on := 5, ground := Ground.guard }], guard := some (5, true) }) (v := undef) rfl (by kernel_rfl) (by kernel_rfl) (by kernel_rfl) (fun _ _ _ h => h) (Or.inr ⟨by rfl, rfl⟩) (by assumption) ?_
                      (try simp only [Act.put, List.setIfInBounds_toArray, List.set_cons_zero, List.set_cons_succ])
                      refine wpAnyH_take (i := 7) (oi := { dst := some 103, op := Op.load 24 (Operand.tmp 10), type := 24, pos := "one.go:85", after := #[{ on := 5, ground := Ground.guard }], guard := some (5, true) }) (v := undef) rfl (by kernel_rfl) (by kernel_rfl) (by kernel_rfl) (fun _ _ _ h => h) (Or.inr ⟨by rfl, rfl⟩) (by assumption) ?_
                      (try simp only [Act.put, List.setIfInBounds_toArray, List.set_cons_zero, List.set_cons_succ])
                      refine wpAnyH_take (i := 8) (oi := { dst := some 104, op := Op.call { callee := Callee.value (Operand.func 11), args := #[Operand.tmp 102, Operand.tmp 103], argTypes := #[24, 24] }, type := 3, pos := "one.go:85", after := #[{ on := 6, ground := Ground.data }, { on := 7, ground := Ground.data }, { on := 5, ground := Ground.chain }, { on := 5, ground := Ground.guard }], guard := some (5, true) }) (v := undef) rfl (by kernel_rfl) (by kernel_rfl) (by kernel_rfl) (fun _ _ _ h => h) (Or.inr ⟨by rfl, rfl⟩) (by assumption) ?_
                      (try simp only [Act.put, List.setIfInBounds_toArray, List.set_cons_zero, List.set_cons_succ])
                      refine wpAnyH_take (i := 9) (oi := { dst := some 105, op := Op.binOp BinOp.eql 3 (Operand.tmp 104) (Operand.const (Value.int IntKind.i64 0)) 3, type := 4, pos := "one.go:85", after := #[{ on := 8, ground := Ground.data }, { on := 5, ground := Ground.guard }], guard := some (5, true) }) (v := undef) rfl (by kernel_rfl) (by kernel_rfl) (by kernel_rfl) (fun _ _ _ h => h) (Or.inr ⟨by rfl, rfl⟩) (by assumption) ?_
                      (try simp only [Act.put, List.setIfInBounds_toArray, List.set_cons_zero, List.set_cons_succ])
                      refine wpAnyH_take (i := 10) (oi := { dst := some 106, op := Op.pick (Operand.tmp 101) (Operand.tmp 105) (Operand.const (Value.bool false)), type := 4, pos := "one.go:85", after := #[{ on := 5, ground := Ground.data }, { on := 9, ground := Ground.data }], guard := none }) (v := ?_) rfl (by kernel_rfl) (by kernel_rfl) (by kernel_rfl) (fun _ _ _ h => h) (Or.inl ⟨by rfl, ?_⟩) (by assumption) ?_
                      rotate_left 1
                      · intro w hSw
                        (try dsimp only at hSw)
                        go_simp
                        try with_reducible rfl
                      (try simp only [Act.put, List.setIfInBounds_toArray, List.set_cons_zero, List.set_cons_succ])
                      refine wpAnyH_take (i := 11) (oi := { dst := some 107, op := Op.move (Operand.tmp 106), type := 4, pos := "one.go:85", after := #[{ on := 10, ground := Ground.data }, { on := 8, ground := Ground.chain }], guard := none }) (v := ?_) rfl (by kernel_rfl) (by kernel_rfl) (by kernel_rfl) (fun _ _ _ h => h) (Or.inl ⟨by rfl, ?_⟩) (by assumption) ?_
                      rotate_left 1
                      · intro w hSw
                        (try dsimp only at hSw)
                        go_simp
                        try with_reducible rfl
                      (try simp only [Act.put, List.setIfInBounds_toArray, List.set_cons_zero, List.set_cons_succ])
                      refine wpAnyH_take (i := 12) (oi := { dst := some 108, op := Op.load 24 (Operand.tmp 9), type := 24, pos := "one.go:85", after := #[{ on := 11, ground := Ground.guard }], guard := some (11, true) }) (v := undef) rfl (by kernel_rfl) (by kernel_rfl) (by kernel_rfl) (fun _ _ _ h => h) (Or.inr ⟨by rfl, rfl⟩) (by assumption) ?_
                      (try simp only [Act.put, List.setIfInBounds_toArray, List.set_cons_zero, List.set_cons_succ])
                      refine wpAnyH_take (i := 13) (oi := { dst := some 109, op := Op.move (Operand.tmp 0), type := 73, pos := "one.go:85", after := #[{ on := 11, ground := Ground.guard }], guard := some (11, true) }) (v := undef) rfl (by kernel_rfl) (by kernel_rfl) (by kernel_rfl) (fun _ _ _ h => h) (Or.inr ⟨by rfl, rfl⟩) (by assumption) ?_
                      (try simp only [Act.put, List.setIfInBounds_toArray, List.set_cons_zero, List.set_cons_succ])
                      refine wpAnyH_take (i := 14) (oi := { dst := some 110, op := Op.move (Operand.tmp 4), type := 3, pos := "one.go:85", after := #[{ on := 11, ground := Ground.guard }], guard := some (11, true) }) (v := undef) rfl (by kernel_rfl) (by kernel_rfl) (by kernel_rfl) (fun _ _ _ h => h) (Or.inr ⟨by rfl, rfl⟩) (by assumption) ?_
                      (try simp only [Act.put, List.setIfInBounds_toArray, List.set_cons_zero, List.set_cons_succ])
                      refine wpAnyH_take (i := 15) (oi := { dst := some 111, op := Op.call { callee := Callee.value (Operand.func 51), args := #[Operand.tmp 109, Operand.tmp 110], argTypes := #[73, 3] }, type := 24, pos := "one.go:85", after := #[{ on := 13, ground := Ground.data }, { on := 14, ground := Ground.data }, { on := 11, ground := Ground.chain }, { on := 11, ground := Ground.guard }], guard := some (11, true) }) (v := undef) rfl (by kernel_rfl) (by kernel_rfl) (by kernel_rfl) (fun _ _ _ h => h) (Or.inr ⟨by rfl, rfl⟩) (by assumption) ?_
                      (try simp only [Act.put, List.setIfInBounds_toArray, List.set_cons_zero, List.set_cons_succ])
                      refine wpAnyH_take (i := 16) (oi := { dst := some 112, op := Op.call { callee := Callee.value (Operand.func 11), args := #[Operand.tmp 108, Operand.tmp 111], argTypes := #[24, 24] }, type := 3, pos := "one.go:85", after := #[{ on := 12, ground := Ground.data }, { on := 15, ground := Ground.data }, { on := 15, ground := Ground.chain }, { on := 11, ground := Ground.guard }], guard := some (11, true) }) (v := undef) rfl (by kernel_rfl) (by kernel_rfl) (by kernel_rfl) (fun _ _ _ h => h) (Or.inr ⟨by rfl, rfl⟩) (by assumption) ?_
                      (try simp only [Act.put, List.setIfInBounds_toArray, List.set_cons_zero, List.set_cons_succ])
                      refine wpAnyH_take (i := 17) (oi := { dst := some 113, op := Op.binOp BinOp.eql 3 (Operand.tmp 112) (Operand.const (Value.int IntKind.i64 0)) 3, type := 4, pos := "one.go:85", after := #[{ on := 16, ground := Ground.data }, { on := 11, ground := Ground.guard }], guard := some (11, true) }) (v := undef) rfl (by kernel_rfl) (by kernel_rfl) (by kernel_rfl) (fun _ _ _ h => h) (Or.inr ⟨by rfl, rfl⟩) (by assumption) ?_
                      (try simp only [Act.put, List.setIfInBounds_toArray, List.set_cons_zero, List.set_cons_succ])
                      refine wpAnyH_take (i := 18) (oi := { dst := some 114, op := Op.pick (Operand.tmp 107) (Operand.tmp 113) (Operand.const (Value.bool false)), type := 4, pos := "one.go:85", after := #[{ on := 11, ground := Ground.data }, { on := 17, ground := Ground.data }], guard := none }) (v := ?_) rfl (by kernel_rfl) (by kernel_rfl) (by kernel_rfl) (fun _ _ _ h => h) (Or.inl ⟨by rfl, ?_⟩) (by assumption) ?_
                      rotate_left 1
                      · intro w hSw
                        (try dsimp only at hSw)
                        go_simp
                        try with_reducible rfl
                      (try simp only [Act.put, List.setIfInBounds_toArray, List.set_cons_zero, List.set_cons_succ])
                      refine wpAnyH_done (by kernel_rfl) ?_ _
                      clear hHeld
                      go_wp2
                      go_roundw
                      case rel => exact ⟨j + 1, by go_num, by omega, HN, HBD.out⟩
                      case measure => simp [intOf]; omega
              · obtain rfl : j = k := by omega
                have HN := Lib.hid HD2.out.next
                have HB3 := Lib.hid hb2
                clear hb2
                go_wp2
                go_roundw
                case rel => exact ⟨j + 1, by go_num, by omega, HN, HB3.out⟩
                case measure => simp [intOf]; omega
          · obtain rfl : k = i := by omega
            have HE : Hid (leastRes R = ((b : Int), 0)) := Lib.hid (by
              have hN := NoD.all (R := R) (out := ey) (by rw [HLN.out.1]; exact HD.out)
              rw [HRS.out True trivial, if_neg hN])
            have HB3 := Lib.hid hb
            clear hb
            go_wp2
            go_ret2
            exact ⟨by rw [HE.out]; rfl, HB3.out⟩
end Go.Proofs.Ytahdaccmokjgpaa
