/-
  WALK: New leaves the list of sources as it is (the law's untouched).
-/
import Derived.Test.YtahdaccmokjgpaaNxK
namespace Go.Proofs.Ytahdaccmokjgpaa
open Go.RowKit ArgK
set_option linter.unusedVariables false

/-- A feed asked. -/
theorem feed_calls {B : Nat} {ps : List (Nat × Bool)} {w : World} {S : List Sst} {i : Nat} {p : Nat × Bool} {st : Sst} (h : FdI B ps w S) (hp : ps[i]? = some p) (hs : S[i]? = some st) (hu : st.used ≤ st.es.length) :
    Calls Try.prog 44 #[.pointer (some ⟨p.1, 0, none⟩)] w fun e w' => ∃ (x : Ent) (b : Bool) (c : Int), e = .returned (.tuple #[x.val, .bool b, .int .i64 c]) ∧ FdI B ps w' (S.set i st.next) ∧ Kp B fdT w w' := by
  obtain ⟨q1, q2, q3, q, c, u3, dn, q4, q5⟩ := h.2.2 i p st hp hs
  have hkp := fun w' (k : Fr w w' [some p.1]) => kp_of_fr (T := fdT) k q4 q3 (by unfold fdT; simp)
  cases ho : st.es[st.used]? with
  | none =>
    have hz := List.getElem?_eq_none_iff.1 ho
    refine (feed_end q4 hz (by omega)).mono ?_
    rintro e w' ⟨rfl, hF, hb⟩
    exact ⟨_, _, _, rfl, h.step hp hs hF (by exact hb) q5, hkp _ hF⟩
  | some x =>
    refine (feed_more q4 rfl q5 q3 ho q2).mono ?_
    rintro e w' ⟨rfl, hF, hb⟩
    exact ⟨_, _, _, rfl, h.step hp hs hF (by exact hb) q5, hkp _ hF⟩

/-- At the head of each round. -/
def UtRel (w : World) (ls : List Kl) (ps : List (Nat × Bool)) (fp : Option Addr) (fc gF N capF : Nat) (X : List Value) (i : Nat) (wr : World) : Prop :=
  (∃ S, FdI w.heap.size ps wr S ∧ ∀ (j : Nat) (x : Kl), i ≤ j → ls[j]? = some x → S[j]? = some x.st) ∧ wr.ownsRow w.heap.size 67 1 (.slice fp ls.length fc) ls.length (ps.map ptV) ∧ wr.ownsRow w.heap.size 41 1 (.slice (some ⟨gF, 0, none⟩) N capF) N X ∧ Below w.heap.size w wr

theorem UtRel.below {w wr W : World} {ls : List Kl} {ps : List (Nat × Bool)} {fp : Option Addr} {fc gF N capF : Nat} {X : List Value} {i : Nat} (h : UtRel w ls ps fp fc gF N capF X i wr) (k : Below wr.heap.size wr W) : UtRel w ls ps fp fc gF N capF X i W := by
  obtain ⟨⟨S, h1, h2⟩, h3, h4, h5⟩ := h
  exact ⟨⟨S, h1.kp (Kp.of_below (B := w.heap.size) (T := []) k) (by simp), h2⟩, own_belowAll h3 k, own_belowAll h4 k, h5.trans (k.mono h5.size)⟩

theorem UtRel.next {w wr : World} {ls : List Kl} {ps : List (Nat × Bool)} {fp : Option Addr} {fc gF N capF : Nat} {X : List Value} {i : Nat} (h : UtRel w ls ps fp fc gF N capF X i wr) : UtRel w ls ps fp fc gF N capF X (i + 1) wr := by
  obtain ⟨⟨S, h1, h2⟩, h3, h4, h5⟩ := h
  exact ⟨⟨S, h1, fun j x hj hx => h2 j x (by omega) hx⟩, h3, h4, h5⟩

/-- Feed i asked: it counts one. -/
theorem UtRel.asked {w wr : World} {ls : List Kl} {ps : List (Nat × Bool)} {fp : Option Addr} {fc gF N capF : Nat} {X : List Value} {i : Nat} {x : Kl} {p : Nat × Bool} (h : UtRel w ls ps fp fc gF N capF X i wr) (hx : ls[i]? = some x) (hp : ps[i]? = some p) :
    Calls Try.prog 44 #[.pointer (some ⟨p.1, 0, none⟩)] wr fun e w' => ∃ (x : Ent) (b : Bool) (c : Int), e = .returned (.tuple #[x.val, .bool b, .int .i64 c]) ∧ UtRel w ls ps fp fc gF N capF X (i + 1) w' ∧ w'.cell? ⟨p.1, 5, none⟩ = some (.int .i64 1) := by
  obtain ⟨⟨S, h1, h2⟩, h3, h4, h5⟩ := h
  have hs := h2 i x (Nat.le_refl _) hx
  refine (feed_calls h1 hp hs (Nat.zero_le _)).mono ?_
  rintro e w' ⟨y, b, c, he, k1, k2⟩
  refine ⟨y, b, c, he, ⟨⟨_, k1, fun j z hj hz => ?_⟩, k2.own h3 (.inl (by decide)), k2.own h4 (.inl (by decide)), h5.trans (k2.below h5.size)⟩, ?_⟩
  · rw [List.getElem?_set_ne (by omega)]
    exact h2 j z (by omega) hz
  · exact (k1.countN hp (List.getElem?_set_self (List.getElem?_eq_some_iff.1 hs).1)).1

theorem zc64 : (Builtin.zeroCells (Value.agg #[.nilFunc]).cells 64).toList = List.replicate 64 .nilFunc := by kernel_rfl

set_option maxRecDepth 100000 in
set_option maxHeartbeats 8000000 in
theorem untouched_calls {w : World} {p : Option Addr} {n c : Nat} {ls : List Kl} {bottom : Bool} (hn : ls.length = n) (hsz : n * 56 ≤ 140737488351232) (hK : KLs w w.heap.size p ls) :
    Calls Try.prog 16 #[.slice p n c, .bool bottom] w fun e w' => e = .returned (.bool true) ∧ Below w.heap.size w w' := by
  obtain ⟨i0, hi0, hz0, hz1, hz2⟩ := info_parts srcinfo
  have hnn : ∀ W : World, (binOp .neq 39 .nilFunc .nilFunc).run Try.prog W = .ok (.bool false) W := fun W => by kernel_rfl
  have hfn : ∀ (W : World) (b : Nat), (binOp .eql 39 (.func (.func 44) #[.pointer (some ⟨b, 0, none⟩)] #[]) .nilFunc).run Try.prog W = .ok (.bool false) W := fun W b => by kernel_rfl
  have HN := Lib.hid hn
  have HK := Lib.hid hK
  clear hn hK
  go_enter Try.func16, Try.ntmps16
  go_wp2_with fail
  refine (fedB_calls (Nat.le_refl _) HN.out (by omega) HK.out).mono ?_
  rintro e w2 ⟨fp, sp, fc, sc, ps, rfl, hb2, hps, hF, hS, hI, hge⟩
  rw [HN.out] at hF hS hps ⊢
  have HPS := Lib.hid hps
  have HF2 := Lib.hid hF
  have HI2 := Lib.hid hI
  have HB2 := Lib.hid hb2
  have hbase := hb2.size
  have chk1 : n + 64 ≤ maxLen := by unfold maxLen; omega
  have chk2 : (n + 64) * 8 ≤ 140737488355328 := by omega
  have hone : ∀ u ∈ (Builtin.zeroCells (Value.agg #[.nilFunc]).cells 64).toList, u.oneCell' = true := by rw [zc64]; intro u hu; rw [List.eq_of_mem_replicate hu]; rfl
  clear hb2 hps hF hI hge
  go_wp2_with (at_builtin; refine wpList_append_ownZ rfl _ _ 37 3 rfl w.heap.size 41 i0 _ .i64 .i64 1 8 Try.underlying37 Try.underlying3 hi0 hz0 hz1 hz2 rfl (by decide) (.slice sp n sc) n _ rfl hS 64 rfl (by decide) hone chk1 chk2 hbase ?_)
  intro v3 w3 hown3 hgrow3
  have hown3 : w3.ownsRow w.heap.size 41 1 v3 (n + 64) (ps.map fdV ++ List.replicate 64 .nilFunc) := by rw [← zc64]; exact hown3
  obtain ⟨gF, capF, rfl, hgb, hlc⟩ : ∃ gF capF, v3 = .slice (some ⟨gF, 0, none⟩) (n + 64) capF ∧ w.heap.size ≤ gF ∧ n + 64 ≤ capF := by
    rcases hown3.2 with ⟨_, e⟩ | ⟨g, cap, cur, e, k1, _, k3, _⟩
    · omega
    · exact ⟨g, cap, e, k1, k3⟩
  have hk3 : Kp w.heap.size [41] w2 w3 := kp_grown hS hgrow3
  have hU0 : UtRel w ls ps fp fc gF (n + 64) capF (ps.map fdV ++ List.replicate 64 .nilFunc) 0 w3 := ⟨⟨_, HI2.out.kp hk3 (by decide), fun j x _ hx => by rw [List.getElem?_map, hx]; rfl⟩, by rw [HN.out]; exact hk3.own HF2.out (.inl (by decide)), hown3, HB2.out.trans (hk3.below hbase)⟩
  have hSL : SL w3 (some ⟨gF, 0, none⟩) (ps.map fdV) := fun j u hj => by
    have hj' := (List.getElem?_eq_some_iff.1 hj).1
    rw [List.length_map, HPS.out] at hj'
    refine ⟨⟨gF, 0, none⟩, rfl, ?_⟩
    rw [show (⟨gF, 0, none⟩ : Addr).add j = ⟨gF, j, none⟩ by unfold Addr.add; split <;> simp_all, hown3.cellAt j (by omega), List.getElem?_append_left (by rw [List.length_map, HPS.out]; exact hj')]
    exact hj
  have HCN : Hid (Calls Try.prog 31 #[.slice (some ⟨gF, 0, none⟩) n capF, .bool bottom] w3 fun e w' => (∃ o, e = .returned (.pointer o)) ∧ Below w3.heap.size w3 w') := Lib.hid (by
    by_cases h1024 : n ≤ 1024
    · refine (New_calls (fs := ps.map fdV) bottom (by rw [List.length_map, HPS.out]) h1024 (fun h => by cases h) hSL (by
        intro u hu
        obtain ⟨p, _, rfl⟩ := List.mem_map.1 hu
        unfold fdV
        split <;> rfl)).mono ?_
      rintro e w' ⟨mb, hb, sv, v, rfl, h, _⟩
      exact ⟨⟨_, rfl⟩, h⟩
    · refine (New_many _ n _ bottom (by omega) (by omega) w3).mono ?_
      rintro e w' ⟨rfl, rfl⟩
      exact ⟨⟨_, rfl⟩, Below.refl _ _⟩)
  have HU0 := Lib.hid hU0
  have s0 : (0 : Int) ≤ (n : Int) := by omega
  have s1 : (n : Int) ≤ (capF : Int) := by omega
  have s2 : n ≤ capF := by omega
  clear hown3 hgrow3 hk3 hU0 hSL hS hone chk1 chk2
  go_wp2_with fail
  refine HCN.out.mono ?_
  rintro e w4 ⟨⟨o, rfl⟩, hb4⟩
  have HU4 := Lib.hid (HU0.out.below hb4)
  clear hb4
  go_wp2
  go_loopw [9] (fun iv wr => ∃ i : Nat, iv = .int .i64 i ∧ i ≤ n + 64 ∧ Hid (UtRel w ls ps fp fc gF (n + 64) capF (ps.map fdV ++ List.replicate 64 .nilFunc) i wr)) (fun iv _ => (n + 64) - (intOf iv).toNat)
  case atStart => exact ⟨0, rfl, Nat.zero_le _, HU4⟩
  case round =>
    obtain ⟨i, rfl, hi, HI⟩ := hrel
    by_cases hlt : i < n + 64
    · have j0 : (0 : Int) ≤ (i : Int) := by omega
      have j1 : (i : Int) < (n : Int) + 64 := by omega
      have hcf := HI.out.2.2.1.cellAt i (by omega)
      by_cases hin : i < n
      · have j2 : (i : Int) < (n : Int) := by omega
        have j3 : ¬ ((n : Int) ≤ (i : Int)) := by omega
        obtain ⟨x, hx⟩ : ∃ x, ls[i]? = some x := ⟨_, List.getElem?_eq_getElem (by rw [HN.out]; exact hin)⟩
        obtain ⟨q, hq⟩ : ∃ q, ps[i]? = some q := ⟨_, List.getElem?_eq_getElem (by rw [HPS.out]; exact hin)⟩
        rw [List.getElem?_append_left (by rw [List.length_map, HPS.out]; exact hin), List.getElem?_map, hq, Option.map_some] at hcf
        obtain ⟨a, rfl, ⟨_, _, k2, _, _⟩, _⟩ := HK.out.below (Nat.le_refl _) HI.out.2.2.2 i x hx
        have hz := cell_lt k2
        obtain ⟨S, hFI, hSx⟩ := HI.out.1
        have hst := hSx i x (Nat.le_refl _) hx
        have hmu : x.mute = q.2 := (hFI.2.2 i q x.st hq hst).1
        have hc5 := (hFI.countN hq hst).1
        rw [show x.st.used = 0 from rfl] at hc5
        obtain ⟨mu, hm⟩ : ∃ m, q.2 = m := ⟨_, rfl⟩
        rw [hmu, hm] at k2
        unfold fdV at hcf
        rw [hm] at hcf
        cases mu with
        | true =>
          simp only [if_true] at hcf
          have HNx := Lib.hid HI.out.next
          clear hx hq hst hmu hc5 hFI hSx hm
          go_wp2
          go_roundw
          case rel => exact ⟨i + 1, by go_num, by omega, HNx⟩
          case measure => simp [intOf]; omega
        | false =>
          simp only [Bool.false_eq_true, if_false] at hcf
          obtain ⟨gf, rfl, hgc⟩ : ∃ gf, fp = some ⟨gf, 0, none⟩ ∧ ∀ W : World, W.ownsRow w.heap.size 67 1 (.slice fp ls.length fc) ls.length (ps.map ptV) → W.cell? ⟨gf, i, none⟩ = some (.pointer (some ⟨q.1, 0, none⟩)) := by
            have key : ∀ W : World, W.ownsRow w.heap.size 67 1 (.slice fp ls.length fc) ls.length (ps.map ptV) → ∃ gf, fp = some ⟨gf, 0, none⟩ ∧ W.cell? ⟨gf, i, none⟩ = some (.pointer (some ⟨q.1, 0, none⟩)) := fun W hW => by
              obtain ⟨_, _, e, _, _, hr⟩ := own_rd hW
              simp only [Value.slice.injEq] at e
              obtain ⟨gf, e2, _, _, h3, _⟩ := hr (by rw [HN.out]; omega)
              refine ⟨gf, e.1.trans e2, ?_⟩
              rw [h3 i (by rw [HN.out]; omega), List.getElem?_map, hq]
              rfl
            obtain ⟨gf, e, _⟩ := key _ HI.out.2.1
            refine ⟨gf, e, fun W hW => ?_⟩
            obtain ⟨gf', e', hc⟩ := key W hW
            rw [e] at e'
            cases e'
            exact hc
          have hcg := hgc _ HI.out.2.1
          have HGC := Lib.hid hgc
          have HAS := Lib.hid (HI.out.asked hx hq)
          clear hx hst hmu hFI hSx hm hgc
          go_wp2_with fail
          refine HAS.out.mono ?_
          rintro e w5 ⟨y, b, c5, rfl, hU5, hc5'⟩
          have hcg5 := HGC.out _ hU5.2.1
          have HU5 := Lib.hid hU5
          clear hU5
          go_wp2
          go_roundw
          case rel => exact ⟨i + 1, by go_num, by omega, HU5⟩
          case measure => simp [intOf]; omega
      · have j3 : (n : Int) ≤ (i : Int) := by omega
        have hcf' : wr.cell? ⟨gF, i, none⟩ = some .nilFunc := by
          rw [hcf, List.getElem?_append_right (by rw [List.length_map, HPS.out]; omega), List.getElem?_replicate, if_pos (by rw [List.length_map, HPS.out]; omega)]
        have HNx := Lib.hid HI.out.next
        clear hcf
        go_wp2
        go_roundw
        case rel => exact ⟨i + 1, by go_num, by omega, HNx⟩
        case measure => simp [intOf]; omega
    · obtain rfl : i = n + 64 := by omega
      have HF := Lib.hid HI.out.2.2.2
      go_wp2
      go_ret
      exact ⟨rfl, HF.out⟩
end Go.Proofs.Ytahdaccmokjgpaa
