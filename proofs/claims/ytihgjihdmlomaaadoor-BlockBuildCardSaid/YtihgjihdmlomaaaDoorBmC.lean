/-
  WALK: texts of a list, joined (the document's joined).
-/
import Derived.Test.YtihgjihdmlomaaaDoorBmB
namespace Go.Proofs.YtihgjihdmlomaaaDoor
open Go.RowKit ArgK
set_option linter.unusedVariables false

/-- t of the texts from f on, joined. -/
def jn (L : List ByteArray) (f t : Nat) : List UInt8 := ((L.drop f).take t).flatMap (fun s => s.data.toList)
theorem jn_zero (L : List ByteArray) (f : Nat) : jn L f 0 = [] := rfl
theorem jn_succ {L : List ByteArray} {f t : Nat} {x : ByteArray} (h : L[f + t]? = some x) : jn L f (t + 1) = jn L f t ++ x.data.toList := by
  unfold jn
  rw [List.take_add_one, List.getElem?_drop, h]
  simp
theorem jn_len {L : List ByteArray} {f : Nat} (hs : ∀ x ∈ L, x.size ≤ 4096) : ∀ t, (jn L f t).length ≤ t * 4096
  | 0 => by simp [jn_zero]
  | t + 1 => by
    have ih := jn_len hs (f := f) t
    rcases h : L[f + t]? with _ | x
    · have e : jn L f (t + 1) = jn L f t := by
        unfold jn
        rw [List.take_add_one, List.getElem?_drop, h]
        simp
      rw [e]
      exact Nat.le_trans ih (Nat.mul_le_mul_right _ (Nat.le_succ _))
    · rw [jn_succ h, List.length_append]
      have := hs x (List.mem_of_getElem? h)
      have e : x.data.toList.length = x.size := rfl
      rw [e, Nat.succ_mul]
      exact Nat.add_le_add ih this

theorem u8infoM : (Tryd.prog.info? 5).map (fun i => (i.zero, i.size, i.bytes)) = some (some (.int .u8 0), 1, 1) := by kernel_rfl

/-- At the head of each round. -/
def JnRel (w : World) (L : List ByteArray) (f q t : Nat) (bv : Value) (wr : World) : Prop :=
  t ≤ q ∧ wr.ownsRow w.heap.size 5 1 bv (jn L f t).length (Lib.byteCells (jn L f t)) ∧ Below w.heap.size w wr

set_option maxRecDepth 100000 in
set_option maxHeartbeats 2000000 in
theorem joined_calls (p : Option Addr) (n c f q : Nat) (L : List ByteArray) (hn : L.length = n) (hm : n ≤ 2097152) (hfq : f + q ≤ n) (hs : ∀ x ∈ L, x.size ≤ 4096) (w : World) (hE : SL w w.heap.size p L) :
    Calls Tryd.prog 42 #[.slice p n c, .int .i64 (f : Int), .int .i64 (q : Int)] w fun e w' => e = .returned (.string ⟨(jn L f q).toArray⟩) ∧ Below w.heap.size w w' := by
  obtain ⟨i0, hi, hz0, hz1, hz2⟩ := info_parts u8infoM
  have HN := Lib.hid hn
  have HE := Lib.hid hE
  have HS := Lib.hid hs
  have H0 : Hid (JnRel w L f q 0 (.slice none 0 0) w) := Lib.hid ⟨Nat.zero_le _, World.ownsRow_nil _ _ _ _, Below.refl _ _⟩
  obtain ⟨M, hM⟩ : ∃ M, f + q = M := ⟨_, rfl⟩
  have hlim : IntKind.i64.wrap ((f : Int) + (q : Int)) = (M : Int) := by rw [IntKind.wrap_i64]; omega
  clear hn hE hs
  go_enter Tryd.func42, Tryd.ntmps42
  go_wp2
  go_loopw [7, 8] (fun bv i wr => ∃ t : Nat, i = .int .i64 ((f + t : Nat) : Int) ∧ JnRel w L f q t bv wr) (fun _ i _ => M - (intOf i).toNat)
  case atStart => exact ⟨0, by simp, H0.out⟩
  case round =>
    obtain ⟨t, rfl, ht, hown, hbl⟩ := hrel
    obtain ⟨k, hk⟩ : ∃ k, f + t = k := ⟨_, rfl⟩
    have hlen := jn_len HS.out (f := f) t
    rw [hk]
    obtain ⟨l, hl⟩ : ∃ l, jn L f t = l := ⟨_, rfl⟩
    rw [hl] at hown hlen
    by_cases hlt : t < q
    · obtain ⟨x, hx⟩ : ∃ x, L[f + t]? = some x := ⟨_, List.getElem?_eq_getElem (by rw [HN.out]; omega)⟩
      have hx4 := HS.out x (List.mem_of_getElem? hx)
      have HJ : Hid (jn L f (t + 1) = l ++ x.data.toList) := Lib.hid (by rw [jn_succ hx, hl])
      rw [hk] at hx
      obtain ⟨a, rfl, haB, hc0⟩ := HE.out k x hx
      have hxo := (hbl.cell (by rw [add_blockE]; exact haB)).trans hc0
      have i0' : (0 : Int) ≤ (k : Int) := by omega
      have i1' : (k : Int) < (n : Int) := by omega
      have hi2 : (k : Int) < (M : Int) := by omega
      have hkk : f + (t + 1) = k + 1 := by omega
      have hbs := hbl.size
      have htq : t + 1 ≤ q := hlt
      have hln : (l ++ x.data.toList).length = l.length + x.size := by rw [List.length_append]; rfl
      clear hx hc0 hl
      go_wp2_with (at_builtin; refine Lib.wpList_append_own_string _ rfl _ _ 53 9 rfl w.heap.size 5 i0 Tryd.underlying53 Tryd.underlying9 hi hz0 hz1 hz2 _ _ _ rfl hown x rfl ?c3 ?c4 ?c5 ?_)
      case c3 => unfold maxLen; omega
      case c4 => omega
      case c5 => exact hbs
      intro v' w2 hown' hgrow _
      have hb2 : Below w.heap.size w w2 := hbl.grown hgrow hbs (fun g hg => (hown.lt g hg).1)
      have hown2 : w2.ownsRow w.heap.size 5 1 v' (l ++ x.data.toList).length (Lib.byteCells (l ++ x.data.toList)) := by
        rw [hln, Lib.byteCells_append]
        exact hown'
      have HR : Hid (JnRel w L f q (t + 1) v' w2) := Lib.hid ⟨htq, by rw [HJ.out]; exact hown2, hb2⟩
      clear hown' hown2 hgrow hb2 hown
      go_wp2
      go_roundw
      case rel => exact ⟨t + 1, by rw [hkk]; go_num, HR.out⟩
      case measure => simp [intOf]; omega
    · obtain rfl : t = q := by omega
      have hi2 : ¬ ((k : Int) < (M : Int)) := by omega
      have hi3 : ¬ (k < M) := by omega
      have hi4 : M ≤ k := by omega
      have hown8 : wr.ownsRow w.heap.size 5 1 _ l.length (l.map by8) := hown
      have hs := own_toStr (P := Tryd.prog) 53 9 5 Tryd.underlying53 Tryd.underlying5 Tryd.underlying9 hown8
      have HL := Lib.hid hl
      clear hown hown8 hl
      generalize hLS : (⟨l.toArray⟩ : ByteArray) = LS at hs
      have HEnd : Hid (Below w.heap.size w wr ∧ (⟨(jn L f t).toArray⟩ : ByteArray) = LS) := Lib.hid ⟨hbl, by rw [HL.out]; exact hLS⟩
      clear hLS
      go_wp2
      go_ret
      exact ⟨by rw [HEnd.out.2]; rfl, HEnd.out.1⟩
end Go.Proofs.YtihgjihdmlomaaaDoor
