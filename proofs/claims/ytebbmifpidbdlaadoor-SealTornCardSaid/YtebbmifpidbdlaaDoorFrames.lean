/-
  WALKS: Frames, by the program and by the document. The text is of at most 2^40 bytes; or of any length below 2^62, with at most 2^42 frames.
-/
import Derived.Test.YtebbmifpidbdlaaDoorFramesP
import Derived.Test.YtebbmifpidbdlaaDoorRefParse
import Derived.Test.YtebbmifpidbdlaaDoorApp
namespace Go.Proofs.YtebbmifpidbdlaaDoor
open Go.RowKit
set_option linter.unusedVariables false

/-- Frames as they lie in memory. -/
def encF (L : List (Int × List UInt8 × Nat)) : List Value := L.flatMap fun x => [.int .i64 x.1, .string ⟨x.2.1.toArray⟩, .int .i64 (x.2.2 : Nat)]
theorem encF_snoc (L : List (Int × List UInt8 × Nat)) (x : Int × List UInt8 × Nat) : encF (L ++ [x]) = encF L ++ [.int .i64 x.1, .string ⟨x.2.1.toArray⟩, .int .i64 (x.2.2 : Nat)] := by simp [encF]
theorem encF_length (L : List (Int × List UInt8 × Nat)) : (encF L).length = L.length * 3 := by
  induction L with
  | nil => rfl
  | cons x L ih => simp only [encF, List.flatMap_cons, List.length_append, List.length_cons, List.length_nil] at ih ⊢; omega
theorem encF_get (L : List (Int × List UInt8 × Nat)) : ∀ j, j < L.length → ∃ x, L[j]? = some x ∧ (encF L)[j * 3]? = some (.int .i64 x.1) ∧ (encF L)[j * 3 + 1]? = some (.string ⟨x.2.1.toArray⟩) ∧ (encF L)[j * 3 + 2]? = some (.int .i64 (x.2.2 : Nat)) := by
  induction L with
  | nil => intro j h; simp at h
  | cons x L ih =>
    intro j h
    cases j with
    | zero => exact ⟨x, rfl, rfl, rfl, rfl⟩
    | succ j =>
      obtain ⟨y, h1, h2, h3, h4⟩ := ih j (by simpa using h)
      refine ⟨y, by simpa using h1, ?_, ?_, ?_⟩
      · rw [show (j + 1) * 3 = j * 3 + 3 by omega]; simpa [encF] using h2
      · rw [show (j + 1) * 3 + 1 = (j * 3 + 1) + 3 by omega]; simpa [encF] using h3
      · rw [show (j + 1) * 3 + 2 = (j * 3 + 2) + 3 by omega]; simpa [encF] using h4
theorem framedinfo : (Tryd.prog.info? 51).map (fun i => (i.zero, i.size, i.bytes)) = some (some (.agg #[.int .i64 0, .string ⟨#[]⟩, .int .i64 0]), 3, 32) := by kernel_rfl

set_option maxRecDepth 100000 in
set_option maxHeartbeats 2000000 in
theorem Frames_calls2 (b : ByteArray) (hb : b.size ≤ 4611686018427387904) (hn : (framesR b.data.toList).1.length * 32 ≤ 140737488355328) (w : World) (hT : Tab w) :
    Calls Tryd.prog 20 #[.string b] w fun e w' => ∃ v, e = .returned (.tuple #[v, .int .i64 ((framesR b.data.toList).2 : Nat)]) ∧ w'.ownsRow w.heap.size 51 3 v (framesR b.data.toList).1.length (encF (framesR b.data.toList).1) ∧ Below w.heap.size w w' := by
  obtain ⟨i0, hi, hz0, hz1, hz2⟩ := info_parts framedinfo
  obtain ⟨FL, hFL⟩ : ∃ L, (framesR b.data.toList).1 = L := ⟨_, rfl⟩
  obtain ⟨FE, hFE⟩ : ∃ L, (framesR b.data.toList).2 = L := ⟨_, rfl⟩
  rw [hFL] at hn
  rw [hFL, hFE]
  have HFL := Lib.hid hFL
  have HFE := Lib.hid hFE
  clear hFL hFE
  go_enter Tryd.func20, Tryd.ntmps20
  go_wp2
  go_loopw [4, 5] (fun v at_ wr => ∃ (L : List (Int × List UInt8 × Nat)) (a n : Nat) (lv : Value), at_ = .int .i64 (a : Nat) ∧ lv = v ∧ Hid (FrSo b.data.toList L a n) ∧ wr.ownsRow w.heap.size 51 3 v L.length (encF L) ∧ Below w.heap.size w wr) (fun _ at_ _ => b.size + 1 - (intOf at_).toNat)
  case atStart => exact ⟨[], 0, _, _, rfl, rfl, Lib.hid (FrSo.start _), World.ownsRow_nil _ _ _ _, Below.refl _ _⟩
  case round =>
    obtain ⟨L, a, n, lv, rfl, rfl, HS, hown, hbl⟩ := hrel
    have CP := Parse_calls b (by omega) (a : Int) wr (hT.below hbl)
    have hla : 14 * L.length ≤ a ∧ a ≤ b.size := ⟨HS.out.2.2.1, HS.out.2.2.2⟩
    obtain ⟨hl1, hl2⟩ := hla
    by_cases he : (parseR b.data.toList a).2.2.2 = 0
    · obtain ⟨m, hm⟩ := HS.out.step he
      obtain ⟨_, hnx, hle⟩ := parse_shape b.data.toList a _ rfl he
      rw [show b.data.toList.length = b.size from rfl] at hle
      have HM := Lib.hid hm
      have hlq : L.length + 1 ≤ FL.length := by rw [← HFL.out, HM.out.1]; simp
      rw [he, hnx] at CP
      obtain ⟨k, hk⟩ : ∃ k, (parseR b.data.toList a).1 = k := ⟨_, rfl⟩
      obtain ⟨p, hp⟩ : ∃ p, (parseR b.data.toList a).2.1 = p := ⟨_, rfl⟩
      rw [hk, hp] at CP HM
      rw [hp] at hle
      obtain ⟨s, hs⟩ : ∃ s : ByteArray, (⟨p.toArray⟩ : ByteArray) = s := ⟨_, rfl⟩
      rw [hs] at CP
      obtain ⟨nx, hnxe⟩ : ∃ nx, a + p.length + 14 = nx := ⟨_, rfl⟩
      rw [hnxe] at CP HM hle
      have hpos : a < nx := by omega
      have HE := Lib.hid (encF_snoc L (k, p, a))
      simp only [hs] at HE
      have HC := Lib.hid CP
      clear CP hm hnx hk hp hs hnxe he
      go_wp2_with fail
      refine HC.out.mono ?_
      rintro e w1 ⟨rfl, hb1⟩
      have hown1 := own_belowAll hown hb1
      have hbl1 := hbl.trans (hb1.mono hbl.size)
      clear hown hb1
      go_wp2_with (at_builtin; refine wpList_append_two _ rfl _ _ 37 rfl w.heap.size 51 i0 (.agg #[.int .i64 0, .string ⟨#[]⟩, .int .i64 0]) 3 32 Tryd.underlying37 hi hz0 hz1 hz2 rfl (by decide) lv L.length _ rfl (hown1.alloc _) ⟨w1.heap.size, 0, none⟩ 1 1 [.int .i64 k, .string s, .int .i64 (a : Nat)] rfl rfl (World.news_of_block (heap_alloc_new w1 _)) (by simp [Value.oneCell']) (by decide) (by unfold maxLen; omega) (by omega) (by have := hbl1.size; simp; omega) ?_; intro g capn y1 hown' hold hlies hlt2)
      have hbn : Below w.heap.size w y1 := hlies.below (hbl1.alloc hbl1.size _) (by have := hbl1.size; simp; omega) (fun g hg => (hown1.lt g hg).1)
      go_roundw
      case rel => exact ⟨L ++ [(k, p, a)], nx, m, _, by go_num, rfl, HM, by rw [List.length_append, HE.out]; exact hown', hbn⟩
      case measure => simp [intOf]; omega
    · have hst := HS.out.stop he
      obtain rfl : FL = L := by rw [← HFL.out, hst]
      obtain rfl : a = FE := by rw [← HFE.out, hst]
      have hne : ((parseR b.data.toList a).2.2.2 != 0) = true := by rw [bne_iff_ne]; exact he
      obtain ⟨q1, hq1⟩ : ∃ k, (parseR b.data.toList a).1 = k := ⟨_, rfl⟩
      obtain ⟨q2, hq2⟩ : ∃ s : ByteArray, (⟨(parseR b.data.toList a).2.1.toArray⟩ : ByteArray) = s := ⟨_, rfl⟩
      obtain ⟨q3, hq3⟩ : ∃ k, (parseR b.data.toList a).2.2.1 = k := ⟨_, rfl⟩
      obtain ⟨q4, hq4⟩ : ∃ k, (parseR b.data.toList a).2.2.2 = k := ⟨_, rfl⟩
      rw [hq1, hq2, hq3, hq4] at CP
      rw [hq4] at hne
      have HC := Lib.hid CP
      clear CP hst hq1 hq2 hq3 hq4 he
      go_wp2_with fail
      refine HC.out.mono ?_
      rintro e w1 ⟨rfl, hb1⟩
      have hown1 := own_belowAll hown hb1
      have hbl1 := hbl.trans (hb1.mono hbl.size)
      go_wp2
      go_ret2
      exact ⟨_, rfl, hown1, hbl1⟩

theorem Frames_calls (b : ByteArray) (hb : b.size ≤ 1099511627776) (w : World) (hT : Tab w) :
    Calls Tryd.prog 20 #[.string b] w fun e w' => ∃ v, e = .returned (.tuple #[v, .int .i64 ((framesR b.data.toList).2 : Nat)]) ∧ w'.ownsRow w.heap.size 51 3 v (framesR b.data.toList).1.length (encF (framesR b.data.toList).1) ∧ Below w.heap.size w w' :=
  Frames_calls2 b (by omega) (by have h := (framesR_le b.data.toList).1; have e : b.data.toList.length = b.size := rfl; omega) w hT

set_option maxRecDepth 100000 in
set_option maxHeartbeats 2000000 in
theorem RefFrames_calls (b : ByteArray) (hb : b.size ≤ 1099511627776) (w : World) :
    Calls Tryd.prog 19 #[.string b] w fun e w' => ∃ v, e = .returned (.tuple #[v, .int .i64 ((framesR b.data.toList).2 : Nat)]) ∧ w'.ownsRow w.heap.size 51 3 v (framesR b.data.toList).1.length (encF (framesR b.data.toList).1) ∧ Below w.heap.size w w' := by
  obtain ⟨i0, hi, hz0, hz1, hz2⟩ := info_parts framedinfo
  obtain ⟨FL, hFL⟩ : ∃ L, (framesR b.data.toList).1 = L := ⟨_, rfl⟩
  obtain ⟨FE, hFE⟩ : ∃ L, (framesR b.data.toList).2 = L := ⟨_, rfl⟩
  rw [hFL, hFE]
  have HFL := Lib.hid hFL
  have HFE := Lib.hid hFE
  clear hFL hFE
  go_enter Tryd.func19, Tryd.ntmps19
  go_wp2
  go_loopw [4, 5] (fun v at_ wr => ∃ (L : List (Int × List UInt8 × Nat)) (a n : Nat) (lv : Value), at_ = .int .i64 (a : Nat) ∧ lv = v ∧ Hid (FrSo b.data.toList L a n) ∧ wr.ownsRow w.heap.size 51 3 v L.length (encF L) ∧ Below w.heap.size w wr) (fun _ at_ _ => b.size + 1 - (intOf at_).toNat)
  case atStart => exact ⟨[], 0, _, _, rfl, rfl, Lib.hid (FrSo.start _), World.ownsRow_nil _ _ _ _, Below.refl _ _⟩
  case round =>
    obtain ⟨L, a, n, lv, rfl, rfl, HS, hown, hbl⟩ := hrel
    have CP := RefParse_calls b (by omega) (a : Int) wr
    have hla : 14 * L.length ≤ a ∧ a ≤ b.size := ⟨HS.out.2.2.1, HS.out.2.2.2⟩
    obtain ⟨hl1, hl2⟩ := hla
    by_cases hend : a < b.size
    · by_cases he : (parseR b.data.toList a).2.2.2 = 0
      · obtain ⟨m, hm⟩ := HS.out.step he
        obtain ⟨_, hnx, hle⟩ := parse_shape b.data.toList a _ rfl he
        rw [show b.data.toList.length = b.size from rfl] at hle
        have HM := Lib.hid hm
        rw [he, hnx] at CP
        obtain ⟨k, hk⟩ : ∃ k, (parseR b.data.toList a).1 = k := ⟨_, rfl⟩
        obtain ⟨p, hp⟩ : ∃ p, (parseR b.data.toList a).2.1 = p := ⟨_, rfl⟩
        rw [hk, hp] at CP HM
        rw [hp] at hle
        obtain ⟨s, hs⟩ : ∃ s : ByteArray, (⟨p.toArray⟩ : ByteArray) = s := ⟨_, rfl⟩
        rw [hs] at CP
        obtain ⟨nx, hnxe⟩ : ∃ nx, a + p.length + 14 = nx := ⟨_, rfl⟩
        rw [hnxe] at CP HM hle
        have hpos : a < nx := by omega
        have HE := Lib.hid (encF_snoc L (k, p, a))
        simp only [hs] at HE
        have HC := Lib.hid CP
        clear CP hm hnx hk hp hs hnxe he
        go_wp2_with fail
        refine HC.out.mono ?_
        rintro e w1 ⟨rfl, q, rfl⟩
        have hown1 : (wr.drewN q).ownsRow w.heap.size 51 3 lv L.length (encF L) := hown
        have hbl1 := below_drewN hbl q
        clear hown
        go_wp2_with (at_builtin; refine wpList_append_two _ rfl _ _ 37 rfl w.heap.size 51 i0 (.agg #[.int .i64 0, .string ⟨#[]⟩, .int .i64 0]) 3 32 Tryd.underlying37 hi hz0 hz1 hz2 rfl (by decide) lv L.length _ rfl (hown1.alloc _) ⟨wr.heap.size, 0, none⟩ 1 1 [.int .i64 k, .string s, .int .i64 (a : Nat)] rfl rfl (World.news_of_block (heap_alloc_new (wr.drewN q) _)) (by simp [Value.oneCell']) (by decide) (by unfold maxLen; omega) (by omega) (by have := hbl1.size; simp at this ⊢; omega) ?_; intro g capn y1 hown' hold hlies hlt2)
        have hbn : Below w.heap.size w y1 := hlies.below (hbl1.alloc hbl1.size _) (by have := hbl1.size; simp at this ⊢; omega) (fun g hg => (hown1.lt g hg).1)
        go_roundw
        case rel => exact ⟨L ++ [(k, p, a)], nx, m, _, by go_num, rfl, HM, by rw [List.length_append, HE.out]; exact hown', hbn⟩
        case measure => simp [intOf]; omega
      · have hst := HS.out.stop he
        obtain rfl : FL = L := by rw [← HFL.out, hst]
        obtain rfl : a = FE := by rw [← HFE.out, hst]
        have hne : ((parseR b.data.toList a).2.2.2 != 0) = true := by rw [bne_iff_ne]; exact he
        obtain ⟨q1, hq1⟩ : ∃ k, (parseR b.data.toList a).1 = k := ⟨_, rfl⟩
        obtain ⟨q2, hq2⟩ : ∃ s : ByteArray, (⟨(parseR b.data.toList a).2.1.toArray⟩ : ByteArray) = s := ⟨_, rfl⟩
        obtain ⟨q3, hq3⟩ : ∃ k, (parseR b.data.toList a).2.2.1 = k := ⟨_, rfl⟩
        obtain ⟨q4, hq4⟩ : ∃ k, (parseR b.data.toList a).2.2.2 = k := ⟨_, rfl⟩
        rw [hq1, hq2, hq3, hq4] at CP
        rw [hq4] at hne
        have HC := Lib.hid CP
        clear CP hst hq1 hq2 hq3 hq4 he
        go_wp2_with fail
        refine HC.out.mono ?_
        rintro e w1 ⟨rfl, q, rfl⟩
        go_wp2
        go_ret2
        exact ⟨_, rfl, hown, below_drewN hbl q⟩
    · obtain rfl : a = b.size := by omega
      have hst := HS.out.stop (parse_at_end b.data.toList)
      obtain rfl : FL = L := by rw [← HFL.out, hst]
      have hfe : FE = b.size := by rw [← HFE.out, hst]
      subst hfe
      clear hst CP
      go_wp2
      go_ret2
      exact ⟨_, rfl, hown, hbl⟩
end Go.Proofs.YtebbmifpidbdlaaDoor
