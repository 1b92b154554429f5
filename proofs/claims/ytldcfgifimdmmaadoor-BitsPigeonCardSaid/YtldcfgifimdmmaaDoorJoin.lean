/-
  WALKS: Join, by the program. (In progress.)
-/
import Derived.Test.YtldcfgifimdmmaaDoorChunksF
import Derived.Test.YtldcfgifimdmmaaDoorJoinP
import Derived.Test.YtldcfgifimdmmaaDoorWidth
import Derived.Test.YtldcfgifimdmmaaDoorRound
import Derived.Test.YtldcfgifimdmmaaDoorMem
import Derived.Test.YtldcfgifimdmmaaDoorKit
import Derived.Deep.RegionHeldLaw
import Derived.Laws.ResultCell
namespace Go.Proofs.YtldcfgifimdmmaaDoor
open Go.RowKit Go.Shelf XKit
set_option linter.unusedVariables false

theorem u8infoJ : (Tryd.prog.info? 5).map (fun i => (i.zero, i.size, i.bytes)) = some (some (.int .u8 0), 1, 1) := by kernel_rfl

theorem bys_own {β : Type} (g : Nat) (t : TypeId) (f : β → List UInt8) : Own (fun s W => Bys W g t (f s)) := by
  rintro s X Y row hs hg hr
  refine hs.of_heap (hg.block g hs.lt (fun e' => ?_))
  obtain ⟨o, ho, hc⟩ := hr g e'.symm
  obtain ⟨cs, lo, hi, hh, _⟩ := hs
  rw [hh] at ho; cases ho; cases hc
theorem results_cells2 {fn : Func} {p u : Tmp} {ty ty' : TypeId} (h : fn.results = #[.cell p ty, .cell u ty']) (tmps : Array Value) (P : Program) (w : World) :
    (results fn tmps).run P w =
      ((asAddr (tmps.getD p undef)).run P w).andThen fun a w₁ => ((loadVar ty a).run P w₁).andThen fun v w₂ =>
        ((asAddr (tmps.getD u undef)).run P w₂).andThen fun a' w₃ => ((loadVar ty' a').run P w₃).andThen fun v' w₄ => .ok (.tuple #[v, v']) w₄ := by
  simp only [results, h]
  simp [Sem.run_bind, Result.andThen]
theorem grownBy_setCellAt (W : World) (b k : Nat) (v : Value) : W.grownBy (W.setCell ⟨b, k, none⟩ v) (some b) :=
  ⟨rfl, rfl, rfl, (KeepsWalks.setCell W _ v).size, fun g _ hg => Below.heap_setCell _ _ _ g (fun e => hg (by rw [e]))⟩
/-- A value that its chunk can hold. -/
def goodV (w m : Nat) (zs : List Int) (x : Fin m) : Prop := 0 ≤ zs.getD x.val 0 ∧ zs.getD x.val 0 < 2 ^ cN w m x.val
/-- What the bytes are when the chunks of pre have been put on. -/
def putAll (w m : Nat) (zs : List Int) (pre : List (Fin m)) : List UInt8 := pre.foldl (fun l x => wrB l (cF w m x.val) (bitsN (zs.getD x.val 0).toNat (cN w m x.val))) (List.replicate (w / 8) 0)
theorem putAll_snoc (w m : Nat) (zs : List Int) (pre : List (Fin m)) (x : Fin m) : putAll w m zs (pre ++ [x]) = wrB (putAll w m zs pre) (cF w m x.val) (bitsN (zs.getD x.val 0).toNat (cN w m x.val)) := by simp [putAll, List.foldl_append]
theorem putAll_length (w m : Nat) (zs : List Int) (pre : List (Fin m)) : (putAll w m zs pre).length = w / 8 := by
  have : ∀ (pre : List (Fin m)) (l : List UInt8), (pre.foldl (fun l x => wrB l (cF w m x.val) (bitsN (zs.getD x.val 0).toNat (cN w m x.val))) l).length = l.length := by
    intro pre
    induction pre with
    | nil => intro l; rfl
    | cons x pre ih => intro l; rw [List.foldl_cons, ih, wrB_length]
  unfold putAll
  rw [this]; simp
theorem putAll_fr (w m : Nat) (zs : List Int) : ∀ k, k ≤ m → putAll w m zs (fr m k) = wrB (List.replicate (w / 8) 0) 0 (valBits w m (zs.map Int.toNat) k)
  | 0, _ => rfl
  | k + 1, h => by
    have hz : (zs.map Int.toNat).getD k 0 = (zs.getD k 0).toNat := by
      simp only [List.getD, List.getElem?_map]
      cases zs[k]? <;> rfl
    rw [fr_succ m k (by omega), putAll_snoc, putAll_fr w m zs k (by omega), valBits_succ, wrB_append, valBits_length, Nat.zero_add, hz]
theorem putAll_all (w m : Nat) (zs : List Int) : putAll w m zs (fr m m) = joinB w m (zs.map Int.toNat) := putAll_fr w m zs m (Nat.le_refl _)

attribute [local go_sem] Oper.semAt_some

set_option maxRecDepth 100000 in
set_option maxHeartbeats 2000000 in
theorem Join_in (w : World) (n : Nat) (hn : 6 ≤ n) (q : Option Addr) (cap : Nat) (zs : List Int) (w0 m0 : Nat) (hc0 : chunkedR w0 m0 = 0) (hz : zs.length = m0) (hq : ∀ i, i < m0 → ∃ a, q = some a ∧ w.cell? (a.add i) = some (.int .i64 (zs.getD i 0))) (hm : 0 < m0) (hm2 : m0 ≤ 1024) (hw : w0 ≤ 1024) (h32 : ∀ j, j < m0 → cN w0 m0 j ≤ 32) (h8 : w0 % 8 = 0) :
    CallsIn Fence.wide n Tryd.prog 21 #[.int .i64 w0, .int .i64 m0, .slice q m0 cap] w fun e w' => ((∀ x : Fin m0, goodV w0 m0 zs x) → e = .returned (.tuple #[.string ⟨(joinB w0 m0 (zs.map Int.toNat)).toArray⟩, .int .i64 0])) ∧ ((¬ ∀ x : Fin m0, goodV w0 m0 zs x) → e = .returned (.tuple #[.string ⟨#[]⟩, .int .i64 13])) ∧ Below w.heap.size w w' := by
  have h1 : 1 ≤ n := by omega
  have C := fun W => chunked_calls w0 m0 W
  simp only [hc0] at C
  have HC := Lib.hid C
  obtain ⟨i0, hi, hz0, hz1, hz2⟩ := info_parts u8infoJ
  obtain ⟨nb, hnb⟩ : ∃ nb, w0 / 8 = nb := ⟨_, rfl⟩
  have HNB := Lib.hid hnb
  have hmk := fun W : World => run_make_bytes (P := Tryd.prog) 53 5 i0 Tryd.underlying53 hi hz0 hz1 hz2 nb (by omega) W
  have hnbi : (w0 : Int) / 8 = (nb : Int) := by omega
  clear C hc0 hnb
  refine callsIn_of_wp_marks Tryd.func21 rfl trivial ?_ rfl
  simp only [Tryd.ntmps21, List.size_toArray, List.length_cons, List.length_nil, Nat.reduceAdd, Nat.reduceSub, Array.replicate_succ, Array.replicate_zero, List.push_toArray, List.append_toArray, List.nil_append, List.cons_append]
  gi_wp2_with (first
    | (refine ⟨trivial, ?_⟩; gi_at_call 28; refine (callsIn_wide.2 (HC.out _)).mono ?_; rintro e w' ⟨rfl, rfl⟩)
    | (refine ⟨trivial, ?_⟩; gi_at_call 29; refine (callsIn_wide.2 (chunks_calls w0 m0 _)).mono ?_; rintro e w' ⟨rfl, rfl⟩))
  obtain ⟨W0, hW0⟩ : ∃ W0, (((((((w.alloc (.cells #[.slice q m0 cap] 30)).alloc (.cells #[.string ⟨#[]⟩] 9)).alloc (.cells #[.int .i64 0] 23)).alloc (.cells (madeCells #[.int .u8 0] nb) 5)).alloc (.cells #[.slice (some ⟨w.heap.size + 1 + 1 + 1, 0, none⟩) nb nb] 53)).alloc (.cells #[.int .i64 (w0 : Int)] 3)).alloc (.cells #[.int .i64 (m0 : Int)] 3)) = W0 := ⟨_, rfl⟩
  have hsz : W0.heap.size = w.heap.size + 7 := by rw [← hW0]; simp
  have hbq0 : Boxed W0 (w.heap.size) 30 (.slice q m0 cap) := by
    rw [← hW0]
    have := Boxed.new w 30 (.slice q m0 cap)
    exact ((((((this.alloc _).alloc _).alloc _).alloc _).alloc _).alloc _)
  have hbr0 : Boxed W0 (w.heap.size + 1) 9 (.string ⟨#[]⟩) := by
    rw [← hW0]
    have := Boxed.new (w.alloc (.cells #[.slice q m0 cap] 30)) 9 (.string ⟨#[]⟩)
    simp only [World.size_alloc] at this
    exact (((((this.alloc _).alloc _).alloc _).alloc _).alloc _)
  have hbe0 : Boxed W0 (w.heap.size + 1 + 1) 23 (.int .i64 0) := by
    rw [← hW0]
    have := Boxed.new ((w.alloc (.cells #[.slice q m0 cap] 30)).alloc (.cells #[.string ⟨#[]⟩] 9)) 23 (.int .i64 0)
    simp only [World.size_alloc] at this
    exact ((((this.alloc _).alloc _).alloc _).alloc _)
  have hbb0 : Boxed W0 (w.heap.size + 1 + 1 + 1 + 1) 53 (.slice (some ⟨w.heap.size + 1 + 1 + 1, 0, none⟩) nb nb) := by
    rw [← hW0]
    have := Boxed.new ((((w.alloc (.cells #[.slice q m0 cap] 30)).alloc (.cells #[.string ⟨#[]⟩] 9)).alloc (.cells #[.int .i64 0] 23)).alloc (.cells (madeCells #[.int .u8 0] nb) 5)) 53 (.slice (some ⟨w.heap.size + 1 + 1 + 1, 0, none⟩) nb nb)
    simp only [World.size_alloc] at this
    exact ((this.alloc _).alloc _)
  have hbw0 : Boxed W0 (w.heap.size + 1 + 1 + 1 + 1 + 1) 3 (.int .i64 w0) := by
    rw [← hW0]
    have := Boxed.new (((((w.alloc (.cells #[.slice q m0 cap] 30)).alloc (.cells #[.string ⟨#[]⟩] 9)).alloc (.cells #[.int .i64 0] 23)).alloc (.cells (madeCells #[.int .u8 0] nb) 5)).alloc (.cells #[.slice (some ⟨w.heap.size + 1 + 1 + 1, 0, none⟩) nb nb] 53)) 3 (.int .i64 w0)
    simp only [World.size_alloc] at this
    exact (this.alloc _)
  have hbm0 : Boxed W0 (w.heap.size + 1 + 1 + 1 + 1 + 1 + 1) 3 (.int .i64 m0) := by
    rw [← hW0]
    have := Boxed.new ((((((w.alloc (.cells #[.slice q m0 cap] 30)).alloc (.cells #[.string ⟨#[]⟩] 9)).alloc (.cells #[.int .i64 0] 23)).alloc (.cells (madeCells #[.int .u8 0] nb) 5)).alloc (.cells #[.slice (some ⟨w.heap.size + 1 + 1 + 1, 0, none⟩) nb nb] 53)).alloc (.cells #[.int .i64 (w0 : Int)] 3)) 3 (.int .i64 m0)
    simp only [World.size_alloc] at this
    exact this
  have hB0 : Bys W0 (w.heap.size + 1 + 1 + 1) 5 (List.replicate (w0 / 8) 0) := by
    rw [← hW0, HNB.out]
    have := Bys.made (((w.alloc (.cells #[.slice q m0 cap] 30)).alloc (.cells #[.string ⟨#[]⟩] 9)).alloc (.cells #[.int .i64 0] 23)) 5 nb
    simp only [World.size_alloc] at this
    exact (((this.alloc _).alloc _).alloc _)
  have hbl0 : Below w.heap.size w W0 := by
    rw [← hW0]; exact (((((((Below.refl _ w).alloc (Nat.le_refl _) _).alloc (by simp) _).alloc (by simp; omega) _).alloc (by simp; omega) _).alloc (by simp; omega) _).alloc (by simp; omega) _).alloc (by simp; omega) _
  rw [hW0]
  clear hW0 hmk
  have hw0 := hbw0.cell
  have hm0 := hbm0.cell
  refine wpIn_rangeFunc_ownH rfl h1 (gf := 31) (lb := #[.pointer (some ⟨w.heap.size + 1 + 1 + 1 + 1 + 1 + 1, 0, none⟩), .pointer (some ⟨w.heap.size + 1 + 1 + 1 + 1 + 1, 0, none⟩)]) rfl trivial (enters_of Tryd.func31 (by kernel_rfl) rfl)
    (chunksF_stops (n - 1) (by omega) _ _ w0 m0 hm hm2 hw W0 hm0 hw0 (by omega) (by omega)) KeepAt.trans (KeepAt.put (by simp; omega)) (Below.refl _ _) (fun _ => rfl)
    (fun pre W => ((Bys W (w.heap.size + 1 + 1 + 1) 5 (putAll w0 m0 zs pre) ∧ Below w.heap.size w W) ∧ ((Boxed W (w.heap.size) 30 (.slice q m0 cap) ∧ Boxed W (w.heap.size + 1) 9 (.string ⟨#[]⟩)) ∧ (Boxed W (w.heap.size + 1 + 1) 23 (.int .i64 0) ∧ Boxed W (w.heap.size + 1 + 1 + 1 + 1) 53 (.slice (some ⟨w.heap.size + 1 + 1 + 1, 0, none⟩) nb nb)) ∧ (Boxed W (w.heap.size + 1 + 1 + 1 + 1 + 1) 3 (.int .i64 w0) ∧ Boxed W (w.heap.size + 1 + 1 + 1 + 1 + 1 + 1) 3 (.int .i64 m0)))) ∧ (∀ x ∈ pre, goodV w0 m0 zs x))
    (fun c pre W => ((Boxed W (w.heap.size + 1) 9 (.string ⟨#[]⟩) ∧ Boxed W (w.heap.size + 1 + 1) 23 (.int .i64 13)) ∧ Below w.heap.size w W) ∧ (c = .ret ∧ ¬ ∀ x : Fin m0, goodV w0 m0 zs x))
    ?hI ?hIx
    ⟨⟨⟨hB0, hbl0⟩, ⟨hbq0, hbr0⟩, ⟨hbe0, hbb0⟩, hbw0, hbm0⟩, fun x hx => by cases hx⟩
    (fun x a' W => ∃ p, (∃ u31 u32, a' = { tmps := #[.int .i64 w0, .int .i64 m0, .slice q m0 cap, undef, undef, .pointer (some ⟨w.heap.size, 0, none⟩), .pointer (some ⟨w.heap.size + 1, 0, none⟩), .pointer (some ⟨w.heap.size + 1 + 1, 0, none⟩), .int .i64 0, .pointer (some ⟨w.heap.size + 1 + 1 + 1 + 1, 0, none⟩), .int .i64 (x.val : Nat), .pointer (some ⟨p, 0, none⟩), undef, undef, undef, .int .i64 w0, .int .i64 m0, .int .i64 0, .int .i64 0, .bool false, undef, .slice q m0 cap, .int .i64 m0, .int .i64 m0, .bool false, .int .i64 w0, .int .i64 (nb : Int), .slice (some ⟨w.heap.size + 1 + 1 + 1, 0, none⟩) nb nb, .int .i64 w0, .int .i64 m0, .func (.func 31) #[] #[.pointer (some ⟨w.heap.size + 1 + 1 + 1 + 1 + 1 + 1, 0, none⟩), .pointer (some ⟨w.heap.size + 1 + 1 + 1 + 1 + 1, 0, none⟩)], u31, u32, undef, undef, undef, undef, undef, undef, undef, undef, undef, undef, undef, undef, undef, undef, undef, undef, undef, undef, undef, undef, undef, undef, undef, undef, undef, undef, undef, undef, undef, undef, undef, undef, undef, undef, undef, undef, undef, undef, undef, undef, undef, undef, undef, undef, undef], defers := [] }) ∧
      W.heap[p]? = some (.cells #[.int .i64 (cF w0 m0 x.val : Int), .int .i64 (cN w0 m0 x.val : Int)] 49 (0, 0)) ∧ w.heap.size + 7 ≤ p) ?hax ?assign ?body ?done ?stop
  case hI =>
    exact OwnFrom.and (OwnFrom.and (OwnFrom.and (Own.from (bys_own _ _ _) _) (ownFrom_below (Nat.le_refl _) (by omega)))
      (OwnFrom.and (OwnFrom.and (Own.from (boxed_own _ _ (fun _ => _)) _) (Own.from (boxed_own _ _ (fun _ => _)) _)) (OwnFrom.and (OwnFrom.and (Own.from (boxed_own _ _ (fun _ => _)) _) (Own.from (boxed_own _ _ (fun _ => _)) _)) (OwnFrom.and (Own.from (boxed_own _ _ (fun _ => _)) _) (Own.from (boxed_own _ _ (fun _ => _)) _)))))
      (ownFrom_pure _ _)
  case hIx =>
    intro c
    exact OwnFrom.and (OwnFrom.and (OwnFrom.and (Own.from (boxed_own _ _ (fun _ => _)) _) (Own.from (boxed_own _ _ (fun _ => _)) _)) (ownFrom_below (Nat.le_refl _) (by omega))) (ownFrom_pure _ _)
  case hax =>
    rintro x a' _ X Y row ⟨p, he, hp, hle⟩ hg hr
    exact ⟨p, he, (hg.block p (Array.getElem?_eq_some_iff.1 hp).1 (fun e' => by obtain ⟨_, o, ho, hc⟩ := hr p e'.symm; rw [hp] at ho; cases ho; cases hc)).trans hp, hle⟩
  case assign =>
    rintro l pre x W K ⟨⟨⟨hB, hbl⟩, ⟨hbq, hbr⟩, ⟨hbe, hbb⟩, hbw, hbm⟩, hgd⟩ hK
    have hle : w.heap.size + 7 ≤ W.heap.size := by have := hbm.lt; omega
    simp only [chunkF, chunkA]
    gi_wp2
    exact hK _ _ ((KeepsOthers.alloc _ _).from _) (KeepAt.alloc (by simp; omega) _) ⟨⟨⟨hB.alloc _, hbl.alloc hbl.size _⟩, ⟨hbq.alloc _, hbr.alloc _⟩, ⟨hbe.alloc _, hbb.alloc _⟩, hbw.alloc _, hbm.alloc _⟩, hgd⟩ ⟨W.heap.size, ⟨_, _, rfl⟩, heap_alloc_new W _, hle⟩
  case body =>
    rintro l pre x a' W _ _ ⟨⟨⟨hB, hbl⟩, ⟨hbq, hbr⟩, ⟨hbe, hbb⟩, hbw, hbm⟩, hgd⟩ ⟨p, ⟨u31, u32, rfl⟩, hp, hle⟩ hlen
    obtain ⟨a, rfl, hca⟩ := hq x.val x.isLt
    have hca' : W.cell? (a.add x.val) = some (.int .i64 (zs.getD x.val 0)) := (hbl.cell (p := a.add x.val) (by
      rcases Nat.lt_or_ge (a.add x.val).block w.heap.size with h | h
      · exact h
      · simp [World.cell?, Array.getElem?_eq_none h] at hca)).trans hca
    have c0 : W.cell? ⟨p, 0, none⟩ = some (.int .i64 (cF w0 m0 x.val : Int)) := by rw [cell_of_row W p 0 _ _ _ hp]; rfl
    have c1 : W.cell? ⟨p, 1, none⟩ = some (.int .i64 (cN w0 m0 x.val : Int)) := by rw [cell_of_row W p 1 _ _ _ hp]; rfl
    have q1 := hbq.cell
    have r1 := hbr.cell
    have r2 := hbr.frozen
    have s1 := hbe.cell
    have s2 := hbe.frozen
    have hfe := cF_end w0 m0 x.val hm x.isLt
    obtain ⟨f, hf⟩ : ∃ f, cF w0 m0 x.val = f := ⟨_, rfl⟩
    obtain ⟨c, hc⟩ : ∃ c, cN w0 m0 x.val = c := ⟨_, rfl⟩
    obtain ⟨z, hzv⟩ : ∃ z, zs.getD x.val 0 = z := ⟨_, rfl⟩
    have hGV : Hid (goodV w0 m0 zs x ↔ 0 ≤ z ∧ z < 2 ^ c) := Lib.hid (by unfold goodV; rw [hc, hzv])
    rw [hf, hc] at hfe
    rw [hf] at c0
    rw [hc] at c1
    rw [hzv] at hca'
    have HF := Lib.hid hf
    have HC2 := Lib.hid hc
    have HZ := Lib.hid hzv
    clear hca hf hc hzv
    by_cases hneg : z < 0
    · gi_wp2
      exact ⟨((KeepsOthers.setCell _ _ _).trans (KeepsOthers.setCell _ _ _)).from _, ⟨⟨(hbr.set _).other (by omega) _, (hbe.other (by omega) _).set _⟩, (hbl.setCell (p := ⟨w.heap.size + 1, 0, none⟩) (by simp) _).setCell (p := ⟨w.heap.size + 1 + 1, 0, none⟩) (by simp; omega) _⟩, rfl, fun hall => by have := hGV.out.1 (hall x); omega⟩
    obtain ⟨v, rfl⟩ := Int.eq_ofNat_of_zero_le (show 0 ≤ z by omega)
    have hc32 := h32 x.val x.isLt
    rw [HC2.out] at hc32
    by_cases hwide : 2 ^ c ≤ v
    · have hw1 : ((v : Int) / 2 ^ c != 0) = true := by
        rw [bne_iff_ne]
        have e : (v : Int) / 2 ^ c = ((v / 2 ^ c : Nat) : Int) := by simp
        have := Nat.div_pos hwide (Nat.two_pow_pos c)
        rw [e]; omega
      have hw2 : ¬ ((v : Int) < 2 ^ c) := by
        have e : ((2 ^ c : Nat) : Int) = (2 : Int) ^ c := by simp
        rw [← e]; omega
      clear hwide
      gi_wp2
      exact ⟨((KeepsOthers.setCell _ _ _).trans (KeepsOthers.setCell _ _ _)).from _, ⟨⟨(hbr.set _).other (by omega) _, (hbe.other (by omega) _).set _⟩, (hbl.setCell (p := ⟨w.heap.size + 1, 0, none⟩) (by simp) _).setCell (p := ⟨w.heap.size + 1 + 1, 0, none⟩) (by simp; omega) _⟩, rfl, ⟨x, fun hg => absurd (hGV.out.1 hg).2 (Int.not_lt.2 hw2)⟩⟩
    have hw1 : ((v : Int) / 2 ^ c != 0) = false := by
      rw [bne_eq_false_iff_eq]
      have e : (v : Int) / 2 ^ c = ((v / 2 ^ c : Nat) : Int) := by simp
      rw [e, Nat.div_eq_of_lt (by omega)]; rfl
    have HW : Hid (v < 2 ^ c) := Lib.hid (by omega)
    clear hwide
    gi_wp2
    gi_loopw [13, 14, 48] (fun _ _ i wr => ∃ k : Nat, k ≤ c ∧ i = .int .i64 (k : Nat) ∧ Bys wr (w.heap.size + 1 + 1 + 1) 5 (wrB (putAll w0 m0 zs pre) f ((bitsN v c).take k)) ∧ Below w.heap.size W wr ∧ KeepsOthers W wr ∧
      KeepAt [w.heap.size + 1 + 1 + 1 + 1 + 1 + 1, w.heap.size + 1 + 1 + 1 + 1 + 1, w.heap.size + 1 + 1 + 1 + 1, w.heap.size + 1 + 1, w.heap.size + 1, w.heap.size, p] W wr) (fun _ _ i _ => c - (intOf i).toNat)
    case atStart => exact ⟨0, Nat.zero_le _, rfl, by simpa [wrB] using hB, Below.refl _ _, KeepsOthers.refl _, KeepAt.refl _ _⟩
    case round =>
      obtain ⟨k, hk, rfl, hBk, hblk, hkok, hka⟩ := hrel
      have hbbk : Boxed wr _ _ _ := (hka (w.heap.size + 1 + 1 + 1 + 1) (by simp)).trans hbb
      have hpk := (hka p (by simp)).trans hp
      by_cases hlt : k < c
      · obtain ⟨d, hd⟩ : ∃ d, c = k + 1 + d := ⟨c - 1 - k, by omega⟩
        have hdi : (c : Int) - 1 - (k : Int) = (d : Int) := by omega
        have hlen : (wrB (putAll w0 m0 zs pre) f ((bitsN v c).take k)).length = nb := by rw [wrB_length, putAll_length, HNB.out]
        obtain ⟨i, hik⟩ : ∃ i, f + k = i := ⟨_, rfl⟩
        have hii : (f : Int) + (k : Int) = (i : Int) := by omega
        have hcell := hBk.cell (i := i / 8) (by rw [hlen]; have := HNB.out; omega)
        have hfroz := hBk.frozen (i := i / 8) (by rw [hlen]; have := HNB.out; omega)
        obtain ⟨o, ho⟩ : ∃ o, (wrB (putAll w0 m0 zs pre) f ((bitsN v c).take k)).getD (i / 8) 0 = o := ⟨_, rfl⟩
        rw [ho] at hcell
        have HO := Lib.hid ho
        clear ho
        have b1 := hbbk.cell
        have k0 : wr.cell? ⟨p, 0, none⟩ = some (.int .i64 (f : Int)) := by rw [cell_of_row wr p 0 _ _ _ hpk, HF.out]; rfl
        have k1 : wr.cell? ⟨p, 1, none⟩ = some (.int .i64 (c : Int)) := by rw [cell_of_row wr p 1 _ _ _ hpk, HC2.out]; rfl
        have hidx : i / 8 < nb := by have := HNB.out; omega
        have hi1 : i ≤ 1024 := by omega
        have hd1 : d ≤ 31 := by omega
        have HI := Lib.hid hik
        clear hik
        have hidx5 : (i : Int) / 8 < (nb : Int) := by omega
        have hidx7 : 0 ≤ (i : Int) / 8 := by omega
        have hmx : Tryd.prog.follows .mixedOrders = true := by kernel_rfl
        have HD := Lib.hid hd
        clear hd
        gi_wp2
        obtain ⟨tb, htb⟩ : ∃ tb, v / 2 ^ d % 2 = tb := ⟨_, rfl⟩
        have htb1 : tb ≤ 1 := by omega
        have hband : bits .and .i64 ((v : Int) / 2 ^ d) 1 = (tb : Int) := by
          have hv64 : v / 2 ^ d < 9223372036854775808 := Nat.lt_of_le_of_lt (Nat.div_le_self _ _) (Nat.lt_of_lt_of_le HW.out (Nat.le_trans (Nat.pow_le_pow_right (n := 2) (by omega) hc32) (by decide)))
          have := and_one_i64 (v / 2 ^ d) hv64
          rw [htb] at this
          rw [← this]
          congr 1
        have hsh8 : tb * 2 ^ (7 - i % 8) < 256 := by
          have h7 : 2 ^ (7 - i % 8) ≤ 2 ^ 7 := Nat.pow_le_pow_right (by omega) (by omega)
          have := Nat.mul_le_mul htb1 h7
          omega
        have hshl : ((tb * 2 ^ (7 - i % 8) : Nat) : Int) = (tb : Int) * 2 ^ (7 - i % 8) := by simp
        have HTB := Lib.hid htb
        clear htb
        refine wpIn_region_held l _ (S := fun W' => W'.cell? ⟨w.heap.size + 1 + 1 + 1 + 1, 0, none⟩ = some (.slice (some ⟨w.heap.size + 1 + 1 + 1, 0, none⟩) nb nb) ∧ W'.cell? ⟨p, 1, none⟩ = some (.int .i64 (c : Int)))
          (by kernel_rfl) (by kernel_rfl) (by rintro ⟨a, w, h⟩; exact h) ⟨b1, k1⟩ (fun hHeld => ?_)
        refine wpAnyH_take (i := 0) (v := .slice (some ⟨w.heap.size + 1 + 1 + 1, 0, none⟩) nb nb) rfl (by kernel_rfl) (by kernel_rfl) (by kernel_rfl) (fun _ _ _ h => h) (Or.inl ⟨by rfl, ?_⟩) hHeld ?_
        · intro w hSw
          (try dsimp only at hSw)
          obtain ⟨q3, q4⟩ := hSw
          go_simp
        (try simp only [Act.put])
        refine wpAnyH_take (i := 1) (v := .int .i64 (i : Int)) rfl (by kernel_rfl) (by kernel_rfl) (by kernel_rfl) (fun _ _ _ h => h) (Or.inl ⟨by rfl, ?_⟩) hHeld ?_
        · intro w hSw
          (try dsimp only at hSw)
          obtain ⟨q3, q4⟩ := hSw
          go_simp
        (try simp only [Act.put])
        refine wpAnyH_take (i := 2) (v := .int .i64 ((i : Int) / 8)) rfl (by kernel_rfl) (by kernel_rfl) (by kernel_rfl) (fun _ _ _ h => h) (Or.inl ⟨by rfl, ?_⟩) hHeld ?_
        · intro w hSw
          (try dsimp only at hSw)
          obtain ⟨q3, q4⟩ := hSw
          go_simp
          rw [IntKind.wrap_i64]
          omega
        (try simp only [Act.put])
        refine wpAnyH_take (i := 3) (v := .pointer (some ⟨w.heap.size + 1 + 1 + 1, i / 8, none⟩)) rfl (by kernel_rfl) (by kernel_rfl) (by kernel_rfl) (fun _ _ _ h => h) (Or.inl ⟨by rfl, ?_⟩) hHeld ?_
        · intro w hSw
          (try dsimp only at hSw)
          obtain ⟨q3, q4⟩ := hSw
          go_simp
        (try simp only [Act.put])
        refine wpAnyH_take (i := 5) (v := .int .i64 (v : Int)) rfl (by kernel_rfl) (by kernel_rfl) (by kernel_rfl) (fun _ _ _ h => h) (Or.inl ⟨by rfl, ?_⟩) hHeld ?_
        · intro w hSw
          (try dsimp only at hSw)
          obtain ⟨q3, q4⟩ := hSw
          go_simp
        (try simp only [Act.put])
        refine wpAnyH_take (i := 6) (v := .pointer (some ⟨p, 1, none⟩)) rfl (by kernel_rfl) (by kernel_rfl) (by kernel_rfl) (fun _ _ _ h => h) (Or.inl ⟨by rfl, ?_⟩) hHeld ?_
        · intro w hSw
          (try dsimp only at hSw)
          obtain ⟨q3, q4⟩ := hSw
          go_simp
        (try simp only [Act.put])
        refine wpAnyH_take (i := 7) (v := .int .i64 (c : Int)) rfl (by kernel_rfl) (by kernel_rfl) (by kernel_rfl) (fun _ _ _ h => h) (Or.inl ⟨by rfl, ?_⟩) hHeld ?_
        · intro w hSw
          (try dsimp only at hSw)
          obtain ⟨q3, q4⟩ := hSw
          go_simp
        (try simp only [Act.put])
        refine wpAnyH_take (i := 8) (v := .int .i64 ((c : Int) - 1)) rfl (by kernel_rfl) (by kernel_rfl) (by kernel_rfl) (fun _ _ _ h => h) (Or.inl ⟨by rfl, ?_⟩) hHeld ?_
        · intro w hSw
          (try dsimp only at hSw)
          obtain ⟨q3, q4⟩ := hSw
          go_simp
          rw [IntKind.wrap_i64]
          omega
        (try simp only [Act.put])
        refine wpAnyH_take (i := 9) (v := .int .i64 (k : Int)) rfl (by kernel_rfl) (by kernel_rfl) (by kernel_rfl) (fun _ _ _ h => h) (Or.inl ⟨by rfl, ?_⟩) hHeld ?_
        · intro w hSw
          (try dsimp only at hSw)
          obtain ⟨q3, q4⟩ := hSw
          go_simp
        (try simp only [Act.put])
        refine wpAnyH_take (i := 10) (v := .int .i64 (d : Int)) rfl (by kernel_rfl) (by kernel_rfl) (by kernel_rfl) (fun _ _ _ h => h) (Or.inl ⟨by rfl, ?_⟩) hHeld ?_
        · intro w hSw
          (try dsimp only at hSw)
          obtain ⟨q3, q4⟩ := hSw
          go_simp
          rw [IntKind.wrap_i64]
          omega
        (try simp only [Act.put])
        refine wpAnyH_take (i := 11) (v := .int .i64 ((v : Int) / 2 ^ d)) rfl (by kernel_rfl) (by kernel_rfl) (by kernel_rfl) (fun _ _ _ h => h) (Or.inl ⟨by rfl, ?_⟩) hHeld ?_
        · intro w hSw
          (try dsimp only at hSw)
          obtain ⟨q3, q4⟩ := hSw
          go_simp
        (try simp only [Act.put])
        refine wpAnyH_take (i := 12) (v := .int .i64 (tb : Int)) rfl (by kernel_rfl) (by kernel_rfl) (by kernel_rfl) (fun _ _ _ h => h) (Or.inl ⟨by rfl, ?_⟩) hHeld ?_
        · intro w hSw
          (try dsimp only at hSw)
          obtain ⟨q3, q4⟩ := hSw
          go_simp
        (try simp only [Act.put])
        refine wpAnyH_take (i := 13) (v := .int .u8 (tb : Int)) rfl (by kernel_rfl) (by kernel_rfl) (by kernel_rfl) (fun _ _ _ h => h) (Or.inl ⟨by rfl, ?_⟩) hHeld ?_
        · intro w hSw
          (try dsimp only at hSw)
          obtain ⟨q3, q4⟩ := hSw
          go_simp
          rw [IntKind.wrap_u8]
          omega
        (try simp only [Act.put])
        refine wpAnyH_take (i := 14) (v := .int .i64 (i : Int)) rfl (by kernel_rfl) (by kernel_rfl) (by kernel_rfl) (fun _ _ _ h => h) (Or.inl ⟨by rfl, ?_⟩) hHeld ?_
        · intro w hSw
          (try dsimp only at hSw)
          obtain ⟨q3, q4⟩ := hSw
          go_simp
        (try simp only [Act.put])
        refine wpAnyH_take (i := 15) (v := .int .i64 ((i : Int) % 8)) rfl (by kernel_rfl) (by kernel_rfl) (by kernel_rfl) (fun _ _ _ h => h) (Or.inl ⟨by rfl, ?_⟩) hHeld ?_
        · intro w hSw
          (try dsimp only at hSw)
          obtain ⟨q3, q4⟩ := hSw
          go_simp
          exact Int.tmod_eq_emod_of_nonneg (by omega)
        (try simp only [Act.put])
        refine wpAnyH_take (i := 16) (v := .int .i64 (7 - (i : Int) % 8)) rfl (by kernel_rfl) (by kernel_rfl) (by kernel_rfl) (fun _ _ _ h => h) (Or.inl ⟨by rfl, ?_⟩) hHeld ?_
        · intro w hSw
          (try dsimp only at hSw)
          obtain ⟨q3, q4⟩ := hSw
          go_simp
          rw [IntKind.wrap_i64]
          omega
        (try simp only [Act.put])
        refine wpAnyH_take (i := 17) (v := .int .u8 ((tb : Int) * 2 ^ (7 - i % 8))) rfl (by kernel_rfl) (by kernel_rfl) (by kernel_rfl) (fun _ _ _ h => h) (Or.inl ⟨by rfl, ?_⟩) hHeld ?_
        · intro w hSw
          (try dsimp only at hSw)
          obtain ⟨q3, q4⟩ := hSw
          go_simp
          rw [show (7 - (i : Int) % 8).toNat = 7 - i % 8 by omega, IntKind.wrap_u8, ← hshl]
          omega
        (try simp only [Act.put])
        refine wpAnyH_ready (rs := [4]) (by kernel_rfl) (by simp) ?_
        refine AllReadyH.cons rfl (fun K hK => ?_) AllReadyH.nil
        go_simp
        refine hK.out _ _ hHeld (fun hHeld => ?_)
        clear hK K
        have hbt : tb = (v.testBit d).toNat := by
          rw [Nat.testBit_eq_decide_div_mod_eq, ← HTB.out]
          rcases Nat.mod_two_eq_zero_or_one (v / 2 ^ d) with e | e <;> rw [e] <;> rfl
        obtain ⟨o2, ho2⟩ : ∃ o2, UInt8.ofNat (o.toNat ||| (v.testBit d).toNat * 2 ^ (7 - i % 8)) = o2 := ⟨_, rfl⟩
        have hor : bits .or .u8 (o.toNat : Int) ((tb : Int) * 2 ^ (7 - i % 8)) = (o2.toNat : Int) := by
          rw [← hshl, u8_or_nat o.toNat _ o.toNat_lt hsh8, ← ho2, byte_or _ _ _ (by omega), hbt]
        have HBT := Lib.hid hbt
        have HO2 := Lib.hid ho2
        clear hbt ho2
        have hput := hBk.put (i / 8) o2
        have hsnoc : (bitsN v c).take (k + 1) = (bitsN v c).take k ++ [v.testBit d] := by
          rw [List.take_succ_eq_append_getElem (by rw [bitsN_length]; exact hlt)]
          have : c - 1 - k = d := by have := HD.out; omega
          simp [bitsN, this]
        have hnext : (wrB (putAll w0 m0 zs pre) f ((bitsN v c).take k)).set (i / 8) o2 = wrB (putAll w0 m0 zs pre) f ((bitsN v c).take (k + 1)) := by
          rw [hsnoc, wrB_snoc, List.length_take, bitsN_length, Nat.min_eq_left hk, HI.out]
          unfold orB
          rw [HO.out, HO2.out]
        rw [hnext] at hput
        have HPUT := Lib.hid hput
        clear hput hnext hsnoc
        refine wpAnyH_take (i := 18) (v := .int .u8 (o2.toNat : Int)) rfl (by kernel_rfl) (by kernel_rfl) (by kernel_rfl) (fun _ _ _ h => h) (Or.inl ⟨by rfl, ?_⟩) hHeld ?_
        · intro w hSw
          (try dsimp only at hSw)
          obtain ⟨q3, q4⟩ := hSw
          go_simp
        (try simp only [Act.put])
        refine wpAnyH_take (i := 19) (v := .pointer (some ⟨w.heap.size + 1 + 1 + 1, i / 8, none⟩)) rfl (by kernel_rfl) (by kernel_rfl) (by kernel_rfl) (fun _ _ _ h => h) (Or.inl ⟨by rfl, ?_⟩) hHeld ?_
        · intro w hSw
          (try dsimp only at hSw)
          obtain ⟨q3, q4⟩ := hSw
          go_simp
        (try simp only [Act.put])
        refine wpAnyH_ready (rs := [20]) (by kernel_rfl) (by simp) ?_
        refine AllReadyH.cons rfl (fun K hK => ?_) AllReadyH.nil
        go_simp
        have hbb4 := hbbk.kept (grownBy_setCellAt wr (w.heap.size + 1 + 1 + 1) (i / 8) (.int .u8 (o2.toNat : Int))) (fun e => by have := Option.some.inj e; omega)
        have hpn : p ≠ w.heap.size + 1 + 1 + 1 := by omega
        have hp4 := (Below.heap_setCell wr ⟨w.heap.size + 1 + 1 + 1, i / 8, none⟩ (.int .u8 (o2.toNat : Int)) p hpn).trans hpk
        have k4 : (wr.setCell ⟨w.heap.size + 1 + 1 + 1, i / 8, none⟩ (.int .u8 (o2.toNat : Int))).cell? ⟨p, 1, none⟩ = some (.int .i64 (c : Int)) := by
          rw [cell_of_row _ p 1 _ _ _ hp4, HC2.out]; rfl
        refine hK.out _ _ ⟨hbb4.cell, k4⟩ (fun hHeld => ?_)
        clear hK K
        refine wpAnyH_done (by kernel_rfl) ?_ _
        gi_wp2
        go_roundw
        case rel => exact ⟨k + 1, by omega, by go_num, HPUT.out, (hblk.setCell (p := ⟨w.heap.size + 1 + 1 + 1, i / 8, none⟩) (by simp; omega) _).drew, (hkok.trans (KeepsOthers.setCell _ _ _)).trans (KeepsOthers.drew _), hka.trans (KeepAt.setCell (W := wr) (by simp; omega) _)⟩
        case measure => simp [intOf]; omega
      · obtain rfl : k = c := by omega
        rw [List.take_of_length_le (by rw [bitsN_length]; omega)] at hBk
        have hg1 : goodV w0 m0 zs x := hGV.out.2 ⟨by omega, by
          have e : ((2 ^ k : Nat) : Int) = (2 : Int) ^ k := by simp
          have := HW.out
          rw [← e]; omega⟩
        have hBn : Bys wr (w.heap.size + 1 + 1 + 1) 5 (putAll w0 m0 zs (pre ++ [x])) := by
          rw [putAll_snoc, HF.out, HC2.out, HZ.out, Int.toNat_natCast]; exact hBk
        clear hBk hk hlt
        gi_wp2
        exact ⟨hkok.from _, fun g hg => hka g (by simp at hg ⊢; rcases hg with e | e <;> simp [e]), ⟨⟨hBn, hbl.trans (hblk.mono (Nat.le_refl _))⟩, ⟨(hka _ (by simp)).trans hbq, (hka _ (by simp)).trans hbr⟩, ⟨(hka _ (by simp)).trans hbe, (hka _ (by simp)).trans hbb⟩, (hka _ (by simp)).trans hbw, (hka _ (by simp)).trans hbm⟩,
          fun y hy => by rcases List.mem_append.1 hy with h | h; exact hgd y h; rw [List.mem_singleton.1 h]; exact hg1⟩
  case done =>
    rintro D ys W hD rfl ⟨⟨⟨hB, hbl⟩, ⟨hbq, hbr⟩, ⟨hbe, hbb⟩, hbw, hbm⟩, hgd⟩ hK
    have d1 := hbb.cell
    have d2 := hbr.cell
    have d3 := hbe.cell
    have d4 := hbr.frozen
    have d5 := hbe.frozen
    have hs := hB.toStr (P := Tryd.prog) 53 9 5 Tryd.underlying53 Tryd.underlying5 Tryd.underlying9 nb nb (by rw [putAll_length, HNB.out])
    rw [putAll_all] at hs
    gi_wp2
    have e1 := (hbr.set (.string ⟨(joinB w0 m0 (zs.map Int.toNat)).toArray⟩)).other (B' := w.heap.size + 1 + 1) (by omega) (.int .i64 0)
    have e2 := (hbe.other (B' := w.heap.size + 1) (by omega) (.string ⟨(joinB w0 m0 (zs.map Int.toNat)).toArray⟩)).set (.int .i64 0)
    have hK1 := (KeepsOthers.setCell _ ⟨w.heap.size + 1 + 1, 0, none⟩ (.int .i64 0)).same D _ ((KeepsOthers.setCell W ⟨w.heap.size + 1, 0, none⟩ (.string ⟨(joinB w0 m0 (zs.map Int.toNat)).toArray⟩)).same D _ hK rfl) rfl
    have f1 := (e1.kept (grownBy_putObj' _ D (.deferred none)) (by intro e; cases e; rw [show _ = _ from e1] at hK1; cases hK1)).cell
    have f2 := (e2.kept (grownBy_putObj' _ D (.deferred none)) (by intro e; cases e; rw [show _ = _ from e2] at hK1; cases hK1)).cell
    refine ⟨by simp, .inl ⟨_, _, rfl, run_takeDeferred hK1, ?_⟩⟩
    refine ⟨.tuple #[.string ⟨(joinB w0 m0 (zs.map Int.toNat)).toArray⟩, .int .i64 0], ?_, ?_⟩
    · rw [results_cells2 rfl]
      go_simp
    · exact ⟨fun _ => rfl, fun hb => absurd (fun x => hgd x (by unfold fr; rw [List.take_of_length_le (by simp)]; exact List.mem_finRange x)) hb, ((hbl.setCell (p := ⟨w.heap.size + 1, 0, none⟩) (by simp) _).setCell (p := ⟨w.heap.size + 1 + 1, 0, none⟩) (by simp; omega) _).trans (belowK_b (w := w) (Nat.le_refl _) _ D _ _ (by omega) hK1 rfl rfl)⟩
  case stop =>
    rintro D c pre W hD _ ⟨⟨⟨hbr, hbe⟩, hbl⟩, rfl, hbad⟩ hK
    have f1 := (hbr.kept (grownBy_putObj' _ D (.deferred none)) (by intro e; cases e; rw [show _ = _ from hbr] at hK; cases hK)).cell
    have f2 := (hbe.kept (grownBy_putObj' _ D (.deferred none)) (by intro e; cases e; rw [show _ = _ from hbe] at hK; cases hK)).cell
    gi_wp2
    refine ⟨by simp, .inl ⟨_, _, rfl, run_takeDeferred hK, ?_⟩⟩
    refine ⟨.tuple #[.string ⟨#[]⟩, .int .i64 13], ?_, ?_⟩
    · rw [results_cells2 rfl]
      go_simp
    · exact ⟨fun hb => absurd hb hbad, fun _ => rfl, hbl.trans (belowK_b (w := w) (Nat.le_refl _) _ D _ _ (by omega) hK rfl rfl)⟩
end Go.Proofs.YtldcfgifimdmmaaDoor
