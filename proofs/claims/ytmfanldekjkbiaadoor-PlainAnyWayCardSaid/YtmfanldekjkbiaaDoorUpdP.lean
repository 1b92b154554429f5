/-
  UPDATES in memory; reading an argument of updates; what an update does, as plain Lean.
-/
import Derived.Test.YtmfanldekjkbiaaDoorPlainD
import Derived.Test.YtmfanldekjkbiaaDoorArgK
namespace Go.Proofs.YtmfanldekjkbiaaDoor
open Go.RowKit ArgK
set_option linter.unusedVariables false

/-- An update: number, kind, pair, code. -/
structure Uv where
  s : Int
  k : Int
  i : Int
  c : ByteArray
deriving DecidableEq

instance : Inhabited Uv := ⟨⟨0, 0, 0, ⟨#[]⟩⟩⟩

def Uv.cells (u : Uv) : List Value := [.int .i64 u.s, .int .i64 u.k, .int .i64 u.i, .string u.c]

def Uv.val (u : Uv) : Value := .agg #[.int .i64 u.s, .int .i64 u.k, .int .i64 u.i, .string u.c]

def GoodU (u : Uv) : Prop := (Lit.int .i64 u.s).wf = true ∧ (Lit.int .i64 u.k).wf = true ∧ (Lit.int .i64 u.i).wf = true ∧ u.c.size ≤ 140737488351232

/-- A readable list of updates. -/
def UL (w : World) (p : Option Addr) (z : List Uv) : Prop := ∀ i x, z[i]? = some x → ∃ a, p = some a ∧ w.cell? (a.add (i * 4)) = some (.int .i64 x.s) ∧ w.cell? ⟨(a.add (i * 4)).block, (a.add (i * 4)).off + 1, none⟩ = some (.int .i64 x.k) ∧ w.cell? ⟨(a.add (i * 4)).block, (a.add (i * 4)).off + 2, none⟩ = some (.int .i64 x.i) ∧ w.cell? ⟨(a.add (i * 4)).block, (a.add (i * 4)).off + 3, none⟩ = some (.string x.c)

theorem UL.keep {w w' : World} {p : Option Addr} {z : List Uv} {B : Nat} (h : UL w p z) (hb : Below w.heap.size w w') : UL w' p z := by
  intro i x hx
  obtain ⟨a, e, h1, h2, h3, h4⟩ := h i x hx
  exact ⟨a, e, (hb.cell (cell_ltH h1)).trans h1, (hb.cell (cell_ltH h2)).trans h2, (hb.cell (cell_ltH h3)).trans h3, (hb.cell (cell_ltH h4)).trans h4⟩

def IsUpd (cs : List Value) (x : Uv) : Prop := cs = x.cells ∧ GoodU x

def bkUpd (x : Uv) : Nat := x.c.size + 5

theorem rd_Update (W : World) : RdT Tryd.prog W 51 IsUpd bkUpd := by
  have e : Tryd.prog.cellsOf 51 = 4 := by kernel_rfl
  have e1 : Tryd.prog.cellsOf 3 = 1 := by kernel_rfl
  have e2 : Tryd.prog.cellsOf 9 = 1 := by kernel_rfl
  refine RdT.mono (rd_struct Tryd.underlying51 (rdf_cons (rd_int Tryd.underlying3) (rdf_cons (rd_int Tryd.underlying3) (rdf_cons (rd_int Tryd.underlying3) (rdf_cons (rd_string Tryd.underlying9) rdf_nil))))) ?_
  rintro cs ⟨s, k, i, c, u⟩ ⟨hl, h0, h1, h2, h3, _⟩
  simp only [e1, e2] at h0 h1 h2 h3
  rw [e] at hl
  match cs, hl with
  | [c0, c1, c2, c3], _ =>
    simp at h0 h1 h2 h3
    exact ⟨⟨s, k, i, c⟩, ⟨by rw [h0.1, h1.1, h2.1, h3.1]; rfl, h0.2, h1.2, h2.2, h3.2⟩, by show c.size + 5 ≤ 1 + (1 + (1 + (c.size + 1 + 0))) + 1; omega⟩

theorem add_fieldU (a : Addr) (i k : Nat) (hk : k ≠ 0) : (⟨(a.add i).block, (a.add i).off + k, none⟩ : Addr) = a.add (i + k) := by
  unfold Addr.add
  by_cases hi : i = 0
  · subst hi; simp [hk]
  · simp [hi, hk, Nat.add_assoc]

theorem updates_of_arg {w : World} {v : Value} {z : List Uv} (h : IsSl w 4 40 IsUpd [v] z) : z.length * 40 ≤ 140737488351232 ∧ ∃ (p : Option Addr) (cap : Nat), v = .slice p z.length cap ∧ z.length ≤ cap ∧ cap ≤ maxLen ∧ UL w p z ∧ ∀ x ∈ z, GoodU x := by
  obtain ⟨h1, h2⟩ := h
  refine ⟨h1, ?_⟩
  rcases h2 with ⟨h, rfl⟩ | ⟨a, cap, h, hc1, hc2, hc⟩
  · cases h
    exact ⟨none, 0, rfl, Nat.le_refl _, Nat.zero_le _, fun i x hx => by simp at hx, fun x hx => by simp at hx⟩
  · cases h
    refine ⟨some a, cap, rfl, hc1, hc2, fun i x hx => ?_, fun x hx => ?_⟩
    · obtain ⟨c, _, hr, hcell⟩ := hc i x hx
      obtain ⟨rfl, _⟩ := hr
      refine ⟨a, rfl, hcell 0 (by decide), ?_, ?_, ?_⟩
      · rw [add_fieldU _ _ _ (by decide)]; exact hcell 1 (by decide)
      · rw [add_fieldU _ _ _ (by decide)]; exact hcell 2 (by decide)
      · rw [add_fieldU _ _ _ (by decide)]; exact hcell 3 (by decide)
    · obtain ⟨i, hi, hx⟩ := List.getElem_of_mem hx
      obtain ⟨c, _, hr, _⟩ := hc i x (by rw [List.getElem?_eq_getElem hi, hx])
      exact hr.2

/-- What an update answers, and what it leaves. -/
def plyCode (W : Nat) (S : Int) (L : List Pv) (u : Uv) : Int :=
  if u.s ≠ S + 1 ∨ (u.k ≠ 1 ∧ u.k ≠ 2) then 51 else if u.k = 1 then insCode W L ⟨u.i, u.c⟩ else if u.c.size ≠ 0 then 11 else getCode L u.i

def plyL (W : Nat) (S : Int) (L : List Pv) (u : Uv) : List Pv :=
  if plyCode W S L u = 0 then (if u.k = 1 then L ++ [⟨u.i, u.c⟩] else lessId L u.i) else L

def PlyPost (w : World) (mb pb W : Nat) (S : Int) (L : List Pv) (u : Uv) (e : Ending) (w' : World) : Prop :=
  e = .returned (.int .i64 (plyCode W S L u)) ∧ MapIs w' mb pb W (if plyCode W S L u = 0 then S + 1 else S) (plyL W S L u) ∧ FrP w w' (MapB mb pb)

theorem plyPost_no {w w' : World} {mb pb W : Nat} {S : Int} {L : List Pv} {u : Uv} {c : Int} (hc : plyCode W S L u = c) (h0 : c ≠ 0) (h : MapIs w mb pb W S L) (hg : Gr w w') : PlyPost w mb pb W S L u (.returned (.int .i64 c)) w' := by
  refine ⟨by rw [hc], ?_, FrP.of_gr hg⟩
  unfold plyL
  rw [hc, if_neg h0, if_neg h0]
  exact h.gr hg

theorem FrP.of_two {a b c : World} {F : Nat → Prop} (hg : Gr a b) (h : FrP b c F) : FrP a c F := (FrP.of_gr hg).trans h (fun _ k => .inl k)

theorem plyPost_ins {w w1 w' : World} {mb pb W : Nat} {S : Int} {L : List Pv} {u : Uv} {e : Ending} (hs : u.s = S + 1) (hk : u.k = 1) (hg : Gr w w1) (h : InsPost w1 mb pb W S L ⟨u.i, u.c⟩ e w') : PlyPost w mb pb W S L u e w' := by
  obtain ⟨he, hM, hF⟩ := h
  have hc : plyCode W S L u = insCode W L ⟨u.i, u.c⟩ := by unfold plyCode; rw [if_neg (by simp [hs, hk]), if_pos hk]
  refine ⟨by rw [hc]; exact he, ?_, FrP.of_two hg hF⟩
  unfold plyL
  rw [hc, if_pos hk]
  exact hM

theorem plyPost_del {w w1 w' : World} {mb pb W : Nat} {S : Int} {L : List Pv} {u : Uv} {e : Ending} (hs : u.s = S + 1) (hk : u.k = 2) (hc0 : u.c.size = 0) (hg : Gr w w1) (h : DelPost w1 mb pb W S L u.i e w') : PlyPost w mb pb W S L u e w' := by
  obtain ⟨he, hM, hF⟩ := h
  have hk1 : ¬ u.k = 1 := by omega
  have hc : plyCode W S L u = getCode L u.i := by unfold plyCode; rw [if_neg (by simp [hs, hk]), if_neg hk1, if_neg (by omega)]
  refine ⟨by rw [hc]; exact he, ?_, FrP.of_two hg hF⟩
  unfold plyL
  rw [hc, if_neg hk1]
  exact hM

theorem empty_toList : ByteArray.empty.toList.isEmpty = true := by decide +kernel

set_option maxRecDepth 100000 in
set_option maxHeartbeats 4000000 in
theorem play_calls {w : World} {mb pb W : Nat} {S : Int} {L : List Pv} (h : MapIs w mb pb W S L) (hS : 0 ≤ S ∧ S ≤ 4611686018427387904) (hW : W ≤ 1024) (u : Uv) (hu : GoodU u) :
    Calls Tryd.prog 44 #[.pointer (some ⟨mb, 0, none⟩), u.val] w (PlyPost w mb pb W S L u) := by
  obtain ⟨hu1, hu2, hu3, hu4⟩ := hu
  obtain ⟨c0, c1, c2, f1⟩ := h.cells
  have hG : Gr w (w.alloc (.cells #[.int .i64 u.s, .int .i64 u.k, .int .i64 u.i, .string u.c] 51)) := (Gr.refl w).alloc _
  obtain ⟨a0, a1, a2, _⟩ := (h.gr hG).cells
  have HI := Lib.hid (fun X (hX : Gr w X) => insert_calls (h.gr hX) hS ⟨u.i, u.c⟩ hu3 hu4 hW)
  have HD := Lib.hid (fun X (hX : Gr w X) => delete_calls (h.gr hX) hS u.i hu3)
  have HM := Lib.hid h
  have HG := Lib.hid hG
  simp only [Uv.val]
  clear h hG
  by_cases hs : u.s = S + 1
  · have q1 : (u.s != S + 1) = false := by rw [bne_eq_false_iff_eq]; exact hs
    by_cases hk : u.k = 1
    · have q2 : (u.k != 1) = false := by rw [bne_eq_false_iff_eq]; exact hk
      have q3 : (u.k == 1) = true := by simp [hk]
      have HS := Lib.hid hs
      have HK := Lib.hid hk
      clear hs hk
      go_enter Tryd.func44, Tryd.ntmps44
      go_wp2
      go_quiet (fail)
      go_wp2_with fail
      refine (HI.out _ (HG.out.drewN _)).mono ?_
      intro e w2 hP
      have HP := Lib.hid (plyPost_ins HS.out HK.out (HG.out.drewN _) hP)
      obtain ⟨rfl, _⟩ := hP
      go_wp2
      go_ret
      exact HP.out
    · have q2 : (u.k != 1) = true := by rw [bne_iff_ne]; exact hk
      have q3 : (u.k == 1) = false := by simp [hk]
      by_cases hk2 : u.k = 2
      · have q4 : (u.k != 2) = false := by rw [bne_eq_false_iff_eq]; exact hk2
        have HS := Lib.hid hs
        have HK := Lib.hid hk2
        clear hs hk hk2
        by_cases hc : u.c.size = 0
        · have HC := Lib.hid hc
          have q5 : u.c.toList.isEmpty = true := by
            have he : u.c = ByteArray.empty := by simpa using hc
            rw [he]
            exact empty_toList
          clear hc
          go_enter Tryd.func44, Tryd.ntmps44
          go_wp2
          go_quiet (fail)
          go_wp2_with fail
          refine (HD.out _ (HG.out.drewN _)).mono ?_
          intro e w2 hP
          have HP := Lib.hid (plyPost_del HS.out HK.out HC.out (HG.out.drewN _) hP)
          obtain ⟨rfl, _⟩ := hP
          go_wp2
          go_ret
          exact HP.out
        · have HCd : Hid (plyCode W S L u = 11) := Lib.hid (by unfold plyCode; rw [if_neg (by simp [HS.out, HK.out]), if_neg (by rw [HK.out]; decide), if_pos hc])
          have q5 : u.c.toList.isEmpty = false := by
            cases he : u.c.toList.isEmpty with
            | false => rfl
            | true =>
              exfalso
              apply hc
              have h2 : u.c.toList = ByteArray.empty.toList := by rw [List.isEmpty_iff.1 he, List.isEmpty_iff.1 empty_toList]
              rw [toList_inj h2]
              rfl
          clear hc
          go_enter Tryd.func44, Tryd.ntmps44
          go_wp2
          go_quiet (fail)
          go_wp2
          go_ret
          exact plyPost_no HCd.out (by decide) HM.out (HG.out.drewN _)
      · have q4 : (u.k != 2) = true := by rw [bne_iff_ne]; exact hk2
        have HCd : Hid (plyCode W S L u = 51) := Lib.hid (by unfold plyCode; rw [if_pos (.inr ⟨hk, hk2⟩)])
        clear hk hk2 hs
        go_enter Tryd.func44, Tryd.ntmps44
        go_wp2
        go_quiet (fail)
        go_wp2
        go_ret
        exact plyPost_no HCd.out (by decide) HM.out (HG.out.drewN _)
  · have q1 : (u.s != S + 1) = true := by rw [bne_iff_ne]; exact hs
    have HCd : Hid (plyCode W S L u = 51) := Lib.hid (by unfold plyCode; rw [if_pos (.inl hs)])
    clear hs
    go_enter Tryd.func44, Tryd.ntmps44
    go_wp2
    go_quiet (fail)
    go_wp2
    go_ret
    exact plyPost_no HCd.out (by decide) HM.out (HG.out.drewN _)
end Go.Proofs.YtmfanldekjkbiaaDoor
