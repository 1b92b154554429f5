/-
  WALK: all entries into a builder, in blocks, by the program.
-/
import Derived.Test.YtihgjihdmlomaaaDoorJBkX
import Derived.Test.YtihgjihdmlomaaaDoorJE
namespace Go.Proofs.YtihgjihdmlomaaaDoor
open Go.RowKit ArgK
set_option linter.unusedVariables false

/-- At the head of each round over the entries. -/
def BkRel (w : World) (B r : Nat) (st : BSt) (list : List Ent) (k : Nat) (fv pv : Value) (wr : World) : Prop :=
  k ≤ list.length ∧ ∃ (gs : List (List Ent)) (cur : List Ent) (P : ByteArray), fv = .int .i64 ((k - cur.length : Nat) : Int) ∧ cur.length ≤ k ∧ pv = .string P ∧ P.data.toList = payB cur ∧ (payB cur).length ≤ 4096 ∧ groups list = gs ++ grpGo szE (list.drop k) cur (payB cur).length ∧ list.take k = gs.flatten ++ cur ∧ (cur = [] → k = 0) ∧ Bd wr B r (gs.foldl putBlock st) ∧ Below B w wr

theorem take_snocE {L : List Ent} {k : Nat} {x : Ent} (h : L[k]? = some x) : L.take (k + 1) = L.take k ++ [x] := by
  rw [List.take_add_one, h]
  rfl

theorem drop_consE {L : List Ent} {k : Nat} {x : Ent} (h : L[k]? = some x) : L.drop k = x :: L.drop (k + 1) := by
  obtain ⟨hk, e⟩ := List.getElem?_eq_some_iff.1 h
  rw [List.drop_eq_getElem_cons hk, e]

theorem payB_snoc (cur : List Ent) (x : Ent) : payB (cur ++ [x]) = payB cur ++ writtenB x := by simp [payB]

/-- The one that begins what stands last. -/
theorem cur_head {list cur : List Ent} {gs : List (List Ent)} {k : Nat} (h : list.take k = gs.flatten ++ cur) (hk : k ≤ list.length) (hc : cur ≠ []) : list[k - cur.length]? = some (cur.headD zE) ∧ cur.length ≤ k := by
  have hl := congrArg List.length h
  rw [List.length_take, Nat.min_eq_left hk, List.length_append] at hl
  cases cur with
  | nil => exact absurd rfl hc
  | cons y cur =>
    simp only [List.length_cons] at hl ⊢
    refine ⟨?_, by omega⟩
    have h2 : (list.take k)[k - (cur.length + 1)]? = some y := by
      rw [h, List.getElem?_append_right (by omega), show k - (cur.length + 1) - gs.flatten.length = 0 by omega]
      rfl
    rw [List.getElem?_take_of_lt (by omega)] at h2
    exact h2

/-- Bytes of a builder while blocks are put. -/
theorem grow_len {list cur : List Ent} {gs : List (List Ent)} {st : BSt} {k : Nat} (hg : ∀ e ∈ list, Good e) (h : list.take k = gs.flatten ++ cur) (hgs : ∀ g ∈ gs, g ≠ []) : (gs.foldl putBlock st).l.length ≤ st.l.length + list.length * 167 ∧ gs.length ≤ list.length := by
  rw [foldl_len]
  have h1 := flat_count gs hgs
  have hl := congrArg List.length h
  rw [List.length_take, List.length_append] at hl
  have h2 : sumSz szE gs.flatten ≤ gs.flatten.length * 153 := sumSz_le _ (fun e he => by
    have : e ∈ list := List.mem_of_mem_take (h ▸ List.mem_append_left _ he : e ∈ list.take k)
    exact (writtenB_len (hg e this)).2)
  have h3 : gs.flatten.length ≤ list.length := by omega
  refine ⟨?_, by omega⟩
  have : gs.flatten.length * 153 ≤ list.length * 153 := Nat.mul_le_mul_right _ h3
  omega

set_option maxRecDepth 100000 in
set_option maxHeartbeats 4000000 in
theorem blocks_calls (B r : Nat) (st : BSt) (p : Option Addr) (n c : Nat) (list : List Ent) (hn : list.length = n) (hm : n ≤ 2097152) (hnc : n ≤ c) (hg : ∀ e ∈ list, Good e) (w : World) (hT : Tab w) (hTB : 1 < B) (h : Bd w B r st) (hs : StOk st) (hl : st.l.length ≤ 74) (hlines : st.lines = []) (hE : EL w B p list) :
    Calls Tryd.prog 59 #[.pointer (some ⟨r, 0, none⟩), .slice p n c] w fun e w' => e = .returned (.tuple #[]) ∧ Bd w' B r ((groups list).foldl putBlock st) ∧ Below B w w' := by
  have hBw : B ≤ w.heap.size := Nat.le_trans h.le (Nat.le_of_lt h.lt)
  have HN := Lib.hid hn
  have HE := Lib.hid hE
  have HG := Lib.hid hg
  have H0 : Hid (BkRel w B r st list 0 (.int .i64 0) (.string ⟨#[]⟩) w) := Lib.hid ⟨Nat.zero_le _, [], [], ⟨#[]⟩, rfl, Nat.le_refl _, rfl, rfl, by simp [payB], rfl, rfl, fun _ => rfl, h, Below.refl _ _⟩
  clear hn hE hg h
  go_enter Tryd.func59, Tryd.ntmps59
  go_wp2
  go_loopw [4, 5, 11] (fun fv pv i wr => ∃ k : Nat, i = .int .i64 k ∧ BkRel w B r st list k fv pv wr) (fun _ _ i _ => n - (intOf i).toNat)
  case atStart => exact ⟨0, rfl, H0.out⟩
  case round =>
    obtain ⟨k, rfl, hk, gs, cur, P, hfv, hck, rfl, hP, hP4, hgr, htk, hc0, hBd, hbl⟩ := hrel
    obtain ⟨wo, rfl⟩ : ∃ wo : World, wo = wr := ⟨_, rfl⟩
    rw [HN.out] at hk
    obtain ⟨f, hf⟩ : ∃ f, k - cur.length = f := ⟨_, rfl⟩
    rw [hf] at hfv
    subst hfv
    have hPs : P.size = (payB cur).length := by rw [← hP]; rfl
    by_cases hlt : k < n
    · obtain ⟨x, hx⟩ : ∃ x, list[k]? = some x := ⟨_, List.getElem?_eq_getElem (by rw [HN.out]; exact hlt)⟩
      have hgx := HG.out x (List.mem_of_getElem? hx)
      obtain ⟨a, rfl, haB, h5⟩ := HE.out k x hx
      have h5o := h5.below hbl (by rw [add_blockE]; exact haB)
      have CW := written_calls x hgx.1 hgx.2.1 (by have := hgx.2.2; omega)
      obtain ⟨S, hS1, hS2, hS3⟩ := name_s (writtenB x)
      have hS4 := writtenB_len hgx
      simp only [hS1] at CW
      have HC := Lib.hid CW
      unfold Ent.val at HC
      obtain ⟨x0, x1, x2, x3, x4⟩ := h5o
      have hbs := hbl.size
      have i0' : (0 : Int) ≤ (k : Int) := by omega
      have i1' : (k : Int) < (n : Int) := by omega
      have hPz : P.size ≤ 4096 := by omega
      have hSz : S.size ≤ 153 := by omega
      clear CW
      go_wp2_with fail
      refine (HC.out _).mono ?_
      rintro e w1 ⟨rfl, hb1⟩
      have hb01 : Below wo.heap.size wo w1 := ((Below.refl _ wo).alloc (Nat.le_refl _) (.cells #[.int .i64 x.v, .string x.c, .int .i64 x.i, .int .i64 x.s, .bool x.d] 33)).trans (hb1.mono (by simp))
      have hBd1 := hBd.below hb01
      have hbl1 := hbl.trans (hb01.mono (Nat.le_trans hBw hbs))
      clear hb1 hb01 x0 x1 x2 x3 x4 hBd
      by_cases hfl : 4096 < P.size + S.size
      · have hcn : cur ≠ [] := fun e => by
          subst e
          have h0 : (payB ([] : List Ent)).length = 0 := rfl
          rw [h0] at hPs
          omega
        obtain ⟨hch, hcl⟩ := cur_head htk (by rw [HN.out]; exact hk) hcn
        rw [hf] at hch
        obtain ⟨a2, e2, _, h5f⟩ := HE.out f _ hch
        cases e2
        have h5f := h5f.below hbl1 (by rw [add_blockE]; exact haB)
        have hgsn : ∀ g ∈ gs, g ≠ [] := fun g hgm => (group_good HG.out (by rw [hgr]; exact List.mem_append_left _ hgm)).1
        obtain ⟨hgl1, hgl2⟩ := grow_len (st := st) HG.out htk hgsn
        have hgood : ∀ g ∈ gs, g ≠ [] ∧ ∀ e ∈ g, Good e := fun g hgm => ⟨hgsn g hgm, (group_good HG.out (by rw [hgr]; exact List.mem_append_left _ hgm)).2.2⟩
        obtain ⟨hok1, hok2⟩ := foldl_ok gs st hs hgood
        have hkf : k - f = cur.length := by omega
        have hcl0 : 0 < cur.length := List.length_pos_iff.2 hcn
        have CB := block_calls B r (gs.foldl putBlock st) (a.add (f * 5)) (cur.headD zE) (k - f) (c - f) P (by omega) (by omega) (by omega) w1 (hT.belowB hTB hbl1) hTB hBd1 hok1.sum (by rw [HN.out] at hgl1; omega) (by rw [hok2, hlines]; simp; rw [HN.out] at hgl2; omega) (by rw [add_blockE]; exact haB) h5f.1 h5f.2.1 h5f.2.2.1 h5f.2.2.2.1 h5f.2.2.2.2
        have HNx : Hid (∀ w2, Bd w2 B r ⟨(gs.foldl putBlock st).l ++ frameB 5 P.data.toList, (gs.foldl putBlock st).lines ++ [⟨cur.headD zE, k - f, (gs.foldl putBlock st).l.length⟩], Crc.on (gs.foldl putBlock st).sum P.data.toList⟩ → Below B w1 w2 → BkRel w B r st list (k + 1) (.int .i64 k) (.string (⟨#[]⟩ ++ S)) w2) := Lib.hid (fun w2 hd hb => by
          refine ⟨by rw [HN.out]; omega, gs ++ [cur], [x], _, by simp, by simp, rfl, ?_, ?_, ?_, ?_, fun e => by simp at e, ?_, hbl1.trans hb⟩
          · simp [payB, hS2]
          · simp [payB]; omega
          · rw [hgr, drop_consE hx, grpGo, if_pos (by unfold szE; omega)]
            simp [payB, szE]
          · rw [take_snocE hx, htk]; simp
          · rw [List.foldl_append]
            simp only [List.foldl_cons, List.foldl_nil]
            rw [hP, hkf] at hd
            exact hd)
        have HCB := Lib.hid CB
        have q0 : ¬ (c = f) := by omega
        have q1 : (f : Int) ≤ (k : Int) := by omega
        have q2 : (0 : Int) ≤ (f : Int) := by omega
        have q3 : (k : Int) ≤ (c : Int) := by omega
        have hd : decide ((4096 : Int) < (P.size : Int) + (S.size : Int)) = true := by simp; omega
        clear hgr htk hc0 hch hgsn hgl1 hgl2 hgood hok1 hok2 CB h5f hBd1 h5 hx hgx hS1 hS2 hS3 hP hPs hcn hkf hcl0
        go_wp2_with fail
        refine HCB.out.mono ?_
        rintro e w2 ⟨rfl, hd2, hb2⟩
        have HR := Lib.hid (HNx.out w2 hd2 hb2)
        clear hd2 hb2
        go_wp2
        go_roundw
        case rel => exact ⟨k + 1, by go_num, HR.out⟩
        case measure => simp [intOf]; omega
      · have hd : decide ((4096 : Int) < (P.size : Int) + (S.size : Int)) = false := by simp; omega
        have HNx : Hid (BkRel w B r st list (k + 1) (.int .i64 f) (.string (P ++ S)) w1) := Lib.hid (by
          refine ⟨by rw [HN.out]; omega, gs, cur ++ [x], _, ?_, ?_, rfl, ?_, ?_, ?_, ?_, fun e => by simp at e, hBd1, hbl1⟩
          · rw [List.length_append, List.length_singleton]
            congr 2
            omega
          · rw [List.length_append, List.length_singleton]
            omega
          · rw [cat_data, hP, hS2, payB_snoc]
          · rw [payB_snoc, List.length_append]; omega
          · rw [hgr, drop_consE hx, grpGo, if_neg (by unfold szE; omega), payB_snoc, List.length_append]
            rfl
          · rw [take_snocE hx, htk]; simp)
        clear hgr htk hc0 hBd1 h5 hx hgx hS1 hS2 hS3 hP hPs
        go_wp2
        go_roundw
        case rel => exact ⟨k + 1, by go_num, HNx.out⟩
        case measure => simp [intOf]; omega
    · obtain rfl : k = n := by omega
      rw [List.drop_eq_nil_of_le (by rw [HN.out]; exact Nat.le_refl _)] at hgr
      rw [List.take_of_length_le (by rw [HN.out]; exact Nat.le_refl _)] at htk
      by_cases hcn : cur = []
      · subst hcn
        obtain rfl : k = 0 := hc0 rfl
        obtain rfl : f = 0 := by simpa using hf.symm
        have hge : groups list = gs := by rw [hgr]; simp [grpGo]
        have HF : Hid (Bd wo B r ((groups list).foldl putBlock st)) := Lib.hid (by rw [hge]; exact hBd)
        have CN := fun q c' (m : Nat) hm => block_none B r _ q m c' hm P wo HF.out
        have HC := Lib.hid CN
        have HBL := Lib.hid hbl
        clear hgr htk hBd hge CN hP hPs hbl
        go_wp2_with fail
        refine (HC.out p c 0 rfl).mono ?_
        rintro e w2 ⟨rfl, hd2, hb2⟩
        have HD := Lib.hid hd2
        have HB2 := Lib.hid (HBL.out.trans hb2)
        clear hd2 hb2
        go_wp2
        go_end0
        exact ⟨rfl, HD.out, HB2.out⟩
      · obtain ⟨hch, hcl⟩ := cur_head (k := k) (by rw [List.take_of_length_le (by rw [HN.out]; exact Nat.le_refl _)]; exact htk) (by rw [HN.out]; exact hk) hcn
        rw [hf] at hch
        obtain ⟨a2, e2, haB, h5f⟩ := HE.out f _ hch
        subst e2
        have h5f := h5f.below hbl (by rw [add_blockE]; exact haB)
        have hge : groups list = gs ++ [cur] := by
          rw [hgr]
          unfold grpGo
          simp [hcn]
        have hgsn : ∀ g ∈ gs, g ≠ [] := fun g hgm => (group_good HG.out (by rw [hge]; exact List.mem_append_left _ hgm)).1
        obtain ⟨hgl1, hgl2⟩ := grow_len (st := st) (k := k) HG.out (by rw [List.take_of_length_le (by rw [HN.out]; exact Nat.le_refl _)]; exact htk) hgsn
        have hgood : ∀ g ∈ gs, g ≠ [] ∧ ∀ e ∈ g, Good e := fun g hgm => ⟨hgsn g hgm, (group_good HG.out (by rw [hge]; exact List.mem_append_left _ hgm)).2.2⟩
        obtain ⟨hok1, hok2⟩ := foldl_ok gs st hs hgood
        have hkf : k - f = cur.length := by omega
        have hcl0 : 0 < cur.length := List.length_pos_iff.2 hcn
        have CB := block_calls B r (gs.foldl putBlock st) (a2.add (f * 5)) (cur.headD zE) (k - f) (c - f) P (by omega) (by omega) (by omega) wo (hT.belowB hTB hbl) hTB hBd hok1.sum (by rw [HN.out] at hgl1; omega) (by rw [hok2, hlines]; simp; rw [HN.out] at hgl2; omega) (by rw [add_blockE]; exact haB) h5f.1 h5f.2.1 h5f.2.2.1 h5f.2.2.2.1 h5f.2.2.2.2
        have HNx : Hid (∀ w2, Bd w2 B r ⟨(gs.foldl putBlock st).l ++ frameB 5 P.data.toList, (gs.foldl putBlock st).lines ++ [⟨cur.headD zE, k - f, (gs.foldl putBlock st).l.length⟩], Crc.on (gs.foldl putBlock st).sum P.data.toList⟩ → Below B wo w2 → Bd w2 B r ((groups list).foldl putBlock st) ∧ Below B w w2) := Lib.hid (fun w2 hd hb => by
          refine ⟨?_, hbl.trans hb⟩
          rw [hge, List.foldl_append]
          simp only [List.foldl_cons, List.foldl_nil]
          rw [hP, hkf] at hd
          exact hd)
        have HCB := Lib.hid CB
        have q0 : ¬ (c = f) := by omega
        have q1 : (f : Int) ≤ (k : Int) := by omega
        have q2 : (0 : Int) ≤ (f : Int) := by omega
        have q3 : (k : Int) ≤ (c : Int) := by omega
        clear hgr htk hc0 hch hgsn hgl1 hgl2 hgood hok1 hok2 CB h5f hBd hP hPs hcn hkf hcl0 hge hbl
        go_wp2_with fail
        refine HCB.out.mono ?_
        rintro e w2 ⟨rfl, hd2, hb2⟩
        have HR := Lib.hid (HNx.out w2 hd2 hb2)
        clear hd2 hb2
        go_wp2
        go_end0
        exact ⟨rfl, HR.out.1, HR.out.2⟩
end Go.Proofs.YtihgjihdmlomaaaDoor
