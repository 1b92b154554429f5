/-
  WALK: Merge, by the program.
-/
import Derived.Test.YtahdaccmokjgpaaMrgR
namespace Go.Proofs.Ytahdaccmokjgpaa
open Go.RowKit ArgK
set_option linter.unusedVariables false

/-- What Merge leaves. -/
def MergePost (w : World) (r : List Ent × Int) (e : Ending) (w' : World) : Prop :=
  ∃ v, e = .returned (.tuple #[v, .int .i64 r.2]) ∧ Below w.heap.size w w' ∧ (r.2 = 0 → w'.ownsRow w.heap.size 24 5 v r.1.length (encE r.1)) ∧ (r.2 ≠ 0 → v = .slice none 0 0)

/-- At the head of the rounds over the lists. -/
def SrcRelB (w : World) (p : Option Addr) (lists : List (List Ent)) (k : Nat) (sv : Value) (bs : List Nat) (wr : World) : Prop :=
  k ≤ lists.length ∧ bs.length = k ∧ (∀ L ∈ lists.take k, rises L) ∧ wr.ownsRow w.heap.size 41 1 sv k (bs.map ofV) ∧ OfB w.heap.size wr bs lists ∧ LLs wr w.heap.size p lists ∧ Below w.heap.size w wr

def SrcRel (w : World) (p : Option Addr) (lists : List (List Ent)) (k : Nat) (sv : Value) (wr : World) : Prop := ∃ bs : List Nat, SrcRelB w p lists k sv bs wr

theorem SrcRel.next {w wr w1 w2 w3 : World} {p : Option Addr} {lists : List (List Ent)} {k : Nat} {sv sv' : Value} {L : List Ent} {q : Option Addr} {c : Nat} {bs : List Nat} (h : SrcRelB w p lists k sv bs wr) (hL : lists[k]? = some L) (hr : rises L) (hc : L.length ≤ c) (hE : EL wr w.heap.size q L) (h1 : Below wr.heap.size wr w1)
    (h2 : Below w1.heap.size w1 w2) (hb : w2.heap[w1.heap.size]? = some (.cells #[.slice q L.length c] 25 (0, 0))) (hg : w2.grownBy w3 sv.ownBlock) (hown : w3.ownsRow w.heap.size 41 1 sv' (k + 1) (bs.map ofV ++ [ofV w1.heap.size])) : SrcRel w p lists (k + 1) sv' w3 := by
  obtain ⟨a1, a2, a3, a4, a5, a6, a7⟩ := h
  have hkl := (List.getElem?_eq_some_iff.1 hL).1
  have hb12 : Below wr.heap.size wr w2 := h1.trans (h2.mono h1.size)
  have hsvb : ∀ g, sv.ownBlock = some g → w.heap.size ≤ g := fun g hg' => (a4.lt g hg').1
  have hb3 : Below w.heap.size w2 w3 := ⟨hg.os, hg.tape, hg.output, hg.size, fun g hg' => hg.block g (by have := a7.size; have := hb12.size; omega) (fun e => by have := hsvb g e.symm; omega)⟩
  have hs1 := h1.size
  have hs7 := a7.size
  have hkp : Kp w.heap.size [41] w2 w3 := by
    refine ⟨hg.os, hg.tape, hg.output, hg.size, fun g o ho hx => (hg.block g (Array.getElem?_eq_some_iff.1 ho).1 (fun e => ?_)).trans ho⟩
    have hw2 := own_belowAll a4 hb12
    rcases hw2.2 with ⟨e', _⟩ | ⟨g', cap, cur, e', hg', hgh, _⟩
    · rw [e'] at e; cases e
    · rw [e'] at e
      have : g = g' := Option.some.inj e
      subst this
      rw [hgh] at ho
      cases ho
      rcases hx with hx | hx
      · omega
      · exact hx _ rfl (by simp)
  have hEL : EL w3 w.heap.size q L := (hE.below (hb12.mono hs7) (Nat.le_refl _)).below hb3 (Nat.le_refl _)
  have hw1lt : w1.heap.size < w2.heap.size := (Array.getElem?_eq_some_iff.1 hb).1
  have hnew : w3.heap[w1.heap.size]? = some (.cells #[.slice q L.length c] 25 (0, 0)) := hkp.box hb (.inl (by decide))
  have hB5 := (a5.kp (Kp.of_below (B := w.heap.size) (T := []) hb12) (by simp)).kp hkp (by decide)
  refine ⟨bs ++ [w1.heap.size], by omega, by simp [a2], ?_, ?_, ⟨?_, ?_, ?_⟩, (a6.below (hb12.mono hs7)).below hb3, a7.trans ((hb12.mono hs7).trans hb3)⟩
  · intro M hM
    rw [List.take_add_one, hL] at hM
    rcases List.mem_append.1 hM with hM | hM
    · exact a3 M hM
    · simp at hM; subst hM; exact hr
  · rw [List.map_append]
    exact hown
  · rw [List.nodup_append]
    refine ⟨a5.1, by simp, fun x hx y hy => ?_⟩
    simp only [List.mem_singleton] at hy
    subst hy
    have := a5.2.1 x hx
    omega
  · intro b hb'
    rcases List.mem_append.1 hb' with hb' | hb'
    · exact hB5.2.1 b hb'
    · simp at hb'; subst hb'; have := hg.size; omega
  · intro i b M hib hM
    rcases Nat.lt_or_ge i bs.length with hi | hi
    · rw [List.getElem?_append_left hi] at hib
      exact hB5.2.2 i b M hib hM
    · rw [List.getElem?_append_right hi] at hib
      have hi0 : i - bs.length = 0 := by
        have := (List.getElem?_eq_some_iff.1 hib).1
        simp at this
        omega
      rw [hi0] at hib
      simp at hib
      subst hib
      have : i = k := by omega
      subst this
      rw [hL] at hM
      cases hM
      exact ⟨by omega, q, c, hnew, hc, hEL⟩

/-- At the head of the rounds of a merger. -/
def MrgRel (w : World) (mb hb : Nat) (sv : Value) (bs : List Nat) (bottom : Bool) (R : List Ent × Int) (f : Nat) (ov : Value) (wr : World) : Prop :=
  ∃ (m : Mst) (out : List Ent), MerAt wr w.heap.size mb hb sv (bs.map ofV) bottom (OfI w.heap.size bs) m ∧ wr.ownsRow w.heap.size 24 5 ov out.length (encE out) ∧ R = (out ++ (Mst.run bottom f m).1, (Mst.run bottom f m).2) ∧ m.left < f ∧ Below w.heap.size w wr

/-- What one answer does. -/
theorem MrgRel.step {w wr w1 : World} {mb hb : Nat} {sv ov : Value} {bs : List Nat} {bottom : Bool} {R : List Ent × Int} {f : Nat} {m : Mst} {out : List Ent} {x : Ent} {more : Bool} {code : Int} {m' : Mst} {e : Ending} (hr : m.next bottom = ((x, more, code), m'))
    (hown : wr.ownsRow w.heap.size 24 5 ov out.length (encE out)) (hR : R = (out ++ (Mst.run bottom (f + 1) m).1, (Mst.run bottom (f + 1) m).2)) (hl : m.left < f + 1) (hbl : Below w.heap.size w wr) (hm : MOk (bs.map ofV).length m)
    (h : NextPost wr w.heap.size ofT mb hb sv (bs.map ofV) bottom (OfI w.heap.size bs) (m.next bottom) e w1) :
    e = .returned (.tuple #[x.val, .bool more, .int .i64 code]) ∧ Below w.heap.size w w1 ∧ w1.ownsRow w.heap.size 24 5 ov out.length (encE out) ∧ (code ≠ 0 → R.2 = code) ∧ (code = 0 → more = false → R = (out, 0)) ∧
      (code = 0 → more = true → MerAt w1 w.heap.size mb hb sv (bs.map ofV) bottom (OfI w.heap.size bs) m' ∧ R = (out ++ [x] ++ (Mst.run bottom f m').1, (Mst.run bottom f m').2) ∧ m'.left < f) := by
  have hlt := fun h => next_left (bottom := bottom) hm h
  obtain ⟨h1, h2, h3⟩ := h
  rw [hr] at h1 h2 hlt
  unfold Mst.run at hR
  rw [hr] at hR
  simp only at hR h1 h2 hlt
  have hk := h3.below hbl.size
  refine ⟨h1, hbl.trans hk, h3.own hown (.inl (by decide)), fun hc => ?_, fun hc hm => ?_, fun hc hm => ⟨h2, ?_, ?_⟩⟩
  · rw [if_pos hc] at hR
    rw [hR]
  · rw [if_neg (by simpa using hc), if_pos hm, List.append_nil] at hR
    exact hR
  · rw [if_neg (by simpa using hc), if_neg (by simp [hm])] at hR
    rw [hR]
    simp
  · have := hlt hm
    omega

/-- A merger lives through its caller's work on entries. -/
theorem MerAt.kpE {w w' : World} {B mb hb : Nat} {sv : Value} {fs : List Value} {bottom : Bool} {T : List TypeId} {I : World → List Sst → Prop} {m : Mst} (hF : FeedLaw B T fs I) (h : MerAt w B mb hb sv fs bottom I m) (k : Kp B [24] w w') : MerAt w' B mb hb sv fs bottom I m := by
  obtain ⟨h1, h2, h3, h4, h5, v, L, h6, h7, h8⟩ := h
  exact ⟨⟨k.box h1.box (.inl (by decide)), h1.base, k.own h1.row (.inl (by decide))⟩, hF.keep h2 (k.mono (Nat.le_refl _) (by unfold mTypes; simp)), h3, h4, h5, v, L, h6.keep k (by decide) (by decide), h7, h8⟩

theorem own_src {w : World} {base : Nat} {e : TypeId} {v : Value} {n : Nat} {fs : List Value} (h : w.ownsRow base e 1 v n fs) : ∃ (p : Option Addr) (c : Nat), v = .slice p n c ∧ (p = none → n = 0 ∧ c = 0) ∧ SL w p fs := by
  have hl := h.1
  rw [Nat.mul_one] at hl
  rcases h.2 with ⟨rfl, rfl⟩ | ⟨g, cap, cur, rfl, hb, hg, hnc, hcm, _⟩
  · exact ⟨none, 0, rfl, fun _ => ⟨rfl, rfl⟩, fun j u hj => by
      have := (List.getElem?_eq_some_iff.1 hj).1
      omega⟩
  · refine ⟨some ⟨g, 0, none⟩, cap, rfl, fun h => absurd h (by simp), fun j u hj => ⟨⟨g, 0, none⟩, rfl, ?_⟩⟩
    have hj' := (List.getElem?_eq_some_iff.1 hj).1
    rw [show (⟨g, 0, none⟩ : Addr).add j = ⟨g, j, none⟩ by unfold Addr.add; split <;> simp_all, h.cellAt j (by omega)]
    exact hj

theorem MerAt.start {w wr w2 : World} {mb hb : Nat} {sv v : Value} {bs : List Nat} {lists : List (List Ent)} {bottom : Bool} (hs : w.heap.size ≤ wr.heap.size) (h5 : OfB w.heap.size wr bs lists) (hl : bs.length = lists.length) (hz : ∀ L ∈ lists, L.length ≤ 4398046511104) (hwf : SWf (Mst.new lists).S) (hb2 : Below wr.heap.size wr w2) (hM : MrgIs w2 wr.heap.size mb hb sv (bs.map ofV) bottom false 0) (hP : PileD w2 wr.heap.size hb v []) :
    MerAt w2 w.heap.size mb hb sv (bs.map ofV) bottom (OfI w.heap.size bs) (Mst.new lists) := by
  refine ⟨⟨hM.box, Nat.le_trans hs hM.base, own_le hM.row hs⟩, (h5.kp (Kp.of_below (B := w.heap.size) (T := []) hb2) (by simp)).ofI hl hz, by rw [List.length_map, hl]; exact new_ok lists, hwf, fun _ => new_fresh lists, v, [], ⟨hP.box, Nat.le_trans hs hP.base, own_le hP.row hs⟩, fun j _ h => absurd h (by simp), fun _ => by rw [new_stands]⟩

theorem MrgRel.more {w wr wa w1 : World} {mb hb : Nat} {sv ov ov' : Value} {bs : List Nat} {bottom : Bool} {R : List Ent × Int} {f : Nat} {m' : Mst} {out : List Ent} {x : Ent} (h : MerAt wr w.heap.size mb hb sv (bs.map ofV) bottom (OfI w.heap.size bs) m') (hbl : Below w.heap.size w wr) (hR : R = (out ++ [x] ++ (Mst.run bottom f m').1, (Mst.run bottom f m').2)) (hl : m'.left < f)
    (hown : wr.ownsRow w.heap.size 24 5 ov out.length (encE out)) (ha : Below wr.heap.size wr wa) (hown' : w1.ownsRow w.heap.size 24 5 ov' (out.length + 1) (encE out ++ x.cells)) (hg : wa.grownBy w1 ov.ownBlock) : MrgRel w mb hb sv bs bottom R f ov' w1 := by
  have hsb : ∀ g, ov.ownBlock = some g → w.heap.size ≤ g := fun g hg' => (hown.lt g hg').1
  have hkp : Kp w.heap.size [24] wa w1 := by
    refine ⟨hg.os, hg.tape, hg.output, hg.size, fun g o ho hx => (hg.block g (Array.getElem?_eq_some_iff.1 ho).1 (fun e => ?_)).trans ho⟩
    have hw2 := own_belowAll hown ha
    rcases hw2.2 with ⟨e', _⟩ | ⟨g', cap, cur, e', hg', hgh, _⟩
    · rw [e'] at e; cases e
    · rw [e'] at e
      have : g = g' := Option.some.inj e
      subst this
      rw [hgh] at ho
      cases ho
      rcases hx with hx | hx
      · omega
      · exact hx _ rfl (by simp)
  have hkk : Kp w.heap.size [24] wr w1 := (Kp.of_below ha).trans hkp
  refine ⟨m', out ++ [x], h.kpE (ofLaw _ _) hkk, ?_, hR, hl, hbl.trans (hkk.below hbl.size)⟩
  rw [List.length_append, List.length_singleton, encE_snoc]
  exact hown'

set_option maxRecDepth 100000 in
set_option maxHeartbeats 2000000 in
theorem Merge_many (p : Option Addr) (n c : Nat) (bottom : Bool) (hn : 1024 < n) (hm : n < 9223372036854775807) (w : World) : Calls Try.prog 22 #[.slice p n c, .bool bottom] w fun e w' => e = .returned (.tuple #[.slice none 0 0, .int .i64 43]) ∧ w = w' := by
  have h1 : decide ((1024 : Int) < (n : Int)) = true := by simp; omega
  have h2 : (1024 : Int) < (n : Int) := by omega
  go_enter Try.func22, Try.ntmps22
  go_wp2
  go_ret2
  exact ⟨rfl, rfl⟩

set_option maxRecDepth 100000 in
set_option maxHeartbeats 2000000 in
/-- A list does not rise. -/
theorem Merge_calls {w : World} {p : Option Addr} {n c : Nat} {lists : List (List Ent)} (bottom : Bool) (hn : lists.length = n) (h1024 : n ≤ 1024) (hL : LLs w w.heap.size p lists) (hz : ∀ L ∈ lists, L.length ≤ 4398046511104) (hR : (mergeM lists bottom).1.length ≤ 2199023255552) (hwf : SWf (Mst.new lists).S) :
    Calls Try.prog 22 #[.slice p n c, .bool bottom] w fun e w' => ((∀ L ∈ lists, rises L) → MergePost w (mergeM lists bottom) e w') ∧ ((∃ L ∈ lists, ¬ rises L) → MergePost w ([], 50) e w') := by
  obtain ⟨i0, hi0, hz0, hz1, hz2⟩ := info_parts srcinfo
  obtain ⟨i1, hi1, hy0, hy1, hy2⟩ := info_parts entinfo
  have hd : decide ((1024 : Int) < (n : Int)) = false := by simp; omega
  have HN := Lib.hid hn
  have HZ := Lib.hid hz
  have HWF := Lib.hid hwf
  obtain ⟨R, hRR⟩ : ∃ R, mergeM lists bottom = R := ⟨_, rfl⟩
  rw [hRR] at hR
  have HR := Lib.hid hR
  have HRR := Lib.hid hRR
  have H0 : Hid (SrcRel w p lists 0 (.slice none 0 0) w) := Lib.hid ⟨[], by simp, rfl, by simp, own_none, ⟨by simp, by simp, by simp⟩, hL, Below.refl _ _⟩
  obtain ⟨Q, hQ⟩ : ∃ Q : Ending → World → Prop, Q = fun e w' => ((∀ L ∈ lists, rises L) → MergePost w (mergeM lists bottom) e w') ∧ ((∃ L ∈ lists, ¬ rises L) → MergePost w ([], 50) e w') := ⟨_, rfl⟩
  rw [← hQ]
  have HQ1 : Hid (∀ e w', (∀ L ∈ lists, rises L) → MergePost w R e w' → Q e w') := Lib.hid (fun e w' h1 h2 => by rw [hQ]; exact ⟨fun _ => by rw [hRR]; exact h2, fun ⟨L, h3, h4⟩ => absurd (h1 L h3) h4⟩)
  have HQ2 : Hid (∀ e w' L, L ∈ lists → ¬ rises L → MergePost w ([], 50) e w' → Q e w') := Lib.hid (fun e w' L h1 h3 h2 => by rw [hQ]; exact ⟨fun h => absurd (h L h1) h3, fun _ => h2⟩)
  clear hn hz hwf hRR hR hL hQ
  go_enter Try.func22, Try.ntmps22
  go_wp2
  go_loopw [6, 20] (fun sv i wr => ∃ k : Nat, i = .int .i64 k ∧ SrcRel w p lists k sv wr) (fun _ i _ => n - (intOf i).toNat)
  case atStart => exact ⟨0, rfl, H0.out⟩
  case round =>
    obtain ⟨k, rfl, bs, hS⟩ := hrel
    have hkn : k ≤ n := by rw [← HN.out]; exact hS.1
    obtain ⟨a1, a2, a3, a4, a5, a6, a7⟩ := id hS
    by_cases hlt : k < n
    · obtain ⟨L, hL⟩ : ∃ L, lists[k]? = some L := ⟨_, List.getElem?_eq_getElem (by rw [HN.out]; exact hlt)⟩
      obtain ⟨a, q, cl, rfl, ha, hcell, hcl, hE⟩ := a6 k L hL
      have hLm := List.mem_of_getElem? hL
      have hll := HZ.out L hLm
      have HCS := Lib.hid (Sorted_calls _ L (by omega) wr (hE.esl cl))
      have i0' : (0 : Int) ≤ (k : Int) := by omega
      have i1' : (k : Int) < (n : Int) := by omega
      obtain ⟨ps, cps, rfl, _, _, _⟩ := own_rd a4
      by_cases hr : rises L
      · have HNx := Lib.hid (fun w1 w2 w3 sv' => SrcRel.next (w1 := w1) (w2 := w2) (w3 := w3) (sv' := sv') hS hL hr hcl hE)
        rw [sortedR_ok hr] at HCS
        have HA4 := Lib.hid a4
        have hs7 := a7.size
        clear hS a1 a2 a3 a4 a5 a6 a7 hE hL hLm hr
        go_wp2_with fail
        refine HCS.out.mono ?_
        rintro e w1 ⟨rfl, hb1⟩
        have HB1 := Lib.hid hb1
        have hs1 := hb1.size
        clear hb1 hcell
        go_wp2_with fail
        refine (of_calls _ _ _ _).mono ?_
        rintro e w2 ⟨rfl, hb2, hbx⟩
        have hbw2 := HB1.out.trans (hb2.mono hs1)
        have hs2 := hb2.size
        have hva := (own_belowAll HA4.out hbw2).alloc (.cells #[ofV w1.heap.size] 41)
        have hnews := World.news_of_block (cs := #[ofV w1.heap.size]) (t := 41) (fr := (0, 0)) (heap_alloc_new w2 (.cells #[ofV w1.heap.size] 41))
        have HNx2 := Lib.hid (fun w3 sv' => HNx.out w1 (w2.alloc (.cells #[ofV w1.heap.size] 41)) w3 sv' HB1.out (hb2.alloc hs2 _) ((Below.heap_alloc _ _ _ (Array.getElem?_eq_some_iff.1 hbx).1).trans hbx))
        have chk1 : k + 1 ≤ maxLen := by unfold maxLen; omega
        have chk2 : (k + 1) * 8 ≤ 140737488355328 := by omega
        have chk3 : w.heap.size ≤ (w2.alloc (.cells #[ofV w1.heap.size] 41)).heap.size := by simp; omega
        have chk4 : ∀ u ∈ [ofV w1.heap.size], u.oneCell' = true := by simp [Value.oneCell', ofV]
        clear hbx hb2 hbw2
        unfold ofV at hva hnews
        go_wp2_with (at_builtin; refine wpList_append_lies _ rfl _ _ _ rfl w.heap.size 41 i0 _ 1 8 Try.underlying37 hi0 hz0 hz1 hz2 rfl (by decide) (.slice ps k cps) k _ rfl hva ⟨w2.heap.size, 0, none⟩ 1 1 [ofV w1.heap.size] rfl rfl hnews chk4 (by decide) chk1 chk2 chk3 (w2.heap.size + 1) (by simp) ?_)
        intro g cap' w5 hown5 hgrow5 hat5 hlt5
        have HRel := Lib.hid (HNx2.out w5 _ hgrow5 hown5)
        clear hown5 hgrow5 hat5 hlt5 hva hnews
        go_wp2
        go_roundw
        case rel => exact ⟨k + 1, by go_num, HRel.out⟩
        case measure => simp [intOf]; omega
      · have hne : sortedR L = 50 := if_neg hr
        rw [hne] at HCS
        have HEnd := Lib.hid (fun W (h : Below wr.heap.size wr W) => HQ2.out (.returned (.tuple #[.slice none 0 0, .int .i64 50])) W L hLm hr ⟨.slice none 0 0, rfl, a7.trans (h.mono a7.size), fun h => absurd h (by decide), fun _ => rfl⟩)
        clear hS a1 a2 a3 a4 a5 a6 a7 hE hL hLm hr hne
        go_wp2_with fail
        refine HCS.out.mono ?_
        rintro e w1 ⟨rfl, hb1⟩
        have HB1 := Lib.hid hb1
        clear hb1 hcell
        go_wp2
        first | go_ret2 | skip
        exact HEnd.out _ HB1.out
    · obtain rfl : k = n := by omega
      have hall : ∀ L ∈ lists, rises L := by
        rw [← HN.out, List.take_length] at a3
        exact a3
      have hHQ := Lib.hid (fun e w' h => HQ1.out e w' hall h)
      obtain ⟨ps, cps, rfl, hps, hSL⟩ := own_src a4
      have hbl0 : bs.length = lists.length := by rw [a2, HN.out]
      have HCN := Lib.hid (New_calls (fs := bs.map ofV) (w := wr) (p := ps) (n := k) (c := cps) bottom (by rw [List.length_map, a2]) h1024 hps hSL (by
        intro u hu
        obtain ⟨b, _, rfl⟩ := List.mem_map.1 hu
        rfl))
      have HSt := Lib.hid (fun w2 mb hb sv v => MerAt.start (w2 := w2) (mb := mb) (hb := hb) (sv := sv) (v := v) (bottom := bottom) a7.size a5 hbl0 HZ.out HWF.out)
      have HA7 := Lib.hid a7
      have hfl : (bs.map ofV).length ≤ 1024 := by rw [List.length_map, a2]; exact h1024
      have HFL := Lib.hid hfl
      clear hS a1 a2 a3 a4 a5 a6 a7 hall hps hSL hbl0 hfl
      go_wp2_with fail
      refine HCN.out.mono ?_
      rintro e w2 ⟨mb, hb, sv2, v2, rfl, hb2, hM2, hP2⟩
      have hMer := HSt.out w2 mb hb sv2 v2 hb2 hM2 hP2
      have HRel : Hid (MrgRel w mb hb sv2 bs bottom R ((Mst.new lists).left + 1) (.slice none 0 0) w2) := Lib.hid ⟨Mst.new lists, [], hMer, own_none, by rw [← HRR.out]; simp [mergeM], Nat.lt_succ_self _, HA7.out.trans (hb2.mono HA7.out.size)⟩
      clear hMer hb2 hM2 hP2
      go_wp2
      go_loopg [10] ((Mst.new lists).left + 1) (fun f ov wr => MrgRel w mb hb sv2 bs bottom R f ov wr)
      case atStart => exact HRel.out
      case round =>
        obtain ⟨ov, rfl⟩ : ∃ ov : Value, ov = u10 := ⟨_, rfl⟩
        obtain ⟨m, out, hMer, hown, hR, hl, hbl⟩ := hrel
        obtain ⟨f, rfl⟩ : ∃ f, gk = f + 1 := ⟨gk - 1, by omega⟩
        obtain ⟨r, hr⟩ : ∃ r, m.next bottom = r := ⟨_, rfl⟩
        obtain ⟨⟨x, more, code⟩, m'⟩ := r
        have hlen : out.length ≤ 2199023255552 := by
          have := HR.out
          rw [hR] at this
          simp only [List.length_append] at this
          omega
        have HCX := Lib.hid (Next_calls (ofLaw _ _) hMer HFL.out hbl.size)
        have HStep := Lib.hid (fun e w1 => MrgRel.step (e := e) (w1 := w1) (mb := mb) (hb := hb) (sv := sv2) hr hown hR hl hbl hMer.2.2.1)
        have hwr := hbl.size
        clear hMer hown hR hl hbl
        go_wp2_with fail
        refine HCX.out.mono ?_
        intro e w3 hp3
        obtain ⟨rfl, hbl3, hown3, hS1, hS2, hS3⟩ := HStep.out e w3 hp3
        have HB3 := Lib.hid hbl3
        have hws := hbl3.size
        have hbb := (Below.refl w3.heap.size w3).alloc (Nat.le_refl _) (.cells #[.int .i64 x.v, .string x.c, .int .i64 x.i, .int .i64 x.s, .bool x.d] 24)
        have HBB := Lib.hid hbb
        clear hp3 hbl3 hbb
        unfold Ent.val
        by_cases hc : code = 0
        · subst hc
          cases more with
          | false =>
            have HE := Lib.hid (fun W (h : Below w3.heap.size w3 W) => hHQ.out (.returned (.tuple #[ov, .int .i64 0])) W ⟨ov, by rw [hS2 rfl rfl], HB3.out.trans (h.mono hws), fun _ => by rw [hS2 rfl rfl]; exact own_belowAll hown3 h, fun h => absurd (by rw [hS2 rfl rfl]) h⟩)
            clear hS1 hS2 hS3 hown3
            go_wp2
            first | go_ret2 | skip
            exact HE.out _ HBB.out
          | true =>
            obtain ⟨hm4, hR4, hl4⟩ := hS3 rfl rfl
            obtain ⟨po, co, rfl, _, _, _⟩ := own_rd hown3
            have hva := (hown3.alloc (.cells #[.int .i64 x.v, .string x.c, .int .i64 x.i, .int .i64 x.s, .bool x.d] 24)).alloc (.cells #[.int .i64 x.v, .string x.c, .int .i64 x.i, .int .i64 x.s, .bool x.d] 24)
            have hnews := World.news_of_block (cs := #[.int .i64 x.v, .string x.c, .int .i64 x.i, .int .i64 x.s, .bool x.d]) (t := 24) (fr := (0, 0)) (heap_alloc_new (w3.alloc (.cells #[.int .i64 x.v, .string x.c, .int .i64 x.i, .int .i64 x.s, .bool x.d] 24)) (.cells #[.int .i64 x.v, .string x.c, .int .i64 x.i, .int .i64 x.s, .bool x.d] 24))
            have e3 : (w3.alloc (.cells #[.int .i64 x.v, .string x.c, .int .i64 x.i, .int .i64 x.s, .bool x.d] 24)).heap.size = w3.heap.size + 1 := by simp
            rw [e3] at hnews
            have HMore := Lib.hid (fun w5 ov' => MrgRel.more (w1 := w5) (ov' := ov') hm4 HB3.out hR4 hl4 hown3 (HBB.out.alloc (by simp) (.cells #[.int .i64 x.v, .string x.c, .int .i64 x.i, .int .i64 x.s, .bool x.d] 24)))
            have chk1 : out.length + 1 ≤ maxLen := by unfold maxLen; omega
            have chk2 : (out.length + 1) * 48 ≤ 140737488355328 := by omega
            have chk3 : w.heap.size ≤ ((w3.alloc (.cells #[.int .i64 x.v, .string x.c, .int .i64 x.i, .int .i64 x.s, .bool x.d] 24)).alloc (.cells #[.int .i64 x.v, .string x.c, .int .i64 x.i, .int .i64 x.s, .bool x.d] 24)).heap.size := by simp; omega
            have chk4 : ∀ u ∈ x.cells, u.oneCell' = true := by simp [Value.oneCell', Ent.cells]
            clear hS1 hS2 hS3 hown3 hm4 hR4 hl4 e3
            go_wp2_with (at_builtin; refine wpList_append_lies _ rfl _ _ _ rfl w.heap.size 24 i1 _ 5 48 Try.underlying25 hi1 hy0 hy1 hy2 rfl (by decide) (.slice po out.length co) out.length _ rfl hva ⟨w3.heap.size + 1, 0, none⟩ 1 1 x.cells rfl rfl hnews chk4 (by decide) chk1 chk2 chk3 (w3.heap.size + 1 + 1) (by simp) ?_)
            intro g cap' w5 hown5 hgrow5 hat5 hlt5
            have HRel5 := Lib.hid (HMore.out w5 _ hown5 hgrow5)
            clear hown5 hgrow5 hat5 hlt5 hva hnews
            go_wp2
            go_roundg f
            case measure => omega
            case rel => exact HRel5.out
        · have hne : (code != 0) = true := by rw [bne_iff_ne]; exact hc
          have HE := Lib.hid (fun W (h : Below w3.heap.size w3 W) => hHQ.out (.returned (.tuple #[.slice none 0 0, .int .i64 code])) W ⟨.slice none 0 0, by rw [hS1 hc], HB3.out.trans (h.mono hws), fun h => absurd ((hS1 hc).symm.trans h) hc, fun _ => rfl⟩)
          clear hS1 hS2 hS3 hown3
          go_wp2
          first | go_ret2 | skip
          exact HE.out _ HBB.out
end Go.Proofs.Ytahdaccmokjgpaa
