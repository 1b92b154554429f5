/-
  WALK: how many entries each block has (the document's Sizes).
-/
import Derived.Test.YtihgjihdmlomaaaDoorBmC
namespace Go.Proofs.YtihgjihdmlomaaaDoor
open Go.RowKit ArgK
set_option linter.unusedVariables false

theorem strinfoM : (Tryd.prog.info? 9).map (fun i => (i.zero, i.size, i.bytes)) = some (some (.string ⟨#[]⟩), 1, 16) := by kernel_rfl

/-- The entries' texts. -/
def txt (list : List Ent) : List ByteArray := list.map (fun e => (⟨(writtenB e).toArray⟩ : ByteArray))
def strV (l : List ByteArray) : List Value := l.map Value.string

theorem txt_length (list : List Ent) : (txt list).length = list.length := by simp [txt]
theorem txt_get {list : List Ent} {k : Nat} {x : Ent} (h : list[k]? = some x) : (txt list)[k]? = some ⟨(writtenB x).toArray⟩ := by simp [txt, h]
theorem take_snocA {α : Type} {L : List α} {k : Nat} {x : α} (h : L[k]? = some x) : L.take (k + 1) = L.take k ++ [x] := by
  rw [List.take_add_one, h]
  rfl
theorem strV_snoc {L : List ByteArray} {k : Nat} {x : ByteArray} (h : L[k]? = some x) : strV (L.take (k + 1)) = strV (L.take k) ++ [.string x] := by
  rw [take_snocA h]
  simp [strV]
theorem txt_size (x : Ent) : ByteArray.size ⟨(writtenB x).toArray⟩ = szE x := rfl
theorem txt_ok {list : List Ent} (h : ∀ e ∈ list, Good e) : ∀ s ∈ txt list, 0 < s.size ∧ s.size ≤ 4096 := fun s hs => by
  obtain ⟨e, he, rfl⟩ := List.mem_map.1 hs
  exact szE_ok h e he
theorem txt_grp (list : List Ent) : (grp ByteArray.size (txt list)).map List.length = (groups list).map List.length := by
  unfold txt groups
  rw [grp_map, List.map_map]
  exact List.map_congr_left (fun g _ => by simp)

theorem sl_own {W : World} {base n : Nat} {p : Option Addr} {c : Nat} {L : List ByteArray} (h : W.ownsRow base 9 1 (.slice p n c) n (strV L)) (hn : L.length = n) : SL W W.heap.size p L := fun i x hx => by
  have hi := (List.getElem?_eq_some_iff.1 hx).1
  obtain ⟨q, cap, e, _, _, hr⟩ := own_rd h
  cases e
  obtain ⟨g, rfl, _, hg, hcell, _⟩ := hr (by omega)
  exact ⟨_, rfl, hg, by rw [add0, hcell i (by omega)]; simp [strV, hx]⟩

/-- At the head of each round over the entries. -/
def TxRel (w : World) (B : Nat) (list : List Ent) (n k : Nat) (tv : Value) (wr : World) : Prop :=
  k ≤ n ∧ wr.ownsRow B 9 1 tv k (strV ((txt list).take k)) ∧ Below B w wr

set_option maxRecDepth 100000 in
set_option maxHeartbeats 2000000 in
theorem Sizes_calls (p : Option Addr) (n c : Nat) (list : List Ent) (hn : list.length = n) (hm : n ≤ 2097152) (hg : ∀ e ∈ list, Good e) (w : World) (hE : EL w w.heap.size p list) :
    Calls Tryd.prog 49 #[.slice p n c] w fun e w' => ∃ v m, e = .returned v ∧ ((groups list).map List.length).length = m ∧ m ≤ n ∧ w'.ownsRow w.heap.size 3 1 v m (natV ((groups list).map List.length)) ∧ Below w.heap.size w w' := by
  obtain ⟨i0, hi, hz0, hz1, hz2⟩ := info_parts strinfoM
  have HN := Lib.hid hn
  have HE := Lib.hid hE
  have HG := Lib.hid hg
  have H0 : Hid (TxRel w w.heap.size list n 0 (.slice none 0 0) w) := Lib.hid ⟨Nat.zero_le _, World.ownsRow_nil _ _ _ _, Below.refl _ _⟩
  clear hn hE hg
  go_enter Tryd.func49, Tryd.ntmps49
  go_wp2
  go_loopw [3, 4] (fun tv i wr => ∃ k : Nat, i = .int .i64 k ∧ TxRel w w.heap.size list n k tv wr) (fun _ i _ => n - (intOf i).toNat)
  case atStart => exact ⟨0, rfl, H0.out⟩
  case round =>
    obtain ⟨k, rfl, hk, hown, hbl⟩ := hrel
    have hbs := hbl.size
    by_cases hlt : k < n
    · obtain ⟨x, hx⟩ : ∃ x, list[k]? = some x := ⟨_, List.getElem?_eq_getElem (by rw [HN.out]; exact hlt)⟩
      have hgx := HG.out x (List.mem_of_getElem? hx)
      obtain ⟨a, rfl, haB, h5⟩ := HE.out k x hx
      have h5o := h5.below hbl (by rw [add_blockE]; exact haB)
      have CW := bytes_calls x hgx.1 hgx.2.1 (by have := hgx.2.2; omega)
      have hst := strV_snoc (txt_get hx)
      obtain ⟨S, hS⟩ : ∃ S, (⟨(writtenB x).toArray⟩ : ByteArray) = S := ⟨_, rfl⟩
      rw [hS] at hst
      simp only [hS] at CW
      have HC := Lib.hid CW
      unfold Ent.val at HC
      have HSt := Lib.hid hst
      obtain ⟨x0, x1, x2, x3, x4⟩ := h5o
      have i0' : (0 : Int) ≤ (k : Int) := by omega
      have i1' : (k : Int) < (n : Int) := by omega
      clear CW hS hst h5 hx
      go_wp2_with fail
      refine (HC.out _).mono ?_
      rintro e w1 ⟨rfl, hb1⟩
      have hown1 := own_belowAll hown hb1
      have hbl1 : Below w.heap.size w w1 := hbl.trans (hb1.mono hbs)
      have hbs1 := hbl1.size
      obtain ⟨pp, cp, rfl, hcp1, hcp2, hpp⟩ := own_rd hown1
      clear hown hbl hb1 hpp x0 x1 x2 x3 x4
      go_wp2_with (at_builtin; refine wpList_append_lies _ rfl _ _ 70 rfl w.heap.size 9 i0 (.string ⟨#[]⟩) 1 16 Tryd.underlying70 hi hz0 hz1 hz2 rfl (by decide) _ k _ rfl (World.ownsRow.alloc (h := hown1) _) ⟨w1.heap.size, 0, none⟩ 1 1 [.string S] rfl rfl (World.news_of_block (heap_alloc_new w1 _)) (by simp [Value.oneCell']) (by decide) (by unfold maxLen <;> omega) (by omega) (by have := hbl1.size; simp <;> omega) _ rfl ?_; intro g capn y1 hown' hgrow hat hlt2)
      have hbn : Below w.heap.size w y1 := (Below.alloc hbl1 hbl1.size _).grown hgrow (by have := hbl1.size; simp <;> omega) (fun g hg => (hown1.lt g hg).1)
      have HR : Hid (TxRel w w.heap.size list n (k + 1) (.slice (some ⟨g, 0, none⟩) (k + 1) capn) y1) := Lib.hid ⟨hlt, by rw [HSt.out]; exact hown', hbn⟩
      clear hown' hgrow hbn hown1 hbl1
      go_wp2
      go_roundw
      case rel => exact ⟨k + 1, by go_num, HR.out⟩
      case measure => simp [intOf]; omega
    · obtain rfl : k = n := by omega
      rw [List.take_of_length_le (by rw [txt_length, HN.out]; exact Nat.le_refl _)] at hown
      obtain ⟨pp, cp, rfl, hcp1, hcp2, hpp⟩ := own_rd hown
      have CF := Filled_calls pp k cp (txt list) (by rw [txt_length, HN.out]) hm (txt_ok HG.out) wr (sl_own hown (by rw [txt_length, HN.out]))
      have HCF := Lib.hid CF
      have HBL := Lib.hid hbl
      clear CF hown hbl hpp
      go_wp2_with fail
      refine HCF.out.mono ?_
      rintro e w2 ⟨v, m, rfl, h1, h2, h3, h4⟩
      rw [txt_grp] at h1 h3
      have HEnd := Lib.hid (And.intro h1 (And.intro h2 (And.intro (own_le h3 hbs) (HBL.out.trans (h4.mono hbs)))))
      clear h1 h2 h3 h4
      go_wp2
      go_ret
      exact ⟨_, _, rfl, HEnd.out.1, HEnd.out.2.1, HEnd.out.2.2.1, HEnd.out.2.2.2⟩
end Go.Proofs.YtihgjihdmlomaaaDoor
