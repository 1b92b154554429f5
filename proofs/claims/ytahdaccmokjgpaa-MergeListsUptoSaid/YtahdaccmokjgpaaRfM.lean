/-
  WALK: the document's Merge.
-/
import Derived.Test.YtahdaccmokjgpaaRfW
import Derived.Test.YtahdaccmokjgpaaRfT
import Derived.Test.YtahdaccmokjgpaaMerge
namespace Go.Proofs.Ytahdaccmokjgpaa
open Go.RowKit ArgK
set_option linter.unusedVariables false

open Classical in
/-- What the document's Merge answers. -/
noncomputable def docM (lists : List (List Ent)) (bottom : Bool) : List Ent × Int :=
  if ∃ L ∈ lists, ¬ rises L then ([], 50) else if Twice lists then ([], 51) else ((lists.flatten.foldl rput []).filter (told bottom), 0)

theorem puts_length : ∀ (P all : List Ent), (P.foldl rput all).length ≤ all.length + P.length
  | [], all => Nat.le_refl _
  | e :: P, all => by
    rw [List.foldl_cons]
    have h1 := puts_length P (rput all e)
    have h2 := rput_length all e
    simp only [List.length_cons]
    omega
theorem flat_take_succ {lists : List (List Ent)} {i : Nat} {L : List Ent} (h : lists[i]? = some L) : (lists.take (i + 1)).flatten = (lists.take i).flatten ++ L := by
  rw [List.take_add_one, h]
  simp
theorem take_succ' {L : List Ent} {j : Nat} {x : Ent} (h : L[j]? = some x) : L.take (j + 1) = L.take j ++ [x] := by
  rw [List.take_add_one, h]
  rfl
theorem flat_take_le (lists : List (List Ent)) (i : Nat) : (lists.take i).flatten.length ≤ lists.flatten.length := by
  conv => rhs; rw [← List.take_append_drop i lists, List.flatten_append, List.length_append]
  exact Nat.le_add_right _ _
theorem flat_take_part {lists : List (List Ent)} {i : Nat} {L : List Ent} (h : lists[i]? = some L) : (lists.take i).flatten.length + L.length ≤ lists.flatten.length := by
  have h1 := flat_take_le lists (i + 1)
  rw [flat_take_succ h, List.length_append] at h1
  exact h1
theorem take_filter_succ {g : List Ent} {j : Nat} {y : Ent} (hy : g[j]? = some y) (p : Ent → Bool) : (g.take (j + 1)).filter p = (g.take j).filter p ++ (if p y = true then [y] else []) := by
  rw [take_succ' hy, List.filter_append]
  cases hp : p y <;> simp [hp]

theorem own_some2 {w : World} {base : Nat} {e : TypeId} {size n c : Nat} {q : Option Addr} {xs : List Value} (h : w.ownsRow base e size (.slice q n c) n xs) (hn : 0 < n) : ∃ g, q = some ⟨g, 0, none⟩ ∧ base ≤ g := by
  rcases h.2 with ⟨hv, rfl⟩ | ⟨g, cap, cur, hv, hb, hg, _⟩
  · cases hv; exact absurd hn (Nat.lt_irrefl _)
  · cases hv
    exact ⟨g, rfl, hb⟩

set_option maxRecDepth 100000 in
set_option maxHeartbeats 8000000 in
theorem RMerge_calls {w : World} {p : Option Addr} {n c : Nat} {lists : List (List Ent)} (bottom : Bool) (hn : lists.length = n) (h1024 : n ≤ 1024) (hL : LLs w w.heap.size p lists) (hz : ∀ L ∈ lists, L.length ≤ 4398046511104) (hfl : lists.flatten.length ≤ 2199023255) :
    Calls Try.prog 20 #[.slice p n c, .bool bottom] w (MergePost w (docM lists bottom)) := by
  obtain ⟨i0, hi0, hz0, hz1, hz2⟩ := info_parts entinfo
  have hd : decide ((1024 : Int) < (n : Int)) = false := by simp; omega
  have HN := Lib.hid hn
  have HL := Lib.hid hL
  have HZ := Lib.hid hz
  have CT := fun W (hW : Below w.heap.size w W) => twice_calls (w := W) (p := p) (n := n) (c := c) (lists := lists) hn h1024 (fun i L h => by
    obtain ⟨a, q, c, e, h1, h2, h3, h4⟩ := (hL.below hW) i L h
    exact ⟨a, q, c, e, Nat.lt_of_lt_of_le h1 hW.size, h2, h3, h4.mono hW.size⟩) hz
  have HCT := Lib.hid CT
  clear hn hL hz CT
  go_enter Try.func20, Try.ntmps20
  go_wp2
  go_loopw [6] (fun iv wr => ∃ i : Nat, iv = .int .i64 i ∧ i ≤ n ∧ Hid (∀ i' L, i' < i → lists[i']? = some L → rises L) ∧ Below w.heap.size w wr) (fun iv _ => n - (intOf iv).toNat)
  case atStart => exact ⟨0, rfl, Nat.zero_le _, Lib.hid (fun _ _ h => absurd h (Nat.not_lt_zero _)), Below.refl _ _⟩
  case round =>
    obtain ⟨i, rfl, hi, HR, hb⟩ := hrel
    by_cases hlt : i < n
    · obtain ⟨L, hLi⟩ : ∃ L, lists[i]? = some L := ⟨_, List.getElem?_eq_getElem (by rw [HN.out]; exact hlt)⟩
      obtain ⟨pa, q, ci, rfl, hpa, hci, hlci, he⟩ := HL.out i L hLi
      have hzi := HZ.out L (List.mem_of_getElem? hLi)
      have hci2 := (World.cell?_of_block (hb.block _ (by rw [add_blockE]; exact hpa))).trans hci
      have CS := RefSorted_calls (.slice q L.length ci) L (by omega) wr ((he.below hb (Nat.le_refl _)).esl ci)
      have HB := Lib.hid hb
      have hi1 : (i : Int) < (n : Int) := by omega
      have hi0' : (0 : Int) ≤ (i : Int) := by omega
      have hs := hb.size
      by_cases hri : rises L
      · rw [sortedR_ok hri] at CS
        have HCS := Lib.hid CS
        have HR2 : Hid (∀ i' L, i' < i + 1 → lists[i']? = some L → rises L) := Lib.hid (fun i' L' h1 h2 => by
          rcases Nat.lt_or_ge i' i with h3 | h3
          · exact HR.out i' L' h3 h2
          · obtain rfl : i' = i := by omega
            rw [hLi] at h2
            cases h2
            exact hri)
        clear CS hb hLi he hci
        go_wp2_with fail
        refine HCS.out.mono ?_
        rintro e w2 ⟨rfl, hb2⟩
        have HB2 := Lib.hid (HB.out.trans (hb2.mono hs))
        clear hb2
        go_wp2
        go_roundw
        case rel => exact ⟨i + 1, by go_num, hlt, HR2, HB2.out⟩
        case measure => simp [intOf]; omega
      · rw [show sortedR L = 50 from if_neg hri] at CS
        have HCS := Lib.hid CS
        have hdoc : docM lists bottom = ([], 50) := by unfold docM; rw [if_pos ⟨L, List.mem_of_getElem? hLi, hri⟩]
        have HD := Lib.hid hdoc
        clear CS hb hLi he hci hdoc
        go_wp2_with fail
        refine HCS.out.mono ?_
        rintro e w2 ⟨rfl, hb2⟩
        have HB2 := Lib.hid (HB.out.trans (hb2.mono hs))
        clear hb2
        go_wp2
        go_ret2
        rw [HD.out]
        exact ⟨_, rfl, HB2.out, (fun h => absurd h (by decide)), fun _ => rfl⟩
    · obtain rfl : i = n := by omega
      have hrise : ¬ ∃ L ∈ lists, ¬ rises L := by
        rintro ⟨L, hm, hno⟩
        obtain ⟨i', hi'⟩ := List.getElem?_of_mem hm
        exact hno (HR.out i' L (by have := (List.getElem?_eq_some_iff.1 hi').1; have := HN.out; omega) hi')
      have HRise := Lib.hid hrise
      have HCT2 := Lib.hid (HCT.out wr hb)
      have HB := Lib.hid hb
      have hnl : ¬ ((i : Int) < (i : Int)) := by omega
      clear hb hrise
      go_wp2_with fail
      refine HCT2.out.mono ?_
      rintro e w2 ⟨t, rfl, ht, hb2⟩
      have HB2 := Lib.hid (HB.out.trans (hb2.mono HB.out.size))
      clear hb2
      cases t with
      | true =>
        have HD : Hid (docM lists bottom = ([], 51)) := Lib.hid (by unfold docM; rw [if_neg HRise.out, if_pos (ht.1 rfl)])
        clear ht
        go_wp2
        go_ret2
        rw [HD.out]
        exact ⟨_, rfl, HB2.out, (fun h => absurd h (by decide)), fun _ => rfl⟩
      | false =>
        have HD : Hid (docM lists bottom = ((lists.flatten.foldl rput []).filter (told bottom), 0)) := Lib.hid (by unfold docM; rw [if_neg HRise.out, if_neg (fun h => by have := ht.2 h; cases this)])
        clear ht
        go_wp2
        go_loopw [9, 10] (fun av iv wr => ∃ (j : Nat) (F : List Ent), iv = .int .i64 j ∧ j ≤ i ∧ F = (lists.take j).flatten.foldl rput [] ∧ wr.ownsRow w.heap.size 24 5 av F.length (encE F) ∧ Below w.heap.size w wr) (fun _ iv _ => i - (intOf iv).toNat)
        case atStart => exact ⟨0, [], rfl, Nat.zero_le _, by simp, World.ownsRow_nil _ _ _ _, HB2.out⟩
        case round =>
          obtain ⟨j, F, rfl, hj, hF, ho, hb3⟩ := hrel
          rename World => wo
          obtain ⟨fp, fc, rfl, _⟩ := own_rd ho
          by_cases hltj : j < i
          · obtain ⟨L, hLj⟩ : ∃ L, lists[j]? = some L := ⟨_, List.getElem?_eq_getElem (by rw [HN.out]; exact hltj)⟩
            obtain ⟨pa, q, cj, rfl, hpa, hcj, hlcj, he⟩ := HL.out j L hLj
            have hpart := flat_take_part hLj
            have hzj := HZ.out L (List.mem_of_getElem? hLj)
            have HCj : Hid (∀ W, Below w.heap.size w W → W.cell? (pa.add j) = some (.slice q L.length cj)) := Lib.hid (fun W hW => (World.cell?_of_block (hW.block _ (by rw [add_blockE]; exact hpa))).trans hcj)
            have HE := Lib.hid he
            have HFt := Lib.hid (flat_take_succ hLj)
            have HF := Lib.hid hF
            have hFl : F.length ≤ (lists.take j).flatten.length := by
              have := puts_length (lists.take j).flatten []
              rw [← hF] at this
              simpa using this
            obtain ⟨nL, hnL⟩ : ∃ q, L.length = q := ⟨_, rfl⟩
            rw [hnL] at HCj hlcj hzj hpart
            have HNL := Lib.hid hnL
            have hj1 : (j : Int) < (i : Int) := by omega
            have hj0 : (0 : Int) ≤ (j : Int) := by omega
            clear hLj hcj he hF hnL
            go_wp2
            go_loopw [9, 11] (fun av kv wr => ∃ (k : Nat) (G : List Ent), kv = .int .i64 k ∧ k ≤ nL ∧ G = (L.take k).foldl rput F ∧ wr.ownsRow w.heap.size 24 5 av G.length (encE G) ∧ Below w.heap.size w wr) (fun _ kv _ => nL - (intOf kv).toNat)
            case atStart => exact ⟨0, F, rfl, Nat.zero_le _, by simp, ho, hb3⟩
            case round =>
              obtain ⟨k, G, rfl, hk, hG, hoG, hb4⟩ := hrel
              have hcj4 := HCj.out _ hb4
              obtain ⟨gp, gc, rfl, _⟩ := own_rd hoG
              have hGl : G.length ≤ F.length + k := by
                have := puts_length (L.take k) F
                rw [← hG, List.length_take] at this
                omega
              have HB4 := Lib.hid hb4
              by_cases hltk : k < nL
              · obtain ⟨x, hx⟩ : ∃ x, L[k]? = some x := ⟨_, List.getElem?_eq_getElem (by rw [HNL.out]; exact hltk)⟩
                obtain ⟨ai, rfl, hai, h5x⟩ := HE.out k x hx
                obtain ⟨x0, x1, x2, x3, x4⟩ := h5x.below hb4 (by rw [add_blockE]; exact hai)
                have CP := rput_calls x hoG hb4.size (by omega)
                unfold Ent.val at CP
                have HCP := Lib.hid CP
                have HG2 : Hid (rput G x = (L.take (k + 1)).foldl rput F) := Lib.hid (by rw [take_succ' hx, List.foldl_append, ← hG]; rfl)
                have hk1 : (k : Int) < (nL : Int) := by omega
                have hk0 : (0 : Int) ≤ (k : Int) := by omega
                have hs4 := hb4.size
                clear CP hx h5x hb4 hoG hG
                go_wp2_with fail
                refine HCP.out.mono ?_
                rintro e w5 ⟨hb5, v', bb, rfl, ho5⟩
                have HB5 := Lib.hid (HB4.out.trans (hb5.mono hs4))
                have HO5 := Lib.hid ho5
                clear hb5 ho5
                go_wp2
                go_roundw
                case rel => exact ⟨k + 1, rput G x, by go_num, hltk, HG2.out, HO5.out, HB5.out⟩
                case measure => simp [intOf]; omega
              · obtain rfl : k = nL := by omega
                have HG2 : Hid (G = (lists.take (j + 1)).flatten.foldl rput []) := Lib.hid (by
                  rw [HFt.out, List.foldl_append, ← HF.out, hG, List.take_of_length_le (by rw [HNL.out]; exact Nat.le_refl _)])
                have HOG := Lib.hid hoG
                have hnl2 : ¬ ((k : Int) < (k : Int)) := by omega
                clear hb4 hoG hG
                go_wp2
                go_roundw
                case rel => exact ⟨j + 1, G, by go_num, hltj, HG2.out, HOG.out, HB4.out⟩
                case measure => simp [intOf]; omega
          · obtain rfl : j = i := by omega
            have hAll : F = lists.flatten.foldl rput [] := by rw [hF, List.take_of_length_le (by rw [HN.out]; exact Nat.le_refl _)]
            rw [← hAll] at HD
            have HO := Lib.hid ho
            have HB3 := Lib.hid hb3
            have hFl : F.length ≤ lists.flatten.length := by
              have := puts_length lists.flatten []
              rw [← hAll] at this
              simpa using this
            have hnl2 : ¬ ((j : Int) < (j : Int)) := by omega
            clear hF hAll ho hb3
            cases bottom with
            | false =>
              go_wp2
              go_ret2
              rw [HD.out]
              have ht : F.filter (told false) = F := List.filter_eq_self.2 (fun x _ => by simp [told])
              rw [ht]
              exact ⟨_, rfl, HB3.out, fun _ => HO.out, fun h => absurd rfl h⟩
            | true =>
              obtain ⟨m, hm⟩ : ∃ m, F.length = m := ⟨_, rfl⟩
              rw [hm] at HO hFl
              have HM := Lib.hid hm
              rw [hm]
              clear hm
              go_wp2
              go_loopw [14, 15] (fun lv kv wr => ∃ (k : Nat) (G : List Ent), kv = .int .i64 k ∧ k ≤ m ∧ G = (F.take k).filter (fun x => !x.d) ∧ wr.ownsRow wo.heap.size 24 5 lv G.length (encE G) ∧ Below wo.heap.size wo wr) (fun _ kv _ => m - (intOf kv).toNat)
              case atStart => exact ⟨0, [], rfl, Nat.zero_le _, by simp, World.ownsRow_nil _ _ _ _, Below.refl _ _⟩
              case round =>
                obtain ⟨k, G, rfl, hk, hG, hoG, hb4⟩ := hrel
                obtain ⟨gp, gc, rfl, _⟩ := own_rd hoG
                have hGl : G.length ≤ k := by
                  rw [hG]
                  exact Nat.le_trans (List.length_filter_le _ _) (by rw [List.length_take]; exact Nat.min_le_left _ _)
                have HB4 := Lib.hid hb4
                have hall := own_belowAll HO.out hb4
                by_cases hltk : k < m
                · obtain ⟨x, hx⟩ : ∃ x, F[k]? = some x := ⟨_, List.getElem?_eq_getElem (by rw [HM.out]; exact hltk)⟩
                  obtain ⟨g1, rfl, _⟩ := own_some2 hall (by omega)
                  obtain ⟨x0, x1, x2, x3, x4⟩ := own_fiveE hall hx
                  have htf := take_filter_succ hx (fun x => !x.d)
                  have hk1 : (k : Int) < (m : Int) := by omega
                  have hk0 : (0 : Int) ≤ (k : Int) := by omega
                  have HOG := Lib.hid hoG
                  cases hd2 : x.d with
                  | true =>
                    have HG2 : Hid (G = (F.take (k + 1)).filter (fun x => !x.d)) := Lib.hid (by rw [htf, hG]; simp [hd2])
                    rw [hd2] at x4
                    clear htf hx hG hoG hb4 hall
                    go_wp2
                    go_roundw
                    case rel => exact ⟨k + 1, G, by go_num, hltk, HG2.out, HOG.out, HB4.out⟩
                    case measure => simp [intOf]; omega
                  | false =>
                    have HG2 : Hid (G ++ [x] = (F.take (k + 1)).filter (fun x => !x.d)) := Lib.hid (by rw [htf, hG]; simp [hd2])
                    rw [hd2] at x4
                    have hq := Lib.hid (hoG.alloc (.cells #[.int .i64 x.v, .string x.c, .int .i64 x.i, .int .i64 x.s, .bool false] 24))
                    have hnews := Lib.hid (World.news_of_block (World.alloc_heap_new wr (.cells #[.int .i64 x.v, .string x.c, .int .i64 x.i, .int .i64 x.s, .bool false] 24)))
                    have hs4 := hb4.size
                    clear htf hx hG hoG hb4 hall
                    go_wp2_with (at_builtin; refine wpList_append_own _ rfl _ _ 25 rfl wo.heap.size 24 i0 _ 5 48 Try.underlying25 hi0 hz0 hz1 hz2 rfl (by decide) (.slice gp G.length gc) G.length _ rfl hq.out ⟨wr.heap.size, 0, none⟩ 1 1 [.int .i64 x.v, .string x.c, .int .i64 x.i, .int .i64 x.s, .bool false] rfl rfl hnews.out (by simp [Value.oneCell']) (by unfold maxLen; omega) (by omega) (by simp; omega) ?_; intro v6 w6 hown6 hgrow6 _)
                    refine ⟨⟨k + 1, G ++ [x], by go_num, hltk, HG2.out, ?_, ?_⟩, by simp [intOf]; omega⟩
                    · rw [encE_snoc, List.length_append, show x.cells = [.int .i64 x.v, .string x.c, .int .i64 x.i, .int .i64 x.s, .bool false] by unfold Ent.cells; rw [hd2]]
                      exact hown6
                    · have h1 : Below wo.heap.size wo (wr.alloc (.cells #[.int .i64 x.v, .string x.c, .int .i64 x.i, .int .i64 x.s, .bool false] 24)) := HB4.out.alloc HB4.out.size _
                      exact h1.grown hgrow6 h1.size (fun j e => (HOG.out.lt j e).1)
                · obtain rfl : k = m := by omega
                  have hGa : G = F.filter (told true) := by
                    rw [hG, List.take_of_length_le (by rw [HM.out]; exact Nat.le_refl _)]
                    rfl
                  have HGA := Lib.hid hGa
                  have HOG := Lib.hid hoG
                  have hnl3 : ¬ ((k : Int) < (k : Int)) := by omega
                  clear hG hoG hb4 hall hGa
                  go_wp2
                  go_ret2
                  rw [HD.out, ← HGA.out]
                  exact ⟨_, rfl, HB3.out.trans (HB4.out.mono HB3.out.size), fun _ => own_le HOG.out HB3.out.size, fun h => absurd rfl h⟩
end Go.Proofs.Ytahdaccmokjgpaa
