/-
  PLAIN LAWS: a file that was built is read back.
-/
import Derived.Test.YtihgjihdmlomaaaDoorJBrD
import Derived.Test.YtihgjihdmlomaaaDoorJC
namespace Go.Proofs.YtihgjihdmlomaaaDoor
open Go.RowKit
set_option linter.unusedVariables false

theorem scanV_fwd : ∀ (f a k v u : Nat) (rest : List UInt8), k + f = 9 → u < 2 ^ (64 - 7 * k) → (0 < k → u ≠ 0) →
    scanV a k v (varF f u ++ rest) = (v + u * 2 ^ (7 * k), ((a + k + (varF f u).length : Nat) : Int), 0)
  | 0, a, k, v, u, rest, hk, hu, h0 => by
    obtain rfl : k = 9 := by omega
    have hu1 : u ≤ 1 := by have : u < 2 ^ (64 - 7 * 9) := hu; simp at this; omega
    have hn : (UInt8.ofNat u).toNat = u := by simp; omega
    have he : varF 0 u = [UInt8.ofNat u] := rfl
    rw [he]
    unfold scanV
    simp only [List.cons_append, List.nil_append, hn, List.length_singleton]
    rw [if_neg (by omega), if_pos (by omega), if_neg (fun h => h0 h.2 h.1), Nat.mod_eq_of_lt (by omega : u < 128)]
  | f + 1, a, k, v, u, rest, hk, hu, h0 => by
    by_cases hs : u < 128
    · have hn : (UInt8.ofNat u).toNat = u := by simp; omega
      rw [varF_low _ _ hs]
      unfold scanV
      simp only [List.cons_append, List.nil_append, hn, List.length_singleton]
      rw [if_neg (by omega), if_pos hs, if_neg (fun h => h0 h.2 h.1), Nat.mod_eq_of_lt hs]
    · have hn : (UInt8.ofNat (u % 128 + 128)).toNat = u % 128 + 128 := by simp; omega
      rw [varF_high _ _ hs, List.cons_append]
      unfold scanV
      simp only [hn]
      rw [if_neg (by omega), if_neg (by omega)]
      have hd : u / 128 < 2 ^ (64 - 7 * (k + 1)) := div_bound k u (by omega) hu
      have hm : (u % 128 + 128) % 128 = u % 128 := by omega
      rw [hm, scanV_fwd f a (k + 1) _ (u / 128) rest (by omega) hd (fun _ => by omega)]
      simp only [Prod.mk.injEq, and_true]
      refine ⟨?_, ?_⟩
      · rw [show 7 * (k + 1) = 7 * k + 7 by omega, Nat.pow_add, Nat.add_assoc]
        congr 1
        have h7 : (2 : Nat) ^ 7 = 128 := rfl
        have hdm := Nat.div_add_mod u 128
        rw [h7]
        generalize hp : 2 ^ (7 * k) = p
        generalize hq : u / 128 = q at hdm
        generalize hr : u % 128 = r at hdm
        subst hdm
        rw [Nat.add_mul, Nat.mul_comm p 128, ← Nat.mul_assoc, Nat.mul_comm q 128, Nat.add_comm]
      · rw [List.length_cons]
        congr 1
        omega
/-- A number that stands at a place in a text is read as it was. -/
theorem varR_fwd (l : List UInt8) (a u : Nat) (rest : List UInt8) (ha : a ≤ l.length) (hu : u < 18446744073709551616) (h : l.drop a = varB u ++ rest) : varR l a = (u, ((a + (varB u).length : Nat) : Int), 0) := by
  unfold varR
  rw [if_neg (by omega)]
  simp only [Int.toNat_natCast]
  rw [h]
  have := scanV_fwd 9 a 0 0 u rest (by omega) (by simpa using hu) (fun h => absurd h (Nat.lt_irrefl _))
  simpa [varB] using this


/-- A file as frames. -/
def partsB (h : Hd) (l : List Ent) : List (Nat × List UInt8) :=
  ((4, headTB h l.length) :: (groups l).map (fun g => (5, payB g))) ++ ((grp szL (linesB h l)).map (fun r => (6, r.flatMap lineB)) ++ [(7, footB (blocksSt h l))])

theorem putBlock_l : ∀ (gs : List (List Ent)) (st : BSt), (gs.foldl putBlock st).l = st.l ++ catF (gs.map (fun g => (5, payB g)))
  | [], st => by simp [catF]
  | g :: gs, st => by
    rw [List.foldl_cons, putBlock_l gs, List.map_cons, catF_cons]
    simp [putBlock]

theorem fileB_cat (h : Hd) (l : List Ent) : fileB h l = catF (partsB h l) := by
  unfold fileB partsB
  rw [catF_append, catF_cons, catF_append]
  have h1 : (blocksSt h l).l = frameB 4 (headTB h l.length) ++ catF ((groups l).map (fun g => (5, payB g))) := putBlock_l _ _
  have h2 : rowsB (blocksSt h l).lines = catF ((grp szL (linesB h l)).map (fun r => (6, r.flatMap lineB))) := by
    unfold rowsB catF linesB
    rw [List.flatMap_map]
  rw [h1, h2]
  simp [catF]

theorem partsB_ok (h : Hd) {l : List Ent} (hg : ∀ e ∈ l, Good e) : FrOk (partsB h l) := by
  have hok := (blocksSt_ok h hg).1.good
  intro x hx
  unfold partsB at hx
  rcases List.mem_append.1 hx with hx | hx
  · rcases List.mem_cons.1 hx with rfl | hx
    · have := headTB_len h (l.length : Int)
      exact ⟨by simp, by simp, by simp only; omega⟩
    · obtain ⟨g, hgm, rfl⟩ := List.mem_map.1 hx
      have := (group_good hg hgm).2.1
      exact ⟨by simp, by simp, by simp only; omega⟩
  · rcases List.mem_append.1 hx with hx | hx
    · obtain ⟨r, hr, rfl⟩ := List.mem_map.1 hx
      have hs : ∀ y ∈ linesB h l, 0 < szL y ∧ szL y ≤ 4096 := fun y hy => by have := lineB_len (hok y hy); unfold szL; omega
      have h1 := (grp_ok hs r hr).2
      have h2 : (r.flatMap lineB).length = sumSz szL r := by
        unfold sumSz szL
        clear hr h1 hx
        induction r with
        | nil => rfl
        | cons y r ih => simp
      exact ⟨by simp, by simp, by simp only; omega⟩
    · rw [List.mem_singleton] at hx
      subst hx
      have := footB_len (st := blocksSt h l)
      exact ⟨by simp, by simp, by simp only; omega⟩

theorem numS_fwd {b rest : List UInt8} {most a : Nat} {n : Int} (h0 : 0 ≤ n) (h1 : n ≤ most) (hm : most ≤ 9223372036854775807) (ha : a ≤ b.length) (h : b.drop a = vNum n ++ rest) :
    numS b most (some a) = (some (a + (vNum n).length), n.toNat) ∧ b.drop (a + (vNum n).length) = rest ∧ a + (vNum n).length ≤ b.length := by
  obtain ⟨v, rfl⟩ : ∃ v : Nat, n = v := ⟨n.toNat, by omega⟩
  have hw : IntKind.u64.wrap (v : Int) = (v : Int) := by rw [IntKind.wrap_u64]; omega
  have hv : vNum (v : Int) = varB v := by unfold vNum; rw [hw]; rfl
  rw [hv] at h ⊢
  have hr := varR_fwd b a v rest ha (by omega) h
  have hl : (b.drop a).length = (varB v).length + rest.length := by rw [h, List.length_append]
  rw [List.length_drop] at hl
  refine ⟨?_, by rw [← List.drop_drop, h, List.drop_left], by omega⟩
  simp only [numS, hr]
  rw [if_pos ⟨trivial, by omega⟩, Int.toNat_natCast, Int.toNat_natCast]
theorem txtS_fwd {b x rest : List UInt8} {a n : Nat} (hx : x.length = n) (ha : a ≤ b.length) (h : b.drop a = x ++ rest) : txtS b n (some a) = (some (a + n), x) ∧ b.drop (a + n) = rest ∧ a + n ≤ b.length := by
  have hl : (b.drop a).length = x.length + rest.length := by rw [h, List.length_append]
  rw [List.length_drop] at hl
  refine ⟨?_, by rw [← List.drop_drop, h, ← hx, List.drop_left], by omega⟩
  simp only [txtS]
  rw [if_pos (by omega), h, ← hx, List.take_left]

theorem headK_step {b rest : List UInt8} {k a : Nat} {L : List Nat} {n : Int} (h : headK b k = (some a, L)) (h0 : 0 ≤ n) (h1 : n ≤ 1152921504606846976) (ha : a ≤ b.length) (hd : b.drop a = vNum n ++ rest) :
    ∃ a', headK b (k + 1) = (some a', L ++ [n.toNat]) ∧ b.drop a' = rest ∧ a' ≤ b.length := by
  obtain ⟨e1, e2, e3⟩ := numS_fwd (most := 1152921504606846976) h0 (by omega) (by decide) ha hd
  exact ⟨_, by simp only [headK, h, e1], e2, e3⟩

theorem headP_fwd {h : Hd} {n : Int} (hh : headedR h = 0) (h0 : 0 ≤ n) (h1 : n ≤ 2097152) : headP (headTB h n) = some ⟨h.w, h.t, h.b, h.lo, h.hi, n⟩ := by
  obtain ⟨m, hm, w1, w2, w3, hw, ht0, ht1, hb0, hb1, hl0, hl1, hl2⟩ := headedR_ok hh
  obtain ⟨b, hb⟩ : ∃ b, headTB h n = b := ⟨_, rfl⟩
  have hb' := hb
  unfold headTB at hb'
  simp only [List.append_assoc] at hb'
  obtain ⟨a1, e1, d1, q1⟩ := headK_step (b := b) (k := 0) (a := 0) (L := []) (n := h.w) rfl (by omega) (by omega) (Nat.zero_le _) (by rw [List.drop_zero]; exact hb'.symm)
  obtain ⟨a2, e2, d2, q2⟩ := headK_step e1 (by omega) (by omega) q1 d1
  obtain ⟨a3, e3, d3, q3⟩ := headK_step e2 (by omega) (by omega) q2 d2
  obtain ⟨a4, e4, d4, q4⟩ := headK_step e3 (by omega) (by omega) q3 d3
  obtain ⟨a5, e5, d5, q5⟩ := headK_step e4 (by omega) (by omega) q4 d4
  obtain ⟨a6, e6, d6, q6⟩ := headK_step (n := n) (rest := []) e5 (by omega) (by omega) q5 (by rw [d5, List.append_nil])
  have h6 : b.length ≤ a6 := by
    have h2 : (b.drop a6).length = 0 := by rw [d6]; rfl
    rw [List.length_drop] at h2
    omega
  have hd : hdOf ([] ++ [h.w.toNat] ++ [h.t.toNat] ++ [h.b.toNat] ++ [h.lo.toNat] ++ [h.hi.toNat] ++ [n.toNat]) = ⟨h.w, h.t, h.b, h.lo, h.hi, n⟩ := by
    unfold hdOf
    simp only [List.nil_append, List.cons_append, List.getD_cons_zero, List.getD_cons_succ, Hd.mk.injEq]
    omega
  rw [hb]
  unfold headP
  rw [e6]
  simp only
  rw [hd, if_pos]
  refine ⟨by congr 1; omega, ?_, h1⟩
  exact hh

/-- What an entry must be to be read back. -/
def ReadOk (cb : Nat) (e : Ent) : Prop := e.c.size = cb ∧ 0 ≤ e.v ∧ e.v < 4294967296 ∧ 0 ≤ e.i ∧ e.i ≤ 281474976710656 ∧ 0 ≤ e.s ∧ e.s ≤ 1152921504606846976

theorem fix_four {v : Int} (h0 : 0 ≤ v) (h1 : v < 4294967296) : (fixR ⟨(fourB v).toArray⟩ 0 4).1 = v.toNat := by
  have hl := fixedB_length v.toNat 4
  have hs : ((⟨(fourB v).toArray⟩ : ByteArray).size : Int) = 4 := by
    show ((fourB v).toArray.size : Int) = 4
    unfold fourB
    simp [hl]
  unfold fixR
  rw [hs, if_neg (by omega), if_neg (by omega)]
  show numB 0 (((fourB v).drop 0).take 4) = _
  unfold fourB
  rw [List.drop_zero, List.take_of_length_le (by omega), numB_fixed4 _ (by omega)]

theorem entS_fwd {cb a : Nat} {b rest : List UInt8} {e : Ent} (he : ReadOk cb e) (ha : a ≤ b.length) (hd : b.drop a = writtenB e ++ rest) : ∃ a', entS cb b a = some (a', e) ∧ b.drop a' = rest ∧ a' ≤ b.length := by
  obtain ⟨h1, h2, h3, h4, h5, h6, h7⟩ := he
  unfold writtenB placedB at hd
  simp only [List.append_assoc] at hd
  obtain ⟨e1, d1, q1⟩ := txtS_fwd (n := 4) (show (fourB e.v).length = 4 from fixedB_length _ _) ha hd
  obtain ⟨e2, d2, q2⟩ := txtS_fwd (n := cb) (show e.c.data.toList.length = cb from h1) q1 d1
  obtain ⟨e3, d3, q3⟩ := numS_fwd (most := 281474976710656) h4 (by omega) (by decide) q2 d2
  obtain ⟨e4, d4, q4⟩ := numS_fwd (most := 1152921504606846976) h6 (by omega) (by decide) q3 d3
  obtain ⟨e5, d5, q5⟩ := txtS_fwd (n := 1) (show (deadB e.d).length = 1 by cases e.d <;> rfl) q4 d4
  refine ⟨_, ?_, d5, q5⟩
  unfold entS
  simp only [e1, e2, e3, e4, e5, fix_four h2 h3]
  have hc : (⟨e.c.data.toList.toArray⟩ : ByteArray) = e.c := rfl
  unfold entEnd
  simp only [hc]
  have hv : ((e.v.toNat : Nat) : Int) = e.v := by omega
  have hi : ((e.i.toNat : Nat) : Int) = e.i := by omega
  have hs : ((e.s.toNat : Nat) : Int) = e.s := by omega
  rw [hv, hi, hs]
  cases hdd : e.d with
  | false => rw [if_pos (by rfl)]; congr 2; cases e; simp_all
  | true => rw [if_neg (by decide), if_pos (by rfl)]; congr 2; cases e; simp_all

theorem entsGo_fwd {cb : Nat} {b : List UInt8} : ∀ (g : List Ent) (f a : Nat) (acc : List Ent), (∀ e ∈ g, ReadOk cb e) → a ≤ b.length → b.drop a = payB g → g.length < f → entsGo cb b f a acc = some (acc ++ g)
  | [], f, a, acc, _, ha, hd, hf => by
    obtain ⟨f, rfl⟩ : ∃ k, f = k + 1 := ⟨f - 1, by simp at hf; omega⟩
    have h2 : (b.drop a).length = 0 := by rw [hd]; rfl
    rw [List.length_drop] at h2
    unfold entsGo
    rw [if_neg (by omega), List.append_nil]
  | e :: g, f, a, acc, ho, ha, hd, hf => by
    obtain ⟨f, rfl⟩ : ∃ k, f = k + 1 := ⟨f - 1, by simp at hf; omega⟩
    have hd' : b.drop a = writtenB e ++ payB g := hd
    have he := ho e (by simp)
    obtain ⟨a', e1, d1, q1⟩ := entS_fwd he ha hd'
    have hl : (b.drop a).length = (writtenB e).length + (payB g).length := by rw [hd', List.length_append]
    rw [List.length_drop] at hl
    have hp : 0 < (writtenB e).length := by
      have := fixedB_length e.v.toNat 4
      unfold writtenB placedB fourB
      simp only [List.length_append]
      omega
    unfold entsGo
    rw [if_pos (by omega), e1]
    simp only
    rw [entsGo_fwd g f a' _ (fun x hx => ho x (by simp [hx])) q1 d1 (by simp at hf; omega)]
    simp

theorem entsR_fwd {cb : Nat} {g : List Ent} (ho : ∀ e ∈ g, ReadOk cb e) : entsR cb (payB g) = some g := by
  have hl : g.length ≤ (payB g).length := by
    clear ho
    induction g with
    | nil => exact Nat.le_refl _
    | cons e g ih =>
      have := fixedB_length e.v.toNat 4
      have h2 : (payB (e :: g)).length = (writtenB e).length + (payB g).length := by unfold payB; simp
      have h3 : 0 < (writtenB e).length := by
        unfold writtenB placedB fourB
        simp only [List.length_append]
        omega
      rw [h2, List.length_cons]
      omega
  have := entsGo_fwd (cb := cb) (b := payB g) g ((payB g).length + 1) 0 [] ho (Nat.zero_le _) (List.drop_zero) (by omega)
  exact this

theorem placesF_append : ∀ (xs ys : List (Nat × List UInt8)) (a : Nat), ∃ a', placesF a (xs ++ ys) = placesF a xs ++ placesF a' ys
  | [], ys, a => ⟨a, rfl⟩
  | x :: xs, ys, a => by
    obtain ⟨a', h⟩ := placesF_append xs ys (a + x.2.length + 14)
    exact ⟨a', by rw [List.cons_append, placesF, h]; rfl⟩

theorem blocksR_other (h : Hd) : ∀ (xs : List (Nat × List UInt8)) (a : Nat) (acc : List Ent), (∀ x ∈ xs, x.1 ≠ 5) → blocksR h (placesF a xs) acc = some acc
  | [], _, _, _ => rfl
  | x :: xs, a, acc, ho => by
    have h1 := ho x (by simp)
    rw [placesF, blocksR, if_pos (by simp only; omega)]
    exact blocksR_other h xs _ acc (fun y hy => ho y (by simp [hy]))

theorem blocksR_groups (h : Hd) (ys : List (Nat × List UInt8)) (hy : ∀ x ∈ ys, x.1 ≠ 5) : ∀ (gs : List (List Ent)) (a : Nat) (acc : List Ent), (∀ g ∈ gs, entsR (h.w / 8).toNat (payB g) = some g) → ((acc.length + gs.flatten.length : Nat) : Int) ≤ h.n →
    blocksR h (placesF a (gs.map (fun g => (5, payB g)) ++ ys)) acc = some (acc ++ gs.flatten)
  | [], a, acc, _, _ => by
    rw [List.map_nil, List.nil_append, blocksR_other h ys a acc hy]
    simp
  | g :: gs, a, acc, hg, hn => by
    rw [List.flatten_cons, List.length_append] at hn
    rw [List.map_cons, List.cons_append, placesF, blocksR, if_neg (by simp)]
    simp only [hg g (by simp)]
    rw [if_neg (by omega), blocksR_groups h ys hy gs _ (acc ++ g) (fun x hx => hg x (by simp [hx])) (by rw [List.length_append]; omega)]
    simp

theorem goesGo_n (h : Hd) (n : Int) : ∀ (l : List Ent) (o : Option Ent), goesGo ⟨h.w, h.t, h.b, h.lo, h.hi, n⟩ o l = goesGo h o l
  | [], _ => rfl
  | x :: l, o => by
    have h1 : fitsR ⟨h.w, h.t, h.b, h.lo, h.hi, n⟩ x = fitsR h x := rfl
    rw [goesGo, goesGo, h1, goesGo_n h n l]
theorem builtR_n (h : Hd) (n : Int) (l : List Ent) : builtR ⟨h.w, h.t, h.b, h.lo, h.hi, n⟩ l = builtR h l := by
  have h1 : goesR ⟨h.w, h.t, h.b, h.lo, h.hi, n⟩ l = goesR h l := by
    unfold goesR
    rw [goesGo_n]
    rfl
  unfold builtR
  rw [h1]
  rfl

theorem fits_read {h : Hd} {e : Ent} (hh : headedR h = 0) (hf : fitsR h e = 0) : ReadOk (h.w / 8).toNat e := by
  obtain ⟨m, hm, h1, h2, h3, hw, ht0, ht1, hb0, hb1, hl0, hl1, hl2⟩ := headedR_ok hh
  have hg := fits_good hh hf
  unfold fitsR at hf
  split at hf
  · cases hf
  · next hc =>
    split at hf
    · cases hf
    · split at hf
      · cases hf
      · split at hf
        · cases hf
        · exact ⟨by omega, hg.1, hg.2.1, by omega, by omega, by omega, by omega⟩

/-- What was built is a file, and tells what it was built of. -/
theorem openR_fileB {h : Hd} {l : List Ent} (hg : goesR h l = 0) : openR (fileB h l) = some (⟨h.w, h.t, h.b, h.lo, h.hi, (l.length : Nat)⟩, l) := by
  obtain ⟨hh, hl, hgd⟩ := goesR_good hg
  have hf : ∀ e ∈ l, fitsR h e = 0 := by
    unfold goesR at hg
    rw [if_neg (by simp [hh]), if_neg (by omega)] at hg
    exact goesGo_fits l none hg
  have hok := partsB_ok h hgd
  have hfr := framesR_cat hok
  rw [← fileB_cat] at hfr
  have hP : placesF 0 (partsB h l) = ((4 : Int), headTB h l.length, 0) :: placesF (0 + (headTB h l.length).length + 14) ((groups l).map (fun g => (5, payB g)) ++ ((grp szL (linesB h l)).map (fun r => (6, r.flatMap lineB)) ++ [(7, footB (blocksSt h l))])) := rfl
  have hB : blocksR ⟨h.w, h.t, h.b, h.lo, h.hi, (l.length : Nat)⟩ (placesF 0 (partsB h l)) [] = some l := by
    have hY : ∀ x ∈ (grp szL (linesB h l)).map (fun r => (6, r.flatMap lineB)) ++ [(7, footB (blocksSt h l))], x.1 ≠ 5 := by
      intro x hx
      rcases List.mem_append.1 hx with hx | hx
      · obtain ⟨r, _, rfl⟩ := List.mem_map.1 hx
        simp
      · rw [List.mem_singleton] at hx
        subst hx
        simp
    rw [hP, blocksR, if_pos (by simp)]
    have hflat : (groups l).flatten = l := grp_flat szE l
    rw [blocksR_groups ⟨h.w, h.t, h.b, h.lo, h.hi, (l.length : Nat)⟩ ((grp szL (linesB h l)).map (fun r => (6, r.flatMap lineB)) ++ [(7, footB (blocksSt h l))]) hY (groups l) _ [] (fun g hgm => entsR_fwd (fun e he => fits_read hh (hf e (by rw [← hflat]; exact List.mem_flatten.2 ⟨g, hgm, he⟩)))) (by rw [hflat]; simp), hflat, List.nil_append]
  have hb : builtR h l = (fileB h l, 0) := by unfold builtR; rw [if_pos hg]
  unfold openR
  rw [hfr]
  simp only
  rw [hP]
  simp only
  rw [if_neg (by simp), headP_fwd hh (by omega) (by omega)]
  simp only
  rw [← hP, hB]
  simp only
  rw [builtR_n, hb, if_neg (by simp)]

/-- What is a file was built. -/
theorem openR_some {b : List UInt8} {h : Hd} {l : List Ent} (e : openR b = some (h, l)) : goesR h l = 0 ∧ b = fileB h l := by
  unfold openR at e
  split at e
  · cases e
  · split at e
    · cases e
    · split at e
      · cases e
      · split at e
        · cases e
        · next hc =>
          split at e
          · cases e
          · next hb =>
            cases e
            have h1 : (builtR h l).2 = 0 := by
              by_cases h1 : (builtR h l).2 = 0
              · exact h1
              · exact absurd (.inl h1) hb
            have h2 : (builtR h l).1 = b := by
              by_cases h2 : (builtR h l).1 = b
              · exact h2
              · exact absurd (.inr h2) hb
            unfold builtR at h1 h2
            by_cases hg : goesR h l = 0
            · rw [if_pos hg] at h2
              exact ⟨hg, h2.symm⟩
            · rw [if_neg hg] at h1
              exact absurd h1 hg

theorem partsB_last (h : Hd) (l : List Ent) : ∃ xs f, partsB h l = xs ++ [(7, f)] ∧ ∀ x ∈ xs, x.1 ≠ 7 := by
  refine ⟨((4, headTB h l.length) :: (groups l).map (fun g => (5, payB g))) ++ (grp szL (linesB h l)).map (fun r => (6, r.flatMap lineB)), footB (blocksSt h l), by unfold partsB; simp, fun x hx => ?_⟩
  rcases List.mem_append.1 hx with hx | hx
  · rcases List.mem_cons.1 hx with rfl | hx
    · simp
    · obtain ⟨g, _, rfl⟩ := List.mem_map.1 hx
      simp
  · obtain ⟨g, _, rfl⟩ := List.mem_map.1 hx
    simp

theorem openR_parts {b : List UInt8} (h : openR b ≠ none) : ∃ xs f, FrOk (xs ++ [(7, f)]) ∧ b = catF (xs ++ [(7, f)]) ∧ ∀ x ∈ xs, x.1 ≠ 7 := by
  obtain ⟨⟨hd, l⟩, e⟩ := Option.ne_none_iff_exists'.1 h
  obtain ⟨hg, hb⟩ := openR_some e
  obtain ⟨xs, f, h1, h2⟩ := partsB_last hd l
  have hok := partsB_ok hd (goesR_good hg).2.2
  rw [h1] at hok
  exact ⟨xs, f, hok, by rw [hb, fileB_cat, h1], h2⟩

/-- Of two files none is the beginning of the other. -/
theorem files_apart {b z : List UInt8} (h1 : openR b ≠ none) (h2 : openR (b ++ z) ≠ none) : z = [] := by
  obtain ⟨xs, f, x1, x2, x3⟩ := openR_parts h1
  obtain ⟨ys, g, y1, y2, y3⟩ := openR_parts h2
  rw [x2] at y2
  obtain ⟨zs, e1, e2⟩ := catF_prefix _ _ z x1 y1 y2.symm
  cases zs with
  | nil => exact e2
  | cons u zs =>
    exfalso
    have hm : ((7, f) : Nat × List UInt8) ∈ ys := by
      have e3 : ys ++ [(7, g)] = xs ++ (7, f) :: u :: zs := by rw [e1]; simp
      have e4 : ys = (xs ++ (7, f) :: u :: zs).dropLast := by rw [← e3]; simp
      rw [e4, List.dropLast_append_of_ne_nil (by simp), List.dropLast_cons_of_ne_nil (by simp)]
      simp
    exact y3 _ hm rfl

theorem openR_cut {b : List UInt8} {k : Nat} (h : openR b ≠ none) (hk : k < b.length) : openR (b.take k) = none := by
  apply Classical.byContradiction
  intro h1
  have := files_apart (b := b.take k) (z := b.drop k) h1 (by rw [List.take_append_drop]; exact h)
  have h2 : (b.drop k).length = 0 := by rw [this]; rfl
  rw [List.length_drop] at h2
  omega
theorem openR_more {b : List UInt8} {c : UInt8} (h : openR b ≠ none) : openR (b ++ [c]) = none := by
  apply Classical.byContradiction
  intro h1
  have := files_apart h h1
  simp at this
theorem openR_spoilt {b : List UInt8} {i : Nat} {d : UInt8} (h : openR b ≠ none) (hi : i < b.length) (hd : d ≠ b.getD i 0) : openR (b.set i d) = none := by
  apply Classical.byContradiction
  intro h1
  obtain ⟨xs, f, x1, x2, _⟩ := openR_parts h
  obtain ⟨ys, g, y1, y2, _⟩ := openR_parts h1
  rw [x2] at hi hd y2
  exact catF_spoilt _ _ i d x1 y1 hi hd y2.symm
end Go.Proofs.YtihgjihdmlomaaaDoor
