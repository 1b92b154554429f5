/-
  WALK: sources that give lists, the entries below any block. What Fr keeps of feeds and mergers; both mergers beside each other.
-/
import Derived.Test.YtahdaccmokjgpaaNxG
import Derived.Test.YtahdaccmokjgpaaMrgX
import Derived.Test.YtahdaccmokjgpaaMerge
namespace Go.Proofs.Ytahdaccmokjgpaa
open Go.RowKit ArgK
set_option linter.unusedVariables false

/-- At the head of each round. -/
def FeRelB (w : World) (B : Nat) (ls : List Kl) (k : Nat) (fv sv : Value) (wr : World) : Prop :=
  k ≤ ls.length ∧ ∃ ps : List (Nat × Bool), ps.length = k ∧ wr.ownsRow w.heap.size 67 1 fv k (ps.map ptV) ∧ wr.ownsRow w.heap.size 41 1 sv k (ps.map fdV) ∧ FdI B ps wr ((ls.take k).map Kl.st) ∧ (∀ p ∈ ps, w.heap.size ≤ p.1) ∧ Below w.heap.size w wr

/-- What fed leaves. -/
def FedPostB (w : World) (B : Nat) (ls : List Kl) (e : Ending) (w' : World) : Prop :=
  ∃ (fp sp : Option Addr) (fc sc : Nat) (ps : List (Nat × Bool)), e = .returned (.tuple #[.slice fp ls.length fc, .slice sp ls.length sc]) ∧ Below w.heap.size w w' ∧ ps.length = ls.length ∧ w'.ownsRow w.heap.size 67 1 (.slice fp ls.length fc) ls.length (ps.map ptV) ∧ w'.ownsRow w.heap.size 41 1 (.slice sp ls.length sc) ls.length (ps.map fdV) ∧ FdI B ps w' (ls.map Kl.st) ∧ ∀ p ∈ ps, w.heap.size ≤ p.1

theorem FeRelB.next {w wr : World} {B : Nat} (hB : B ≤ w.heap.size) {ls : List Kl} {k : Nat} {fv sv fv' sv' : Value} {ps : List (Nat × Bool)} {x : Kl} (hx : ls[k]? = some x) (hps : ps.length = k) (hF : wr.ownsRow w.heap.size 67 1 fv k (ps.map ptV)) (hS : wr.ownsRow w.heap.size 41 1 sv k (ps.map fdV)) (hI : FdI B ps wr ((ls.take k).map Kl.st)) (hge : ∀ p ∈ ps, w.heap.size ≤ p.1) (hb : Below w.heap.size w wr) (hl : x.es.length ≤ 4398046511104) (hE : EL wr B x.q x.es)
    {w2 w3 : World} {o1 o2 : Obj} (hg2 : ((wr.alloc (fdB x.q x.es.length x.c x.fin x.mute x.u3 x.dn 0)).alloc o1).grownBy w2 fv.ownBlock) (hF2 : w2.ownsRow w.heap.size 67 1 fv' (k + 1) (ps.map ptV ++ [.pointer (some ⟨wr.heap.size, 0, none⟩)]))
    (hg3 : (w2.alloc o2).grownBy w3 sv.ownBlock) (hS3 : w3.ownsRow w.heap.size 41 1 sv' (k + 1) (ps.map fdV ++ [fdV (wr.heap.size, x.mute)])) : FeRelB w B ls (k + 1) fv' sv' w3 := by
  have hkl := (List.getElem?_eq_some_iff.1 hx).1
  have hI1 := hI.new (Nat.le_trans hB hb.size) (q := x.q) (c := x.c) (fin := x.fin) (mute := x.mute) (u3 := x.u3) (dn := x.dn) hl hE
  have k2 : Kp w.heap.size [67] ((wr.alloc (fdB x.q x.es.length x.c x.fin x.mute x.u3 x.dn 0)).alloc o1) w2 := kp_grown ((hF.alloc _).alloc _) hg2
  have hI2 := (hI1.kp (kp_alloc B [] _ o1) (by simp)).kp (k2.mono hB (fun t h => h)) (by decide)
  have hS2 : (w2.alloc o2).ownsRow w.heap.size 41 1 sv k (ps.map fdV) := (k2.own ((hS.alloc _).alloc _) (.inl (by decide))).alloc _
  have k3 : Kp w.heap.size [41] (w2.alloc o2) w3 := kp_grown hS2 hg3
  have hI3 := (hI2.kp (kp_alloc B [] _ o2) (by simp)).kp (k3.mono hB (fun t h => h)) (by decide)
  have hb1 := (hb.alloc hb.size (fdB x.q x.es.length x.c x.fin x.mute x.u3 x.dn 0)).alloc (by have := hb.size; simp; omega) o1
  have hb2 := hb1.trans (k2.below hb1.size)
  have hb3 := hb2.alloc hb2.size o2
  refine ⟨by omega, ps ++ [(wr.heap.size, x.mute)], by simp [hps], ?_, ?_, ?_, (fun q hq => by
    rcases List.mem_append.1 hq with hq | hq
    · exact hge q hq
    · simp at hq
      subst hq
      exact hb.size), hb3.trans (k3.below hb3.size)⟩
  · rw [List.map_append]
    exact k3.own (hF2.alloc _) (.inl (by decide))
  · rw [List.map_append]
    exact hS3
  · rw [List.take_add_one, hx, List.map_append]
    exact hI3

set_option maxRecDepth 100000 in
set_option maxHeartbeats 2000000 in
theorem fedB_calls {w : World} {B : Nat} (hB : B ≤ w.heap.size) {p : Option Addr} {n c : Nat} {ls : List Kl} (hn : ls.length = n) (hm : n ≤ 4398046511104) (hK : KLs w B p ls) :
    Calls Try.prog 30 #[.slice p n c] w (FedPostB w B ls) := by
  obtain ⟨i0, hi0, hz0, hz1, hz2⟩ := info_parts srcinfo
  obtain ⟨i1, hi1, hy0, hy1, hy2⟩ := info_parts pfinfo
  have hbu : ∀ (W : World) (q : Option Addr) (m k : Nat) (f : Int) (mu : Bool) (u3 : Int) (dn : Bool), (Instr.build 66 #[(0, .agg #[.slice q m k, .int .i64 f, .bool mu, .int .i64 u3, .bool dn])]).run Try.prog W = .ok (.agg #[.slice q m k, .int .i64 f, .bool mu, .int .i64 u3, .bool dn, .int .i64 0]) W := fun W q m k f mu u3 dn => run_build W _ _ _ (by kernel_rfl)
  have hbs : ∀ (W : World), (Instr.build 41 #[]).run Try.prog W = .ok (.agg #[.nilFunc]) W := fun W => run_build W _ _ _ (by kernel_rfl)
  have hbm : ∀ (W : World) (b : Nat), (Instr.build 41 #[(0, .func (.func 44) #[.pointer (some ⟨b, 0, none⟩)] #[])]).run Try.prog W = .ok (.agg #[.func (.func 44) #[.pointer (some ⟨b, 0, none⟩)] #[]]) W := fun W b => run_build W _ _ _ (by kernel_rfl)
  have HN := Lib.hid hn
  have HK := Lib.hid hK
  have H0 : Hid (FeRelB w B ls 0 (.slice none 0 0) (.slice none 0 0) w) := Lib.hid ⟨Nat.zero_le _, [], rfl, own_none, own_none, ⟨by simp, by simp, fun i p st h => by simp at h⟩, (fun p hp => by simp at hp), Below.refl _ _⟩
  have HB := Lib.hid hB
  clear hn hK hB
  go_enter Try.func30, Try.ntmps30
  go_wp2
  go_loopw [4, 5, 6] (fun fv sv i wr => ∃ k : Nat, i = .int .i64 k ∧ FeRelB w B ls k fv sv wr) (fun _ _ i _ => n - (intOf i).toNat)
  case atStart => exact ⟨0, rfl, H0.out⟩
  case round =>
    obtain ⟨fv, rfl⟩ : ∃ fv : Value, fv = u4 := ⟨_, rfl⟩
    obtain ⟨sv, rfl⟩ : ∃ sv : Value, sv = u5 := ⟨_, rfl⟩
    obtain ⟨k, rfl, hkn, ps, hps, hF, hS, hI, hge, hbl⟩ := hrel
    obtain ⟨wo, rfl⟩ : ∃ wo : World, wo = wr := ⟨_, rfl⟩
    rw [HN.out] at hkn
    obtain ⟨fp, fc, rfl, _, _, _⟩ := own_rd hF
    obtain ⟨sp, sc, rfl, _, _, _⟩ := own_rd hS
    by_cases hlt : k < n
    · obtain ⟨x, hx⟩ : ∃ x, ls[k]? = some x := ⟨_, List.getElem?_eq_getElem (by rw [HN.out]; exact hlt)⟩
      obtain ⟨a, rfl, h5, hE, hel⟩ := HK.out.below HB.out hbl k x hx
      have hNx := fun fv' sv' w2 w3 o1 o2 => FeRelB.next HB.out (fv' := fv') (sv' := sv') (w2 := w2) (w3 := w3) (o1 := o1) (o2 := o2) hx hps hF hS hI hge hbl hel hE
      have HNx := Lib.hid hNx
      have H5 := Lib.hid h5
      have HBL := Lib.hid hbl
      have HS := Lib.hid hS
      obtain ⟨q, xc, es, fin, mute, u3, dn⟩ := x
      obtain ⟨x0, x1, x2, x3, x4⟩ := h5
      obtain ⟨nl, hnl⟩ : ∃ nl, es.length = nl := ⟨_, rfl⟩
      simp only at x0 x1 x2 x3 x4 hel
      simp only [hnl] at x0 hel HNx
      have z0 := cell_lt x0
      have hva := (hF.alloc (.cells #[.slice q nl xc, .int .i64 fin, .bool mute, .int .i64 u3, .bool dn, .int .i64 0] 66)).alloc (.cells #[.pointer (some ⟨wo.heap.size, 0, none⟩)] 67)
      have hnews := World.news_of_block (cs := #[.pointer (some ⟨wo.heap.size, 0, none⟩)]) (t := 67) (fr := (0, 0)) (heap_alloc_new (wo.alloc (.cells #[.slice q nl xc, .int .i64 fin, .bool mute, .int .i64 u3, .bool dn, .int .i64 0] 66)) (.cells #[.pointer (some ⟨wo.heap.size, 0, none⟩)] 67))
      have e3 : (wo.alloc (.cells #[.slice q nl xc, .int .i64 fin, .bool mute, .int .i64 u3, .bool dn, .int .i64 0] 66)).heap.size = wo.heap.size + 1 := by simp
      rw [e3] at hnews
      have hs := hbl.size
      have chk1 : k + 1 ≤ maxLen := by unfold maxLen; omega
      have chk2 : (k + 1) * 8 ≤ 140737488355328 := by omega
      have chk3 : w.heap.size ≤ ((wo.alloc (.cells #[.slice q nl xc, .int .i64 fin, .bool mute, .int .i64 u3, .bool dn, .int .i64 0] 66)).alloc (.cells #[.pointer (some ⟨wo.heap.size, 0, none⟩)] 67)).heap.size := by simp; omega
      have i0' : (0 : Int) ≤ (k : Int) := by omega
      have i1' : (k : Int) < (n : Int) := by omega
      have HKf := Lib.hid (fun w2 (hg : ((wo.alloc (.cells #[.slice q nl xc, .int .i64 fin, .bool mute, .int .i64 u3, .bool dn, .int .i64 0] 66)).alloc (.cells #[.pointer (some ⟨wo.heap.size, 0, none⟩)] 67)).grownBy w2 (Value.slice fp k fc).ownBlock) => kp_grown hva hg)
      have HX := Lib.hid hx
      have HEl := Lib.hid hnl
      clear hx hps hF hS hI hge hbl hE hNx e3 hnl
      go_wp2_with (at_builtin; refine wpList_append_own _ rfl _ _ 59 rfl w.heap.size 67 i1 (.pointer none) 1 8 Try.underlying59 hi1 hy0 hy1 hy2 rfl (by decide) (.slice fp k fc) k _ rfl hva ⟨wo.heap.size + 1, 0, none⟩ 1 1 [.pointer (some ⟨wo.heap.size, 0, none⟩)] rfl rfl hnews (by simp [Value.oneCell']) chk1 chk2 chk3 ?_)
      intro fv2 w2 hown2 hgrow2 _
      have hk2 := HKf.out w2 hgrow2
      have hb2 : Below w.heap.size w w2 := ((HBL.out.alloc HBL.out.size _).alloc (by simp; omega) _).trans (hk2.below chk3)
      have hS2 := hk2.own ((HS.out.alloc _).alloc _) (.inl (by decide))
      obtain ⟨a', e', h5', _, _⟩ := HK.out.below HB.out hb2 k _ HX.out
      cases e'
      have y2 := h5'.2.2.1
      have z2 := cell_lt h5'.1
      simp only at y2
      have HNx2 := Lib.hid (fun sv' w3 o2 hg3 h3 => HNx.out fv2 sv' w2 w3 _ o2 hgrow2 hown2 hg3 h3)
      obtain ⟨fp2, fc2, rfl, _, _, _⟩ := own_rd hown2
      have hs2 := hb2.size
      have chk4 : w.heap.size ≤ (w2.alloc (.cells #[fdV (wo.heap.size, mute)] 41)).heap.size := by simp; omega
      have hva2 := hS2.alloc (.cells #[fdV (wo.heap.size, mute)] 41)
      have hnews2 := World.news_of_block (cs := #[fdV (wo.heap.size, mute)]) (t := 41) (fr := (0, 0)) (heap_alloc_new w2 (.cells #[fdV (wo.heap.size, mute)] 41))
      clear hk2 hb2 hS2 h5' hgrow2 hown2 hva hnews chk3 x0 x1 x2 x3 x4
      cases mute with
      | true =>
        have ev : fdV (wo.heap.size, true) = .nilFunc := rfl
        rw [ev] at chk4 hva2 hnews2
        clear ev
        go_wp2_with (at_builtin; refine wpList_append_own _ rfl _ _ 37 rfl w.heap.size 41 i0 _ 1 8 Try.underlying37 hi0 hz0 hz1 hz2 rfl (by decide) (.slice sp k sc) k _ rfl hva2 ⟨w2.heap.size, 0, none⟩ 1 1 [.nilFunc] rfl rfl hnews2 (by simp [Value.oneCell']) chk1 chk2 chk4 ?_)
        intro sv3 w3 hown3 hgrow3 _
        have HR := Lib.hid (HNx2.out sv3 w3 _ hgrow3 hown3)
        clear hown3 hgrow3 hva2 hnews2 chk4
        go_wp2
        go_roundw
        case rel => exact ⟨k + 1, by go_num, HR.out⟩
        case measure => simp [intOf]; omega
      | false =>
        have ev : fdV (wo.heap.size, false) = .func (.func 44) #[.pointer (some ⟨wo.heap.size, 0, none⟩)] #[] := rfl
        rw [ev] at chk4 hva2 hnews2
        clear ev
        go_wp2_with (at_builtin; refine wpList_append_own _ rfl _ _ 37 rfl w.heap.size 41 i0 _ 1 8 Try.underlying37 hi0 hz0 hz1 hz2 rfl (by decide) (.slice sp k sc) k _ rfl hva2 ⟨w2.heap.size, 0, none⟩ 1 1 [.func (.func 44) #[.pointer (some ⟨wo.heap.size, 0, none⟩)] #[]] rfl rfl hnews2 (by simp [Value.oneCell']) chk1 chk2 chk4 ?_)
        intro sv3 w3 hown3 hgrow3 _
        have HR := Lib.hid (HNx2.out sv3 w3 _ hgrow3 hown3)
        clear hown3 hgrow3 hva2 hnews2 chk4
        go_wp2
        go_roundw
        case rel => exact ⟨k + 1, by go_num, HR.out⟩
        case measure => simp [intOf]; omega
    · obtain rfl : k = n := by omega
      have hE : Hid (FedPostB w B ls (.returned (.tuple #[.slice fp k fc, .slice sp k sc])) wo) := Lib.hid (by
        rw [← HN.out, List.take_length] at hI
        rw [← HN.out] at hF hS ⊢
        exact ⟨fp, sp, fc, sc, ps, rfl, hbl, by rw [hps, HN.out], hF, hS, hI, hge⟩)
      clear hps hF hS hI hge hbl
      go_wp2
      go_ret2
      exact hE.out

/-- Feeds live where another's row of sources is written. -/
theorem FdI.fr {B g : Nat} {ps : List (Nat × Bool)} {w w' : World} {S : List Sst} (h : FdI B ps w S) (k : Fr w w' [some g]) (hg : B ≤ g) (ho : ∃ cs fr, w.heap[g]? = some (.cells cs 41 fr)) : FdI B ps w' S := by
  obtain ⟨h1, h2, h3⟩ := h
  refine ⟨h1, h2, fun i p st hp hs => ?_⟩
  obtain ⟨q1, q2, q3, q, c, u3, dn, q4, q5⟩ := h3 i p st hp hs
  have hne : p.1 ≠ g := fun e => by
    obtain ⟨cs, fr, ho⟩ := ho
    rw [← e, q4] at ho
    cases ho
  exact ⟨q1, q2, q3, q, c, u3, dn, (k.2.2.2.2 _ (Array.getElem?_eq_some_iff.1 q4).1 (by simpa using hne)).trans q4, q5.fr (fun g' o hg' ho' => (k.2.2.2.2 g' (Array.getElem?_eq_some_iff.1 ho').1 (by simp only [List.mem_singleton, Option.some.injEq]; omega)).trans ho')⟩

theorem FdI.up {B B' : Nat} {ps : List (Nat × Bool)} {w : World} {S : List Sst} (h : FdI B ps w S) (hB : B ≤ B') (hp : ∀ p ∈ ps, B' ≤ p.1) : FdI B' ps w S := by
  obtain ⟨h1, h2, h3⟩ := h
  refine ⟨h1, h2, fun i p st hp' hs => ?_⟩
  obtain ⟨q1, q2, q3, q, c, u3, dn, q4, q5⟩ := h3 i p st hp' hs
  exact ⟨q1, q2, hp p (List.mem_of_getElem? hp'), q, c, u3, dn, q4, q5.mono hB⟩

/-- What feed i counts. (As in XGiven.) -/
theorem FdI.countN {B : Nat} {ps : List (Nat × Bool)} {w : World} {S : List Sst} (h : FdI B ps w S) {i : Nat} {p : Nat × Bool} {st : Sst} (hp : ps[i]? = some p) (hs : S[i]? = some st) : w.cell? ⟨p.1, 5, none⟩ = some (.int .i64 st.used) ∧ p.1 < w.heap.size := by
  obtain ⟨_, _, _, q, c, u3, dn, h4, _⟩ := h.2.2 i p st hp hs
  refine ⟨?_, (Array.getElem?_eq_some_iff.1 h4).1⟩
  unfold fdB at h4
  rw [cell_of_row _ _ 5 _ _ _ h4]
  rfl

theorem RmAt.fr {w w' : World} {B rb g : Nat} {p : Option Addr} {n c : Nat} {bottom : Bool} {ks : List Kl} {begun : Bool} {bad : Int} (h : RmAt w B rb p n c bottom ks begun bad) (k : Fr w w' [some g]) (hg : B ≤ g) (ho : ∃ cs fr, w.heap[g]? = some (.cells cs 41 fr)) : RmAt w' B rb p n c bottom ks begun bad := by
  obtain ⟨cs, fr, ho⟩ := ho
  refine ⟨(k.2.2.2.2 _ h.lt ?_).trans h.box, h.base, k.own h.row (fun g' hg' hm => ?_), fun x hx => ?_⟩
  · simp only [List.mem_singleton, Option.some.injEq]
    rintro rfl
    have := h.box
    rw [ho] at this
    cases this
  · simp only [List.mem_singleton, Option.some.injEq] at hm
    subst hm
    rcases h.row.2 with ⟨e, _⟩ | ⟨g2, cap, cur, e, _, hb, _⟩
    · rw [e] at hg'; cases hg'
    · rw [e] at hg'
      cases hg'
      rw [ho] at hb
      cases hb
  · obtain ⟨q1, q2, q3⟩ := h.ents x hx
    exact ⟨q1.fr (fun g' o hg' ho' => (k.2.2.2.2 g' (Array.getElem?_eq_some_iff.1 ho').1 (by simp only [List.mem_singleton, Option.some.injEq]; omega)).trans ho'), q2, q3⟩

theorem RmAt.up {w : World} {B B' rb : Nat} {p : Option Addr} {n c : Nat} {bottom : Bool} {ks : List Kl} {begun : Bool} {bad : Int} (h : RmAt w B rb p n c bottom ks begun bad) (hB : B ≤ B') (hr : B' ≤ rb) (hrow : w.ownsRow B' 35 5 (.slice p n c) n (encK ks)) : RmAt w B' rb p n c bottom ks begun bad :=
  ⟨h.box, hr, hrow, fun x hx => by
    obtain ⟨q1, q2, q3⟩ := h.ents x hx
    exact ⟨q1.mono hB, q2, q3⟩⟩

/-- A merger lives through what the document's turns. -/
theorem MerAt.kpR {w w' : World} {B mb hb : Nat} {sv : Value} {ps : List (Nat × Bool)} {bottom : Bool} {m : Mst} (h : MerAt w B mb hb sv (ps.map fdV) bottom (FdI B ps) m) (k : Kp B rT w w') : MerAt w' B mb hb sv (ps.map fdV) bottom (FdI B ps) m := by
  have hT : TOk rT := ⟨by decide, by decide, by decide, by decide, by decide⟩
  obtain ⟨h1, h2, h3, h4, h5, v, L, h6, h7, h8⟩ := h
  exact ⟨h1.kp k hT, h2.kp k (by decide), h3, h4, h5, v, L, h6.kp2 k hT, h7, h8⟩

/-- The merger of lists, before it was asked. -/
def Mst.of (S : List Sst) : Mst := ⟨S, S.map (fun _ => none), false, 0⟩

theorem of_fresh {S : List Sst} (h : ∀ s ∈ S, s.used = 0) : Fresh 0 (Mst.of S) := fun j st _ hj => ⟨h st (List.mem_of_getElem? hj), by
  show (S.map (fun _ => (none : Option Ent)))[j]? = some none
  rw [List.getElem?_map]
  have : S[j]? = some st := hj
  rw [this]
  rfl⟩

theorem standsFrom_nones : ∀ (S : List Sst) (k : Nat), standsFrom k (S.map (fun _ => (none : Option Ent))) = []
  | [], k => rfl
  | s :: S, k => by rw [List.map_cons, standsFrom]; exact standsFrom_nones S (k + 1)

theorem of_ok (S : List Sst) : MOk S.length (Mst.of S) := ⟨rfl, by simp [Mst.of], fun i e h => by
  have h' : (S.map (fun _ => (none : Option Ent)))[i]? = some (some e) := h
  rw [List.getElem?_map] at h'
  cases hs : S[i]? with
  | none => rw [hs] at h'; cases h'
  | some s => rw [hs] at h'; cases h'⟩

theorem MerAt.startN {w2 : World} {B mb hb : Nat} {sv v : Value} {ps : List (Nat × Bool)} {S : List Sst} {bottom : Bool} (h5 : FdI B ps w2 S) (hl : ps.length = S.length) (hwf : SWf S) (h0 : ∀ s ∈ S, s.used = 0) (hM : MrgIs w2 B mb hb sv (ps.map fdV) bottom false 0) (hP : PileD w2 B hb v []) :
    MerAt w2 B mb hb sv (ps.map fdV) bottom (FdI B ps) (Mst.of S) :=
  ⟨hM, h5, by rw [List.length_map, hl]; exact of_ok S, hwf, fun _ => of_fresh h0, v, [], hP, fun j _ h => absurd h (by simp), fun _ => by
    have e : stands (Mst.of S).F = [] := standsFrom_nones S 0
    rw [e]⟩

/-- A list as the document's merger has it first. -/
def Kl.new (x : Kl) : Kl := { x with u3 := 0, dn := false }

theorem sim_start {ls : List Kl} : Sim ls.length (Mst.of ((ls.map Kl.new).map Kl.st)) ⟨(ls.map Kl.new).map Kl.rl, false, 0⟩ := by
  have e : ((ls.map Kl.new).map Kl.rl).map Rl.s = (ls.map Kl.new).map Kl.st := by
    rw [List.map_map, List.map_map, List.map_map]
    exact List.map_congr_left (fun x _ => rfl)
  refine ⟨by have := of_ok ((ls.map Kl.new).map Kl.st); simpa using this, e.symm, rfl, rfl, fun _ => ⟨rfl, fun i x hx => ?_⟩, fun h => by cases h⟩
  have hx' : ((ls.map Kl.new).map Kl.rl)[i]? = some x := hx
  rw [List.map_map, List.getElem?_map] at hx'
  cases hy : ls[i]? with
  | none => rw [hy] at hx'; cases hx'
  | some y =>
    rw [hy] at hx'
    cases hx'
    refine ⟨rfl, rfl, ?_⟩
    show (((ls.map Kl.new).map Kl.st).map (fun _ => (none : Option Ent)))[i]? = some none
    rw [List.getElem?_map, List.getElem?_map, List.getElem?_map, hy]
    rfl

/-- Cells of a row of sources. -/
theorem own_setS {w : World} {base : Nat} {e : TypeId} {g m c : Nat} {xs : List Value} (h : w.ownsRow base e 1 (.slice (some ⟨g, 0, none⟩) m c) m xs) (j : Nat) (u : Value) : (w.setCell ⟨g, j, none⟩ u).ownsRow base e 1 (.slice (some ⟨g, 0, none⟩) m c) m (xs.set j u) := (h.stored j u).1
end Go.Proofs.Ytahdaccmokjgpaa
