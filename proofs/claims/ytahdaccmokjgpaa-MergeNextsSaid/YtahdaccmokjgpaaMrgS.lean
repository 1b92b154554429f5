/-
  WALK: a merger takes all heads of the least place away.
-/
import Derived.Test.YtahdaccmokjgpaaMrgC
import Derived.Deep.LoopGhost
namespace Go.Proofs.Ytahdaccmokjgpaa
open Go.RowKit ArgK
set_option linter.unusedVariables false

/-- Heads taken away so far, and those that are left. -/
def SameS (F : List (Option Ent)) (out Lk : List Hdv) : Prop :=
  (out ++ Lk).Perm (stands F) ∧ out.Pairwise (fun a b => a.n < b.n) ∧ (∀ x ∈ out, ∀ y ∈ out, eat x.e y.e) ∧ (∀ x ∈ out, ∀ y ∈ Lk, ¬ hdless y x)

/-- .. in the end. -/
def SameEnd (F : List (Option Ent)) (out Lk : List Hdv) : Prop :=
  (out = [] ∧ Lk = [] ∧ leastE (stands F) = none) ∨ (out ≠ [] ∧ ∃ q, leastE (stands F) = some q ∧ out = atPlace q (stands F) ∧ Lk.Perm (stands (offPlace q F)))

theorem SameS.start {F : List (Option Ent)} {L : List Hdv} (h : L.Perm (stands F)) : SameS F [] L := ⟨h, List.Pairwise.nil, by simp, by simp⟩

theorem stands_nodup (F : List (Option Ent)) : ((stands F).map Hdv.n).Nodup := by
  rw [List.nodup_iff_pairwise_ne, List.pairwise_map]
  exact (stands_sorted F).imp (fun h e => by omega)

theorem SameS.push {F : List (Option Ent)} {out Lk L' : List Hdv} (h : SameS F out Lk) (hH : HeapG abv Lk) (h0 : 0 < Lk.length) (he : out = [] ∨ eat (hdG Lk 0).e (hdG out 0).e) (hL : L'.Perm (dropG Lk)) : SameS F (out ++ [hdG Lk 0]) L' := by
  obtain ⟨h1, h2, h3, h4⟩ := h
  have hp := dropG_perm h0
  have ht : hdG Lk 0 ∈ Lk := hp.subset (by simp)
  have hL2 : ∀ y ∈ L', y ∈ Lk := fun y hy => hp.subset (List.mem_cons_of_mem _ (hL.subset hy))
  have hat : ∀ x ∈ out, eat x.e (hdG Lk 0).e := fun x hx => by
    rcases he with rfl | he
    · simp at hx
    · have h5 : hdG out 0 ∈ out := by
        cases out with
        | nil => simp at hx
        | cons z out => simp [hdG]
      exact eat_trans (h3 x hx _ h5) (eat_symm he)
  refine ⟨?_, ?_, ?_, ?_⟩
  · have h6 : (out ++ [hdG Lk 0] ++ L').Perm (out ++ Lk) := by
      rw [List.append_assoc]
      exact List.Perm.append_left out ((hL.cons _).trans hp)
    exact h6.trans h1
  · rw [List.pairwise_append]
    refine ⟨h2, by simp, fun x hx y hy => ?_⟩
    simp only [List.mem_singleton] at hy
    subst hy
    have h7 : ¬ hdless (hdG Lk 0) x := h4 x hx _ ht
    have h8 : x.n ≤ (hdG Lk 0).n := by
      rcases Nat.lt_or_ge (hdG Lk 0).n x.n with k | k
      · exact absurd (.inr ⟨eat_symm (hat x hx), k⟩) h7
      · exact k
    have h9 : ((out ++ Lk).map Hdv.n).Nodup := ((h1.map Hdv.n).nodup_iff).2 (stands_nodup F)
    rw [List.map_append, List.nodup_append] at h9
    have := h9.2.2 _ (List.mem_map_of_mem (f := Hdv.n) hx) _ (List.mem_map_of_mem (f := Hdv.n) ht)
    omega
  · intro x hx y hy
    simp only [List.mem_append, List.mem_singleton] at hx hy
    rcases hx with hx | rfl <;> rcases hy with hy | rfl
    · exact h3 x hx y hy
    · exact hat x hx
    · exact eat_symm (hat y hy)
    · exact eat_refl _
  · intro x hx y hy
    simp only [List.mem_append, List.mem_singleton] at hx
    rcases hx with hx | rfl
    · exact h4 x hx y (hL2 y hy)
    · exact topG_mem ordD hH (hL2 y hy)

theorem SameS.empty {F : List (Option Ent)} {out : List Hdv} (h : SameS F out []) : SameEnd F out [] := by
  obtain ⟨h1, h2, h3, h4⟩ := h
  cases out with
  | nil =>
    left
    rw [List.append_nil] at h1
    rw [← List.Perm.nil_eq h1]
    exact ⟨rfl, rfl, rfl⟩
  | cons x out =>
    right
    exact ⟨by simp, same_law (p := x.e) h1 (by simp) (fun y hy => h3 x (by simp) y hy) h2 (by simp) (by simp)⟩

theorem SameS.far {F : List (Option Ent)} {out Lk : List Hdv} (h : SameS F out Lk) (hH : HeapG abv Lk) (h0 : 0 < Lk.length) (ho : out ≠ []) (he : ¬ eat (hdG Lk 0).e (hdG out 0).e) : SameEnd F out Lk := by
  obtain ⟨h1, h2, h3, h4⟩ := h
  have h5 : hdG out 0 ∈ out := by
    cases out with
    | nil => exact absurd rfl ho
    | cons z out => simp [hdG]
  have ht : hdG Lk 0 ∈ Lk := (dropG_perm h0).subset (by simp)
  have hlt : eless (hdG out 0).e (hdG Lk 0).e := by
    rcases eless_or (hdG out 0).e (hdG Lk 0).e with k | k | k
    · exact k
    · exact absurd (eat_symm k) he
    · exact absurd (.inl k) (h4 _ h5 _ ht)
  right
  refine ⟨ho, same_law (p := (hdG out 0).e) h1 ho (fun y hy => h3 _ h5 y hy) h2 (fun y hy hat => ?_) (fun y hy hl => ?_)⟩
  · exact topG_mem ordD hH hy (.inl (eat_eless (eat_symm hat) hlt))
  · exact h4 _ h5 y hy (.inl hl)

/-- What a merger's own calls turn, by types. -/
theorem NK.kp {w w' : World} {B mb hb : Nat} {sv v v' : Value} {fs : List Value} {bottom begun : Bool} {code : Int} {L : List Hdv} {T : List TypeId} (hM : MrgIs w B mb hb sv fs bottom begun code) (hP : PileD w B hb v L) (k : NK B T mb hb w v w' v') : Kp B (mTypes ++ T) w w' := by
  refine ⟨k.1.1, k.1.2.1, k.1.2.2.1, k.1.2.2.2.1, fun b o ho hx => k.1.2.2.2.2 b o ho (hx.imp id (fun hx t ht hm => hx t ht (List.mem_append_right _ hm))) (fun hm => ?_)⟩
  have hty : ∀ t, tyO o = some t → t ∈ mTypes → b < B := fun t ht hm => by
    rcases hx with hx | hx
    · exact hx
    · exact absurd (List.mem_append_left _ hm) (hx t ht)
  simp only [List.mem_cons, List.not_mem_nil, or_false, Option.some.injEq] at hm
  rcases hm with hm | hm | hm
  · subst hm
    have h1 := hM.box
    rw [h1] at ho
    cases ho
    have := hty _ rfl (by unfold mTypes; simp)
    have := hM.base
    omega
  · subst hm
    have h1 := hP.box
    rw [h1] at ho
    cases ho
    have := hty _ rfl (by unfold mTypes; simp)
    have := hP.base
    omega
  · rcases hP.row.2 with ⟨e, _⟩ | ⟨g, c, cur, e, hg, hgh, _⟩
    · rw [e] at hm; cases hm
    · rw [e] at hm
      cases hm
      rw [hgh] at ho
      cases ho
      have h2 : g < B := hty _ rfl (by unfold mTypes; simp)
      have h3 : B ≤ g := hg
      omega

/-- What same leaves. -/
def SamePost (w : World) (v : Value) (B mb hb : Nat) (sv : Value) (fs : List Value) (bottom begun : Bool) (code : Int) (F : List (Option Ent)) (e : Ending) (w' : World) : Prop :=
  ∃ lv out Lk v', e = .returned lv ∧ w'.ownsRow w.heap.size 100 6 lv out.length (encD out) ∧ SameEnd F out Lk ∧ MrgIs w' B mb hb sv fs bottom begun code ∧ PileD w' B hb v' Lk ∧ HeapG abv Lk ∧ MK B [] hb w v w' v' ∧ (∀ g, lv.ownBlock = some g → v'.ownBlock ≠ some g)

/-- At the head of each round of same. -/
def SameRel (w : World) (v : Value) (B mb hb : Nat) (sv : Value) (fs : List Value) (bottom begun : Bool) (code : Int) (F : List (Option Ent)) (f : Nat) (lv : Value) (wr : World) : Prop :=
  ∃ out Lk v', wr.ownsRow w.heap.size 100 6 lv out.length (encD out) ∧ SameS F out Lk ∧ MrgIs wr B mb hb sv fs bottom begun code ∧ PileD wr B hb v' Lk ∧ HeapG abv Lk ∧ MK B [] hb w v wr v' ∧ (∀ g, lv.ownBlock = some g → v'.ownBlock ≠ some g) ∧ Lk.length + 1 ≤ f

theorem SameRel.stop {w : World} {v : Value} {B mb hb : Nat} {sv : Value} {fs : List Value} {bottom begun : Bool} {code : Int} {F : List (Option Ent)} {lv v' : Value} {wr W : World} {out Lk : List Hdv} (h1 : wr.ownsRow w.heap.size 100 6 lv out.length (encD out)) (hE : SameEnd F out Lk) (h2 : MrgIs wr B mb hb sv fs bottom begun code) (h3 : PileD wr B hb v' Lk) (h4 : HeapG abv Lk) (h5 : MK B [] hb w v wr v') (h6 : ∀ g, lv.ownBlock = some g → v'.ownBlock ≠ some g) (hW : Below wr.heap.size wr W) :
    SamePost w v B mb hb sv fs bottom begun code F (.returned lv) W :=
  ⟨lv, out, Lk, v', rfl, own_belowAll h1 hW, hE, h2.fm (X := []) (T := []) (Fm.of_below (B := B) hW) ⟨by simp, by simp, by simp, by simp, by simp⟩ (by simp) (by simp), h3.keep (T := []) (Kp.of_below (B := B) hW) (by simp) (by simp), h4, h5.trans (MK.of_kp (Kp.of_below hW)), h6⟩

/-- One head more. -/
theorem SameRel.more {w : World} {v : Value} {B mb hb : Nat} {sv : Value} {fs : List Value} {bottom begun : Bool} {code : Int} {F : List (Option Ent)} {lv v' : Value} {wr wa wb wc : World} {out Lk : List Hdv} {g cap : Nat} {f : Nat} (hwB : B ≤ w.heap.size) (hww : w.heap.size ≤ wr.heap.size) (hbw : hb < w.heap.size) (hmw : mb < w.heap.size) (hsvw : ∀ k, sv.ownBlock = some k → k < w.heap.size)
    (hS : SameS F out Lk) (h2 : MrgIs wr B mb hb sv fs bottom begun code) (h3 : PileD wr B hb v' Lk) (h4 : HeapG abv Lk) (h0 : 0 < Lk.length) (h5 : MK B [] hb w v wr v') (h6 : ∀ g, lv.ownBlock = some g → v'.ownBlock ≠ some g) (hlv : ∀ g, lv.ownBlock = some g → w.heap.size ≤ g) (hat : out = [] ∨ eat (hdG Lk 0).e (hdG out 0).e)
    (ha : Below wr.heap.size wr wa) (hrow : wb.ownsRow w.heap.size 100 6 (.slice (some ⟨g, 0, none⟩) (out.length + 1) cap) (out.length + 1) (encD out ++ (hdG Lk 0).cells)) (hg : wa.grownBy wb lv.ownBlock) (hgat : lv.ownBlock = some g ∨ wa.heap.size ≤ g)
    (hp : ∃ v'' L', PileD wc B hb v'' L' ∧ HeapG abv L' ∧ L'.Perm (dropG Lk) ∧ PKeep hb wb v' wc v'') (hf : Lk.length + 1 ≤ f + 1) : SameRel w v B mb hb sv fs bottom begun code F f (.slice (some ⟨g, 0, none⟩) (out.length + 1) cap) wc := by
  obtain ⟨v'', L', k1, k2, k3, k4⟩ := hp
  have hsz := ha.size
  have hvlt : ∀ k, v'.ownBlock = some k → k < wr.heap.size := fun k hk => (h3.row.lt k hk).2
  have hgne : v'.ownBlock ≠ some g := fun e => by
    rcases hgat with q | q
    · exact h6 g q e
    · have := hvlt g e; omega
  have hgw : w.heap.size ≤ g := by
    rcases hgat with q | q
    · exact hlv g q
    · omega
  have hFr : Fr w wb [lv.ownBlock] ∨ True := .inr trivial
  -- wr to wb: but for the list's block
  have hrb : Fr wr wb [lv.ownBlock] := (Fr.of_below ha _).grown hg (fun k hk _ => by simp [hk])
  have hMb : MrgIs wb B mb hb sv fs bottom begun code := h2.fm (T := []) (Fm.of_fr (B := B) hrb) ⟨by simp, by simp, by simp, by simp, by simp⟩ (by
      simp only [List.mem_singleton]
      intro e
      have := hlv mb e.symm
      omega) (fun k hk => by
      simp only [List.mem_singleton]
      intro e
      have h7 := hlv k e.symm
      have h8 := hsvw k hk
      omega)
  have hMc : MrgIs wc B mb hb sv fs bottom begun code := by
    refine hMb.fm (T := []) (Fm.of_fr (B := B) k4.1) ⟨by simp, by simp, by simp, by simp, by simp⟩ ?_ ?_
    · exact (h2.apart h3).1
    · exact (h2.apart h3).2
  have hwsz : wr.heap.size ≤ wb.heap.size := hrb.size
  refine ⟨out ++ [hdG Lk 0], L', v'', ?_, hS.push h4 h0 hat k3, hMc, k1, k2, ?_, ?_, ?_⟩
  · rw [List.length_append, List.length_singleton, encD_snoc]
    refine k4.1.own hrow (fun k hk => ?_)
    have : g = k := Option.some.inj hk
    subst this
    simp only [List.mem_cons, List.not_mem_nil, or_false, Option.some.injEq, not_or]
    exact ⟨by omega, fun e => hgne e.symm⟩
  · refine ⟨(h5.1.trans (Y := [lv.ownBlock]) (Fm.of_fr (B := B) hrb) (fun x hx hlt => ?_)).trans (Y := [some hb, v'.ownBlock]) (Fm.of_fr (B := B) k4.1) (fun x hx hlt => ?_), ?_⟩
    · simp only [List.mem_singleton] at hx
      have := hlv x hx.symm
      omega
    · simp only [List.mem_cons, List.not_mem_nil, or_false] at hx ⊢
      rcases hx with hx | hx
      · exact .inl hx
      · rcases h5.2 with q | q
        · exact .inr (hx.trans q)
        · have := q x hx.symm; omega
    · rcases k4.2 with q | q
      · rcases h5.2 with q' | q'
        · exact .inl (q.trans q')
        · exact .inr (fun k hk => q' k (by rw [← q]; exact hk))
      · exact .inr (fun k hk => Nat.le_trans (Nat.le_trans hww hwsz) (q k hk))
  · intro k hk
    have : g = k := Option.some.inj hk
    subst this
    rcases k4.2 with q | q
    · rw [q]; exact hgne
    · intro e
      have h7 := q g e
      have h8 := (hrow.lt g rfl).2
      omega
  · have := k3.length_eq
    rw [dropG_length] at this
    omega
end Go.Proofs.Ytahdaccmokjgpaa
