/-
  WALK: a new merger.
-/
import Derived.Test.YtahdaccmokjgpaaMrgX
import Derived.Laws.AppendOwnNone
namespace Go.Proofs.Ytahdaccmokjgpaa
open Go.RowKit ArgK
set_option linter.unusedVariables false

theorem srcinfo : (Try.prog.info? 41).map (fun i => (i.zero, i.size, i.bytes)) = some (some (.agg #[.nilFunc]), 1, 8) := by kernel_rfl

/-- Too many sources. -/
theorem New_many (p : Option Addr) (n c : Nat) (bottom : Bool) (hn : 1024 < n) (hm : n < 9223372036854775807) (w : World) : Calls Try.prog 31 #[.slice p n c, .bool bottom] w fun e w' => e = .returned (.pointer none) ∧ w' = w := by
  have h1 : decide ((1024 : Int) < (n : Int)) = true := by simp; omega
  have h2 : (1024 : Int) < (n : Int) := by omega
  go_enter Try.func31, Try.ntmps31
  go_wp2
  go_ret
  exact ⟨rfl, rfl⟩

/-- What New leaves. -/
def NewPost (w : World) (fs : List Value) (bottom : Bool) (e : Ending) (w' : World) : Prop :=
  ∃ mb hb sv v, e = .returned (.pointer (some ⟨mb, 0, none⟩)) ∧ Below w.heap.size w w' ∧ MrgIs w' w.heap.size mb hb sv fs bottom false 0 ∧ PileD w' w.heap.size hb v []

theorem wpList_append_opt {P : Program} {w : World} {ops : Array Oper} {rest : List Oper} {o : Oper} {a : Act} {Q : Exit → Act → World → Prop} (hgd : o.guard = none) (s x : Operand) (t : TypeId)
    (ho : o.op = .call { callee := .builtin .append, args := #[s, x], argTypes := #[t, t] })
    (base : Nat) (e : TypeId) (i : TypeInfo) (z : Value) (size bytes : Nat) (ht : P.underlying t = some (.slice e)) (hi : P.info? e = some i) (hz : i.zero = some z)
    (hsize : i.size = size) (hby : i.bytes = bytes) (hzs : z.cells.size = size) (hsz : 0 < size)
    (v : Value) (n : Nat) (xs : List Value) (hs : a.eval s = v) (hown : w.ownsRow base e size v n xs)
    (p : Option Addr) (m c : Nat) (news : List Value) (hx : a.eval x = .slice p m c) (hp : p = none → m = 0 ∧ c = 0) (hl : news.length = m * size) (hnews : ∀ j u, news[j]? = some u → ∃ ad, p = some ad ∧ w.cell? (ad.add j) = some u) (h1 : ∀ u ∈ news, u.oneCell' = true)
    (h63 : n + m ≤ maxLen) (hbytes : (n + m) * bytes ≤ 140737488355328) (hbase : base ≤ w.heap.size)
    (h : ∀ v' w', w'.ownsRow base e size v' (n + m) (xs ++ news) → w.grownBy w' v.ownBlock → wpList P ops Q rest (a.put o.dst v') w') : wpList P ops Q (o :: rest) a w := by
  cases p with
  | none =>
    obtain ⟨rfl, rfl⟩ := hp rfl
    have hn : news = [] := List.eq_nil_of_length_eq_zero (by simpa using hl)
    subst hn
    exact wpList_append_own_none hgd s x t ho base e i size ht hi v n xs hs hown hx (h v w (by simpa using hown) (grown_refl _ _))
  | some ad => exact wpList_append_own w hgd s x t ho base e i z size bytes ht hi hz hsize hby hzs hsz v n xs hs hown ad m c news hx hl (fun j u hj => by obtain ⟨a, e, h⟩ := hnews j u hj; cases e; exact h) h1 h63 hbytes hbase fun v' w' h2 h3 _ => h v' w' h2 h3


/-- A readable list of sources. -/
def SL (w : World) (p : Option Addr) (fs : List Value) : Prop := ∀ j u, fs[j]? = some u → ∃ a : Addr, p = some a ∧ w.cell? (a.add j) = some u

set_option maxRecDepth 100000 in
set_option maxHeartbeats 1000000 in
theorem New_calls {w : World} {p : Option Addr} {n c : Nat} {fs : List Value} (bottom : Bool) (hn : fs.length = n) (h1024 : n ≤ 1024) (hp : p = none → n = 0 ∧ c = 0) (hs : SL w p fs) (h1 : ∀ u ∈ fs, u.oneCell' = true) :
    Calls Try.prog 31 #[.slice p n c, .bool bottom] w (NewPost w fs bottom) := by
  obtain ⟨i0, hi0, hz0, hz1, hz2⟩ := info_parts srcinfo
  have hbu : ∀ (W : World) (q : Option Addr) (m k h : Nat), (Instr.build 88 #[(0, .slice q m k), (1, .bool bottom), (3, .iface 82 (.pointer (some ⟨h, 0, none⟩)))]).run Try.prog W = .ok (.agg #[.slice q m k, .bool bottom, .bool false, .iface 82 (.pointer (some ⟨h, 0, none⟩)), .int .i64 0]) W := fun W q m k h => run_build W _ _ _ (by kernel_rfl)
  have hd : decide ((1024 : Int) < (n : Int)) = false := by simp; omega
  have hl : fs.length = n * 1 := by omega
  have chk1 : 0 + n ≤ maxLen := by unfold maxLen; omega
  have chk2 : (0 + n) * 8 ≤ 140737488355328 := by omega
  have HN := Lib.hid hn
  have HP := Lib.hid hp
  have HS := Lib.hid hs
  have H1 := Lib.hid h1
  have HL := Lib.hid hl
  clear hn hp hs h1 hl
  go_enter Try.func31, Try.ntmps31
  go_wp2_with (at_builtin; refine wpList_append_opt rfl _ _ 37 rfl w.heap.size 41 i0 _ 1 8 Try.underlying37 hi0 hz0 hz1 hz2 rfl (by decide) _ 0 [] rfl own_none p n c fs rfl HP.out HL.out HS.out H1.out chk1 chk2 (Nat.le_refl _) ?_)
  intro sv w1 hown hgrow
  have hb1 : Below w.heap.size w w1 := ⟨hgrow.os, hgrow.tape, hgrow.output, hgrow.size, fun k hk => hgrow.block k hk (by simp [Value.ownBlock])⟩
  have hown : w1.ownsRow w.heap.size 41 1 sv n fs := by simpa using hown
  obtain ⟨ps, cps, rfl, _, _, _⟩ := own_rd hown
  have HOWN := Lib.hid hown
  have HB1 := Lib.hid hb1
  clear hown hgrow hb1
  go_wp2
  go_ret
  have e1 : (w1.alloc (.cells #[] 100)).heap.size = w1.heap.size + 1 := by simp
  have e2 : ((w1.alloc (.cells #[] 100)).alloc (.cells #[.slice (some ⟨w1.heap.size, 0, none⟩) 0 0] 84)).heap.size = w1.heap.size + 1 + 1 := by simp
  have hs1 := HB1.out.size
  have b0 := World.alloc_heap_new w1 (.cells #[] 100)
  have b1 := World.alloc_heap_new (w1.alloc (.cells #[] 100)) (.cells #[.slice (some ⟨w1.heap.size, 0, none⟩) 0 0] 84)
  have b2 := World.alloc_heap_new ((w1.alloc (.cells #[] 100)).alloc (.cells #[.slice (some ⟨w1.heap.size, 0, none⟩) 0 0] 84)) (.cells #[.slice ps n cps, .bool bottom, .bool false, .iface 82 (.pointer (some ⟨w1.heap.size + 1, 0, none⟩)), .int .i64 0] 88)
  rw [e1] at b1
  rw [e2] at b2
  have hB : Below w1.heap.size w1 (((w1.alloc (.cells #[] 100)).alloc (.cells #[.slice (some ⟨w1.heap.size, 0, none⟩) 0 0] 84)).alloc (.cells #[.slice ps n cps, .bool bottom, .bool false, .iface 82 (.pointer (some ⟨w1.heap.size + 1, 0, none⟩)), .int .i64 0] 88)) := (((Below.refl _ w1).alloc (Nat.le_refl _) _).alloc (by simp) _).alloc (by simp; omega) _
  refine ⟨w1.heap.size + 1 + 1, w1.heap.size + 1, .slice ps n cps, .slice (some ⟨w1.heap.size, 0, none⟩) 0 0, rfl, HB1.out.trans (hB.mono hs1), ⟨b2, by omega, ?_⟩, ⟨?_, by omega, ?_⟩⟩
  · rw [HN.out]
    exact own_belowAll HOWN.out hB
  · exact (Below.heap_alloc _ _ _ (by simp)).trans b1
  · exact ⟨rfl, .inr ⟨w1.heap.size, 0, #[], rfl, hs1, (Below.heap_alloc _ _ _ (by simp; omega)).trans ((Below.heap_alloc _ _ _ (by simp)).trans b0), Nat.le_refl _, Nat.zero_le _, rfl, rfl⟩⟩
end Go.Proofs.Ytahdaccmokjgpaa
