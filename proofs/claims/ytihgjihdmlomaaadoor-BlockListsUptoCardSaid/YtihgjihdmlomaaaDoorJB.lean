/-
  SMALL LAWS on memory that a call has made: rows of bytes, a row of bytes as a string and back, a slice of the call's own as a string. No condition of the program's.
  PLAIN LAWS on numbers in bytes of seven bits (no program in sight).
  WALKS: numbers in bytes of seven bits (PutVar, Var and the document's answer's).
  PLAIN LAWS on numbers in bytes (no program in sight).
  WALKS: numbers in fixed bytes (seal.PutFix, seal.Fix and the document's answer's).
  PLAIN LAWS on the check sum (no program in sight): bit by bit, half byte by half byte; sums go on; sums are linear.
  WALKS: seal.On, seal.Sum and the document's answer's: each returns the sum of XCrc. Conditions: the text is within the reach; the table holds its sixteen numbers.
  PLAIN LAWS on frames (no program in sight).
  WALKS: a sum as bytes; frames.
-/
import Derived.Test.YtihgjihdmlomaaaDoorProg
import Derived.Below
import Derived.OwnWalk
import Derived.Laws.OwnMore
import Derived.Deep.AppendLies
import Derived.Laws.Rows
import Derived.Laws.IdiomStrings
import Derived.Laws.BytesString
import Derived.Maps.AppendAt
import Derived.WalkKit
import Derived.Deep.QuietTactic
import Derived.BigQuiet
import Derived.IntWalk
import Derived.Lib.Hide
import Derived.WalkLawsBesides
import Derived.Outline
import Derived.Lib.LaidTab
import Derived.RegionTactic
import Derived.Deep.RegionWith
namespace Go.Proofs.YtihgjihdmlomaaaDoor
open Go.RowKit

theorem add0 (g j : Nat) : (⟨g, 0, none⟩ : Addr).add j = ⟨g, j, none⟩ := by unfold Addr.add; split <;> simp_all

/-- A byte as a value. -/
def by8 (b : UInt8) : Value := .int .u8 (b.toNat : Int)

/-- Block g holds the bytes l at its beginning, none of them frozen. -/
def Bys (w : World) (g : Nat) (t : TypeId) (l : List UInt8) : Prop :=
  ∃ (cs : Array Value) (lo hi : Nat), w.heap[g]? = some (.cells cs t (lo, hi)) ∧ (hi ≤ lo ∨ l.length ≤ lo) ∧ ∀ i, i < l.length → cs[i]? = some (.int .u8 ((l.getD i 0).toNat : Int))

theorem Bys.lt {w : World} {g : Nat} {t : TypeId} {l : List UInt8} (h : Bys w g t l) : g < w.heap.size := by
  obtain ⟨cs, lo, hi, hh, _⟩ := h
  rcases Nat.lt_or_ge g w.heap.size with hlt | hge
  · exact hlt
  · rw [Array.getElem?_eq_none hge] at hh; cases hh
theorem Bys.cell {w : World} {g : Nat} {t : TypeId} {l : List UInt8} (h : Bys w g t l) {i : Nat} (hi : i < l.length) : w.cell? ⟨g, i, none⟩ = some (.int .u8 ((l.getD i 0).toNat : Int)) := by
  obtain ⟨cs, lo, hi', hh, _, hc⟩ := h
  rw [cell_of_row w g i cs t (lo, hi') hh]; exact hc i hi
theorem Bys.frozen {w : World} {g : Nat} {t : TypeId} {l : List UInt8} (h : Bys w g t l) {i : Nat} (hi : i < l.length) : w.frozen? ⟨g, i, none⟩ = false := by
  obtain ⟨cs, lo, hi', hh, hf, hc⟩ := h
  simp only [World.frozen?, hh]
  rcases hf with hf | hf <;> simp <;> omega
theorem Bys.of_heap {w w' : World} {g : Nat} {t : TypeId} {l : List UInt8} (h : Bys w g t l) (e : w'.heap[g]? = w.heap[g]?) : Bys w' g t l := by
  obtain ⟨cs, lo, hi', hh, r⟩ := h
  exact ⟨cs, lo, hi', e.trans hh, r⟩
theorem Bys.drew {w : World} {g : Nat} {t : TypeId} {l : List UInt8} (h : Bys w g t l) : Bys w.drew g t l := h
theorem Bys.alloc {w : World} {g : Nat} {t : TypeId} {l : List UInt8} (h : Bys w g t l) (o : Obj) : Bys (w.alloc o) g t l := h.of_heap (Below.heap_alloc w o g h.lt)
theorem Bys.far {w : World} {g : Nat} {t : TypeId} {l : List UInt8} (h : Bys w g t l) {p : Addr} (hp : g ≠ p.block) (u : Value) : Bys (w.setCell p u) g t l := h.of_heap (Below.heap_setCell w p u g hp)
theorem Bys.below {w w' : World} {B g : Nat} {t : TypeId} {l : List UInt8} (h : Bys w g t l) (hb : Below B w w') (hg : g < B) : Bys w' g t l := h.of_heap (hb.block g hg)
theorem Bys.put {w : World} {g : Nat} {t : TypeId} {l : List UInt8} (h : Bys w g t l) (i : Nat) (x : UInt8) : Bys (w.setCell ⟨g, i, none⟩ (.int .u8 (x.toNat : Int))) g t (l.set i x) := by
  obtain ⟨cs, lo, hi', hh, hf, hc⟩ := h
  refine ⟨cs.setIfInBounds i (.int .u8 (x.toNat : Int)), lo, hi', by simp [World.setCell, Array.getElem?_modify, hh], by simpa using hf, fun j hj => ?_⟩
  rw [List.length_set] at hj
  have hcj := hc j hj
  by_cases hij : i = j
  · subst hij
    have hjs : i < cs.size := (Array.getElem?_eq_some_iff.1 hcj).1
    rw [Array.getElem?_setIfInBounds_self_of_lt hjs]
    simp [List.getD, hj]
  · rw [Array.getElem?_setIfInBounds_ne hij, hcj]
    simp [List.getD, hij]
/-- make([]byte, n). -/
theorem Bys.made (w : World) (t : TypeId) (n : Nat) : Bys (w.alloc (.cells (madeCells #[.int .u8 0] n) t)) w.heap.size t (List.replicate n 0) := by
  refine ⟨_, 0, 0, heap_alloc_new w _, .inl (Nat.le_refl _), fun i hi => ?_⟩
  have hi' : i < n := by simpa using hi
  have := congrArg (fun l => l[i]?) (toList_madeCells_one (.int .u8 0) n)
  simp only [Array.getElem?_toList] at this
  rw [this]
  simp [List.getD, hi']
/-- []byte(s): what lies there. -/
theorem Bys.of_string (w : World) (t : TypeId) (s : ByteArray) (cap : Nat) : Bys (w.alloc (.cells (bytesRow s cap) t ((bytesRow s cap).size, (bytesRow s cap).size + 1))) w.heap.size t s.data.toList := by
  refine ⟨_, _, _, heap_alloc_new w _, .inr ?_, fun i hi => ?_⟩
  · simp [bytesRow]
  · have hi' : i < s.data.size := by simpa using hi
    unfold bytesRow
    rw [Array.getElem?_append_left (by simpa using hi')]
    simp only [List.getD, Array.getElem?_map, Array.getElem?_toList, Array.getElem?_eq_getElem hi', Option.map_some, Option.getD_some]

theorem foldl_push : ∀ (l : List UInt8) (s : ByteArray), (l.map (fun b => (b.toNat : Int))).foldl (fun r n => r.push (UInt8.ofNat n.toNat)) s = ⟨s.data ++ l.toArray⟩
  | [], s => by simp
  | b :: l, s => by
    simp only [List.map_cons, List.foldl_cons]
    rw [foldl_push l]
    apply ByteArray.ext
    apply Array.ext'
    simp [ByteArray.push]

/-- string(b), wherever the bytes lie. -/
theorem run_toString {P : Program} (w : World) (src dst e : TypeId) (hs : P.underlying src = some (.slice e)) (he : P.underlying e = some (.int .u8)) (hd : P.underlying dst = some .string) (a : Addr) (l : List UInt8) (n c : Nat) (hn : n = l.length)
    (h : ∀ j, j < l.length → w.cell? (a.add j) = some (.int .u8 ((l.getD j 0).toNat : Int))) :
    (convert src dst (.slice (some a) n c)).run P w = .ok (.string ⟨l.toArray⟩) w := by
  subst hn
  rw [run_convert_bytes_string w src dst e (some a) _ _ hs he hd]
  have hl := run_loadCells_list (P := P) w a ((l.map (fun b => (b.toNat : Int))).map (Value.int .u8)) (fun j v hv => by
    have hj : j < l.length := by
      have := (List.getElem?_eq_some_iff.1 hv).1
      simpa using this
    rw [h j hj]
    rw [← hv]
    simp [List.getD, hj])
  simp only [List.length_map] at hl
  rw [run_bytesToString w a l.length c _ hl, foldl_push]
  simp
theorem Bys.toStr {P : Program} {w : World} {g : Nat} {t : TypeId} {l : List UInt8} (h : Bys w g t l) (src dst e : TypeId) (hs : P.underlying src = some (.slice e)) (he : P.underlying e = some (.int .u8)) (hd : P.underlying dst = some .string) (n c : Nat) (hn : n = l.length) :
    (convert src dst (.slice (some ⟨g, 0, none⟩) n c)).run P w = .ok (.string ⟨l.toArray⟩) w :=
  run_toString w src dst e hs he hd _ l n c hn fun j hj => by rw [add0]; exact h.cell hj
theorem run_nilToString {P : Program} (w : World) (src dst e : TypeId) (hs : P.underlying src = some (.slice e)) (he : P.underlying e = some (.int .u8)) (hd : P.underlying dst = some .string) :
    (convert src dst (.slice none 0 0)).run P w = .ok (.string ⟨#[]⟩) w := by
  rw [run_convert_bytes_string w src dst e none _ _ hs he hd]
  simp [Conv.bytesToString]
  rfl
/-- string(b), b a slice of the call's own that was appended to. -/
theorem own_toStr {P : Program} {w : World} {base : Nat} {v : Value} {n : Nat} {l : List UInt8} (src dst e : TypeId) (hs : P.underlying src = some (.slice e)) (he : P.underlying e = some (.int .u8)) (hd : P.underlying dst = some .string)
    (h : w.ownsRow base e 1 v n (l.map by8)) : (convert src dst v).run P w = .ok (.string ⟨l.toArray⟩) w := by
  have hlen := h.1
  simp only [List.length_map, Nat.mul_one] at hlen
  rcases h.2 with ⟨rfl, rfl⟩ | ⟨g, cap, cur, rfl, _⟩
  · have : l = [] := List.eq_nil_of_length_eq_zero hlen
    subst this
    exact run_nilToString w src dst e hs he hd
  · refine run_toString w src dst e hs he hd _ l n cap hlen.symm fun j hj => ?_
    have := h.cellAt j (by omega)
    rw [add0, this]
    simp [by8, List.getD, hj]

/-- string([]byte{..}): the bytes lie in a block that was laid just before. -/
theorem lit_toStr {P : Program} (src dst e : TypeId) (hs : P.underlying src = some (.slice e)) (he : P.underlying e = some (.int .u8)) (hd : P.underlying dst = some .string) (w : World) (t : TypeId) (l : List UInt8) (vs : Array Value) (hv : vs = (l.map by8).toArray) (n : Nat) (hn : n = l.length) :
    (convert src dst (.slice (some ⟨w.heap.size, 0, none⟩) n n)).run P (w.alloc (.cells vs t)) = .ok (.string ⟨l.toArray⟩) (w.alloc (.cells vs t)) := by
  refine run_toString _ src dst e hs he hd _ l n n hn fun j hj => ?_
  rw [add0, cell_of_row _ w.heap.size j vs t (0, 0) (heap_alloc_new w _), hv]
  simp [by8, List.getD, hj]
/-- .. and something else has been done since. -/
theorem lit_toStr_later {P : Program} (src dst e : TypeId) (hs : P.underlying src = some (.slice e)) (he : P.underlying e = some (.int .u8)) (hd : P.underlying dst = some .string) (w w1 : World) (t : TypeId) (l : List UInt8) (vs : Array Value) (hv : vs = (l.map by8).toArray) (n : Nat) (hn : n = l.length)
    (g : Nat) (hg : g = w.heap.size) (hb : Below (w.alloc (.cells vs t)).heap.size (w.alloc (.cells vs t)) w1) :
    (convert src dst (.slice (some ⟨g, 0, none⟩) n n)).run P w1 = .ok (.string ⟨l.toArray⟩) w1 := by
  subst hg
  refine run_toString _ src dst e hs he hd _ l n n hn fun j hj => ?_
  rw [add0, hb.cell (p := ⟨w.heap.size, j, none⟩) (by simp), cell_of_row _ w.heap.size j vs t (0, 0) (heap_alloc_new w _), hv]
  simp [by8, List.getD, hj]
theorem by8_of (v : Nat) : by8 (UInt8.ofNat v) = .int .u8 ((v : Int) % 256) := by unfold by8; simp

/-- make([]byte, n) at a variable n: an equation for every world. -/
theorem run_make_bytes {P : Program} (t e : TypeId) (i : TypeInfo) (ht : P.underlying t = some (.slice e)) (hi : P.info? e = some i) (hz : i.zero = some (.int .u8 0)) (h1 : i.size = 1) (hb : i.bytes = 1)
    (n : Nat) (hn : n ≤ 281474976710656) (w : World) :
    (Instr.makeSlice t (.int .i64 (n : Int)) (.int .i64 (n : Int))).run P w = .ok (.slice (some ⟨w.heap.size, 0, none⟩) n n) (w.alloc (.cells (madeCells #[.int .u8 0] n) e)) := by
  have hb' : (i.bytes : Int) * (n : Int) ≤ 281474976710656 := by rw [hb]; omega
  have hr := run_make (P := P) w t e i _ ht hi hz .i64 .i64 n n (by omega) (by omega) hb' (by omega)
  simp only [Int.toNat_natCast] at hr
  rw [h1, Nat.mul_one] at hr
  exact hr
theorem wf_bounds_i64 {a : Int} (h : (Lit.int .i64 a).wf = true) : -9223372036854775808 ≤ a ∧ a < 9223372036854775808 := by
  simp [Lit.wf, IntKind.min, IntKind.max, IntKind.signed, IntKind.bits] at h; omega
theorem wf_bounds_u64 {a : Int} (h : (Lit.int .u64 a).wf = true) : 0 ≤ a ∧ a < 18446744073709551616 := by
  simp [Lit.wf, IntKind.min, IntKind.max, IntKind.signed, IntKind.bits] at h; omega
theorem wf_bounds_u32 {a : Int} (h : (Lit.int .u32 a).wf = true) : 0 ≤ a ∧ a < 4294967296 := by
  simp [Lit.wf, IntKind.min, IntKind.max, IntKind.signed, IntKind.bits] at h; omega
theorem quiet_left {P : Program} {f : FuncId} {args : Array Value} {w : World} {n : Nat} {v : Value}
    (h : Calls P f args (w.drewN n) fun e w' => e = .returned v ∧ w.drewN n = w') : Calls P f args (w.drewN n) fun e w'' => e = .returned v ∧ ∃ m, w'' = w.drewN m :=
  h.mono fun _ _ ⟨he, hm⟩ => ⟨he, n, hm.symm⟩
theorem quiet_some {P : Program} {f : FuncId} {args : Array Value} {w : World} {n : Nat} {v : Value}
    (h : Calls P f args (w.drewN n) fun e w' => e = .returned v ∧ ∃ k, w' = (w.drewN n).drewN k) : Calls P f args (w.drewN n) fun e w'' => e = .returned v ∧ ∃ m, w'' = w.drewN m :=
  h.mono fun _ _ ⟨he, k, hm⟩ => ⟨he, n + k, by rw [hm, World.drewN_drewN]⟩
theorem results_tmp4 {fn : Func} {t u v x : Tmp} (h : fn.results = #[.tmp t, .tmp u, .tmp v, .tmp x]) (tmps : Array Value) (P : Program) (w : World) :
    (results fn tmps).run P w = .ok (.tuple #[tmps.getD t undef, tmps.getD u undef, tmps.getD v undef, tmps.getD x undef]) w := by simp [results, h]
/-- A part of a string, by its bytes. -/
theorem name_cut (s : ByteArray) (a b : Nat) (h : a ≤ b) (hb : b ≤ s.size) : ∃ r : ByteArray, s.extract a b = r ∧ r.data.toList = (s.data.toList.drop a).take (b - a) ∧ r.size = b - a := by
  refine ⟨_, rfl, ?_, ?_⟩
  · simp only [ByteArray.data_extract, Array.toList_extract]
  · simp only [ByteArray.size_extract]; omega
/-- A string that is named by its bytes. -/
theorem name_str (l : List UInt8) : ∃ r : ByteArray, (⟨l.toArray⟩ : ByteArray) = r ∧ r.data.toList = l ∧ r.size = l.length := ⟨_, rfl, by simp, rfl⟩
theorem cat_data (a b : ByteArray) : (a ++ b).data.toList = a.data.toList ++ b.data.toList := by simp
theorem size_data (a : ByteArray) : a.size = a.data.toList.length := rfl
theorem str_of_data {a : ByteArray} {l : List UInt8} (h : a.data.toList = l) : a = ⟨l.toArray⟩ := by subst h; rfl
theorem str_eq {a b : List UInt8} (h : a = b) : Value.string ⟨a.toArray⟩ = Value.string ⟨b.toArray⟩ := by rw [h]
end Go.Proofs.YtihgjihdmlomaaaDoor

namespace Go.Proofs.YtihgjihdmlomaaaDoor

/-- v in bytes of seven bits, the lowest first; f more at the most. -/
def varF : Nat → Nat → List UInt8
  | 0, v => [UInt8.ofNat v]
  | f + 1, v => if v < 128 then [UInt8.ofNat v] else UInt8.ofNat (v % 128 + 128) :: varF f (v / 128)
def varB (v : Nat) : List UInt8 := varF 9 v
theorem varF_low (f v : Nat) (h : v < 128) : varF f v = [UInt8.ofNat v] := by
  cases f with
  | zero => rfl
  | succ f => simp [varF, h]
theorem varF_high (f v : Nat) (h : ¬ v < 128) : varF (f + 1) v = UInt8.ofNat (v % 128 + 128) :: varF f (v / 128) := by simp [varF, h]

/-- What reading such a number answers: behind k bytes, which made v; a: where it began. -/
def scanV (a : Nat) : Nat → Nat → List UInt8 → Nat × Int × Int
  | _, _, [] => (0, 0, 31)
  | k, v, c :: r =>
    if k = 9 ∧ 1 < c.toNat then (0, 0, 30)
    else if c.toNat < 128 then (if c.toNat = 0 ∧ 0 < k then (0, 0, 32) else (v + c.toNat % 128 * 2 ^ (7 * k), ((a + k + 1 : Nat) : Int), 0))
    else scanV a (k + 1) (v + c.toNat % 128 * 2 ^ (7 * k)) r
def varR (b : List UInt8) (at_ : Int) : Nat × Int × Int :=
  if at_ < 0 ∨ (b.length : Int) < at_ then (0, 0, 13) else scanV at_.toNat 0 0 (b.drop at_.toNat)

theorem drop_cons (l : List UInt8) (i : Nat) (h : i < l.length) : l.drop i = l.getD i 0 :: l.drop (i + 1) := by
  rw [List.drop_eq_getElem_cons h]
  simp [List.getD, h]

theorem var_bound (k v c : Nat) (hk : k ≤ 9) (hv : v < 2 ^ (7 * k)) (hc : c < 128) (h9 : k = 9 → c ≤ 1) :
    c * 2 ^ (7 * k) < 18446744073709551616 ∧ v + c * 2 ^ (7 * k) < 18446744073709551616 ∧ (k < 9 → v + c * 2 ^ (7 * k) < 2 ^ (7 * (k + 1))) := by
  have h1 : c * 2 ^ (7 * k) ≤ 127 * 2 ^ (7 * k) := Nat.mul_le_mul_right _ (by omega)
  have e : (2 : Nat) ^ (7 * (k + 1)) = 128 * 2 ^ (7 * k) := by rw [show 7 * (k + 1) = 7 * k + 7 by omega, Nat.pow_add]; omega
  by_cases h : k = 9
  · subst h
    have h3 : c * 2 ^ 63 ≤ 1 * 2 ^ 63 := Nat.mul_le_mul_right _ (h9 rfl)
    have h4 : (2 : Nat) ^ (7 * 9) = 9223372036854775808 := by decide
    have h5 : (2 : Nat) ^ 63 = 9223372036854775808 := by decide
    rw [h4] at hv ⊢
    rw [h5] at h3
    refine ⟨by omega, by omega, fun h => absurd h (by omega)⟩
  · have h2 : (2 : Nat) ^ (7 * k) ≤ 2 ^ 56 := Nat.pow_le_pow_right (by omega) (by omega)
    have h4 : (2 : Nat) ^ 56 = 72057594037927936 := by decide
    generalize 2 ^ (7 * k) = t at *
    rw [h4] at h2
    refine ⟨by omega, by omega, fun _ => by omega⟩

theorem div_bound (j v : Nat) (hj : j < 9) (h : v < 2 ^ (64 - 7 * j)) : v / 128 < 2 ^ (64 - 7 * (j + 1)) := by
  have e : (2 : Nat) ^ (64 - 7 * j) = 2 ^ (64 - 7 * (j + 1)) * 128 := by
    rw [show 64 - 7 * j = (64 - 7 * (j + 1)) + 7 by omega, Nat.pow_add]
  rw [e] at h
  exact (Nat.div_lt_iff_lt_mul (by omega)).2 h
theorem low_at_9 (v : Nat) (h : v < 2 ^ (64 - 7 * 9)) : v < 128 := by
  have : (2 : Nat) ^ (64 - 7 * 9) = 2 := by decide
  omega
end Go.Proofs.YtihgjihdmlomaaaDoor

namespace Go.Proofs.YtihgjihdmlomaaaDoor
open Go.RowKit
set_option linter.unusedVariables false

theorem u8info' : (Tryd.prog.info? 5).map (fun i => (i.zero, i.size, i.bytes)) = some (some (.int .u8 0), 1, 1) := by kernel_rfl
theorem or128 (v : Nat) : bits .or .u8 ((v : Int) % 256) 128 = ((v % 128 + 128 : Nat) : Int) := by
  have h := u8_or_nat (v % 256) 128 (by omega) (by decide)
  rw [show ((v % 256 : Nat) : Int) = (v : Int) % 256 by omega] at h
  rw [show ((128 : Nat) : Int) = 128 by rfl] at h
  rw [h]
  have e : v % 256 ||| 128 = v % 128 + 128 := by
    rw [show v % 256 = v % 256 / 128 * 128 + v % 128 by omega]
    rcases (show v % 256 / 128 = 0 ∨ v % 256 / 128 = 1 by omega) with hq | hq
    · rw [hq, Nat.or_comm, nat_join 7 128 (0 * 128 + v % 128) (by decide) (by omega)]; omega
    · rw [hq, ← nat_join 7 (1 * 128) (v % 128) (by decide) (by omega), Nat.or_assoc, Nat.or_comm (v % 128) 128, ← Nat.or_assoc]
      rw [show (1 * 128 ||| 128 : Nat) = 128 by decide, nat_join 7 128 (v % 128) (by decide) (by omega)]; omega
  rw [e]
theorem u8ofNat_toNat (v : Nat) (h : v < 256) : ((UInt8.ofNat v).toNat : Int) = (v : Int) := by simp; omega

/-- The bytes that are written so far, and what is still to come. -/
def PutVarMid (v : Nat) (w0 : World) (b x : Value) (wr : World) : Prop :=
  ∃ (j cur : Nat) (l : List UInt8), j ≤ 9 ∧ cur < 2 ^ (64 - 7 * j) ∧ cur < 18446744073709551616 ∧ x = .int .u64 (cur : Nat) ∧ l.length = j ∧ l ++ varF (9 - j) cur = varB v ∧ wr.ownsRow w0.heap.size 5 1 b j (l.map by8) ∧ Below w0.heap.size w0 wr

theorem pv_done {v j cur : Nat} {l : List UInt8} (h : l ++ varF (9 - j) cur = varB v) (hc : cur < 128) : l ++ [UInt8.ofNat cur] = varB v := by
  rw [← h, varF_low _ _ hc]
theorem pv_next {v j cur : Nat} {l : List UInt8} (h : l ++ varF (9 - j) cur = varB v) (hj : j < 9) (hc : ¬ cur < 128) : (l ++ [UInt8.ofNat (cur % 128 + 128)]) ++ varF (9 - (j + 1)) (cur / 128) = varB v := by
  rw [← h, show 9 - j = (9 - (j + 1)) + 1 by omega, varF_high _ _ hc]
  simp

set_option maxRecDepth 100000 in
set_option maxHeartbeats 4000000 in
theorem PutVar_calls (v : Nat) (hv : v < 18446744073709551616) (w : World) :
    Calls Tryd.prog 82 #[.int .u64 v] w fun e w' => e = .returned (.string ⟨(varB v).toArray⟩) ∧ Below w.heap.size w w' := by
  obtain ⟨i0, hi, hz0, hz1, hz2⟩ := info_parts u8info'
  go_enter Tryd.func82, Tryd.ntmps82
  go_wp2
  go_loopw [3, 0] (fun b x wr => PutVarMid v w b x wr) (fun _ x _ => (intOf x).toNat)
  case atStart => exact ⟨0, v, [], by omega, by simpa using hv, hv, rfl, rfl, rfl, World.ownsRow_nil _ _ _ _, Below.refl _ _⟩
  case round =>
    obtain ⟨j, cur, l, hj, hcb, hc64, rfl, hl, hall, hown, hbl⟩ := hrel
    have HL := Lib.hid hl
    clear hl
    by_cases hlow : cur < 128
    · have HD := Lib.hid (pv_done hall hlow)
      clear hall hcb
      go_wp2_with (first
        | (at_builtin; refine wpList_append_own _ rfl _ _ 53 rfl w.heap.size 5 i0 (.int .u8 0) 1 1 Tryd.underlying53 hi hz0 hz1 hz2 rfl (by decide) _ _ _ rfl (hown.alloc _) ⟨wr.heap.size, 0, none⟩ 1 1 [.int .u8 (cur : Nat)] rfl rfl ?c1 ?c2 ?c3 ?c4 ?c5 ?_)
        | go_in)
      case c1 => exact cell_one_new _ _ _
      case c2 => intro u hu; simp at hu; subst hu; rfl
      case c3 => unfold maxLen; omega
      case c4 => omega
      case c5 => have := hbl.size; simp; omega
      · intro v' w1 hown' hgrow _
        have hb1 : Below w.heap.size w w1 := (hbl.alloc hbl.size _).grown hgrow (by have := hbl.size; simp; omega) (fun k hk => (hown.lt k (by simpa using hk)).1)
        have hl' : l.map by8 ++ [Value.int .u8 (cur : Nat)] = (varB v).map by8 := by
          rw [← HD.out, List.map_append]; simp only [List.map_cons, List.map_nil, by8]; rw [u8ofNat_toNat _ (by omega)]
        rw [hl'] at hown'
        have hs := own_toStr (P := Tryd.prog) 53 9 5 Tryd.underlying53 Tryd.underlying5 Tryd.underlying9 hown'
        clear hown hgrow hl' HD hown'
        go_wp2
        go_ret
        exact ⟨rfl, hb1⟩
    · have hj9 : j < 9 := by
        rcases Nat.lt_or_ge j 9 with h | h
        · exact h
        · obtain rfl : j = 9 := by omega
          exact absurd (low_at_9 cur hcb) hlow
      have HN := Lib.hid (pv_next hall hj9 hlow)
      have HB := Lib.hid (div_bound j cur hj9 hcb)
      have ho := or128 cur
      clear hall hcb
      go_wp2_with (first
        | (at_builtin; refine wpList_append_own _ rfl _ _ 53 rfl w.heap.size 5 i0 (.int .u8 0) 1 1 Tryd.underlying53 hi hz0 hz1 hz2 rfl (by decide) _ _ _ rfl (hown.alloc _) ⟨wr.heap.size, 0, none⟩ 1 1 [.int .u8 ((cur % 128 + 128 : Nat) : Int)] rfl rfl ?d1 ?d2 ?d3 ?d4 ?d5 ?_)
        | go_in)
      case d1 => exact cell_one_new _ _ _
      case d2 => intro u hu; simp at hu; subst hu; rfl
      case d3 => unfold maxLen; omega
      case d4 => omega
      case d5 => have := hbl.size; simp; omega
      · intro v' w1 hown' hgrow _
        have hb1 : Below w.heap.size w w1 := (hbl.alloc hbl.size _).grown hgrow (by have := hbl.size; simp; omega) (fun k hk => (hown.lt k (by simpa using hk)).1)
        have hl' : l.map by8 ++ [Value.int .u8 ((cur : Int) % 128 + 128)] = (l ++ [UInt8.ofNat (cur % 128 + 128)]).map by8 := by
          rw [List.map_append]; simp only [List.map_cons, List.map_nil, by8]; rw [u8ofNat_toNat _ (by omega), show ((cur % 128 + 128 : Nat) : Int) = (cur : Int) % 128 + 128 by omega]
        rw [hl'] at hown'
        clear hown hgrow hl' ho
        go_wp2
        go_roundw
        case rel => exact ⟨j + 1, cur / 128, _, by omega, HB.out, by omega, by go_num, by simp [HL.out], HN.out, hown', hb1⟩
        case measure => simp [intOf]; omega

set_option maxRecDepth 100000 in
set_option maxHeartbeats 4000000 in
theorem RefPutVar_calls (v : Nat) (hv : v < 18446744073709551616) (w : World) :
    Calls Tryd.prog 66 #[.int .u64 v] w fun e w' => e = .returned (.string ⟨(varB v).toArray⟩) ∧ Below w.heap.size w w' := by
  obtain ⟨i0, hi, hz0, hz1, hz2⟩ := info_parts u8info'
  go_enter Tryd.func66, Tryd.ntmps66
  go_wp2
  go_loopw [3, 0] (fun b x wr => PutVarMid v w b x wr) (fun _ x _ => (intOf x).toNat)
  case atStart => exact ⟨0, v, [], by omega, by simpa using hv, hv, rfl, rfl, rfl, World.ownsRow_nil _ _ _ _, Below.refl _ _⟩
  case round =>
    obtain ⟨j, cur, l, hj, hcb, hc64, rfl, hl, hall, hown, hbl⟩ := hrel
    have HL := Lib.hid hl
    clear hl
    by_cases hlow : cur < 128
    · have HD := Lib.hid (pv_done hall hlow)
      clear hall hcb
      go_wp2_with (first
        | (at_builtin; refine wpList_append_own _ rfl _ _ 53 rfl w.heap.size 5 i0 (.int .u8 0) 1 1 Tryd.underlying53 hi hz0 hz1 hz2 rfl (by decide) _ _ _ rfl (hown.alloc _) ⟨wr.heap.size, 0, none⟩ 1 1 [.int .u8 (cur : Nat)] rfl rfl ?c1 ?c2 ?c3 ?c4 ?c5 ?_)
        | go_in)
      case c1 => exact cell_one_new _ _ _
      case c2 => intro u hu; simp at hu; subst hu; rfl
      case c3 => unfold maxLen; omega
      case c4 => omega
      case c5 => have := hbl.size; simp; omega
      · intro v' w1 hown' hgrow _
        have hb1 : Below w.heap.size w w1 := (hbl.alloc hbl.size _).grown hgrow (by have := hbl.size; simp; omega) (fun k hk => (hown.lt k (by simpa using hk)).1)
        have hl' : l.map by8 ++ [Value.int .u8 (cur : Nat)] = (varB v).map by8 := by
          rw [← HD.out, List.map_append]; simp only [List.map_cons, List.map_nil, by8]; rw [u8ofNat_toNat _ (by omega)]
        rw [hl'] at hown'
        have hs := own_toStr (P := Tryd.prog) 53 9 5 Tryd.underlying53 Tryd.underlying5 Tryd.underlying9 hown'
        clear hown hgrow hl' HD hown'
        go_wp2
        go_ret
        exact ⟨rfl, hb1⟩
    · have hj9 : j < 9 := by
        rcases Nat.lt_or_ge j 9 with h | h
        · exact h
        · obtain rfl : j = 9 := by omega
          exact absurd (low_at_9 cur hcb) hlow
      have HN := Lib.hid (pv_next hall hj9 hlow)
      have HB := Lib.hid (div_bound j cur hj9 hcb)
      clear hall hcb
      go_wp2_with (first
        | (at_builtin; refine wpList_append_own _ rfl _ _ 53 rfl w.heap.size 5 i0 (.int .u8 0) 1 1 Tryd.underlying53 hi hz0 hz1 hz2 rfl (by decide) _ _ _ rfl (hown.alloc _) ⟨wr.heap.size, 0, none⟩ 1 1 [.int .u8 (128 + (cur : Int) % 128)] rfl rfl ?d1 ?d2 ?d3 ?d4 ?d5 ?_)
        | go_in)
      case d1 => exact cell_one_new _ _ _
      case d2 => intro u hu; simp at hu; subst hu; rfl
      case d3 => unfold maxLen; omega
      case d4 => omega
      case d5 => have := hbl.size; simp; omega
      · intro v' w1 hown' hgrow _
        have hb1 : Below w.heap.size w w1 := (hbl.alloc hbl.size _).grown hgrow (by have := hbl.size; simp; omega) (fun k hk => (hown.lt k (by simpa using hk)).1)
        have hl' : l.map by8 ++ [Value.int .u8 (128 + (cur : Int) % 128)] = (l ++ [UInt8.ofNat (cur % 128 + 128)]).map by8 := by
          rw [List.map_append]; simp only [List.map_cons, List.map_nil, by8]; rw [u8ofNat_toNat _ (by omega), show ((cur % 128 + 128 : Nat) : Int) = 128 + (cur : Int) % 128 by omega]
        rw [hl'] at hown'
        clear hown hgrow hl'
        go_wp2
        go_roundw
        case rel => exact ⟨j + 1, cur / 128, _, by omega, HB.out, by omega, by go_num, by simp [HL.out], HN.out, hown', hb1⟩
        case measure => simp [intOf]; omega

set_option maxRecDepth 100000 in
set_option maxHeartbeats 8000000 in
theorem Var_calls (b : ByteArray) (hb : b.size ≤ 4611686018427387904) (at_ : Int) (w : World) :
    Calls Tryd.prog 94 #[.string b, .int .i64 at_] w fun e w' => e = .returned (.tuple #[.int .u64 (varR b.data.toList at_).1, .int .i64 (varR b.data.toList at_).2.1, .int .i64 (varR b.data.toList at_).2.2]) ∧ w = w' := by
  have hlen : b.data.toList.length = b.size := by simp
  by_cases ha : at_ < 0
  · have hp : varR b.data.toList at_ = (0, 0, 13) := by unfold varR; rw [if_pos (by omega)]
    rw [hp]
    clear hp hlen
    go_enter Tryd.func94, Tryd.ntmps94
    go_wp2
    go_ret3
    exact ⟨rfl, rfl⟩
  by_cases hl : (b.size : Int) < at_
  · have hp : varR b.data.toList at_ = (0, 0, 13) := by unfold varR; rw [if_pos (by omega)]
    rw [hp]
    clear hp hlen
    go_enter Tryd.func94, Tryd.ntmps94
    go_wp2
    go_ret3
    exact ⟨rfl, rfl⟩
  obtain ⟨a, rfl⟩ := Int.eq_ofNat_of_zero_le (show 0 ≤ at_ by omega)
  have hp : varR b.data.toList a = scanV a 0 0 (b.data.toList.drop a) := by unfold varR; rw [if_neg (by omega)]; rfl
  have HLEN := Lib.hid hlen
  have HP := Lib.hid hp
  clear hlen hp
  obtain ⟨R, hR⟩ : ∃ R, varR b.data.toList a = R := ⟨_, rfl⟩
  rw [hR] at HP
  rw [hR]
  clear hR
  go_enter Tryd.func94, Tryd.ntmps94
  go_wp2
  go_loop [7, 8, 9] (fun x i _ => ∃ k v : Nat, k ≤ 9 ∧ a + k ≤ b.size ∧ v < 2 ^ (7 * k) ∧ v < 18446744073709551616 ∧ i = .int .i64 k ∧ x = .int .u64 v ∧ Hid (R = scanV a k v (b.data.toList.drop (a + k)))) (fun _ i _ => 10 - (intOf i).toNat)
  case atStart => exact ⟨0, 0, by omega, by omega, by simp, by omega, rfl, rfl, HP⟩
  case round =>
    obtain ⟨k, v, hk, hak, hvb, hv64, rfl, rfl, HR⟩ := hrel
    clear HP
    by_cases hlt : a + k < b.size
    · have hdr : R = scanV a k v (b[a + k] :: b.data.toList.drop (a + k + 1)) := by
        rw [HR.out, drop_cons _ _ (by rw [HLEN.out]; exact hlt)]
        congr 2
        simp [List.getD, hlt]; rfl
      clear HR
      simp only [scanV] at hdr
      obtain ⟨c, hcc⟩ : ∃ c, b[a + k] = c := ⟨_, rfl⟩
      have hc := c.toNat_lt
      rw [hcc] at hdr
      have hcI : ((b[a + k].toNat : Nat) : Int) = ((c.toNat : Nat) : Int) := by rw [hcc]
      clear hcc
      by_cases hkk : k = 9
      · have hk9 : ((k : Int) == 9) = true := by simp; omega
        have hk0 : (0 : Int) < (k : Int) := by omega
        by_cases hc1 : 1 < c.toNat
        · rw [if_pos ⟨hkk, hc1⟩] at hdr
          have HD := Lib.hid hdr
          have hc1' : (1 : Int) < (c.toNat : Int) := by omega
          clear hdr hc1 hkk HLEN hvb
          go_wp2
          go_ret3
          exact ⟨by rw [HD.out]; rfl, rfl⟩
        · rw [if_neg (fun h => hc1 h.2), if_pos (by omega)] at hdr
          have hc1' : (c.toNat : Int) ≤ 1 := by omega
          have hlow : (c.toNat : Int) < 128 := by omega
          obtain ⟨m, hm⟩ : ∃ m, c.toNat % 128 = m := ⟨_, rfl⟩
          rw [hm] at hdr
          have hml : m < 128 := by omega
          obtain ⟨hs1, hs2, hs3⟩ := var_bound k v m hk hvb hml (fun h => by omega)
          obtain ⟨s, hs⟩ : ∃ s, m * 2 ^ (7 * k) = s := ⟨_, rfl⟩
          rw [hs] at hdr hs1 hs2 hs3
          have hsI : (m : Int) * 2 ^ (7 * k) = (s : Int) := by rw [← hs]; simp
          have hk63 : 7 * k ≤ 63 := by omega
          have hmask : bits .and .u8 (c.toNat : Int) 127 = (m : Int) := by
            have := u8_and_nat c.toNat 127 (by omega) (by decide)
            rw [nat_mask7, hm] at this; exact this
          have hor : bits .or .u64 (v : Int) (s : Int) = ((v + s : Nat) : Int) := by
            rw [u64_or_nat v s hv64 hs1, Nat.or_comm, nat_join (7 * k) s v (by rw [← hs]; exact Nat.mul_mod_left _ _) hvb, Nat.add_comm]
          clear hs
          by_cases hz : c.toNat = 0
          · rw [if_pos ⟨hz, by omega⟩] at hdr
            have HD := Lib.hid hdr
            have hz0 : ((c.toNat : Int) == 0) = true := by simp; omega
            clear hdr hz hm hkk HLEN hvb hc1
            go_wp2
            go_ret3
            exact ⟨by rw [HD.out]; rfl, rfl⟩
          · rw [if_neg (fun h => hz h.1)] at hdr
            have HD := Lib.hid hdr
            have hz0 : ((c.toNat : Int) == 0) = false := by simp; omega
            clear hdr hz hm hkk HLEN hvb hc1
            go_wp2
            go_ret3
            exact ⟨by rw [HD.out]; go_num, rfl⟩
      · have hk9 : ((k : Int) == 9) = false := by simp; omega
        rw [if_neg (fun h => hkk h.1)] at hdr
        obtain ⟨m, hm⟩ : ∃ m, c.toNat % 128 = m := ⟨_, rfl⟩
        rw [hm] at hdr
        have hml : m < 128 := by omega
        obtain ⟨hs1, hs2, hs3⟩ := var_bound k v m hk hvb hml (fun h => by omega)
        obtain ⟨s, hs⟩ : ∃ s, m * 2 ^ (7 * k) = s := ⟨_, rfl⟩
        rw [hs] at hdr hs1 hs2 hs3
        have hsI : (m : Int) * 2 ^ (7 * k) = (s : Int) := by rw [← hs]; simp
        have hk63 : 7 * k ≤ 63 := by omega
        have hmask : bits .and .u8 (c.toNat : Int) 127 = (m : Int) := by
          have := u8_and_nat c.toNat 127 (by omega) (by decide)
          rw [nat_mask7, hm] at this; exact this
        have hor : bits .or .u64 (v : Int) (s : Int) = ((v + s : Nat) : Int) := by
          rw [u64_or_nat v s hv64 hs1, Nat.or_comm, nat_join (7 * k) s v (by rw [← hs]; exact Nat.mul_mod_left _ _) hvb, Nat.add_comm]
        clear hs
        by_cases hlow : c.toNat < 128
        · rw [if_pos hlow] at hdr
          have hlow' : (c.toNat : Int) < 128 := by omega
          by_cases hz : c.toNat = 0
          · have hz0 : ((c.toNat : Int) == 0) = true := by simp; omega
            by_cases hk0 : 0 < k
            · rw [if_pos ⟨hz, hk0⟩] at hdr
              have HD := Lib.hid hdr
              have hk0' : (0 : Int) < (k : Int) := by omega
              clear hdr hz hm hkk HLEN hvb hlow hk0
              go_wp2
              go_ret3
              exact ⟨by rw [HD.out]; rfl, rfl⟩
            · rw [if_neg (fun h => hk0 h.2)] at hdr
              have HD := Lib.hid hdr
              have hk0' : ¬ (0 : Int) < (k : Int) := by omega
              clear hdr hz hm hkk HLEN hvb hlow hk0
              go_wp2
              go_ret3
              exact ⟨by rw [HD.out]; go_num, rfl⟩
          · rw [if_neg (fun h => hz h.1)] at hdr
            have HD := Lib.hid hdr
            have hz0 : ((c.toNat : Int) == 0) = false := by simp; omega
            clear hdr hz hm hkk HLEN hvb hlow
            go_wp2
            go_ret3
            exact ⟨by rw [HD.out]; go_num, rfl⟩
        · rw [if_neg hlow] at hdr
          have HD := Lib.hid hdr
          have hlow' : ¬ (c.toNat : Int) < 128 := by omega
          have HB := Lib.hid (hs3 (by omega))
          clear hdr hm HLEN hvb hlow hs3
          go_wp2
          go_round
          case rel => exact ⟨k + 1, v + s, by omega, by omega, HB.out, hs2, by go_num, by go_num, Lib.hid (by rw [HD.out]; congr 2)⟩
          case measure => simp [intOf]; omega
    · have hdr : R = (0, 0, 31) := by
        rw [HR.out, List.drop_eq_nil_of_le (by rw [HLEN.out]; omega)]; rfl
      have HD := Lib.hid hdr
      clear hdr HR HLEN hvb
      go_wp2
      go_ret3
      exact ⟨by rw [HD.out]; rfl, rfl⟩

set_option maxRecDepth 100000 in
set_option maxHeartbeats 8000000 in
theorem RefVar_calls (b : ByteArray) (hb : b.size ≤ 4611686018427387904) (at_ : Int) (w : World) :
    Calls Tryd.prog 97 #[.string b, .int .i64 at_] w fun e w' => e = .returned (.tuple #[.int .u64 (varR b.data.toList at_).1, .int .i64 (varR b.data.toList at_).2.1, .int .i64 (varR b.data.toList at_).2.2]) ∧ w = w' := by
  have hlen : b.data.toList.length = b.size := by simp
  by_cases ha : at_ < 0
  · have hp : varR b.data.toList at_ = (0, 0, 13) := by unfold varR; rw [if_pos (by omega)]
    rw [hp]
    clear hp hlen
    go_enter Tryd.func97, Tryd.ntmps97
    go_wp2
    go_ret3
    exact ⟨rfl, rfl⟩
  by_cases hl : (b.size : Int) < at_
  · have hp : varR b.data.toList at_ = (0, 0, 13) := by unfold varR; rw [if_pos (by omega)]
    rw [hp]
    clear hp hlen
    go_enter Tryd.func97, Tryd.ntmps97
    go_wp2
    go_ret3
    exact ⟨rfl, rfl⟩
  obtain ⟨a, rfl⟩ := Int.eq_ofNat_of_zero_le (show 0 ≤ at_ by omega)
  have hp : varR b.data.toList a = scanV a 0 0 (b.data.toList.drop a) := by unfold varR; rw [if_neg (by omega)]; rfl
  have HLEN := Lib.hid hlen
  have HP := Lib.hid hp
  clear hlen hp
  obtain ⟨R, hR⟩ : ∃ R, varR b.data.toList a = R := ⟨_, rfl⟩
  rw [hR] at HP
  rw [hR]
  clear hR
  go_enter Tryd.func97, Tryd.ntmps97
  go_wp2
  go_loop [7, 8, 9] (fun x i _ => ∃ k v : Nat, k ≤ 9 ∧ a + k ≤ b.size ∧ v < 2 ^ (7 * k) ∧ v < 18446744073709551616 ∧ i = .int .i64 k ∧ x = .int .u64 v ∧ Hid (R = scanV a k v (b.data.toList.drop (a + k)))) (fun _ i _ => 10 - (intOf i).toNat)
  case atStart => exact ⟨0, 0, by omega, by omega, by simp, by omega, rfl, rfl, HP⟩
  case round =>
    obtain ⟨k, v, hk, hak, hvb, hv64, rfl, rfl, HR⟩ := hrel
    clear HP
    by_cases hlt : a + k < b.size
    · have hdr : R = scanV a k v (b[a + k] :: b.data.toList.drop (a + k + 1)) := by
        rw [HR.out, drop_cons _ _ (by rw [HLEN.out]; exact hlt)]
        congr 2
        simp [List.getD, hlt]; rfl
      clear HR
      simp only [scanV] at hdr
      obtain ⟨c, hcc⟩ : ∃ c, b[a + k] = c := ⟨_, rfl⟩
      have hc := c.toNat_lt
      rw [hcc] at hdr
      have hcI : ((b[a + k].toNat : Nat) : Int) = ((c.toNat : Nat) : Int) := by rw [hcc]
      clear hcc
      by_cases hkk : k = 9
      · have hk9 : ((k : Int) == 9) = true := by simp; omega
        have hk0 : (0 : Int) < (k : Int) := by omega
        by_cases hc1 : 1 < c.toNat
        · rw [if_pos ⟨hkk, hc1⟩] at hdr
          have HD := Lib.hid hdr
          have hc1' : (1 : Int) < (c.toNat : Int) := by omega
          clear hdr hc1 hkk HLEN hvb
          go_wp2
          go_ret3
          exact ⟨by rw [HD.out]; rfl, rfl⟩
        · rw [if_neg (fun h => hc1 h.2), if_pos (by omega)] at hdr
          have hc1' : (c.toNat : Int) ≤ 1 := by omega
          have hlow : (c.toNat : Int) < 128 := by omega
          obtain ⟨m, hm⟩ : ∃ m, c.toNat % 128 = m := ⟨_, rfl⟩
          rw [hm] at hdr
          have hml : m < 128 := by omega
          obtain ⟨hs1, hs2, hs3⟩ := var_bound k v m hk hvb hml (fun h => by omega)
          obtain ⟨s, hs⟩ : ∃ s, m * 2 ^ (7 * k) = s := ⟨_, rfl⟩
          rw [hs] at hdr hs1 hs2 hs3
          have hsI : (m : Int) * 2 ^ (7 * k) = (s : Int) := by rw [← hs]; simp
          have hk63 : 7 * k ≤ 63 := by omega
          have hmask : (c.toNat : Int) % 128 = (m : Int) := by omega
          clear hs
          by_cases hz : c.toNat = 0
          · rw [if_pos ⟨hz, by omega⟩] at hdr
            have HD := Lib.hid hdr
            have hz0 : ((c.toNat : Int) == 0) = true := by simp; omega
            clear hdr hz hm hkk HLEN hvb hc1
            go_wp2
            go_ret3
            exact ⟨by rw [HD.out]; rfl, rfl⟩
          · rw [if_neg (fun h => hz h.1)] at hdr
            have HD := Lib.hid hdr
            have hz0 : ((c.toNat : Int) == 0) = false := by simp; omega
            clear hdr hz hm hkk HLEN hvb hc1
            go_wp2
            go_ret3
            exact ⟨by rw [HD.out]; go_num, rfl⟩
      · have hk9 : ((k : Int) == 9) = false := by simp; omega
        rw [if_neg (fun h => hkk h.1)] at hdr
        obtain ⟨m, hm⟩ : ∃ m, c.toNat % 128 = m := ⟨_, rfl⟩
        rw [hm] at hdr
        have hml : m < 128 := by omega
        obtain ⟨hs1, hs2, hs3⟩ := var_bound k v m hk hvb hml (fun h => by omega)
        obtain ⟨s, hs⟩ : ∃ s, m * 2 ^ (7 * k) = s := ⟨_, rfl⟩
        rw [hs] at hdr hs1 hs2 hs3
        have hsI : (m : Int) * 2 ^ (7 * k) = (s : Int) := by rw [← hs]; simp
        have hk63 : 7 * k ≤ 63 := by omega
        have hmask : (c.toNat : Int) % 128 = (m : Int) := by omega
        clear hs
        by_cases hlow : c.toNat < 128
        · rw [if_pos hlow] at hdr
          have hlow' : (c.toNat : Int) < 128 := by omega
          by_cases hz : c.toNat = 0
          · have hz0 : ((c.toNat : Int) == 0) = true := by simp; omega
            by_cases hk0 : 0 < k
            · rw [if_pos ⟨hz, hk0⟩] at hdr
              have HD := Lib.hid hdr
              have hk0' : (0 : Int) < (k : Int) := by omega
              clear hdr hz hm hkk HLEN hvb hlow hk0
              go_wp2
              go_ret3
              exact ⟨by rw [HD.out]; rfl, rfl⟩
            · rw [if_neg (fun h => hk0 h.2)] at hdr
              have HD := Lib.hid hdr
              have hk0' : ¬ (0 : Int) < (k : Int) := by omega
              clear hdr hz hm hkk HLEN hvb hlow hk0
              go_wp2
              go_ret3
              exact ⟨by rw [HD.out]; go_num, rfl⟩
          · rw [if_neg (fun h => hz h.1)] at hdr
            have HD := Lib.hid hdr
            have hz0 : ((c.toNat : Int) == 0) = false := by simp; omega
            clear hdr hz hm hkk HLEN hvb hlow
            go_wp2
            go_ret3
            exact ⟨by rw [HD.out]; go_num, rfl⟩
        · rw [if_neg hlow] at hdr
          have HD := Lib.hid hdr
          have hlow' : ¬ (c.toNat : Int) < 128 := by omega
          have HB := Lib.hid (hs3 (by omega))
          clear hdr hm HLEN hvb hlow hs3
          go_wp2
          go_round
          case rel => exact ⟨k + 1, v + s, by omega, by omega, HB.out, hs2, by go_num, by go_num, Lib.hid (by rw [HD.out]; congr 2)⟩
          case measure => simp [intOf]; omega
    · have hdr : R = (0, 0, 31) := by
        rw [HR.out, List.drop_eq_nil_of_le (by rw [HLEN.out]; omega)]; rfl
      have HD := Lib.hid hdr
      clear hdr HR HLEN hvb
      go_wp2
      go_ret3
      exact ⟨by rw [HD.out]; rfl, rfl⟩

end Go.Proofs.YtihgjihdmlomaaaDoor

namespace Go.Proofs.YtihgjihdmlomaaaDoor

/-- The byte of v whose lowest bit is bit 8 k. -/
def byteAt (v k : Nat) : UInt8 := UInt8.ofNat (v / 2 ^ (8 * k))
/-- v in n bytes, the greatest first. -/
def fixedB (v n : Nat) : List UInt8 := (List.range n).map fun i => byteAt v (n - 1 - i)
theorem fixedB_length (v n : Nat) : (fixedB v n).length = n := by simp [fixedB]
theorem fixedB_get (v n i : Nat) (h : i < n) : (fixedB v n).getD i 0 = byteAt v (n - 1 - i) := by simp [fixedB, List.getD, h]
theorem byteAt_toNat (v k : Nat) : (byteAt v k).toNat = v / 2 ^ (8 * k) % 256 := by simp [byteAt]
theorem byteAt_int (v k : Nat) : ((byteAt v k).toNat : Int) = (v : Int) / 2 ^ (8 * k) % 256 := by rw [byteAt_toNat]; simp

/-- L as far as k, zeros behind. -/
def fill (L : List UInt8) (k : Nat) : List UInt8 := L.take k ++ List.replicate (L.length - k) 0
theorem fill_zero (L : List UInt8) : fill L 0 = List.replicate L.length 0 := by simp [fill]
theorem fill_all (L : List UInt8) : fill L L.length = L := by simp [fill]
theorem fill_length (L : List UInt8) (k : Nat) (h : k ≤ L.length) : (fill L k).length = L.length := by simp [fill]; omega
theorem fill_set (L : List UInt8) (k : Nat) (h : k < L.length) : (fill L k).set k (L.getD k 0) = fill L (k + 1) := by
  apply List.ext_getElem?
  intro i
  unfold fill
  have hd : L.getD k 0 = L[k] := by simp [List.getD, h]
  rw [hd]
  by_cases h1 : i = k
  · subst h1
    rw [List.getElem?_set_self (by simp; omega), List.getElem?_append_left (by simp; omega), List.getElem?_take]
    simp [h]
  · rw [List.getElem?_set_ne (by omega)]
    by_cases h2 : i < k
    · rw [List.getElem?_append_left (by simp; omega), List.getElem?_append_left (by simp; omega)]
      simp [h2, show i < k + 1 by omega]
    · rw [List.getElem?_append_right (by simp; omega), List.getElem?_append_right (by simp; omega)]
      simp [List.getElem?_replicate]
      have e1 : min k L.length = k := by omega
      have e2 : min (k + 1) L.length = k + 1 := by omega
      rw [e1, e2]
      by_cases h3 : i - k < L.length - k
      · rw [if_pos h3, if_pos (by omega)]
      · rw [if_neg h3, if_neg (by omega)]

/-- The number that bytes make, the greatest first, from r on. -/
def numB (r : Nat) (l : List UInt8) : Nat := l.foldl (fun r c => 256 * r + c.toNat) r
theorem numB_snoc (r : Nat) (l : List UInt8) (c : UInt8) : numB r (l ++ [c]) = 256 * numB r l + c.toNat := by simp [numB, List.foldl_append]
theorem numB_lt (l : List UInt8) : numB 0 l < 256 ^ l.length := by
  have key : ∀ (l : List UInt8) (r m : Nat), r < 256 ^ m → numB r l < 256 ^ (m + l.length) := by
    intro l
    induction l with
    | nil => intro r m h; simpa [numB] using h
    | cons c l ih =>
      intro r m h
      have hc := c.toNat_lt
      have := ih (256 * r + c.toNat) (m + 1) (by rw [Nat.pow_succ]; omega)
      rw [show m + 1 + l.length = m + (c :: l).length by simp; omega] at this
      exact this
  have := key l 0 0 (by simp)
  simpa using this
end Go.Proofs.YtihgjihdmlomaaaDoor

namespace Go.Proofs.YtihgjihdmlomaaaDoor
open Go.RowKit
set_option linter.unusedVariables false

theorem u8info : (Tryd.prog.info? 5).map (fun i => (i.zero, i.size, i.bytes)) = some (some (.int .u8 0), 1, 1) := by kernel_rfl

/-- What PutFix answers. -/
def putFix (v : Nat) (size : Int) : List UInt8 × Int :=
  if size < 1 ∨ 8 < size then ([], 13) else if size < 8 ∧ v / 2 ^ (8 * size.toNat) ≠ 0 then ([], 30) else (fixedB v size.toNat, 0)

theorem fill_all' (L : List UInt8) (k : Nat) (h : L.length = k) : fill L k = L := by subst h; exact fill_all L

set_option maxRecDepth 100000 in
set_option maxHeartbeats 2000000 in
theorem PutFix_calls (v : Nat) (hv : v < 18446744073709551616) (size : Int) (w : World) :
    Calls Tryd.prog 87 #[.int .u64 v, .int .i64 size] w fun e w' => e = .returned (.tuple #[.string ⟨(putFix v size).1.toArray⟩, .int .i64 (putFix v size).2]) ∧ Below w.heap.size w w' := by
  by_cases h1 : size < 1
  · have hp : putFix v size = ([], 13) := by unfold putFix; rw [if_pos (by omega)]
    rw [hp]
    clear hp
    go_enter Tryd.func87, Tryd.ntmps87
    go_wp2
    go_ret2
    exact ⟨rfl, Below.refl _ _⟩
  by_cases h8 : 8 < size
  · have hp : putFix v size = ([], 13) := by unfold putFix; rw [if_pos (by omega)]
    rw [hp]
    clear hp
    go_enter Tryd.func87, Tryd.ntmps87
    go_wp2
    go_ret2
    exact ⟨rfl, Below.refl _ _⟩
  obtain ⟨n, rfl⟩ := Int.eq_ofNat_of_zero_le (show 0 ≤ size by omega)
  by_cases hov : n < 8 ∧ v / 2 ^ (8 * n) ≠ 0
  · have hp : putFix v n = ([], 30) := by unfold putFix; rw [if_neg (by omega), if_pos ⟨by omega, by simpa using hov.2⟩]
    rw [hp]
    clear hp
    have hz : ((v : Int) / 2 ^ (8 * n) != 0) = true := by
      rw [bne_iff_ne]
      have e : (v : Int) / 2 ^ (8 * n) = ((v / 2 ^ (8 * n) : Nat) : Int) := by simp
      rw [e]; omega
    have hn8 : (n : Int) < 8 := by omega
    clear hov
    go_enter Tryd.func87, Tryd.ntmps87
    go_wp2
    go_ret2
    exact ⟨rfl, Below.refl _ _⟩
  · have hp : putFix v n = (fixedB v n, 0) := by
      unfold putFix
      rw [if_neg (by omega), if_neg (fun h => hov ⟨by omega, by simpa using h.2⟩)]; rfl
    rw [hp]
    clear hp
    obtain ⟨i0, hi, hz0, hz1, hz2⟩ := info_parts u8info
    have hmk := fun W : World => run_make_bytes (P := Tryd.prog) 53 5 i0 Tryd.underlying53 hi hz0 hz1 hz2 n (by omega) W
    have hlen := fixedB_length v n
    by_cases hn8 : (n : Int) < 8
    all_goals
      have hz : (n : Int) < 8 → ((v : Int) / 2 ^ (8 * n) != 0) = false := fun hn => by
        rw [bne_eq_false_iff_eq]
        have e : (v : Int) / 2 ^ (8 * n) = ((v / 2 ^ (8 * n) : Nat) : Int) := by simp
        rw [e]
        have : v / 2 ^ (8 * n) = 0 := by
          rcases Nat.eq_zero_or_pos (v / 2 ^ (8 * n)) with h | h
          · exact h
          · exact absurd ⟨by omega, by omega⟩ hov
        omega
      clear hov
      first
      | have hzz := hz hn8
        clear hz
      | clear hz
      go_enter Tryd.func87, Tryd.ntmps87
      go_wp2
      obtain ⟨W0, hW0⟩ : ∃ W0, w.alloc (.cells (madeCells #[.int .u8 0] n) 5) = W0 := ⟨_, rfl⟩
      have hB0 : Bys W0 w.heap.size 5 (fill (fixedB v n) 0) := by rw [fill_zero, hlen, ← hW0]; exact Bys.made w _ n
      have hbel : Below w.heap.size w W0 := by rw [← hW0]; exact (Below.refl _ _).alloc (Nat.le_refl _) _
      rw [hW0]
      clear hW0 hmk
      go_loopw [7, 27] (fun _ i wr => ∃ k : Nat, k ≤ n ∧ i = .int .i64 k ∧ Bys wr w.heap.size 5 (fill (fixedB v n) k) ∧ Below w.heap.size w wr) (fun _ i _ => n - (intOf i).toNat)
      case atStart => exact ⟨0, Nat.zero_le _, rfl, hB0, hbel⟩
      case round =>
        obtain ⟨k, hk, rfl, hB, hbl⟩ := hrel
        by_cases hlt : k < n
        · have HL := Lib.hid hlen
          have hset := fill_set (fixedB v n) k (by omega)
          rw [fixedB_get v n k hlt] at hset
          have hl2 := fill_length (fixedB v n) k (by omega)
          have hc := hB.cell (i := k) (by omega)
          have hf := hB.frozen (i := k) (by omega)
          have hP := hB.put k (byteAt v (n - 1 - k))
          rw [hset, byteAt_int] at hP
          clear hset hl2 hlen
          go_wp2
          go_roundw
          case rel => exact ⟨k + 1, by omega, by go_num, hP, hbl.setCell (p := ⟨w.heap.size, k, none⟩) (Nat.le_refl _) _⟩
          case measure => simp [intOf]; omega
        · obtain rfl : k = n := by omega
          have hs := hB.toStr (P := Tryd.prog) 53 9 5 Tryd.underlying53 Tryd.underlying5 Tryd.underlying9 k k (by rw [fill_length] <;> omega)
          rw [fill_all' (fixedB v k) k hlen] at hs
          clear hlen
          go_wp2
          go_ret2
          exact ⟨rfl, hbl⟩

set_option maxRecDepth 100000 in
set_option maxHeartbeats 2000000 in
theorem RefFixed_calls (v : Nat) (hv : v < 18446744073709551616) (n : Nat) (hn : n ≤ 8) (w : World) :
    Calls Tryd.prog 91 #[.int .u64 v, .int .i64 n] w fun e w' => e = .returned (.string ⟨(fixedB v n).toArray⟩) ∧ Below w.heap.size w w' := by
  obtain ⟨i0, hi, hz0, hz1, hz2⟩ := info_parts u8info
  have hlen := Lib.hid (fixedB_length v n)
  go_enter Tryd.func91, Tryd.ntmps91
  go_wp2
  go_loopw [5, 6] (fun b k wr => ∃ m : Nat, m ≤ n ∧ k = .int .i64 ((m : Int) - 1) ∧ wr.ownsRow w.heap.size 5 1 b (n - m) (((fixedB v n).take (n - m)).map by8) ∧ Below w.heap.size w wr) (fun _ k _ => (intOf k + 1).toNat)
  case atStart => exact ⟨n, Nat.le_refl _, rfl, by simpa using World.ownsRow_nil _ _ _ _, Below.refl _ _⟩
  case round =>
    obtain ⟨m, hm, rfl, hown, hbl⟩ := hrel
    rcases m with _ | t
    · have hs := own_toStr (P := Tryd.prog) 53 9 5 Tryd.underlying53 Tryd.underlying5 Tryd.underlying9 hown
      rw [List.take_of_length_le (by rw [hlen.out]; omega)] at hs
      rw [show ((0 : Nat) : Int) - 1 = -1 by omega]
      clear hown
      go_wp2
      go_ret
      exact ⟨rfl, hbl⟩
    · rw [show ((t + 1 : Nat) : Int) - 1 = (t : Int) by omega]
      have hval : by8 (byteAt v t) = .int .u8 ((v : Int) / 2 ^ (8 * t) % 256) := by unfold by8; rw [byteAt_int]
      have HV := Lib.hid hval
      clear hval
      go_wp2_with (first
        | (at_builtin; refine wpList_append_own _ rfl _ _ 53 rfl w.heap.size 5 i0 (.int .u8 0) 1 1 Tryd.underlying53 hi hz0 hz1 hz2 rfl (by decide) _ _ _ rfl (hown.alloc _) ⟨wr.heap.size, 0, none⟩ 1 1 [.int .u8 ((v : Int) / 2 ^ (8 * t) % 256)] rfl rfl ?c1 ?c2 ?c3 ?c4 ?c5 ?_)
        | go_in)
      case c1 => exact cell_one_new _ _ _
      case c2 => intro u hu; simp at hu; subst hu; rfl
      case c3 => unfold maxLen; omega
      case c4 => omega
      case c5 => have := hbl.size; simp; omega
      · intro v' w1 hown' hgrow _
        have hb1 : Below w.heap.size w w1 := (hbl.alloc hbl.size _).grown hgrow (by have := hbl.size; simp; omega) (fun k hk => (hown.lt k (by simpa using hk)).1)
        have hl : ((fixedB v n).take (n - (t + 1))).map by8 ++ [.int .u8 ((v : Int) / 2 ^ (8 * t) % 256)] = ((fixedB v n).take (n - t)).map by8 := by
          rw [show n - t = (n - (t + 1)) + 1 by omega, List.take_succ_eq_append_getElem (by rw [hlen.out]; omega), List.map_append]
          have hg := fixedB_get v n (n - (t + 1)) (by omega)
          rw [show n - 1 - (n - (t + 1)) = t by omega] at hg
          simp only [List.map_cons, List.map_nil]
          rw [← HV.out, ← hg]
          congr 2
          simp [List.getD, fixedB_length, show n - (t + 1) < n by omega]
        rw [← List.map_take, hl, show n - (t + 1) + 1 = n - t by omega] at hown'
        clear hown hgrow hl HV
        go_wp2
        go_roundw
        case rel => exact ⟨t, by omega, rfl, hown', hb1⟩
        case measure => simp [intOf]

set_option maxRecDepth 100000 in
set_option maxHeartbeats 2000000 in
theorem RefPutFix_calls (v : Nat) (hv : v < 18446744073709551616) (size : Int) (w : World) :
    Calls Tryd.prog 65 #[.int .u64 v, .int .i64 size] w fun e w' => e = .returned (.tuple #[.string ⟨(putFix v size).1.toArray⟩, .int .i64 (putFix v size).2]) ∧ Below w.heap.size w w' := by
  by_cases h1 : size < 1
  · have hp : putFix v size = ([], 13) := by unfold putFix; rw [if_pos (by omega)]
    rw [hp]
    clear hp
    go_enter Tryd.func65, Tryd.ntmps65
    go_wp2
    go_ret2
    exact ⟨rfl, Below.refl _ _⟩
  by_cases h8 : 8 < size
  · have hp : putFix v size = ([], 13) := by unfold putFix; rw [if_pos (by omega)]
    rw [hp]
    clear hp
    go_enter Tryd.func65, Tryd.ntmps65
    go_wp2
    go_ret2
    exact ⟨rfl, Below.refl _ _⟩
  obtain ⟨n, rfl⟩ := Int.eq_ofNat_of_zero_le (show 0 ≤ size by omega)
  have e : (v : Int) / 2 ^ (8 * n) = ((v / 2 ^ (8 * n) : Nat) : Int) := by simp
  by_cases hov : n < 8 ∧ v / 2 ^ (8 * n) ≠ 0
  · have hp : putFix v n = ([], 30) := by unfold putFix; rw [if_neg (by omega), if_pos ⟨by omega, by simpa using hov.2⟩]
    rw [hp]
    clear hp
    have hz : ((v : Int) / 2 ^ (8 * n) != 0) = true := by
      rw [bne_iff_ne, e]; omega
    have hn8 : (n : Int) < 8 := by omega
    clear hov e
    go_enter Tryd.func65, Tryd.ntmps65
    go_wp2
    go_ret2
    exact ⟨rfl, Below.refl _ _⟩
  · have hp : putFix v n = (fixedB v n, 0) := by
      unfold putFix
      rw [if_neg (by omega), if_neg (fun h => hov ⟨by omega, by simpa using h.2⟩)]; rfl
    rw [hp]
    clear hp
    by_cases hn8 : (n : Int) < 8
    all_goals
      have hz : (n : Int) < 8 → ((v : Int) / 2 ^ (8 * n) != 0) = false := fun hn => by
        rw [bne_eq_false_iff_eq, e]
        have : v / 2 ^ (8 * n) = 0 := by
          rcases Nat.eq_zero_or_pos (v / 2 ^ (8 * n)) with h | h
          · exact h
          · exact absurd ⟨by omega, by omega⟩ hov
        omega
      clear hov e
      first
      | have hzz := hz hn8
        clear hz
      | clear hz
      go_enter Tryd.func65, Tryd.ntmps65
      go_wp2_with fail
      refine (RefFixed_calls v hv n (by omega) w).mono ?_
      rintro e w1 ⟨rfl, hb⟩
      go_wp2
      go_ret2
      exact ⟨rfl, hb⟩

/-- What Fix answers. -/
def fixR (b : ByteArray) (at_ size : Int) : Nat × Int :=
  if size < 1 ∨ 8 < size ∨ at_ < 0 ∨ (b.size : Int) < at_ then (0, 13) else if (b.size : Int) - at_ < size then (0, 31)
  else (numB 0 ((b.data.toList.drop at_.toNat).take size.toNat), 0)

theorem or_byte (v : Nat) (c : UInt8) (h : v * 256 < 18446744073709551616) : bits .or .u64 ((v : Int) * 256) (c.toNat : Int) = ((256 * v + c.toNat : Nat) : Int) := by
  have hc := c.toNat_lt
  have e : ((v : Int) * 256) = ((v * 256 : Nat) : Int) := by omega
  rw [e, u64_or_nat _ _ h (by omega), nat_join 8 (v * 256) c.toNat (by omega) (by omega)]
  omega
theorem numB_step (b : ByteArray) (a k : Nat) (h : a + k < b.size) :
    numB 0 ((b.data.toList.drop a).take (k + 1)) = 256 * numB 0 ((b.data.toList.drop a).take k) + b[a + k].toNat := by
  rw [List.take_succ_eq_append_getElem (by simp; omega), numB_snoc]
  simp; rfl
theorem numB_bd (l : List UInt8) (k : Nat) (hk : k < 8) : numB 0 (l.take k) * 256 < 18446744073709551616 ∧ 256 * numB 0 (l.take k) + 255 < 18446744073709551616 := by
  have h := numB_lt (l.take k)
  have h2 : (l.take k).length ≤ 7 := by simp; omega
  have h3 : 256 ^ (l.take k).length ≤ 256 ^ 7 := Nat.pow_le_pow_right (by omega) h2
  have h4 : (256 : Nat) ^ 7 = 72057594037927936 := by decide
  omega

set_option maxRecDepth 100000 in
set_option maxHeartbeats 2000000 in
theorem Fix_calls (b : ByteArray) (hb : b.size ≤ 9223372036854775807) (at_ size : Int) (w : World) :
    Calls Tryd.prog 70 #[.string b, .int .i64 at_, .int .i64 size] w fun e w' => e = .returned (.tuple #[.int .u64 (fixR b at_ size).1, .int .i64 (fixR b at_ size).2]) ∧ w = w' := by
  by_cases h1 : size < 1
  · have hp : fixR b at_ size = (0, 13) := by unfold fixR; rw [if_pos (by omega)]
    rw [hp]
    clear hp
    go_enter Tryd.func70, Tryd.ntmps70
    go_wp2
    go_ret2
    exact ⟨rfl, rfl⟩
  by_cases h8 : 8 < size
  · have hp : fixR b at_ size = (0, 13) := by unfold fixR; rw [if_pos (by omega)]
    rw [hp]
    clear hp
    go_enter Tryd.func70, Tryd.ntmps70
    go_wp2
    go_ret2
    exact ⟨rfl, rfl⟩
  by_cases ha : at_ < 0
  · have hp : fixR b at_ size = (0, 13) := by unfold fixR; rw [if_pos (by omega)]
    rw [hp]
    clear hp
    go_enter Tryd.func70, Tryd.ntmps70
    go_wp2
    go_ret2
    exact ⟨rfl, rfl⟩
  by_cases hl : (b.size : Int) < at_
  · have hp : fixR b at_ size = (0, 13) := by unfold fixR; rw [if_pos (by omega)]
    rw [hp]
    clear hp
    go_enter Tryd.func70, Tryd.ntmps70
    go_wp2
    go_ret2
    exact ⟨rfl, rfl⟩
  by_cases hs : (b.size : Int) - at_ < size
  · have hp : fixR b at_ size = (0, 31) := by unfold fixR; rw [if_neg (by omega), if_pos hs]
    rw [hp]
    clear hp
    go_enter Tryd.func70, Tryd.ntmps70
    go_wp2
    go_ret2
    exact ⟨rfl, rfl⟩
  obtain ⟨n, rfl⟩ := Int.eq_ofNat_of_zero_le (show 0 ≤ size by omega)
  obtain ⟨a, rfl⟩ := Int.eq_ofNat_of_zero_le (show 0 ≤ at_ by omega)
  have hp : fixR b a n = (numB 0 ((b.data.toList.drop a).take n), 0) := by unfold fixR; rw [if_neg (by omega), if_neg hs]; rfl
  rw [hp]
  clear hp
  go_enter Tryd.func70, Tryd.ntmps70
  go_wp2
  go_loop [8, 9, 33] (fun v _ i => ∃ k : Nat, k ≤ n ∧ i = .int .i64 k ∧ v = .int .u64 (numB 0 ((b.data.toList.drop a).take k) : Nat)) (fun _ _ i => n - (intOf i).toNat)
  case atStart => exact ⟨0, Nat.zero_le _, rfl, rfl⟩
  case round =>
    obtain ⟨k, hk, rfl, hv⟩ := hrel
    by_cases hlt : k < n
    · have HS := Lib.hid (numB_step b a k (by omega))
      have hbd := numB_bd (b.data.toList.drop a) k (by omega)
      obtain ⟨v, hvv⟩ : ∃ v, numB 0 ((b.data.toList.drop a).take k) = v := ⟨_, rfl⟩
      rw [hvv] at hv hbd HS
      subst hv
      clear hvv
      have hidx : a + k < b.size := by omega
      have ho := or_byte v b[a + k] hbd.1
      have hc := b[a + k].toNat_lt
      go_wp2
      go_round
      case rel => exact ⟨k + 1, by omega, by go_num, by rw [HS.out]; go_num⟩
      case measure => simp [intOf]; omega
    · obtain rfl : k = n := by omega
      subst hv
      go_wp2
      go_ret2
      exact ⟨rfl, rfl⟩

set_option maxRecDepth 100000 in
set_option maxHeartbeats 2000000 in
theorem RefNumber_calls (b : ByteArray) (hb : b.size ≤ 9223372036854775807) (a n : Nat) (hn : n ≤ 8) (h : a + n ≤ b.size) (w : World) :
    Calls Tryd.prog 103 #[.string b, .int .i64 a, .int .i64 n] w fun e w' => e = .returned (.int .u64 (numB 0 ((b.data.toList.drop a).take n) : Nat)) ∧ w = w' := by
  go_enter Tryd.func103, Tryd.ntmps103
  go_wp2
  go_loop [7, 8] (fun v i => ∃ k : Nat, k ≤ n ∧ i = .int .i64 k ∧ v = .int .u64 (numB 0 ((b.data.toList.drop a).take k) : Nat)) (fun _ i => n - (intOf i).toNat)
  case atStart => exact ⟨0, Nat.zero_le _, rfl, rfl⟩
  case round =>
    obtain ⟨k, hk, rfl, hv⟩ := hrel
    by_cases hlt : k < n
    · have HS := Lib.hid (numB_step b a k (by omega))
      have hbd := numB_bd (b.data.toList.drop a) k (by omega)
      obtain ⟨v, hvv⟩ : ∃ v, numB 0 ((b.data.toList.drop a).take k) = v := ⟨_, rfl⟩
      rw [hvv] at hv hbd HS
      subst hv
      clear hvv
      have hidx : a + k < b.size := by omega
      have hc := b[a + k].toNat_lt
      obtain ⟨hbd1, hbd2⟩ := hbd
      go_wp2
      go_round
      case rel => exact ⟨k + 1, by omega, by go_num, by rw [HS.out]; go_num⟩
      case measure => simp [intOf]; omega
    · obtain rfl : k = n := by omega
      subst hv
      go_wp2
      go_ret
      exact ⟨rfl, rfl⟩

set_option maxRecDepth 100000 in
set_option maxHeartbeats 2000000 in
theorem RefFix_calls (b : ByteArray) (hb : b.size ≤ 9223372036854775807) (at_ size : Int) (w : World) :
    Calls Tryd.prog 98 #[.string b, .int .i64 at_, .int .i64 size] w fun e w' => e = .returned (.tuple #[.int .u64 (fixR b at_ size).1, .int .i64 (fixR b at_ size).2]) ∧ w = w' := by
  by_cases h1 : size < 1
  · have hp : fixR b at_ size = (0, 13) := by unfold fixR; rw [if_pos (by omega)]
    rw [hp]
    clear hp
    go_enter Tryd.func98, Tryd.ntmps98
    go_wp2
    go_ret2
    exact ⟨rfl, rfl⟩
  by_cases h8 : 8 < size
  · have hp : fixR b at_ size = (0, 13) := by unfold fixR; rw [if_pos (by omega)]
    rw [hp]
    clear hp
    go_enter Tryd.func98, Tryd.ntmps98
    go_wp2
    go_ret2
    exact ⟨rfl, rfl⟩
  by_cases ha : at_ < 0
  · have hp : fixR b at_ size = (0, 13) := by unfold fixR; rw [if_pos (by omega)]
    rw [hp]
    clear hp
    go_enter Tryd.func98, Tryd.ntmps98
    go_wp2
    go_ret2
    exact ⟨rfl, rfl⟩
  by_cases hl : (b.size : Int) < at_
  · have hp : fixR b at_ size = (0, 13) := by unfold fixR; rw [if_pos (by omega)]
    rw [hp]
    clear hp
    go_enter Tryd.func98, Tryd.ntmps98
    go_wp2
    go_ret2
    exact ⟨rfl, rfl⟩
  by_cases hs : (b.size : Int) - at_ < size
  · have hp : fixR b at_ size = (0, 31) := by unfold fixR; rw [if_neg (by omega), if_pos hs]
    rw [hp]
    clear hp
    go_enter Tryd.func98, Tryd.ntmps98
    go_wp2
    go_ret2
    exact ⟨rfl, rfl⟩
  obtain ⟨n, rfl⟩ := Int.eq_ofNat_of_zero_le (show 0 ≤ size by omega)
  obtain ⟨a, rfl⟩ := Int.eq_ofNat_of_zero_le (show 0 ≤ at_ by omega)
  have hp : fixR b a n = (numB 0 ((b.data.toList.drop a).take n), 0) := by unfold fixR; rw [if_neg (by omega), if_neg hs]; rfl
  rw [hp]
  clear hp
  go_enter Tryd.func98, Tryd.ntmps98
  go_wp2_with fail
  refine (RefNumber_calls b hb a n (by omega) (by omega) w).mono ?_
  rintro e w1 ⟨rfl, rfl⟩
  go_wp2
  go_ret2
  exact ⟨rfl, rfl⟩

end Go.Proofs.YtihgjihdmlomaaaDoor

namespace Go.Proofs.YtihgjihdmlomaaaDoor.Crc

def P : Nat := 2197175160
def M : Nat := 4294967295
/-- One bit of the register. -/
def rb (x : Nat) : Nat := (x / 2) ^^^ (if x % 2 = 1 then P else 0)
def T : List Nat := [0, 274646895, 549293790, 820201905, 1098587580, 1361435347, 1640403810, 1905808397, 2197175160, 2460548119, 2722870694, 2987750089, 3280807620, 3553878443, 3811616794, 4084100981]
def half (v : Nat) : Nat := (v / 16) ^^^ T.getD (v % 16) 0
def rb4 (x : Nat) : Nat := rb (rb (rb (rb x)))
def rb8 (x : Nat) : Nat := rb4 (rb4 x)
def crc (r : Nat) (l : List UInt8) : Nat := l.foldl (fun r c => rb8 (r ^^^ c.toNat)) r
/-- The sum of a text that goes on from s. -/
def on (s : Nat) (l : List UInt8) : Nat := crc (s ^^^ M) l ^^^ M

theorem xor_mod_two (a b : Nat) : (a ^^^ b) % 2 = (a % 2 + b % 2) % 2 := by
  have h := Nat.testBit_xor a b 0
  simp only [Nat.testBit_zero] at h
  rcases Nat.mod_two_eq_zero_or_one a with ha | ha <;> rcases Nat.mod_two_eq_zero_or_one b with hb | hb <;> rcases Nat.mod_two_eq_zero_or_one (a ^^^ b) with hc | hc <;> simp [ha, hb, hc] at h ⊢

theorem xor_left_comm (a b c : Nat) : a ^^^ (b ^^^ c) = b ^^^ (a ^^^ c) := by rw [← Nat.xor_assoc, Nat.xor_comm a b, Nat.xor_assoc]
theorem xor_self_left (a b : Nat) : a ^^^ (a ^^^ b) = b := by rw [← Nat.xor_assoc, Nat.xor_self, Nat.zero_xor]

theorem rb_xor (a b : Nat) : rb (a ^^^ b) = rb a ^^^ rb b := by
  unfold rb
  rw [Nat.xor_div_two, xor_mod_two]
  rcases Nat.mod_two_eq_zero_or_one a with ha | ha <;> rcases Nat.mod_two_eq_zero_or_one b with hb | hb <;> simp [ha, hb, Nat.xor_assoc]
  · rw [Nat.xor_comm (b / 2) P]
  · rw [xor_left_comm P, Nat.xor_self, Nat.xor_zero]

theorem rb_even (x : Nat) : rb (2 * x) = x := by
  unfold rb
  have h : 2 * x % 2 = 0 := by omega
  have h2 : 2 * x / 2 = x := by omega
  simp [h, h2]

theorem rb4_xor (a b : Nat) : rb4 (a ^^^ b) = rb4 a ^^^ rb4 b := by simp only [rb4, rb_xor]
theorem rb8_xor (a b : Nat) : rb8 (a ^^^ b) = rb8 a ^^^ rb8 b := by simp only [rb8, rb4_xor]
theorem rb_zero : rb 0 = 0 := by decide
theorem rb8_zero : rb8 0 = 0 := by decide

theorem rb4_times (q : Nat) : rb4 (16 * q) = q := by
  unfold rb4
  rw [show 16 * q = 2 * (2 * (2 * (2 * q))) by omega, rb_even, rb_even, rb_even, rb_even]

theorem rb4_low (d : Nat) (h : d < 16) : rb4 d = T.getD d 0 := by
  have : ∀ i : Fin 16, rb4 i.val = T.getD i.val 0 := by decide +kernel
  exact this ⟨d, h⟩

theorem split16 (v : Nat) : v = (16 * (v / 16)) ^^^ (v % 16) := by
  have h : v = 2 ^ 4 * (v / 16) + v % 16 := by omega
  have h2 := Nat.two_pow_add_eq_or_of_lt (i := 4) (b := v % 16) (by omega) (v / 16)
  apply Nat.eq_of_testBit_eq
  intro i
  rw [Nat.testBit_xor]
  conv => lhs; rw [h, h2]
  rw [Nat.testBit_or]
  by_cases hi : i < 4
  · have : (2 ^ 4 * (v / 16)).testBit i = false := by
      rw [Nat.testBit_two_pow_mul]; simp; omega
    rw [show 16 * (v / 16) = 2 ^ 4 * (v / 16) by omega, this]; simp
  · have : (v % 16).testBit i = false := by
      apply Nat.testBit_lt_two_pow
      calc v % 16 < 2 ^ 4 := by omega
        _ ≤ 2 ^ i := Nat.pow_le_pow_right (by omega) (by omega)
    rw [this]; simp

theorem half_eq (v : Nat) : half v = rb4 v := by
  conv => rhs; rw [split16 v]
  rw [rb4_xor, rb4_times, rb4_low _ (by omega)]; rfl

theorem half_half (v : Nat) : half (half v) = rb8 v := by rw [half_eq, half_eq]; rfl

theorem rb_lt (x : Nat) (h : x < 4294967296) : rb x < 4294967296 := by
  unfold rb
  have : (if x % 2 = 1 then P else 0) < 2 ^ 32 := by split <;> decide
  exact Nat.xor_lt_two_pow (n := 32) (by omega) this
theorem rb4_lt (x : Nat) (h : x < 4294967296) : rb4 x < 4294967296 := rb_lt _ (rb_lt _ (rb_lt _ (rb_lt _ h)))
theorem rb8_lt (x : Nat) (h : x < 4294967296) : rb8 x < 4294967296 := rb4_lt _ (rb4_lt _ h)
theorem half_lt (x : Nat) (h : x < 4294967296) : half x < 4294967296 := by rw [half_eq]; exact rb4_lt x h
theorem xor_lt (a b : Nat) (ha : a < 4294967296) (hb : b < 4294967296) : a ^^^ b < 4294967296 := Nat.xor_lt_two_pow (n := 32) ha hb
theorem T_lt (d : Nat) (h : d < 16) : T.getD d 0 < 4294967296 := by rw [← rb4_low d h]; exact rb4_lt d (by omega)
theorem crc_lt (l : List UInt8) : ∀ r, r < 4294967296 → crc r l < 4294967296 := by
  induction l with
  | nil => exact fun r h => h
  | cons c l ih =>
    intro r h
    have hc := c.toNat_lt
    exact ih _ (rb8_lt _ (xor_lt _ _ h (by omega)))
theorem on_lt (s : Nat) (l : List UInt8) (h : s < 4294967296) : on s l < 4294967296 := xor_lt _ _ (crc_lt l _ (xor_lt _ _ h (by decide))) (by decide)

theorem crc_append (r : Nat) (a b : List UInt8) : crc r (a ++ b) = crc (crc r a) b := by simp [crc, List.foldl_append]
theorem crc_snoc (r : Nat) (a : List UInt8) (c : UInt8) : crc r (a ++ [c]) = rb8 (crc r a ^^^ c.toNat) := by simp [crc, List.foldl_append]
theorem xor_cancel (a b : Nat) : (a ^^^ b) ^^^ b = a := by rw [Nat.xor_assoc, Nat.xor_self, Nat.xor_zero]
theorem on_on (s : Nat) (a b : List UInt8) : on (on s a) b = on s (a ++ b) := by
  unfold on; rw [xor_cancel, crc_append]

/-- Turning all 32 bits. -/
theorem xor_M (a : Nat) (h : a < 4294967296) : a ^^^ M = 4294967295 - a := by
  have := Nat.xor_lt_two_pow (n := 32) h (show M < 2 ^ 32 by decide)
  have h2 : BitVec.ofNat 32 a ^^^ BitVec.allOnes 32 = ~~~ BitVec.ofNat 32 a := BitVec.xor_allOnes
  have h3 := congrArg BitVec.toNat h2
  simp only [BitVec.toNat_xor, BitVec.toNat_not, BitVec.toNat_ofNat, BitVec.toNat_allOnes] at h3
  rw [Nat.mod_eq_of_lt h] at h3
  exact h3
end Go.Proofs.YtihgjihdmlomaaaDoor.Crc

namespace Go.Proofs.YtihgjihdmlomaaaDoor
open Go.RowKit

/-- The sixteen cells of the table. -/
def Tab (w : World) : Prop := ∀ i : Nat, i < 16 → w.cell? ⟨1, i, none⟩ = some (.int .u32 (Crc.T.getD i 0 : Nat))

theorem take_snoc (s : ByteArray) (k : Nat) (h : k < s.size) : s.data.toList.take (k + 1) = s.data.toList.take k ++ [s[k]] := by
  rw [List.take_succ_eq_append_getElem (by simpa using h)]; rfl

theorem crc_step (s : ByteArray) (r k : Nat) (h : k < s.size) : Crc.crc r (s.data.toList.take (k + 1)) = Crc.rb8 (Crc.crc r (s.data.toList.take k) ^^^ s[k].toNat) := by
  rw [take_snoc s k h, Crc.crc_snoc]

theorem lt_of_cell {w : World} {a : Addr} {v : Value} (h : w.cell? a = some v) : a.block < w.heap.size := by
  rcases Nat.lt_or_ge a.block w.heap.size with hlt | hge
  · exact hlt
  · simp [World.cell?, Array.getElem?_eq_none hge] at h
theorem Tab.below {w w' : World} (h : Tab w) (hb : Below w.heap.size w w') : Tab w' := fun i hi => (hb.cell (p := ⟨1, i, none⟩) (lt_of_cell (h i hi))).trans (h i hi)
theorem Tab.alloc {w : World} (h : Tab w) (o : Obj) : Tab (w.alloc o) := h.below ((Below.refl _ _).alloc (Nat.le_refl _) _)

theorem and15 (x : Nat) (h : x < 4294967296) : bits .and .u32 (x : Int) 15 = ((x % 16 : Nat) : Int) := by
  have := u32_and_nat x 15 h (by decide)
  rw [nat_mask4] at this; exact this
theorem xor32 (x y : Nat) (h : x < 4294967296) (h2 : y < 4294967296) : bits .xor .u32 (x : Int) (y : Int) = ((x ^^^ y : Nat) : Int) := u32_xor_nat x y h h2

set_option maxHeartbeats 1000000 in
theorem On_calls (s : Nat) (hs : s < 4294967296) (b : ByteArray) (hb : b.size ≤ 9223372036854775807) (w : World) (hT : Tab w) :
    Calls Tryd.prog 101 #[.int .u32 s, .string b] w fun e w' => e = .returned (.int .u32 (Crc.on s b.data.toList : Nat)) ∧ w = w' := by
  have hM : bits .xor .u32 IntKind.u32.max (s : Int) = ((4294967295 ^^^ s : Nat) : Int) := xor32 4294967295 s (by decide) hs
  obtain ⟨r, hr⟩ : ∃ r, 4294967295 ^^^ s = r := ⟨_, rfl⟩
  have hrl : r < 4294967296 := by rw [← hr]; exact Crc.xor_lt _ _ (by decide) hs
  have HR := Lib.hid hr
  rw [hr] at hM
  clear hr
  go_enter Tryd.func101, Tryd.ntmps101
  go_wp2
  go_loop [5, 6, 11] (fun v u i => ∃ k : Nat, k ≤ b.size ∧ i = .int .i64 k ∧ v = .int .u32 (Crc.crc r (b.data.toList.take k) : Nat)) (fun _ _ i => b.size - (intOf i).toNat)
  case atStart => exact ⟨0, Nat.zero_le _, rfl, rfl⟩
  case round =>
    obtain ⟨k, hk, rfl, hv⟩ := hrel
    have hvl := Crc.crc_lt (b.data.toList.take k) r hrl
    by_cases hlt : k < b.size
    · have HS := Lib.hid (crc_step b r k hlt)
      obtain ⟨v, hvv⟩ : ∃ v, Crc.crc r (b.data.toList.take k) = v := ⟨_, rfl⟩
      rw [hvv] at hv hvl HS
      subst hv
      clear hvv
      have hc := b[k].toNat_lt
      have e1 := xor32 v b[k].toNat hvl (by omega)
      obtain ⟨x, hx⟩ : ∃ x, v ^^^ b[k].toNat = x := ⟨_, rfl⟩
      have hxl : x < 4294967296 := by rw [← hx]; exact Crc.xor_lt _ _ hvl (by omega)
      rw [hx] at e1 HS
      clear hx
      have e2 := and15 x hxl
      have c1 := hT (x % 16) (by omega)
      have e3 : bits .xor .u32 ((x : Int) / 16) (Crc.T.getD (x % 16) 0 : Nat) = _ := xor32 (x / 16) (Crc.T.getD (x % 16) 0) (by omega) (Crc.T_lt _ (by omega))
      obtain ⟨y, hy⟩ : ∃ y, (x / 16) ^^^ (Crc.T.getD (x % 16) 0) = y := ⟨_, rfl⟩
      have hyl : y < 4294967296 := by rw [← hy]; exact Crc.half_lt x hxl
      have HY := Lib.hid hy
      rw [hy] at e3
      clear hy
      have e4 := and15 y hyl
      have c2 := hT (y % 16) (by omega)
      have e5 : bits .xor .u32 ((y : Int) / 16) (Crc.T.getD (y % 16) 0 : Nat) = _ := xor32 (y / 16) (Crc.T.getD (y % 16) 0) (by omega) (Crc.T_lt _ (by omega))
      have HZ : Hid ((y / 16) ^^^ (Crc.T.getD (y % 16) 0) = Crc.rb8 x) := Lib.hid (by rw [← Crc.half_half, show Crc.half x = y from HY.out]; rfl)
      obtain ⟨t1, ht1⟩ : ∃ t, Crc.T.getD (x % 16) 0 = t := ⟨_, rfl⟩
      obtain ⟨t2, ht2⟩ : ∃ t, Crc.T.getD (y % 16) 0 = t := ⟨_, rfl⟩
      rw [ht1] at c1 e3
      rw [ht2] at c2 e5 HZ
      clear ht1 ht2 hT HY
      go_wp2
      go_round
      case rel => exact ⟨k + 1, by omega, by go_num, by rw [HS.out, HZ.out]⟩
      case measure => simp [intOf]; omega
    · obtain rfl : k = b.size := by omega
      rw [List.take_of_length_le (by simp)] at hv hvl
      subst hv
      have hF : bits .xor .u32 IntKind.u32.max (Crc.crc r b.data.toList : Nat) = ((4294967295 ^^^ Crc.crc r b.data.toList : Nat) : Int) := xor32 4294967295 _ (by decide) hvl
      have hfin : 4294967295 ^^^ Crc.crc r b.data.toList = Crc.on s b.data.toList := by
        unfold Crc.on
        rw [← HR.out, Nat.xor_comm s, Nat.xor_comm _ Crc.M]; rfl
      rw [hfin] at hF
      have Hfin := Lib.hid hfin
      clear hfin
      go_wp2
      go_ret
      exact ⟨rfl, rfl⟩

set_option maxHeartbeats 1000000 in
theorem Sum_calls (b : ByteArray) (hb : b.size ≤ 9223372036854775807) (w : World) (hT : Tab w) :
    Calls Tryd.prog 102 #[.string b] w fun e w' => e = .returned (.int .u32 (Crc.on 0 b.data.toList : Nat)) ∧ w = w' := by
  go_enter Tryd.func102, Tryd.ntmps102
  go_wp2_with fail
  refine (On_calls 0 (by decide) b hb w hT).mono ?_
  rintro e w' ⟨rfl, rfl⟩
  go_wp2
  go_ret
  exact ⟨rfl, rfl⟩

/-- j bits of the register. -/
def rbs : Nat → Nat → Nat
  | 0, x => x
  | j + 1, x => rbs j (Crc.rb x)
theorem rbs_succ (j x : Nat) : rbs (j + 1) x = Crc.rb (rbs j x) := by
  induction j generalizing x with
  | zero => rfl
  | succ j ih => exact ih (Crc.rb x)
theorem rbs_lt (j x : Nat) (h : x < 4294967296) : rbs j x < 4294967296 := by
  induction j generalizing x with
  | zero => exact h
  | succ j ih => exact ih _ (Crc.rb_lt x h)
theorem rbs_8 (x : Nat) : rbs 8 x = Crc.rb8 x := rfl
theorem and1 (x : Nat) (h : x < 4294967296) : bits .and .u32 (x : Int) 1 = ((x % 2 : Nat) : Int) := by
  have := u32_and_nat x 1 h (by decide)
  rw [nat_mask1] at this; exact this
theorem rb_one (x : Nat) (h : x % 2 = 1) : (x / 2) ^^^ 2197175160 = Crc.rb x := by unfold Crc.rb; rw [if_pos h]; rfl
theorem rb_none (x : Nat) (h : ¬ x % 2 = 1) : x / 2 = Crc.rb x := by unfold Crc.rb; rw [if_neg h]; simp

set_option maxHeartbeats 2000000 in
theorem RefOn_calls (s : Nat) (hs : s < 4294967296) (b : ByteArray) (hb : b.size ≤ 9223372036854775807) (w : World) :
    Calls Tryd.prog 43 #[.int .u32 s, .string b] w fun e w' => e = .returned (.int .u32 (Crc.on s b.data.toList : Nat)) ∧ w = w' := by
  have hM : bits .xor .u32 (s : Int) 4294967295 = ((s ^^^ 4294967295 : Nat) : Int) := xor32 s 4294967295 hs (by decide)
  obtain ⟨r, hr⟩ : ∃ r, s ^^^ 4294967295 = r := ⟨_, rfl⟩
  have hrl : r < 4294967296 := by rw [← hr]; exact Crc.xor_lt _ _ hs (by decide)
  have HR := Lib.hid hr
  rw [hr] at hM
  clear hr
  go_enter Tryd.func43, Tryd.ntmps43
  go_wp2
  go_loop [5, 6, 7, 8] (fun v i _ _ => ∃ k : Nat, k ≤ b.size ∧ i = .int .i64 k ∧ v = .int .u32 (Crc.crc r (b.data.toList.take k) : Nat)) (fun _ i _ _ => b.size - (intOf i).toNat)
  case atStart => exact ⟨0, Nat.zero_le _, rfl, rfl⟩
  case round =>
    obtain ⟨k, hk, rfl, hv⟩ := hrel
    have hvl := Crc.crc_lt (b.data.toList.take k) r hrl
    by_cases hlt : k < b.size
    · have HS := Lib.hid (crc_step b r k hlt)
      obtain ⟨v, hvv⟩ : ∃ v, Crc.crc r (b.data.toList.take k) = v := ⟨_, rfl⟩
      rw [hvv] at hv hvl HS
      subst hv
      clear hvv
      have hc := b[k].toNat_lt
      have e1 := xor32 v b[k].toNat hvl (by omega)
      obtain ⟨x, hx⟩ : ∃ x, v ^^^ b[k].toNat = x := ⟨_, rfl⟩
      have hxl : x < 4294967296 := by rw [← hx]; exact Crc.xor_lt _ _ hvl (by omega)
      rw [hx] at e1 HS
      clear hx
      go_wp2
      go_loop [5, 7, 8] (fun v j _ => ∃ m : Nat, m ≤ 8 ∧ j = .int .i64 m ∧ v = .int .u32 (rbs m x : Nat)) (fun _ j _ => 8 - (intOf j).toNat)
      case atStart => exact ⟨0, Nat.zero_le _, rfl, rfl⟩
      case round =>
        obtain ⟨m, hm, rfl, hv2⟩ := hrel
        have hyl := rbs_lt m x hxl
        by_cases hm8 : m < 8
        · have HQ := Lib.hid (rbs_succ m x)
          obtain ⟨y, hy⟩ : ∃ y, rbs m x = y := ⟨_, rfl⟩
          rw [hy] at hv2 hyl HQ
          subst hv2
          clear hy
          have e2 := and1 y hyl
          have e3 : bits .xor .u32 ((y : Int) / 2) 2197175160 = _ := xor32 (y / 2) 2197175160 (by omega) (by decide)
          by_cases ho : y % 2 = 1
          · have HO := Lib.hid (rb_one y ho)
            have ho' : ((y : Int) % 2 == 1) = true := by simp; omega
            clear ho
            go_wp2
            go_round
            case rel => exact ⟨m + 1, by omega, by go_num, by rw [HQ.out, ← HO.out]⟩
            case measure => simp [intOf]; omega
          · have HO := Lib.hid (rb_none y ho)
            have ho' : ((y : Int) % 2 == 1) = false := by simp; omega
            clear ho
            go_wp2
            go_round
            case rel => exact ⟨m + 1, by omega, by go_num, by rw [HQ.out, ← HO.out]; go_num⟩
            case measure => simp [intOf]; omega
        · obtain rfl : m = 8 := by omega
          rw [rbs_8] at hv2
          subst hv2
          go_wp2
          go_round
          case rel => exact ⟨k + 1, by omega, by go_num, by rw [HS.out]⟩
          case measure => simp [intOf]; omega
    · obtain rfl : k = b.size := by omega
      rw [List.take_of_length_le (by simp)] at hv hvl
      subst hv
      have hF : bits .xor .u32 (Crc.crc r b.data.toList : Nat) 4294967295 = ((Crc.crc r b.data.toList ^^^ 4294967295 : Nat) : Int) := xor32 _ 4294967295 hvl (by decide)
      have hfin : Crc.crc r b.data.toList ^^^ 4294967295 = Crc.on s b.data.toList := by
        unfold Crc.on
        rw [← HR.out]; rfl
      rw [hfin] at hF
      have Hfin := Lib.hid hfin
      clear hfin
      go_wp2
      go_ret
      exact ⟨rfl, rfl⟩

theorem RefSum_calls (b : ByteArray) (hb : b.size ≤ 9223372036854775807) (w : World) :
    Calls Tryd.prog 90 #[.string b] w fun e w' => e = .returned (.int .u32 (Crc.on 0 b.data.toList : Nat)) ∧ w = w' := by
  go_enter Tryd.func90, Tryd.ntmps90
  go_wp2_with fail
  refine (RefOn_calls 0 (by decide) b hb w).mono ?_
  rintro e w' ⟨rfl, rfl⟩
  go_wp2
  go_ret
  exact ⟨rfl, rfl⟩

theorem u32_bounds {a : Int} (h : (Lit.int .u32 a).wf = true) : 0 ≤ a ∧ a < 4294967296 := by
  simp [Lit.wf, IntKind.min, IntKind.max, IntKind.signed, IntKind.bits] at h; omega

/-- The table as the row lists it. -/
def TabLaid (w : World) : Prop := Lib.TabIs Tryd.prog w "kindred/seal.table" .u32 [0, 274646895, 549293790, 820201905, 1098587580, 1361435347, 1640403810, 1905808397, 2197175160, 2460548119, 2722870694, 2987750089, 3280807620, 3553878443, 3811616794, 4084100981]

theorem tab_of_laid {w : World} (h : TabLaid w) : Tab w := by
  intro i hi
  have hg : Tryd.prog.globalNamed "kindred/seal.table" = some 1 := by kernel_rfl
  have := h.cell hg i (by simpa using hi)
  rw [this]
  have e : ∀ i : Fin 16, ([0, 274646895, 549293790, 820201905, 1098587580, 1361435347, 1640403810, 1905808397, 2197175160, 2460548119, 2722870694, 2987750089, 3280807620, 3553878443, 3811616794, 4084100981] : List Int).getD i.val 0 = ((Crc.T.getD i.val 0 : Nat) : Int) := by decide +kernel
  exact congrArg (fun z => some (Value.int .u32 z)) (e ⟨i, hi⟩)

end Go.Proofs.YtihgjihdmlomaaaDoor

namespace Go.Proofs.YtihgjihdmlomaaaDoor

/-- A sum as bytes, the lowest first. -/
def le32 (s : Nat) : List UInt8 := [UInt8.ofNat s, UInt8.ofNat (s / 256), UInt8.ofNat (s / 65536), UInt8.ofNat (s / 16777216)]
theorem le32_length (s : Nat) : (le32 s).length = 4 := rfl
/-- The sum of a text, as bytes. -/
def sumB (l : List UInt8) : List UInt8 := le32 (Crc.on 0 l)
theorem sumB_length (l : List UInt8) : (sumB l).length = 4 := rfl
/-- The six bytes ahead of the first sum. -/
def headB (kind n : Nat) : List UInt8 := [167, UInt8.ofNat kind] ++ fixedB n 4
theorem headB_length (kind n : Nat) : (headB kind n).length = 6 := by simp [headB, fixedB_length]
def frameB (kind : Nat) (p : List UInt8) : List UInt8 := headB kind p.length ++ sumB (headB kind p.length) ++ p ++ sumB (headB kind p.length ++ p)
theorem frameB_length (kind : Nat) (p : List UInt8) : (frameB kind p).length = p.length + 14 := by simp [frameB, headB_length, sumB_length]; omega
/-- What Frame answers. -/
def frameR (kind : Int) (p : List UInt8) : List UInt8 × Int :=
  if kind < 1 ∨ 255 < kind then ([], 35) else if 65536 < p.length then ([], 36) else (frameB kind.toNat p, 0)
end Go.Proofs.YtihgjihdmlomaaaDoor

namespace Go.Proofs.YtihgjihdmlomaaaDoor
open Go.RowKit
set_option linter.unusedVariables false

set_option maxRecDepth 100000 in
set_option maxHeartbeats 2000000 in
theorem summed_calls (b : ByteArray) (hb : b.size ≤ 9223372036854775807) (w : World) (hT : Tab w) :
    Calls Tryd.prog 93 #[.string b] w fun e w' => e = .returned (.string ⟨(sumB b.data.toList).toArray⟩) ∧ Below w.heap.size w w' := by
  have hl := Crc.on_lt 0 b.data.toList (by decide)
  unfold sumB
  go_enter Tryd.func93, Tryd.ntmps93
  go_wp2_with fail
  refine (Sum_calls b hb w hT).mono ?_
  rintro e w1 ⟨rfl, rfl⟩
  obtain ⟨s, hse⟩ : ∃ s, s = Crc.on 0 b.data.toList := ⟨_, rfl⟩
  rw [← hse] at hl ⊢
  have HSE := Lib.hid hse
  clear hse
  have hs := lit_toStr (P := Tryd.prog) 53 9 5 Tryd.underlying53 Tryd.underlying5 Tryd.underlying9 w 5 (le32 s)
    #[.int .u8 ((s : Int) % 256), .int .u8 ((s : Int) / 256 % 256), .int .u8 ((s : Int) / 65536 % 256), .int .u8 ((s : Int) / 16777216)]
    (by simp [le32, by8_of]; omega) 4 rfl
  go_wp2
  go_ret
  exact ⟨by rw [← HSE.out]; rfl, (Below.refl _ _).alloc (Nat.le_refl _) _⟩

set_option maxRecDepth 100000 in
set_option maxHeartbeats 4000000 in
theorem Frame_calls (kind : Int) (p : ByteArray) (hp : p.size ≤ 140737488351232) (w : World) (hT : Tab w) :
    Calls Tryd.prog 80 #[.int .i64 kind, .string p] w fun e w' => e = .returned (.tuple #[.string ⟨(frameR kind p.data.toList).1.toArray⟩, .int .i64 (frameR kind p.data.toList).2]) ∧ Below w.heap.size w w' := by
  by_cases h1 : kind < 1
  · have hp : frameR kind p.data.toList = ([], 35) := by unfold frameR; rw [if_pos (by omega)]
    rw [hp]
    clear hp
    go_enter Tryd.func80, Tryd.ntmps80
    go_wp2
    go_ret2
    exact ⟨rfl, Below.refl _ _⟩
  by_cases h2 : 255 < kind
  · have hp : frameR kind p.data.toList = ([], 35) := by unfold frameR; rw [if_pos (by omega)]
    rw [hp]
    clear hp
    go_enter Tryd.func80, Tryd.ntmps80
    go_wp2
    go_ret2
    exact ⟨rfl, Below.refl _ _⟩
  by_cases h3 : 65536 < p.size
  · have hp : frameR kind p.data.toList = ([], 36) := by unfold frameR; rw [if_neg (by omega), if_pos (by simpa using h3)]
    rw [hp]
    clear hp
    go_enter Tryd.func80, Tryd.ntmps80
    go_wp2
    go_ret2
    exact ⟨rfl, Below.refl _ _⟩
  obtain ⟨k, rfl⟩ := Int.eq_ofNat_of_zero_le (show 0 ≤ kind by omega)
  have hpR : frameR k p.data.toList = (frameB k p.data.toList, 0) := by unfold frameR; rw [if_neg (by omega), if_neg (by simpa using h3)]; rfl
  have hput : putFix p.size (4 : Int) = (fixedB p.size 4, 0) := by
    unfold putFix
    rw [if_neg (by omega), if_neg (fun h => h.2 (Nat.div_eq_of_lt (show p.size < 4294967296 by omega)))]; rfl
  rw [hpR]
  clear hpR
  go_enter Tryd.func80, Tryd.ntmps80
  go_wp2_with fail
  refine (PutFix_calls p.size (by omega) 4 w).mono ?_
  rw [hput]
  clear hput
  rintro e w1 ⟨rfl, hb1⟩
  have hs2 := lit_toStr (P := Tryd.prog) 53 9 5 Tryd.underlying53 Tryd.underlying5 Tryd.underlying9 w1 5 [167, UInt8.ofNat k]
    #[.int .u8 167, .int .u8 (k : Int)] (by simp [by8_of]; constructor <;> first | rfl | omega) 2 rfl
  go_wp2_with fail
  obtain ⟨hd, hhd⟩ : ∃ hd : ByteArray, ({ data := #[167, UInt8.ofNat k] } ++ { data := (fixedB p.size 4).toArray } : ByteArray) = hd := ⟨_, rfl⟩
  have hdl : hd.data.toList = headB k p.size := by rw [← hhd]; simp [headB]
  have hds : hd.size = 6 := by
    have : hd.data.toList.length = 6 := by rw [hdl, headB_length]
    simpa using this
  rw [hhd]
  have HDL := Lib.hid hdl
  have hds' : hd.size ≤ 6 := by omega
  clear hhd hs2 hdl hds
  refine (summed_calls hd (by omega) _ ((hT.below hb1).alloc _)).mono ?_
  rintro e w2 ⟨rfl, hb2⟩
  obtain ⟨s1, hs1, hd1, hz1⟩ := name_str (sumB hd.data.toList)
  rw [hs1]
  have HD1 := Lib.hid hd1
  have hz1' : s1.size ≤ 4 := by rw [hz1, sumB_length]; omega
  clear hs1 hd1 hz1
  go_wp2_with fail
  have hbl : Below w.heap.size w w2 := hb1.trans (((Below.refl _ _).alloc (Nat.le_refl _) _).trans (hb2.mono (by simp)) |>.mono hb1.size)
  refine (summed_calls (hd ++ p) (by rw [ByteArray.size_append]; omega) _ (hT.below hbl)).mono ?_
  rintro e w3 ⟨rfl, hb3⟩
  obtain ⟨s2, hs2, hd2, hz2⟩ := name_str (sumB (hd ++ p).data.toList)
  rw [hs2]
  have HD2 := Lib.hid hd2
  have hz2' : s2.size ≤ 4 := by rw [hz2, sumB_length]; omega
  clear hs2 hd2 hz2
  go_wp2
  go_ret2
  refine ⟨?_, hbl.trans (hb3.mono hbl.size)⟩
  have hf : hd ++ s1 ++ p ++ s2 = ⟨(frameB k p.data.toList).toArray⟩ := by
    apply str_of_data
    rw [cat_data, cat_data, cat_data, HD1.out, HD2.out, cat_data, HDL.out]
    simp [frameB]
  rw [← hf]; rfl

set_option maxRecDepth 100000 in
set_option maxHeartbeats 2000000 in
theorem RefSummed_calls (s : Nat) (hl : s < 4294967296) (w : World) :
    Calls Tryd.prog 89 #[.int .u32 s] w fun e w' => e = .returned (.string ⟨(le32 s).toArray⟩) ∧ Below w.heap.size w w' := by
  have hs := lit_toStr (P := Tryd.prog) 53 9 5 Tryd.underlying53 Tryd.underlying5 Tryd.underlying9 w 5 (le32 s)
    #[.int .u8 ((s : Int) % 256), .int .u8 ((s : Int) / 256 % 256), .int .u8 ((s : Int) / 65536 % 256), .int .u8 ((s : Int) / 16777216)]
    (by simp [le32, by8_of]; omega) 4 rfl
  go_enter Tryd.func89, Tryd.ntmps89
  go_wp2
  go_ret
  exact ⟨rfl, (Below.refl _ _).alloc (Nat.le_refl _) _⟩

set_option maxRecDepth 100000 in
set_option maxHeartbeats 2000000 in
theorem RefHead_calls (k n : Nat) (h1 : 1 ≤ k) (h2 : k ≤ 255) (h3 : n ≤ 65536) (w : World) :
    Calls Tryd.prog 88 #[.int .i64 k, .int .i64 n] w fun e w' => e = .returned (.string ⟨(headB k n).toArray⟩) ∧ Below w.heap.size w w' := by
  have hv : (#[.int .u8 167, .int .u8 (k : Int)] : Array Value) = (([167, UInt8.ofNat k] : List UInt8).map by8).toArray := by simp [by8_of]; constructor <;> first | rfl | omega
  have hs2 := lit_toStr_later (P := Tryd.prog) 53 9 5 Tryd.underlying53 Tryd.underlying5 Tryd.underlying9 w (w.alloc (.cells #[.int .u8 167, .int .u8 (k : Int)] 5)).drew 5 [167, UInt8.ofNat k] _ hv 2 rfl w.heap.size rfl (Below.refl _ _).drew
  have HV := Lib.hid hv
  clear hv
  have hw8 : IntKind.u8.wrap (k : Int) = (k : Int) := IntWalk.u8_in _ ⟨by omega, by omega⟩
  have hw64 : IntKind.u64.wrap (n : Int) = (n : Int) := IntWalk.u64_in _ ⟨by omega, by omega⟩
  go_enter Tryd.func88, Tryd.ntmps88
  go_wp2_with fail
  go_region_with (go_at_call 91; refine (RefFixed_calls n (by omega) 4 (by omega) _).mono ?_; rintro e w1 ⟨rfl, hb1⟩; (try have hq := lit_toStr_later (P := Tryd.prog) 53 9 5 Tryd.underlying53 Tryd.underlying5 Tryd.underlying9 w w1 5 [167, UInt8.ofNat k] _ HV.out 2 rfl w.heap.size rfl ⟨hb1.os, hb1.tape, hb1.output, hb1.size, hb1.block⟩); have hq2 := lit_toStr (P := Tryd.prog) 53 9 5 Tryd.underlying53 Tryd.underlying5 Tryd.underlying9 w1 5 [167, UInt8.ofNat k] _ HV.out 2 rfl)
  all_goals
    go_wp2
    go_ret
    refine ⟨by rw [show ({ data := #[167, UInt8.ofNat k] } ++ { data := (fixedB n 4).toArray } : ByteArray) = ⟨(headB k n).toArray⟩ from str_of_data (by simp [headB])]; rfl, ?_⟩
    first
    | exact (((Below.refl _ _).alloc (Nat.le_refl _) _).drew).trans (hb1.mono (by simp))
    | exact (((Below.refl _ _).alloc (Nat.le_refl _) _)).trans (Below.mono ⟨hb1.os, hb1.tape, hb1.output, hb1.size, hb1.block⟩ (by simp))
    | exact (Below.trans (Below.refl w.heap.size w).drew hb1).alloc hb1.size _

set_option maxRecDepth 100000 in
set_option maxHeartbeats 4000000 in
theorem RefFrame_calls (kind : Int) (p : ByteArray) (hp : p.size ≤ 140737488351232) (w : World) :
    Calls Tryd.prog 64 #[.int .i64 kind, .string p] w fun e w' => e = .returned (.tuple #[.string ⟨(frameR kind p.data.toList).1.toArray⟩, .int .i64 (frameR kind p.data.toList).2]) ∧ Below w.heap.size w w' := by
  by_cases h1 : kind < 1
  · have hp : frameR kind p.data.toList = ([], 35) := by unfold frameR; rw [if_pos (by omega)]
    rw [hp]
    clear hp
    go_enter Tryd.func64, Tryd.ntmps64
    go_wp2
    go_ret2
    exact ⟨rfl, Below.refl _ _⟩
  by_cases h2 : 255 < kind
  · have hp : frameR kind p.data.toList = ([], 35) := by unfold frameR; rw [if_pos (by omega)]
    rw [hp]
    clear hp
    go_enter Tryd.func64, Tryd.ntmps64
    go_wp2
    go_ret2
    exact ⟨rfl, Below.refl _ _⟩
  by_cases h3 : 65536 < p.size
  · have hp : frameR kind p.data.toList = ([], 36) := by unfold frameR; rw [if_neg (by omega), if_pos (by simpa using h3)]
    rw [hp]
    clear hp
    go_enter Tryd.func64, Tryd.ntmps64
    go_wp2
    go_ret2
    exact ⟨rfl, Below.refl _ _⟩
  obtain ⟨k, rfl⟩ := Int.eq_ofNat_of_zero_le (show 0 ≤ kind by omega)
  have hpR : frameR k p.data.toList = (frameB k p.data.toList, 0) := by unfold frameR; rw [if_neg (by omega), if_neg (by simpa using h3)]; rfl
  rw [hpR]
  clear hpR
  go_enter Tryd.func64, Tryd.ntmps64
  go_wp2_with fail
  refine (RefHead_calls k p.size (by omega) (by omega) (by omega) _).mono ?_
  rintro e w1 ⟨rfl, hb1⟩
  obtain ⟨hd, hhd, hdl, hdz⟩ := name_str (headB k p.size)
  rw [hhd]
  have HDL := Lib.hid hdl
  have hdz' : hd.size ≤ 6 := by rw [hdz, headB_length]; omega
  clear hhd hdl hdz
  go_wp2_with fail
  refine (RefSum_calls hd (by omega) _).mono ?_
  rintro e w1' ⟨rfl, rfl⟩
  go_wp2_with fail
  refine (RefSummed_calls _ (Crc.on_lt _ _ (by decide)) _).mono ?_
  rintro e w2 ⟨rfl, hb2⟩
  obtain ⟨s1, hs1, hd1, hz1⟩ := name_str (le32 (Crc.on 0 hd.data.toList))
  rw [hs1]
  have HD1 := Lib.hid hd1
  have hz1' : s1.size ≤ 4 := by rw [hz1, le32_length]; omega
  clear hs1 hd1 hz1
  go_wp2_with fail
  have hbl : Below w.heap.size w w2 := hb1.trans (hb2.mono hb1.size)
  refine (RefSum_calls (hd ++ p) (by rw [ByteArray.size_append]; omega) _).mono ?_
  rintro e w2' ⟨rfl, rfl⟩
  go_wp2_with fail
  refine (RefSummed_calls _ (Crc.on_lt _ _ (by decide)) _).mono ?_
  rintro e w3 ⟨rfl, hb3⟩
  obtain ⟨s2, hs2, hd2, hz2⟩ := name_str (le32 (Crc.on 0 (hd.data.toList ++ p.data.toList)))
  rw [hs2]
  have HD2 := Lib.hid hd2
  have hz2' : s2.size ≤ 4 := by rw [hz2, le32_length]; omega
  clear hs2 hd2 hz2
  go_wp2
  go_ret2
  refine ⟨?_, hbl.trans (hb3.mono hbl.size)⟩
  have hf : hd ++ s1 ++ p ++ s2 = ⟨(frameB k p.data.toList).toArray⟩ := by
    apply str_of_data
    rw [cat_data, cat_data, cat_data, HD1.out, HD2.out, HDL.out]
    simp [frameB, sumB]
  rw [← hf]; rfl
end Go.Proofs.YtihgjihdmlomaaaDoor
