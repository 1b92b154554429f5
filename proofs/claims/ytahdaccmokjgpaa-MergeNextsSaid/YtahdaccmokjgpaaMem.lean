/-
  SMALL LAWS on memory that a call has made: rows of bytes, a row of bytes as a string and back, a slice of the call's own as a string. No condition of the program's.
-/
import Derived.Test.YtahdaccmokjgpaaProg
import Derived.Below
import Derived.OwnWalk
import Derived.Laws.OwnMore
import Derived.Deep.AppendLies
import Derived.Laws.Rows
import Derived.Laws.IdiomStrings
import Derived.Laws.BytesString
import Derived.Maps.AppendAt
import Derived.WalkKit
import Derived.Deep.QuietTactic
import Derived.BigQuiet
import Derived.IntWalk
import Derived.Lib.Hide
namespace Go.Proofs.Ytahdaccmokjgpaa
open Go.RowKit

theorem add0 (g j : Nat) : (⟨g, 0, none⟩ : Addr).add j = ⟨g, j, none⟩ := by unfold Addr.add; split <;> simp_all

/-- A byte as a value. -/
def by8 (b : UInt8) : Value := .int .u8 (b.toNat : Int)

/-- Block g holds the bytes l at its beginning, none of them frozen. -/
def Bys (w : World) (g : Nat) (t : TypeId) (l : List UInt8) : Prop :=
  ∃ (cs : Array Value) (lo hi : Nat), w.heap[g]? = some (.cells cs t (lo, hi)) ∧ (hi ≤ lo ∨ l.length ≤ lo) ∧ ∀ i, i < l.length → cs[i]? = some (.int .u8 ((l.getD i 0).toNat : Int))

theorem Bys.lt {w : World} {g : Nat} {t : TypeId} {l : List UInt8} (h : Bys w g t l) : g < w.heap.size := by
  obtain ⟨cs, lo, hi, hh, _⟩ := h
  rcases Nat.lt_or_ge g w.heap.size with hlt | hge
  · exact hlt
  · rw [Array.getElem?_eq_none hge] at hh; cases hh
theorem Bys.cell {w : World} {g : Nat} {t : TypeId} {l : List UInt8} (h : Bys w g t l) {i : Nat} (hi : i < l.length) : w.cell? ⟨g, i, none⟩ = some (.int .u8 ((l.getD i 0).toNat : Int)) := by
  obtain ⟨cs, lo, hi', hh, _, hc⟩ := h
  rw [cell_of_row w g i cs t (lo, hi') hh]; exact hc i hi
theorem Bys.frozen {w : World} {g : Nat} {t : TypeId} {l : List UInt8} (h : Bys w g t l) {i : Nat} (hi : i < l.length) : w.frozen? ⟨g, i, none⟩ = false := by
  obtain ⟨cs, lo, hi', hh, hf, hc⟩ := h
  simp only [World.frozen?, hh]
  rcases hf with hf | hf <;> simp <;> omega
theorem Bys.of_heap {w w' : World} {g : Nat} {t : TypeId} {l : List UInt8} (h : Bys w g t l) (e : w'.heap[g]? = w.heap[g]?) : Bys w' g t l := by
  obtain ⟨cs, lo, hi', hh, r⟩ := h
  exact ⟨cs, lo, hi', e.trans hh, r⟩
theorem Bys.drew {w : World} {g : Nat} {t : TypeId} {l : List UInt8} (h : Bys w g t l) : Bys w.drew g t l := h
theorem Bys.alloc {w : World} {g : Nat} {t : TypeId} {l : List UInt8} (h : Bys w g t l) (o : Obj) : Bys (w.alloc o) g t l := h.of_heap (Below.heap_alloc w o g h.lt)
theorem Bys.far {w : World} {g : Nat} {t : TypeId} {l : List UInt8} (h : Bys w g t l) {p : Addr} (hp : g ≠ p.block) (u : Value) : Bys (w.setCell p u) g t l := h.of_heap (Below.heap_setCell w p u g hp)
theorem Bys.below {w w' : World} {B g : Nat} {t : TypeId} {l : List UInt8} (h : Bys w g t l) (hb : Below B w w') (hg : g < B) : Bys w' g t l := h.of_heap (hb.block g hg)
theorem Bys.put {w : World} {g : Nat} {t : TypeId} {l : List UInt8} (h : Bys w g t l) (i : Nat) (x : UInt8) : Bys (w.setCell ⟨g, i, none⟩ (.int .u8 (x.toNat : Int))) g t (l.set i x) := by
  obtain ⟨cs, lo, hi', hh, hf, hc⟩ := h
  refine ⟨cs.setIfInBounds i (.int .u8 (x.toNat : Int)), lo, hi', by simp [World.setCell, Array.getElem?_modify, hh], by simpa using hf, fun j hj => ?_⟩
  rw [List.length_set] at hj
  have hcj := hc j hj
  by_cases hij : i = j
  · subst hij
    have hjs : i < cs.size := (Array.getElem?_eq_some_iff.1 hcj).1
    rw [Array.getElem?_setIfInBounds_self_of_lt hjs]
    simp [List.getD, hj]
  · rw [Array.getElem?_setIfInBounds_ne hij, hcj]
    simp [List.getD, hij]
/-- make([]byte, n). -/
theorem Bys.made (w : World) (t : TypeId) (n : Nat) : Bys (w.alloc (.cells (madeCells #[.int .u8 0] n) t)) w.heap.size t (List.replicate n 0) := by
  refine ⟨_, 0, 0, heap_alloc_new w _, .inl (Nat.le_refl _), fun i hi => ?_⟩
  have hi' : i < n := by simpa using hi
  have := congrArg (fun l => l[i]?) (toList_madeCells_one (.int .u8 0) n)
  simp only [Array.getElem?_toList] at this
  rw [this]
  simp [List.getD, hi']
/-- []byte(s): what lies there. -/
theorem Bys.of_string (w : World) (t : TypeId) (s : ByteArray) (cap : Nat) : Bys (w.alloc (.cells (bytesRow s cap) t ((bytesRow s cap).size, (bytesRow s cap).size + 1))) w.heap.size t s.data.toList := by
  refine ⟨_, _, _, heap_alloc_new w _, .inr ?_, fun i hi => ?_⟩
  · simp [bytesRow]
  · have hi' : i < s.data.size := by simpa using hi
    unfold bytesRow
    rw [Array.getElem?_append_left (by simpa using hi')]
    simp only [List.getD, Array.getElem?_map, Array.getElem?_toList, Array.getElem?_eq_getElem hi', Option.map_some, Option.getD_some]

theorem foldl_push : ∀ (l : List UInt8) (s : ByteArray), (l.map (fun b => (b.toNat : Int))).foldl (fun r n => r.push (UInt8.ofNat n.toNat)) s = ⟨s.data ++ l.toArray⟩
  | [], s => by simp
  | b :: l, s => by
    simp only [List.map_cons, List.foldl_cons]
    rw [foldl_push l]
    apply ByteArray.ext
    apply Array.ext'
    simp [ByteArray.push]

/-- string(b), wherever the bytes lie. -/
theorem run_toString {P : Program} (w : World) (src dst e : TypeId) (hs : P.underlying src = some (.slice e)) (he : P.underlying e = some (.int .u8)) (hd : P.underlying dst = some .string) (a : Addr) (l : List UInt8) (n c : Nat) (hn : n = l.length)
    (h : ∀ j, j < l.length → w.cell? (a.add j) = some (.int .u8 ((l.getD j 0).toNat : Int))) :
    (convert src dst (.slice (some a) n c)).run P w = .ok (.string ⟨l.toArray⟩) w := by
  subst hn
  rw [run_convert_bytes_string w src dst e (some a) _ _ hs he hd]
  have hl := run_loadCells_list (P := P) w a ((l.map (fun b => (b.toNat : Int))).map (Value.int .u8)) (fun j v hv => by
    have hj : j < l.length := by
      have := (List.getElem?_eq_some_iff.1 hv).1
      simpa using this
    rw [h j hj]
    rw [← hv]
    simp [List.getD, hj])
  simp only [List.length_map] at hl
  rw [run_bytesToString w a l.length c _ hl, foldl_push]
  simp
theorem Bys.toStr {P : Program} {w : World} {g : Nat} {t : TypeId} {l : List UInt8} (h : Bys w g t l) (src dst e : TypeId) (hs : P.underlying src = some (.slice e)) (he : P.underlying e = some (.int .u8)) (hd : P.underlying dst = some .string) (n c : Nat) (hn : n = l.length) :
    (convert src dst (.slice (some ⟨g, 0, none⟩) n c)).run P w = .ok (.string ⟨l.toArray⟩) w :=
  run_toString w src dst e hs he hd _ l n c hn fun j hj => by rw [add0]; exact h.cell hj
theorem run_nilToString {P : Program} (w : World) (src dst e : TypeId) (hs : P.underlying src = some (.slice e)) (he : P.underlying e = some (.int .u8)) (hd : P.underlying dst = some .string) :
    (convert src dst (.slice none 0 0)).run P w = .ok (.string ⟨#[]⟩) w := by
  rw [run_convert_bytes_string w src dst e none _ _ hs he hd]
  simp [Conv.bytesToString]
  rfl
/-- string(b), b a slice of the call's own that was appended to. -/
theorem own_toStr {P : Program} {w : World} {base : Nat} {v : Value} {n : Nat} {l : List UInt8} (src dst e : TypeId) (hs : P.underlying src = some (.slice e)) (he : P.underlying e = some (.int .u8)) (hd : P.underlying dst = some .string)
    (h : w.ownsRow base e 1 v n (l.map by8)) : (convert src dst v).run P w = .ok (.string ⟨l.toArray⟩) w := by
  have hlen := h.1
  simp only [List.length_map, Nat.mul_one] at hlen
  rcases h.2 with ⟨rfl, rfl⟩ | ⟨g, cap, cur, rfl, _⟩
  · have : l = [] := List.eq_nil_of_length_eq_zero hlen
    subst this
    exact run_nilToString w src dst e hs he hd
  · refine run_toString w src dst e hs he hd _ l n cap hlen.symm fun j hj => ?_
    have := h.cellAt j (by omega)
    rw [add0, this]
    simp [by8, List.getD, hj]

/-- string([]byte{..}): the bytes lie in a block that was laid just before. -/
theorem lit_toStr {P : Program} (src dst e : TypeId) (hs : P.underlying src = some (.slice e)) (he : P.underlying e = some (.int .u8)) (hd : P.underlying dst = some .string) (w : World) (t : TypeId) (l : List UInt8) (vs : Array Value) (hv : vs = (l.map by8).toArray) (n : Nat) (hn : n = l.length) :
    (convert src dst (.slice (some ⟨w.heap.size, 0, none⟩) n n)).run P (w.alloc (.cells vs t)) = .ok (.string ⟨l.toArray⟩) (w.alloc (.cells vs t)) := by
  refine run_toString _ src dst e hs he hd _ l n n hn fun j hj => ?_
  rw [add0, cell_of_row _ w.heap.size j vs t (0, 0) (heap_alloc_new w _), hv]
  simp [by8, List.getD, hj]
/-- .. and something else has been done since. -/
theorem lit_toStr_later {P : Program} (src dst e : TypeId) (hs : P.underlying src = some (.slice e)) (he : P.underlying e = some (.int .u8)) (hd : P.underlying dst = some .string) (w w1 : World) (t : TypeId) (l : List UInt8) (vs : Array Value) (hv : vs = (l.map by8).toArray) (n : Nat) (hn : n = l.length)
    (g : Nat) (hg : g = w.heap.size) (hb : Below (w.alloc (.cells vs t)).heap.size (w.alloc (.cells vs t)) w1) :
    (convert src dst (.slice (some ⟨g, 0, none⟩) n n)).run P w1 = .ok (.string ⟨l.toArray⟩) w1 := by
  subst hg
  refine run_toString _ src dst e hs he hd _ l n n hn fun j hj => ?_
  rw [add0, hb.cell (p := ⟨w.heap.size, j, none⟩) (by simp), cell_of_row _ w.heap.size j vs t (0, 0) (heap_alloc_new w _), hv]
  simp [by8, List.getD, hj]
theorem by8_of (v : Nat) : by8 (UInt8.ofNat v) = .int .u8 ((v : Int) % 256) := by unfold by8; simp

/-- make([]byte, n) at a variable n: an equation for every world. -/
theorem run_make_bytes {P : Program} (t e : TypeId) (i : TypeInfo) (ht : P.underlying t = some (.slice e)) (hi : P.info? e = some i) (hz : i.zero = some (.int .u8 0)) (h1 : i.size = 1) (hb : i.bytes = 1)
    (n : Nat) (hn : n ≤ 281474976710656) (w : World) :
    (Instr.makeSlice t (.int .i64 (n : Int)) (.int .i64 (n : Int))).run P w = .ok (.slice (some ⟨w.heap.size, 0, none⟩) n n) (w.alloc (.cells (madeCells #[.int .u8 0] n) e)) := by
  have hb' : (i.bytes : Int) * (n : Int) ≤ 281474976710656 := by rw [hb]; omega
  have hr := run_make (P := P) w t e i _ ht hi hz .i64 .i64 n n (by omega) (by omega) hb' (by omega)
  simp only [Int.toNat_natCast] at hr
  rw [h1, Nat.mul_one] at hr
  exact hr
theorem wf_bounds_i64 {a : Int} (h : (Lit.int .i64 a).wf = true) : -9223372036854775808 ≤ a ∧ a < 9223372036854775808 := by
  simp [Lit.wf, IntKind.min, IntKind.max, IntKind.signed, IntKind.bits] at h; omega
theorem wf_bounds_u64 {a : Int} (h : (Lit.int .u64 a).wf = true) : 0 ≤ a ∧ a < 18446744073709551616 := by
  simp [Lit.wf, IntKind.min, IntKind.max, IntKind.signed, IntKind.bits] at h; omega
theorem wf_bounds_u32 {a : Int} (h : (Lit.int .u32 a).wf = true) : 0 ≤ a ∧ a < 4294967296 := by
  simp [Lit.wf, IntKind.min, IntKind.max, IntKind.signed, IntKind.bits] at h; omega
theorem quiet_left {P : Program} {f : FuncId} {args : Array Value} {w : World} {n : Nat} {v : Value}
    (h : Calls P f args (w.drewN n) fun e w' => e = .returned v ∧ w.drewN n = w') : Calls P f args (w.drewN n) fun e w'' => e = .returned v ∧ ∃ m, w'' = w.drewN m :=
  h.mono fun _ _ ⟨he, hm⟩ => ⟨he, n, hm.symm⟩
theorem quiet_some {P : Program} {f : FuncId} {args : Array Value} {w : World} {n : Nat} {v : Value}
    (h : Calls P f args (w.drewN n) fun e w' => e = .returned v ∧ ∃ k, w' = (w.drewN n).drewN k) : Calls P f args (w.drewN n) fun e w'' => e = .returned v ∧ ∃ m, w'' = w.drewN m :=
  h.mono fun _ _ ⟨he, k, hm⟩ => ⟨he, n + k, by rw [hm, World.drewN_drewN]⟩
theorem results_tmp4 {fn : Func} {t u v x : Tmp} (h : fn.results = #[.tmp t, .tmp u, .tmp v, .tmp x]) (tmps : Array Value) (P : Program) (w : World) :
    (results fn tmps).run P w = .ok (.tuple #[tmps.getD t undef, tmps.getD u undef, tmps.getD v undef, tmps.getD x undef]) w := by simp [results, h]
/-- A part of a string, by its bytes. -/
theorem name_cut (s : ByteArray) (a b : Nat) (h : a ≤ b) (hb : b ≤ s.size) : ∃ r : ByteArray, s.extract a b = r ∧ r.data.toList = (s.data.toList.drop a).take (b - a) ∧ r.size = b - a := by
  refine ⟨_, rfl, ?_, ?_⟩
  · simp only [ByteArray.data_extract, Array.toList_extract]
  · simp only [ByteArray.size_extract]; omega
/-- A string that is named by its bytes. -/
theorem name_str (l : List UInt8) : ∃ r : ByteArray, (⟨l.toArray⟩ : ByteArray) = r ∧ r.data.toList = l ∧ r.size = l.length := ⟨_, rfl, by simp, rfl⟩
theorem cat_data (a b : ByteArray) : (a ++ b).data.toList = a.data.toList ++ b.data.toList := by simp
theorem size_data (a : ByteArray) : a.size = a.data.toList.length := rfl
theorem str_of_data {a : ByteArray} {l : List UInt8} (h : a.data.toList = l) : a = ⟨l.toArray⟩ := by subst h; rfl
theorem str_eq {a b : List UInt8} (h : a = b) : Value.string ⟨a.toArray⟩ = Value.string ⟨b.toArray⟩ := by rw [h]
end Go.Proofs.Ytahdaccmokjgpaa
