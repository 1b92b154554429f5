/-
  A MERGER as plain Lean: sources, what each stands at, one step, one answer.
-/
import Derived.Test.YtahdaccmokjgpaaHdv
namespace Go.Proofs.Ytahdaccmokjgpaa
open Go.RowKit ArgK
set_option linter.unusedVariables false

/-- A source: what it gives, the refusal behind, has it no Next, how often it was asked. -/
structure Sst where
  es : List Ent
  fin : Int
  mute : Bool
  used : Nat

instance : Inhabited Sst := ⟨⟨[], 0, false, 0⟩⟩

def zeroE : Ent := ⟨0, ⟨#[]⟩, 0, 0, false⟩

/-- It was asked once more. -/
def Sst.next (s : Sst) : Sst := { s with used := s.used + 1 }

/-- What its Next answers. -/
def Sst.ans (s : Sst) : Ent × Bool × Int := match s.es[s.used]? with
  | some e => (e, true, 0)
  | none => (zeroE, false, s.fin)

/-- What it gave last. -/
def Sst.last (s : Sst) : Option Ent := if s.used = 0 then none else s.es[s.used - 1]?

/-- Asked by a merger: the source then, its refusal, what it stands at. -/
def Sst.asked (s : Sst) : Sst × Int × Option Ent :=
  if s.mute then (s, 0, none) else
  match s.es[s.used]? with
  | none => (s.next, s.fin, none)
  | some e => match s.last with
    | none => (s.next, 0, some e)
    | some l => if eless l e then (s.next, 0, some e) else (s.next, 50, none)

/-- A merger: its sources, what each stands at, was it begun, the refusal. -/
structure Mst where
  S : List Sst
  F : List (Option Ent)
  begun : Bool
  bad : Int

/-- Source i is asked. -/
def Mst.ask (m : Mst) (i : Nat) : Mst := match m.S[i]? with
  | none => m
  | some s => { m with S := m.S.set i s.asked.1, F := m.F.set i s.asked.2.2, bad := s.asked.2.1 }

/-- Sources are asked, up to a refusal. -/
def Mst.asks (m : Mst) : List Nat → Mst
  | [] => m
  | i :: l => if (m.ask i).bad ≠ 0 then m.ask i else (m.ask i).asks l

/-- What stands: the heads, in the order of the sources. -/
def standsFrom : Nat → List (Option Ent) → List Hdv
  | _, [] => []
  | k, none :: F => standsFrom (k + 1) F
  | k, some e :: F => ⟨e, k⟩ :: standsFrom (k + 1) F

def stands (F : List (Option Ent)) : List Hdv := standsFrom 0 F

/-- The least place. -/
def leastE : List Hdv → Option Ent
  | [] => none
  | x :: L => match leastE L with
    | none => some x.e
    | some e => if eless e x.e then some e else some x.e

/-- Those that stand at a place. -/
def atPlace (p : Ent) (L : List Hdv) : List Hdv := L.filter (fun x => decide (eat p x.e))

/-- All that do not. -/
def offPlace (p : Ent) (F : List (Option Ent)) : List (Option Ent) := F.map (fun o => match o with
  | none => none
  | some e => if eat p e then none else some e)

/-- Of several the one that counts: the first with the greatest number. -/
def bestOf : Ent → List Hdv → Ent
  | b, [] => b
  | b, x :: L => bestOf (if b.s < x.e.s then x.e else b) L

/-- The word of several heads; none: two have one number. -/
def wordOf (L : List Hdv) : Option Ent := match L with
  | [] => none
  | x :: l => if ((x :: l).map (fun y => y.e.s)).Nodup then some (bestOf x.e (x :: l)) else none

/-- One step: the merger then, an entry, was there one. -/
def Mst.step (m : Mst) : Mst × Ent × Bool := match leastE (stands m.F) with
  | none => (m, zeroE, false)
  | some p =>
    let l := atPlace p (stands m.F)
    match wordOf l with
    | none => ({ m with F := offPlace p m.F, bad := 51 }, zeroE, false)
    | some b =>
      let m' := ({ m with F := offPlace p m.F } : Mst).asks (l.map Hdv.n)
      if m'.bad = 0 then (m', b, true) else (m', zeroE, false)

/-- All sources are asked once. -/
def Mst.begin (m : Mst) : Mst := ({ m with begun := true } : Mst).asks (List.range m.S.length)

/-- How much is left to ask. -/
def Mst.left (m : Mst) : Nat := (m.S.map (fun s => if s.mute then 0 else s.es.length + 1 - s.used)).sum

/-- Steps up to an answer. -/
def Mst.go (bottom : Bool) : Nat → Mst → (Ent × Bool × Int) × Mst
  | 0, m => ((zeroE, false, m.bad), m)
  | k + 1, m =>
    if m.bad ≠ 0 then ((zeroE, false, m.bad), m) else
    let r := m.step
    if r.1.bad ≠ 0 then ((zeroE, false, r.1.bad), r.1) else
    if r.2.2 = false ∨ bottom = false ∨ r.2.1.d = false then ((r.2.1, r.2.2, 0), r.1) else Mst.go bottom k r.1

/-- What Next answers. -/
def Mst.next (bottom : Bool) (m : Mst) : (Ent × Bool × Int) × Mst :=
  let m' := if m.bad = 0 ∧ m.begun = false then m.begin else m
  Mst.go bottom (m'.left + 1) m'
end Go.Proofs.Ytahdaccmokjgpaa
