/-
  PLAIN LAWS on frames (no program in sight).
-/
import Derived.Test.YtihgjihdmlomaaaDoorCrc
import Derived.Test.YtihgjihdmlomaaaDoorFixP
namespace Go.Proofs.YtihgjihdmlomaaaDoor

/-- A sum as bytes, the lowest first. -/
def le32 (s : Nat) : List UInt8 := [UInt8.ofNat s, UInt8.ofNat (s / 256), UInt8.ofNat (s / 65536), UInt8.ofNat (s / 16777216)]
theorem le32_length (s : Nat) : (le32 s).length = 4 := rfl
/-- The sum of a text, as bytes. -/
def sumB (l : List UInt8) : List UInt8 := le32 (Crc.on 0 l)
theorem sumB_length (l : List UInt8) : (sumB l).length = 4 := rfl
/-- The six bytes ahead of the first sum. -/
def headB (kind n : Nat) : List UInt8 := [167, UInt8.ofNat kind] ++ fixedB n 4
theorem headB_length (kind n : Nat) : (headB kind n).length = 6 := by simp [headB, fixedB_length]
def frameB (kind : Nat) (p : List UInt8) : List UInt8 := headB kind p.length ++ sumB (headB kind p.length) ++ p ++ sumB (headB kind p.length ++ p)
theorem frameB_length (kind : Nat) (p : List UInt8) : (frameB kind p).length = p.length + 14 := by simp [frameB, headB_length, sumB_length]; omega
/-- What Frame answers. -/
def frameR (kind : Int) (p : List UInt8) : List UInt8 × Int :=
  if kind < 1 ∨ 255 < kind then ([], 35) else if 65536 < p.length then ([], 36) else (frameB kind.toNat p, 0)
end Go.Proofs.YtihgjihdmlomaaaDoor
