/- The plain specification of the encodings: lists of numbers; no program in sight. -/
import Derived.Test.YtfngbmcedkncjaaWWords
set_option linter.unusedVariables false
namespace Go.Proofs.Ytfngbmcedkncjaa.Plain
open Go.Proofs.YtfngbmcedkncjaaW.PrintWords

def zig (n : Int) : Nat := if 0 ≤ n then (2 * n).toNat else (-2 * n - 1).toNat
def unzig (z : Nat) : Int := if z % 2 = 0 then ((z / 2 : Nat) : Int) else -1 - ((z / 2 : Nat) : Int)
def encZ (z : Nat) : List Int := if z < 128 then [(z : Int)] else ((z % 128 + 128 : Nat) : Int) :: encZ (z / 128)
termination_by z
decreasing_by omega
def eInt (n : Int) : List Int := encZ (zig n)

def dZ : Nat → List Int → Except Int (Nat × Nat)
  | _, [] => .error 10
  | k, c :: r => if (k = 9 ∧ 1 < c) ∨ (0 < k ∧ c = 0) then .error 11 else
    if c < 128 then .ok (c.toNat, 1) else
    match dZ (k + 1) r with
    | .ok (z, u) => .ok ((c - 128).toNat + 128 * z, u + 1)
    | .error e => .error e
/-- The three results of a decoding: value, bytes used, error. -/
def dInt (b : List Int) : Int × Int × Int :=
  match dZ 0 b with
  | .ok (z, u) => (unzig z, (u : Int), 0)
  | .error e => (0, 0, e)

def eBytes (s : ByteArray) : List Int := eInt (s.size : Int) ++ bytesOf s
def eInts (l : List Int) : List Int := eInt (l.length : Int) ++ l.flatMap eInt
def eStrs (l : List ByteArray) : List Int := eInt (l.length : Int) ++ l.flatMap eBytes
def eDigs (l : List (List Int)) : List Int := eInt (l.length : Int) ++ l.flatten
/-- The length of a list whose elements have at least m bytes each. -/
def dLen (b : List Int) (m : Nat) : Int × Int × Int :=
  if (dInt b).2.2 ≠ 0 then (0, 0, (dInt b).2.2) else
  if (dInt b).1 < 0 then (0, 0, 11) else
  if (dInt b).1 > ((b.length : Int) - (dInt b).2.1) / m then (0, 0, 10) else dInt b
def dBytes (b : List Int) : ByteArray × Int × Int :=
  if (dLen b 1).2.2 ≠ 0 then (⟨#[]⟩, 0, (dLen b 1).2.2) else
  (strOfNums ((b.drop (dLen b 1).2.1.toNat).take (dLen b 1).1.toNat), (dLen b 1).2.1 + (dLen b 1).1, 0)
/-- n elements, decoded one behind the other from place at_ on. -/
def dList {α : Type} (one : List Int → α × Int × Int) (b : List Int) : Nat → Int → List α × Int × Int
  | 0, at_ => ([], at_, 0)
  | n + 1, at_ =>
    if (one (b.drop at_.toNat)).2.2 ≠ 0 then ([], 0, (one (b.drop at_.toNat)).2.2) else
    if (dList one b n (at_ + (one (b.drop at_.toNat)).2.1)).2.2 ≠ 0 then ([], 0, (dList one b n (at_ + (one (b.drop at_.toNat)).2.1)).2.2) else
    ((one (b.drop at_.toNat)).1 :: (dList one b n (at_ + (one (b.drop at_.toNat)).2.1)).1, (dList one b n (at_ + (one (b.drop at_.toNat)).2.1)).2.1, 0)
def dGet {α : Type} (m : Nat) (one : List Int → α × Int × Int) (b : List Int) : List α × Int × Int :=
  if (dLen b m).2.2 ≠ 0 then ([], 0, (dLen b m).2.2) else dList one b (dLen b m).1.toNat (dLen b m).2.1
def dDig (b : List Int) : List Int × Int × Int := (b.take 16, 16, 0)
def dInts (b : List Int) : List Int × Int × Int := dGet 1 dInt b
def dStrs (b : List Int) : List ByteArray × Int × Int := dGet 1 dBytes b
def dDigs (b : List Int) : List (List Int) × Int × Int := dGet 16 dDig b

/-- A list of bytes. -/
def Bytes8 (l : List Int) : Prop := ∀ x ∈ l, 0 ≤ x ∧ x ≤ 255
end Go.Proofs.Ytfngbmcedkncjaa.Plain
