/- What package lex computes, over lists of bytes: no program is named here. -/
import Derived.Lib.Strings
import Derived.Lib.Bytealg
import Derived.Lib.IndexBytes
import Derived.Lib.IndexMore
namespace Go.Proofs.YtndejiminaopeaaDoor
open Go

def blanksL : List UInt8 := [32, 9, 10, 13]
def endsL : List UInt8 := [32, 9, 10, 13, 40, 41, 59]
def digitsL : List UInt8 := [48, 49, 50, 51, 52, 53, 54, 55, 56, 57]
def lettersL : List UInt8 := [97, 98, 99, 100, 101, 102, 103, 104, 105, 106, 107, 108, 109, 110, 111, 112, 113, 114, 115, 116, 117, 118, 119, 120, 121, 122, 65, 66, 67, 68, 69, 70, 71, 72, 73, 74, 75, 76, 77, 78, 79, 80, 81, 82, 83, 84, 85, 86, 87, 88, 89, 90]
def innerL : List UInt8 := [97, 98, 99, 100, 101, 102, 103, 104, 105, 106, 107, 108, 109, 110, 111, 112, 113, 114, 115, 116, 117, 118, 119, 120, 121, 122, 65, 66, 67, 68, 69, 70, 71, 72, 73, 74, 75, 76, 77, 78, 79, 80, 81, 82, 83, 84, 85, 86, 87, 88, 89, 90, 48, 49, 50, 51, 52, 53, 54, 55, 56, 57, 95]
def smallL : List UInt8 := [48, 49, 50, 51, 52, 53, 54, 55, 56, 57, 97, 98, 99, 100, 101, 102]

/-- How many bytes at the beginning are of some. -/
def runL (of l : List UInt8) : Nat := (l.takeWhile (fun b => of.contains b)).length
theorem runL_le (of l : List UInt8) : runL of l ≤ l.length := by
  unfold runL
  have h2 := congrArg List.length (List.takeWhile_append_dropWhile (p := fun b => of.contains b) (l := l))
  rw [List.length_append] at h2
  omega

/-- lex.Number: of what stands behind the -, and whether it was there. -/
def numT (r : List UInt8) (minus : Bool) : Bool :=
  if r = [] then false else if runL digitsL r ≠ r.length then false else
  if r.head? ≠ some 48 then true else decide (r = [48]) && !minus
def numB (l : List UInt8) : Bool := numT (Lib.trimPrefix l [45]) (Lib.hasPrefix l [45])

/-- lex.named -/
def namedL (l : List UInt8) : Nat :=
  if l = [] then 0 else if runL lettersL (l.take 1) = 0 then 0 else
  if Lib.hasPrefix (l.drop (runL innerL l)) [63] then runL innerL l + 1 else runL innerL l
/-- lex.Name -/
def nameB (l : List UInt8) : Bool := if l = [] then false else decide (namedL l = l.length)

/-- Where a byte stands among the digits to the base 16. -/
def hexAt (b : UInt8) : Nat := (Lib.indexByte smallL b).toNat
/-- lex.escape -/
def escL (l : List UInt8) : Nat × Nat :=
  match l with
  | [] => (0, 0)
  | c :: r =>
    if c = 110 then (10, 1) else if c = 34 then (34, 1) else if c = 92 then (92, 1) else
    if c = 120 then
      match r with
      | a :: b :: _ => if runL smallL [a, b] = 2 then (16 * hexAt a + hexAt b, 3) else (0, 0)
      | _ => (0, 0)
    else (0, 0)
/-- lex.quoted: from a place on, what has been read. -/
def quotGo : Nat → List UInt8 → Nat → List UInt8 → List UInt8 × Nat
  | 0, _, _, _ => ([], 0)
  | _ + 1, [], _, _ => ([], 0)
  | k + 1, c :: r, n, acc =>
    if c = 34 then (acc, n + 1) else
    if c = 92 then (if (escL r).2 = 0 then ([], 0) else quotGo k (r.drop (escL r).2) (n + 1 + (escL r).2) (acc ++ [UInt8.ofNat (escL r).1])) else
    if c < 32 ∨ 126 < c then ([], 0) else quotGo k r (n + 1) (acc ++ [c])
def quotL (l : List UInt8) : List UInt8 × Nat := quotGo l.length (l.drop 1) 1 []

/-- A token: its kind, text, place. -/
structure Tk where
  kind : Nat
  text : List UInt8
  pos : Nat
  deriving DecidableEq

def signs : List (List UInt8) := [[60, 61], [61, 61], [45, 62], [43], [45], [42], [60], [61]]
def signL (l : List UInt8) : Nat := match signs.find? (fun x => Lib.hasPrefix l x) with | some x => x.length | none => 0
def intL (l : List UInt8) : Nat :=
  let n := l.length - (Lib.trimPrefix l [45]).length
  let more := runL digitsL (l.drop n)
  if 0 < more then (if numB (l.take (n + more)) then n + more else 0) else 0

/-- a bracket's reader -/
def brL (c : UInt8) (l : List UInt8) : Nat := if runL [c] (l.take 1) = 0 then 0 else 1
def textL (l : List UInt8) : Nat × List UInt8 × Nat := if l.head? = some 34 then (3, quotL l) else (0, [], 0)
/-- the readers, one by one -/
def rdL : Nat → List UInt8 → Nat × List UInt8 × Nat
  | 0, l => (0, [], brL 40 l)
  | 1, l => (1, [], brL 41 l)
  | 2, l => textL l
  | 3, l => (2, l.take (intL l), intL l)
  | 4, l => (4, l.take (namedL l), namedL l)
  | _, l => (5, l.take (signL l), signL l)
/-- lex.one: which reader finds a token, its text, how long it is. -/
def readL (l : List UInt8) : Nat × List UInt8 × Nat :=
  if 0 < (rdL 0 l).2.2 then rdL 0 l else if 0 < (rdL 1 l).2.2 then rdL 1 l else if 0 < (rdL 2 l).2.2 then rdL 2 l else
  if 0 < (rdL 3 l).2.2 then rdL 3 l else if 0 < (rdL 4 l).2.2 then rdL 4 l else rdL 5 l
/-- Does what stands behind a token end it? -/
def partedL (r : List UInt8) : Bool := match r with | [] => true | c :: _ => decide (0 ≤ Lib.indexByte endsL c)
def oneL (l : List UInt8) : Nat × List UInt8 × Nat :=
  if 0 < (readL l).2.2 ∧ (readL l).1 ≠ 0 ∧ (readL l).1 ≠ 1 ∧ partedL (l.drop (readL l).2.2) = false then ((readL l).1, (readL l).2.1, 0) else readL l

/-- How many bytes stand ahead of the next line end. -/
def lineL (l : List UInt8) : Nat := if 0 ≤ Lib.indexByte l 10 then (Lib.indexByte l 10).toNat else l.length
/-- What lex.tokens yields: a token, and how long it is; 0: it is none. -/
structure Item where
  kind : Nat
  text : List UInt8
  pos : Nat
  n : Nat
/-- lex.tokens: all from a place on, with the first one that is none. -/
def itemsGo : Nat → Nat → List UInt8 → List Item
  | 0, _, _ => []
  | k + 1, p, l =>
    if l = [] then [] else
    if 0 < runL blanksL l then itemsGo k (p + runL blanksL l) (l.drop (runL blanksL l)) else
    if l.head? = some 59 then itemsGo k (p + lineL l) (l.drop (lineL l)) else
    if (oneL l).2.2 = 0 then [⟨(oneL l).1, (oneL l).2.1, p, 0⟩] else
    ⟨(oneL l).1, (oneL l).2.1, p, (oneL l).2.2⟩ :: itemsGo k (p + (oneL l).2.2) (l.drop (oneL l).2.2)
def items (l : List UInt8) : List Item := itemsGo l.length 0 l
def tkOf (x : Item) : Tk := ⟨x.kind, x.text, x.pos⟩
/-- lex.Tokens: all, or where the first one is that is none. -/
def goodI (x : Item) : Bool := decide (x.n ≠ 0)
def toksL (l : List UInt8) : List Tk × Option Nat :=
  match (items l).find? (fun x => !goodI x) with
  | some x => ([], some x.pos)
  | none => ((items l).map tkOf, none)

end Go.Proofs.YtndejiminaopeaaDoor
