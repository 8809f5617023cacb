/- What Read and Print of qcir give, in plain words; no condition. -/
import Derived.Test.YtnlobmepajakcaaGreatDoorQa
set_option linter.unusedVariables false
set_option linter.unusedSimpArgs false
namespace Go.Proofs.YtnlobmepajakcaaGreatDoor
open Go.RowKit Go.Shelf

/-! ### Reading -/
structure RS where
  pre : List PBlock
  gates : List PGate
  out : Int
  seen : Nat → Bool
  vars : Nat
  lits : Nat
  begun : Bool
  done : Bool
  at_ : List Nat
  outAt : Nat
def rs0 : RS := ⟨[], [], 0, noS, 0, 0, false, false, [], 0⟩
/-- New variables one behind the other; none: one has been there. -/
def declP : (Nat → Bool) → List Int → Option (Nat → Bool)
  | S, [] => some S
  | S, v :: vs => if S v.toNat = true then none else declP (upd S v.toNat true) vs
def addBlock (p : List PBlock) (ex : Bool) (l : List Int) : List PBlock :=
  match p.getLast? with
  | some x => if x.ex = ex then p.dropLast ++ [⟨x.ex, x.vars ++ l⟩] else if l = [] then p else p ++ [⟨ex, l⟩]
  | none => if l = [] then p else p ++ [⟨ex, l⟩]
/-- A line is added: the error, and the reader behind it (if there was no error). -/
def addL (r : RS) (no : Nat) : PLine → Int × RS
  | .bad => (5, r)
  | .gate v k l =>
    if r.done = false then (5, r)
    else if (k = 3 ∧ l.length ≠ 2) ∨ (k = 4 ∧ l.length ≠ 3) then (2, r)
    else if r.seen v.toNat = true then (7, r)
    else if 200000 < r.lits + l.length then (3, r)
    else (0, { r with seen := upd r.seen v.toNat true, lits := r.lits + l.length, gates := r.gates ++ [⟨v, k, l⟩], at_ := r.at_ ++ [no] })
  | .out x => if r.done = true then (5, r) else (0, { r with done := true, outAt := no, out := x })
  | .block w l =>
    if r.done = true ∨ (w = 1 ∧ r.begun = true) then (5, r)
    else match declP r.seen l with
      | none => (7, r)
      | some S => if 1024 < r.vars + l.length then (3, r)
        else (0, { r with seen := S, vars := r.vars + l.length, begun := true, pre := addBlock r.pre (decide (w ≠ 3)) l })
/-- Lines from number no on: the first error with its line, or the reader behind them. -/
def linesP (L : Bs → PLine) (r : RS) (no : Nat) : List Bs → (Int × Nat) × RS
  | [] => ((0, 0), r)
  | t :: ts => if blankB t = true then linesP L r (no + 1) ts else
    match addL r no (L t) with
    | (e, r') => if e = 0 then linesP L r' (no + 1) ts else ((e, no), r)
/-- The line of the first gate with a literal that isn't known. -/
def strayP (S : Nat → Bool) : List PGate → List Nat → Option Nat
  | g :: gs, n :: ns => if (g.ins.any fun l => !S (absN l)) = true then some n else strayP S gs ns
  | _, _ => none
def endO (r : RS) (o : List PGate × Int) : PNet × Nat × Int := if o.2 = 0 then (⟨r.pre, o.1, r.out⟩, 0, 0) else (noNet, 0, o.2)
def endR (r : RS) : PNet × Nat × Int :=
  if r.done = false then (noNet, 0, 5)
  else if r.seen (absN r.out) = false then (noNet, r.outAt, 6)
  else match strayP r.seen r.gates r.at_ with
    | some n => (noNet, n, 6)
    | none => endO r (orderP (varsOf r.pre) r.gates)
def doneR (x : (Int × Nat) × RS) : PNet × Nat × Int := if x.1.1 = 0 then endR x.2 else (noNet, x.1.2, x.1.1)
def readW (L : Bs → PLine) (s : Bs) : PNet × Nat × Int :=
  if 4194304 < s.length then (noNet, 0, 3) else doneR (linesP L rs0 1 (splitNL s))
def readP (s : Bs) : PNet × Nat × Int := readW scanL s

/-! ### Printing -/
/-- A number in decimal digits. -/
def digF : Nat → Nat → Bs
  | 0, _ => []
  | f + 1, n => if n < 10 then [UInt8.ofNat (48 + n)] else digF f (n / 10) ++ [UInt8.ofNat (48 + n % 10)]
def digP (n : Nat) : Bs := digF (n + 1) n
def intP (x : Int) : Bs := if x < 0 then 45 :: digP (-x).toNat else digP x.toNat
/-- Literals, separated. -/
def litsP : List Int → Bs
  | [] => []
  | [x] => intP x
  | x :: xs => intP x ++ [44, 32] ++ litsP xs
def listS (l : List Int) : Bs := [40] ++ litsP l ++ [41, 10]
def headP : Bs := [35, 81, 67, 73, 82, 45, 49, 52, 10]
def kindW (k : Int) : Bs := if k = 1 then wAnd else if k = 2 then wOr else if k = 3 then wXor else wIte
def blockS (b : PBlock) : Bs := (if b.ex = true then wExists else wForall) ++ listS b.vars
def gateS (g : PGate) : Bs := intP g.var ++ [32, 61, 32] ++ kindW g.kind ++ listS g.ins
def textP (N : PNet) : Bs := headP ++ N.pre.flatMap blockS ++ (wOutput ++ listS [N.out]) ++ N.gates.flatMap gateS
def printP (N : PNet) : Bs × Int := if mayP N = true then (if 4194304 < (textP N).length then ([], 3) else (textP N, 0)) else ([], 2)
end Go.Proofs.YtnlobmepajakcaaGreatDoor
