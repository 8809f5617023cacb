/- What Read and Print of qcir make of bytes, in plain words: lines, the scanner, tokens; no condition / What Read and Print of qcir give, in plain words; no condition. -/
import Derived.Test.YtnlobmepajakcaaGreatDoorZSemO
set_option linter.unusedVariables false
set_option linter.unusedSimpArgs false
namespace Go.Proofs.YtnlobmepajakcaaGreatDoor
open Go.RowKit Go.Shelf

abbrev Bs := List UInt8
def sp (l : Bs) : Bs := l.dropWhile fun c => c == 32
def isDig (c : UInt8) : Bool := decide (48 ≤ c.toNat) && decide (c.toNat ≤ 57)
def isLow (c : UInt8) : Bool := decide (97 ≤ c.toNat) && decide (c.toNat ≤ 122)

def consHead (c : UInt8) : List Bs → List Bs
  | [] => [[c]]
  | l :: ls => (c :: l) :: ls
/-- The lines of a text; a last one that is empty doesn't count. -/
def splitNL : Bs → List Bs
  | [] => []
  | c :: s => if c = 10 then [] :: splitNL s else consHead c (splitNL s)
/-- A line that is blank or a comment. -/
def blankB (l : Bs) : Bool := l.head? == some 35 || l.all fun c => c == 32

structure Scan where
  rest : Bs
  ok : Bool
def decV (acc : Nat) : Bs → Nat
  | [] => acc
  | c :: r => decV (acc * 10 + (c.toNat - 48)) r
def numV (t : Bs) : Option Nat := if t = [] then none else if t.head? = some 48 then none else if 65536 < decV 0 t then none else some (decV 0 t)
def takeP (want : UInt8 → Bool) (s : Bs) : Bs × Bs := (s.takeWhile want, sp (s.dropWhile want))
def numberP (s : Scan) : Int × Scan :=
  match numV (s.rest.takeWhile isDig) with
  | some n => ((n : Int), ⟨sp (s.rest.dropWhile isDig), s.ok⟩)
  | none => (1, ⟨sp (s.rest.dropWhile isDig), false⟩)
def signP (c : UInt8) (s : Bs) : Bool × Bs := if s.head? = some c then (true, sp s.tail) else (false, s)
def needP (c : UInt8) (s : Scan) : Scan := ⟨(signP c s.rest).2, (signP c s.rest).1 && s.ok⟩
def literalP (s : Scan) : Int × Scan :=
  if (signP 45 s.rest).1 = true then (-(numberP ⟨(signP 45 s.rest).2, s.ok⟩).1, (numberP ⟨(signP 45 s.rest).2, s.ok⟩).2) else numberP s
def moreP (s : Scan) : Bool := s.ok && !(s.rest.head? == some 41)
def roundP (el : Scan → Int × Scan) (l : List Int) (s : Scan) : List Int × Scan :=
  (l ++ [(el (if 0 < l.length then needP 44 s else s)).1], (el (if 0 < l.length then needP 44 s else s)).2)
def listGo (el : Scan → Int × Scan) : Nat → List Int → Scan → List Int × Scan
  | 0, l, s => (l, s)
  | f + 1, l, s => if moreP s = true then listGo el f (roundP el l s).1 (roundP el l s).2 else (l, s)
def listE (r : List Int × Scan) : List Int × Scan := (r.1, ⟨(needP 41 r.2).rest, (needP 41 r.2).ok && (needP 41 r.2).rest.isEmpty⟩)
def listP (el : Scan → Int × Scan) (s : Scan) : List Int × Scan :=
  listE (listGo el ((needP 40 s).rest.length + 2) [] (needP 40 s))

inductive PLine where
  | bad
  | gate (v : Int) (k : Nat) (l : List Int)
  | out (x : Int)
  | block (w : Nat) (l : List Int)
  deriving DecidableEq, Inhabited
def wAnd : Bs := [97, 110, 100]
def wOr : Bs := [111, 114]
def wXor : Bs := [120, 111, 114]
def wIte : Bs := [105, 116, 101]
def wOutput : Bs := [111, 117, 116, 112, 117, 116]
def wFree : Bs := [102, 114, 101, 101]
def wExists : Bs := [101, 120, 105, 115, 116, 115]
def wForall : Bs := [102, 111, 114, 97, 108, 108]
/-- The kind of the gates with a word; 0: none. -/
def kindP (w : Bs) : Nat := if w = wAnd then 1 else if w = wOr then 2 else if w = wXor then 3 else if w = wIte then 4 else 0
/-- Which line a word begins; 0: none. -/
def wordP (w : Bs) : Nat := if w = wFree then 1 else if w = wExists then 2 else if w = wForall then 3 else if w = wOutput then 4 else 0
def gateL (s : Scan) : PLine :=
  let v := numberP s
  let s2 := needP 61 v.2
  let w := takeP isLow s2.rest
  let l := listP literalP ⟨w.2, s2.ok⟩
  if l.2.ok = true ∧ kindP w.1 ≠ 0 then .gate v.1 (kindP w.1) l.1 else .bad
def otherL (s : Scan) : PLine :=
  let w := takeP isLow s.rest
  if wordP w.1 = 4 then
    let l := listP literalP ⟨w.2, s.ok⟩
    match l.1 with
    | [x] => if l.2.ok = true then .out x else .bad
    | _ => .bad
  else if wordP w.1 = 0 then .bad
  else
    let l := listP numberP ⟨w.2, s.ok⟩
    if l.2.ok = true then .block (wordP w.1) l.1 else .bad
/-- What a line that is not blank says, as the program reads it. -/
def scanL (t : Bs) : PLine :=
  let s : Scan := ⟨sp t, true⟩
  if (sp t).head?.any isDig = true then gateL s else otherL s

structure Tok where
  word : Bs
  n : Nat
  byte : UInt8
  deriving DecidableEq, Inhabited
def isPun (c : UInt8) : Bool := c == 40 || c == 41 || c == 44 || c == 61 || c == 45
def tokGo : Nat → Bs → Option (List Tok)
  | 0, _ => some []
  | _ + 1, [] => some []
  | f + 1, c :: r =>
    if c = 32 then tokGo f r
    else if isLow c = true then (tokGo f (r.dropWhile isLow)).map fun ts => ⟨c :: r.takeWhile isLow, 0, 0⟩ :: ts
    else if 49 ≤ c.toNat ∧ c.toNat ≤ 57 then
      if 65536 < decV 0 (c :: r.takeWhile isDig) then none else (tokGo f (r.dropWhile isDig)).map fun ts => ⟨[], decV 0 (c :: r.takeWhile isDig), 0⟩ :: ts
    else if isPun c = true then (tokGo f r).map fun ts => ⟨[], 0, c⟩ :: ts
    else none
def tokP (s : Bs) : Option (List Tok) := tokGo s.length s
/-- Elements behind l of them, up to the end. -/
def innerT (signs : Bool) : Nat → List Int → List Tok → Option (List Int)
  | 0, l, _ => some l
  | _ + 1, l, [] => some l
  | f + 1, l, t :: ts =>
    let r : Option (List Tok) := if l = [] then some (t :: ts) else if t.byte = 44 then some ts else none
    match r with
    | none => none
    | some r =>
      let neg := signs && (match r with | x :: _ => x.byte == 45 | [] => false)
      let r2 := if neg = true then r.tail else r
      match r2 with
      | [] => none
      | x :: xs => if x.n = 0 then none else innerT signs f (l ++ [if neg = true then -(x.n : Int) else (x.n : Int)]) xs
def literalsT (t : List Tok) (signs : Bool) : Option (List Int) :=
  match t with
  | [] => none
  | x :: r => if r = [] then none else if x.byte ≠ 40 then none else if (r.getLast?.map (·.byte)) ≠ some 41 then none else innerT signs r.length [] r.dropLast
def parseT (t : List Tok) : PLine :=
  match t with
  | a :: b :: r =>
    if 0 < a.n ∧ b.byte = 61 ∧ r ≠ [] then
      match r with
      | [] => .bad
      | w :: q => match literalsT q true with
        | none => .bad
        | some l => if kindP w.word = 0 then .bad else .gate a.n (kindP w.word) l
    else match literalsT (b :: r) (decide (a.word = wOutput)) with
      | none => .bad
      | some l =>
        if wordP a.word = 4 then (match l with | [x] => .out x | _ => .bad)
        else if wordP a.word = 0 then .bad else .block (wordP a.word) l
  | _ => .bad
/-- What a line that is not blank says, as the document's reader reads it. -/
def tokL (t : Bs) : PLine := match tokP t with | none => .bad | some ts => parseT ts
end Go.Proofs.YtnlobmepajakcaaGreatDoor
namespace Go.Proofs.YtnlobmepajakcaaGreatDoor
open Go.RowKit Go.Shelf

structure RS where
  pre : List PBlock
  gates : List PGate
  out : Int
  seen : Nat → Bool
  vars : Nat
  lits : Nat
  begun : Bool
  done : Bool
  at_ : List Nat
  outAt : Nat
def rs0 : RS := ⟨[], [], 0, noS, 0, 0, false, false, [], 0⟩
/-- New variables one behind the other; none: one has been there. -/
def declP : (Nat → Bool) → List Int → Option (Nat → Bool)
  | S, [] => some S
  | S, v :: vs => if S v.toNat = true then none else declP (upd S v.toNat true) vs
def addBlock (p : List PBlock) (ex : Bool) (l : List Int) : List PBlock :=
  match p.getLast? with
  | some x => if x.ex = ex then p.dropLast ++ [⟨x.ex, x.vars ++ l⟩] else if l = [] then p else p ++ [⟨ex, l⟩]
  | none => if l = [] then p else p ++ [⟨ex, l⟩]
/-- A line is added: the error, and the reader behind it (if there was no error). -/
def addL (r : RS) (no : Nat) : PLine → Int × RS
  | .bad => (5, r)
  | .gate v k l =>
    if r.done = false then (5, r)
    else if (k = 3 ∧ l.length ≠ 2) ∨ (k = 4 ∧ l.length ≠ 3) then (2, r)
    else if r.seen v.toNat = true then (7, r)
    else if 200000 < r.lits + l.length then (3, r)
    else (0, { r with seen := upd r.seen v.toNat true, lits := r.lits + l.length, gates := r.gates ++ [⟨v, k, l⟩], at_ := r.at_ ++ [no] })
  | .out x => if r.done = true then (5, r) else (0, { r with done := true, outAt := no, out := x })
  | .block w l =>
    if r.done = true ∨ (w = 1 ∧ r.begun = true) then (5, r)
    else match declP r.seen l with
      | none => (7, r)
      | some S => if 1024 < r.vars + l.length then (3, r)
        else (0, { r with seen := S, vars := r.vars + l.length, begun := true, pre := addBlock r.pre (decide (w ≠ 3)) l })
/-- Lines from number no on: the first error with its line, or the reader behind them. -/
def linesP (L : Bs → PLine) (r : RS) (no : Nat) : List Bs → (Int × Nat) × RS
  | [] => ((0, 0), r)
  | t :: ts => if blankB t = true then linesP L r (no + 1) ts else
    match addL r no (L t) with
    | (e, r') => if e = 0 then linesP L r' (no + 1) ts else ((e, no), r)
/-- The line of the first gate with a literal that isn't known. -/
def strayP (S : Nat → Bool) : List PGate → List Nat → Option Nat
  | g :: gs, n :: ns => if (g.ins.any fun l => !S (absN l)) = true then some n else strayP S gs ns
  | _, _ => none
def endO (r : RS) (o : List PGate × Int) : PNet × Nat × Int := if o.2 = 0 then (⟨r.pre, o.1, r.out⟩, 0, 0) else (noNet, 0, o.2)
def endR (r : RS) : PNet × Nat × Int :=
  if r.done = false then (noNet, 0, 5)
  else if r.seen (absN r.out) = false then (noNet, r.outAt, 6)
  else match strayP r.seen r.gates r.at_ with
    | some n => (noNet, n, 6)
    | none => endO r (orderP (varsOf r.pre) r.gates)
def doneR (x : (Int × Nat) × RS) : PNet × Nat × Int := if x.1.1 = 0 then endR x.2 else (noNet, x.1.2, x.1.1)
def readW (L : Bs → PLine) (s : Bs) : PNet × Nat × Int :=
  if 4194304 < s.length then (noNet, 0, 3) else doneR (linesP L rs0 1 (splitNL s))
def readP (s : Bs) : PNet × Nat × Int := readW scanL s

/-- A number in decimal digits. -/
def digF : Nat → Nat → Bs
  | 0, _ => []
  | f + 1, n => if n < 10 then [UInt8.ofNat (48 + n)] else digF f (n / 10) ++ [UInt8.ofNat (48 + n % 10)]
def digP (n : Nat) : Bs := digF (n + 1) n
def intP (x : Int) : Bs := if x < 0 then 45 :: digP (-x).toNat else digP x.toNat
/-- Literals, separated. -/
def litsP : List Int → Bs
  | [] => []
  | [x] => intP x
  | x :: xs => intP x ++ [44, 32] ++ litsP xs
def listS (l : List Int) : Bs := [40] ++ litsP l ++ [41, 10]
def headP : Bs := [35, 81, 67, 73, 82, 45, 49, 52, 10]
def kindW (k : Int) : Bs := if k = 1 then wAnd else if k = 2 then wOr else if k = 3 then wXor else wIte
def blockS (b : PBlock) : Bs := (if b.ex = true then wExists else wForall) ++ listS b.vars
def gateS (g : PGate) : Bs := intP g.var ++ [32, 61, 32] ++ kindW g.kind ++ listS g.ins
def textP (N : PNet) : Bs := headP ++ N.pre.flatMap blockS ++ (wOutput ++ listS [N.out]) ++ N.gates.flatMap gateS
def printP (N : PNet) : Bs × Int := if mayP N = true then (if 4194304 < (textP N).length then ([], 3) else (textP N, 0)) else ([], 2)
end Go.Proofs.YtnlobmepajakcaaGreatDoor
