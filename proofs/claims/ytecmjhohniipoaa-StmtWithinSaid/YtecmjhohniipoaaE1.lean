/- What the parser of expressions answers: plain, over a row of tokens. -/
import Derived.Test.YtecmjhohniipoaaR10
import Derived.Test.YtecmjhohniipoaaT7
set_option linter.unusedSimpArgs false
set_option linter.unusedVariables false
namespace Go.Proofs.Ytecmjhohniipoaa.Ex
open Tr (Nd Fo)
open Lx (Tk noTk)

/-- A token with its places. -/
abbrev PT := Tk × (Nat × Nat) × (Nat × Nat)
def noPT : PT := (noTk, (0, 0), (0, 0))
def tk (L : List PT) (i : Nat) : PT := (L[i]?).getD noPT
/-- A tree: its node, its kids. -/
abbrev T1 := Nd × Fo
def forest : List T1 → Fo
  | [] => .no
  | (d, k) :: r => .node d k (forest r)
def mk (kind : Nat) (p : Nat × Nat) (name : ByteArray) (n : Int) (kids : List T1) : T1 := (⟨kind, p, name, n⟩, forest kids)
abbrev sDot : ByteArray := ⟨#[46]⟩
abbrev sHat : ByteArray := ⟨#[94]⟩
abbrev sBra : ByteArray := ⟨#[91]⟩
abbrev sKet : ByteArray := ⟨#[93]⟩
abbrev sCom : ByteArray := ⟨#[44]⟩
abbrev sRan : ByteArray := ⟨#[46, 46]⟩
abbrev sPar : ByteArray := ⟨#[40]⟩
abbrev sRap : ByteArray := ⟨#[41]⟩
abbrev sNot : ByteArray := ⟨#[78, 79, 84]⟩
abbrev sCur : ByteArray := ⟨#[123]⟩
abbrev sRuc : ByteArray := ⟨#[125]⟩
abbrev sPlu : ByteArray := ⟨#[43]⟩
abbrev sMin : ByteArray := ⟨#[45]⟩
abbrev sNil : ByteArray := ⟨#[]⟩
/-- Is it that symbol, or word? -/
def isSW (t : PT) : Bool := decide (t.1.kind = 5) || decide (t.1.kind = 6)
def isT (L : List PT) (i : Nat) (s : ByteArray) : Bool := isSW (tk L i) && decide ((tk L i).1.text = s)
def pos (L : List PT) (i : Nat) : Nat × Nat := (tk L i).2.1

section
variable (L : List PT)
def need (i : Nat) (s : ByteArray) : Except Nat Nat := if isT L i s = true then .ok (i + 1) else .error i
def nameP (i : Nat) : Except Nat (PT × Nat) := if (tk L i).1.kind = 1 then .ok (tk L i, i + 1) else .error i
def dotP (x : T1) (i : Nat) : Except Nat (T1 × Nat) := match need L i sDot with
  | .error k => .error k
  | .ok j => match nameP L j with
    | .error k => .error k
    | .ok (t, j') => .ok (mk 2 (pos L i) t.1.text 0 [x], j')
def dotsP : Nat → T1 → Nat → Except Nat (T1 × Nat)
  | 0, x, i => .ok (x, i)
  | f + 1, x, i => if isT L i sDot = true then (match dotP L x i with
      | .error k => .error k
      | .ok (y, j) => dotsP f y j) else .ok (x, i)
def qualP (i : Nat) : Except Nat (T1 × Nat) := match nameP L i with
  | .error k => .error k
  | .ok (t, j) => dotsP L (L.length + 1) (mk 1 t.2.1 t.1.text 0 []) j
section
variable (ex : Nat → Except Nat (T1 × Nat))
def commasP : Nat → T1 → Nat → Except Nat (T1 × Nat)
  | 0, x, i => .ok (x, i)
  | f + 1, x, i => if isT L i sCom = true then (match ex (i + 1) with
      | .error k => .error k
      | .ok (y, j) => commasP f (mk 3 (pos L i) sNil 0 [x, y]) j) else .ok (x, i)
def desP : Nat → T1 → Nat → Except Nat (T1 × Nat)
  | 0, x, i => .ok (x, i)
  | f + 1, x, i =>
    if isT L i sDot = true then (match dotP L x i with
      | .error k => .error k
      | .ok (y, j) => desP f y j)
    else if isT L i sHat = true then desP f (mk 4 (pos L i) sNil 0 [x]) (i + 1)
    else if isT L i sBra = true then (match ex (i + 1) with
      | .error k => .error k
      | .ok (y, j) => match commasP L ex (L.length + 1) (mk 3 (pos L i) sNil 0 [x, y]) j with
        | .error k => .error k
        | .ok (z, j2) => match need L j2 sKet with
          | .error k => .error k
          | .ok j3 => desP f z j3)
    else .ok (x, i)
def designP (i : Nat) : Except Nat (T1 × Nat) := match qualP L i with
  | .error k => .error k
  | .ok (x, j) => desP L ex (L.length + 1) x j
def elemP (i : Nat) : Except Nat (T1 × Nat) := match ex i with
  | .error k => .error k
  | .ok (x, j) => if isT L j sRan = true then (match ex (j + 1) with
      | .error k => .error k
      | .ok (y, j2) => .ok (mk 9 (pos L i) sNil 0 [x, y], j2)) else .ok (x, j)
def manyR : Nat → List T1 → Nat → Except Nat (List T1 × Nat)
  | 0, acc, i => .ok (acc, i)
  | f + 1, acc, i => if isT L i sCom = true then (match ex (i + 1) with
      | .error k => .error k
      | .ok (y, j) => manyR f (acc ++ [y]) j) else .ok (acc, i)
def manyP (i : Nat) : Except Nat (List T1 × Nat) := match ex i with
  | .error k => .error k
  | .ok (x, j) => manyR L ex (L.length + 1) [x] j
def betweenP (close : ByteArray) (i : Nat) : Except Nat (List T1 × Nat) := if isT L i close = true then .ok ([], i + 1) else match manyP L ex i with
  | .error k => .error k
  | .ok (l, j) => match need L j close with
    | .error k => .error k
    | .ok j2 => .ok (l, j2)
end
/-- Is it a qualident? -/
def plainF : Fo → Bool
  | .no => false
  | .node d k _ => if d.kind = 2 then plainF k else decide (d.kind = 1)
def plainT (x : T1) : Bool := plainF (.node x.1 x.2 .no)
/-- The operators of a level. -/
def ops : Nat → List ByteArray
  | 0 => [⟨#[61]⟩, ⟨#[35]⟩, ⟨#[60]⟩, ⟨#[60, 61]⟩, ⟨#[62]⟩, ⟨#[62, 61]⟩, ⟨#[73, 78]⟩]
  | 1 => [⟨#[43]⟩, ⟨#[45]⟩, ⟨#[79, 82]⟩]
  | _ => [⟨#[42]⟩, ⟨#[47]⟩, ⟨#[68, 73, 86]⟩, ⟨#[77, 79, 68]⟩, ⟨#[65, 78, 68]⟩]
def isOp (i k : Nat) : Bool := isSW (tk L i) && (ops k).any (fun s => decide (s = (tk L i).1.text))
def binsP (sub : Nat → Except Nat (T1 × Nat)) (k : Nat) : Nat → T1 → Nat → Except Nat (T1 × Nat)
  | 0, x, i => .ok (x, i)
  | f + 1, x, i => if isOp L i k = true then (match sub (i + 1) with
      | .error e => .error e
      | .ok (y, j) => if k = 0 then .ok (mk 11 (pos L i) (tk L i).1.text 0 [x, y], j) else binsP sub k f (mk 11 (pos L i) (tk L i).1.text 0 [x, y]) j) else .ok (x, i)
def signed (i k : Nat) : Bool := decide (k = 1) && (isT L i sPlu || isT L i sMin)
/-- So many levels down. -/
def levD (fac : Nat → Except Nat (T1 × Nat)) : Nat → Nat → Except Nat (T1 × Nat)
  | 0, i => fac i
  | d + 1, i => match levD fac d (if signed L i (2 - d) = true then i + 1 else i) with
    | .error e => .error e
    | .ok (x, j) => binsP L (levD fac d) (2 - d) (L.length + 1) (if signed L i (2 - d) = true then mk 12 (pos L i) (tk L i).1.text 0 [x] else x) j
def exprG (fac : Nat → Except Nat (T1 × Nat)) (i : Nat) : Except Nat (T1 × Nat) := levD L fac 3 i
def zeroT : T1 := (Tr.zeroN, .no)
def factP : Nat → Nat → Except Nat (T1 × Nat)
  | 0, i => .error i
  | f + 1, i =>
    if 2 ≤ (tk L i).1.kind ∧ (tk L i).1.kind ≤ 4 then .ok (mk ((tk L i).1.kind + 3) (pos L i) (tk L i).1.text (tk L i).1.n [], i + 1)
    else if isT L i sPar = true then (match exprG L (factP f) (i + 1) with
      | .error k => .error k
      | .ok (x, j) => match need L j sRap with
        | .error k => .error k
        | .ok j2 => .ok (x, j2))
    else if isT L i sNot = true then (match factP f (i + 1) with
      | .error k => .error k
      | .ok (x, j) => .ok (mk 12 (pos L i) sNot 0 [x], j))
    else if isT L i sCur = true then (match betweenP L (elemP L (exprG L (factP f))) sRuc (i + 1) with
      | .error k => .error k
      | .ok (l, j) => .ok (mk 8 (pos L i) sNil 0 (zeroT :: l), j))
    else match designP L (exprG L (factP f)) i with
      | .error k => .error k
      | .ok (x, j) => if plainT x = true ∧ isT L j sCur = true then (match betweenP L (elemP L (exprG L (factP f))) sRuc (j + 1) with
          | .error k => .error k
          | .ok (l, j2) => .ok (mk 8 (pos L i) sNil 0 (x :: l), j2))
        else if isT L j sPar = true then (match betweenP L (exprG L (factP f)) sRap (j + 1) with
          | .error k => .error k
          | .ok (l, j2) => .ok (mk 10 (pos L j) sNil 0 (x :: l), j2))
        else .ok (x, j)
def exprP (i : Nat) : Except Nat (T1 × Nat) := exprG L (factP L (L.length + 1)) i
def labelsP (i : Nat) : Except Nat (T1 × Nat) := match manyP L (elemP L (exprP L)) i with
  | .error k => .error k
  | .ok (l, j) => .ok (mk 29 (pos L i) sNil 0 l, j)
end
end Go.Proofs.Ytecmjhohniipoaa.Ex
