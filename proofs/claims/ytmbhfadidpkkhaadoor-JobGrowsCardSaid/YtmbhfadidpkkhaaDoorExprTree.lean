/-
  Expressions, plain: trees, what a text is read as (a tree and what is left of the text; or where it is wrong, and how), what a tree comes to. No condition: plain definitions.
-/
import Derived.Test.YtmbhfadidpkkhaaDoorHeap
namespace Go.Proofs.YtmbhfadidpkkhaaDoor
open Go.RowKit
set_option linter.unusedVariables false

/-- A tree: a number; n (true) or s; less; two with an operator's byte between (109 min, 77 max); one of two. -/
inductive Tr where
  | num (k : Int)
  | nam (n : Bool)
  | neg (a : Tr)
  | bin (op : UInt8) (a b : Tr)
  | sel (a b c : Tr)
/-- What is read: a tree, and what is left; or how much is left where it is wrong, and the fault. -/
inductive Rd where
  | ok (t : Tr) (rest : List UInt8)
  | bad (left : Nat) (e : Int)
def Rd.bind (r : Rd) (f : Tr → List UInt8 → Rd) : Rd := match r with
  | .ok t l => f t l
  | .bad k e => .bad k e
def isDig (c : UInt8) : Bool := decide (48 ≤ c.toNat) && decide (c.toNat ≤ 57)
def digsOf (l : List UInt8) : List UInt8 := l.takeWhile isDig
/-- The digits that count: a 0 stands alone. -/
def numOf (l : List UInt8) : List UInt8 := match digsOf l with
  | c :: d :: r => if c = 48 then [48] else c :: d :: r
  | d => d
def digVal (ds : List UInt8) : Nat := ds.foldl (fun a c => a * 10 + (c.toNat - 48)) 0
def numRd (l : List UInt8) : Rd :=
  if numOf l = [] ∨ digVal (numOf l) > 9223372036854775807 then .bad l.length 2 else .ok (.num (digVal (numOf l))) (l.drop (numOf l).length)
def wantRd (c : UInt8) (l : List UInt8) (f : List UInt8 → Rd) : Rd := match l with
  | x :: r => if x = c then f r else .bad l.length 2
  | [] => .bad 0 2
/-- One level deeper: what is left at the place where it is too deep. -/
def deepRd (d k : Nat) (f : Rd) : Rd := if d = 20 then .bad k 4 else f
abbrev Reads := Nat → List UInt8 → Rd
def twoRd (W : Reads) (op : UInt8) (d : Nat) (l : List UInt8) : Rd :=
  (W d l).bind fun a l1 => wantRd 44 l1 fun l2 => (W d l2).bind fun b l3 => wantRd 41 l3 fun l4 => .ok (.bin op a b) l4
def oneRd (W : Reads) (d : Nat) (l : List UInt8) : Rd := match l with
  | 109 :: 105 :: 110 :: 40 :: r => deepRd d l.length (twoRd W 109 (d + 1) r)
  | 109 :: 97 :: 120 :: 40 :: r => deepRd d l.length (twoRd W 77 (d + 1) r)
  | 110 :: r => .ok (.nam true) r
  | 115 :: r => .ok (.nam false) r
  | 40 :: r => deepRd d l.length ((W (d + 1) r).bind fun a l1 => wantRd 41 l1 fun l2 => .ok a l2)
  | l => numRd l
def lessRd (W : Reads) (d : Nat) (l : List UInt8) : Rd := match l with
  | 45 :: r => deepRd d l.length ((lessRd W (d + 1) r).bind fun a l1 => .ok (.neg a) l1)
  | l => oneRd W d l
/-- Operands with operators between, from the left: what follows the first. -/
def loopRd (next : List UInt8 → Rd) (ops : List UInt8) : Nat → Tr → List UInt8 → Rd
  | 0, a, l => .ok a l
  | k + 1, a, l => match l with
    | c :: r => if c ∈ ops then (next r).bind fun b l1 => loopRd next ops k (.bin c a b) l1 else .ok a l
    | [] => .ok a []
def rowRd (next : List UInt8 → Rd) (ops : List UInt8) (l : List UInt8) : Rd := (next l).bind fun a l1 => loopRd next ops l1.length a l1
def mulRd (W : Reads) (d : Nat) (l : List UInt8) : Rd := rowRd (lessRd W d) [42, 47, 37] l
def addRd (W : Reads) (d : Nat) (l : List UInt8) : Rd := rowRd (mulRd W d) [43, 45] l
/-- What follows the first operand of a comparison. -/
def cmpTl (W : Reads) (d : Nat) (a : Tr) (l : List UInt8) : Rd := match l with
  | c :: r => if c ∈ [61, 60, 62] then (addRd W d r).bind fun b l2 => .ok (.bin c a b) l2 else .ok a (c :: r)
  | [] => .ok a []
def cmpRd (W : Reads) (d : Nat) (l : List UInt8) : Rd := (addRd W d l).bind (cmpTl W d)
/-- What follows what is asked. -/
def selRd (W : Reads) (d : Nat) (a : Tr) (l : List UInt8) : Rd := match l with
  | x :: r => if x = 63 then deepRd d (r.length + 1) ((W (d + 1) r).bind fun b l2 => wantRd 58 l2 fun l3 => (W (d + 1) l3).bind fun c l4 => .ok (.sel a b c) l4) else .ok a (x :: r)
  | [] => .ok a []
def wholeStep (W : Reads) (d : Nat) (l : List UInt8) : Rd := (cmpRd W d l).bind (selRd W d)
/-- A whole expression, of at most k bytes. -/
def wholeRd : Nat → Reads
  | 0 => wholeStep fun _ l => .bad l.length 2
  | k + 1 => wholeStep (wholeRd k)
/-- A text: its tree; or where it is wrong, and how. -/
inductive Parsed where
  | tree (t : Tr)
  | fault (at_ : Nat) (e : Int)
def parseT (s : List UInt8) : Parsed :=
  if 120 < s.length then .fault 0 4 else match wholeRd s.length 0 s with
  | .ok t [] => .tree t
  | .ok _ (_ :: r) => .fault (s.length - (r.length + 1)) 2
  | .bad k e => .fault (s.length - k) e

/-! ### What a tree comes to -/
def b2i (b : Bool) : Int := if b then 1 else 0
def opVal (op : UInt8) (a b : Int) : Int :=
  if op = 109 then min a b else if op = 77 then max a b else if op = 43 then wrap64 (a + b) else if op = 45 then wrap64 (a - b) else if op = 42 then wrap64 (a * b)
  else if op = 61 then b2i (a == b) else if op = 60 then b2i (decide (a < b)) else if op = 62 then b2i (decide (b < a))
  else if b = 0 then 0 else if b = -1 then (if op = 37 then 0 else wrap64 (-a)) else if op = 47 then a.tdiv b else a.tmod b
def Tr.val (n s : Int) : Tr → Int
  | .num k => k
  | .nam x => if x then n else s
  | .neg a => wrap64 (-(a.val n s))
  | .bin op a b => opVal op (a.val n s) (b.val n s)
  | .sel a b c => if a.val n s = 0 then c.val n s else b.val n s
end Go.Proofs.YtmbhfadidpkkhaaDoor
