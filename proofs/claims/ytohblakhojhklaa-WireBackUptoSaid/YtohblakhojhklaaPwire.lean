import Derived.Test.YtohblakhojhklaaPterm
/- Plain: messages as terms (what package wire computes). -/
namespace Go.Proofs.Ytohblakhojhklaa
namespace Sp

structure Txn where
  c : Int
  e : Int
  s : Int
  deriving DecidableEq
structure Mem where
  org : Int
  dig : Bs
  deriving DecidableEq
structure Msg where
  kind : Nat
  txn : Txn
  aud : Int
  mems : List Mem
  body : Bs
  yes : Bool
  tag : Bs
  deriving DecidableEq

def org (k : Int) : Bool := decide (0 ≤ k) && decide (k < 8)
def mayTxn (t : Txn) : Bool := org t.c && decide (1 ≤ t.e) && decide (t.e ≤ 255) && decide (1 ≤ t.s) && decide (t.s ≤ 65535)
def mayMem (coord last : Int) : List Mem → Bool
  | [] => true
  | x :: r => org x.org && decide (x.org ≠ coord) && decide (last < x.org) && isTerm x.dig && mayMem coord x.org r
def mayMembers (t : Txn) (l : List Mem) : Bool := mayMem t.c (-1) l && decide (1 ≤ l.length) && decide (l.length ≤ 6)

/-- A number's datum. -/
def num (v : Int) : Except Nat Bs := if v < 0 ∨ v > 2147483647 then .error 2 else data (numOf v.toNat)
def numS (v : Int) : Bs := match num v with | .ok t => t | .error _ => []
def txnT (t : Txn) : Except Nat Bs := if mayTxn t then row [numS t.c, numS t.e, numS t.s] else .error 2
def memT (x : Mem) : Except Nat Bs := row [numS x.org, x.dig]
/-- The members' terms, up to the first that has none. -/
def memTs : List Mem → Except Nat (List Bs)
  | [] => .ok []
  | x :: r => match memT x with
    | .error _ => .error 5
    | .ok s => match memTs r with
      | .error e => .error e
      | .ok l => .ok (s :: l)
def membersT (t : Txn) (l : List Mem) : Except Nat Bs := if mayMembers t l then (match memTs l with | .error e => .error e | .ok p => row p) else .error 2

def rowP (t : Bs) (least most : Nat) : Option (List Bs) := if kind t = 3 ∧ least ≤ (cut t).length ∧ (cut t).length ≤ most then some (cut t) else none
def untxn (t : Bs) : Option Txn := match rowP t 3 3 with
  | some [a, b, c] => match readNumT a, readNumT b, readNumT c with
    | some x, some y, some z => if mayTxn ⟨x, y, z⟩ then some ⟨x, y, z⟩ else none
    | _, _, _ => none
  | _ => none
def unmem (s : Bs) : Option Mem := match rowP s 2 2 with
  | some [a, b] => match readNumT a with
    | some k => some ⟨k, b⟩
    | none => none
  | _ => none
def unmems : List Bs → Option (List Mem)
  | [] => some []
  | s :: r => match unmem s, unmems r with
    | some x, some l => some (x :: l)
    | _, _ => none
def unmembers (of : Txn) (t : Bs) : Option (List Mem) := match rowP t 1 6 with
  | some p => match unmems p with
    | some l => if mayMembers of l then some l else none
    | none => none
  | none => none

end Sp
end Go.Proofs.Ytohblakhojhklaa
