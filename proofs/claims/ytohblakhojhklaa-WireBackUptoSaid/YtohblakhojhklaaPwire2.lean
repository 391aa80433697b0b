import Derived.Test.YtohblakhojhklaaPback
/- Plain: messages as terms (what package wire computes of kinds). -/
namespace Go.Proofs.Ytohblakhojhklaa
namespace Sp

/-- "prepare", "vote", "decision", "ack", "query", "hello" -/
def wordK : Nat → Bs
  | 1 => [112, 114, 101, 112, 97, 114, 101]
  | 2 => [118, 111, 116, 101]
  | 3 => [100, 101, 99, 105, 115, 105, 111, 110]
  | 4 => [97, 99, 107]
  | 5 => [113, 117, 101, 114, 121]
  | 6 => [104, 101, 108, 108, 111]
  | _ => []
def leastK : Nat → Nat
  | 1 => 3
  | 2 => 1
  | 3 => 1
  | _ => 0
def mostK : Nat → Nat
  | 1 => 3
  | 2 => 2
  | 3 => 1
  | _ => 0
def prepM (m : Msg) : Bool := m.kind == 1
def saysM (m : Msg) : Bool := m.kind == 2 || m.kind == 3
def idleM (m : Msg) : Bool :=
  if !prepM m && (m.aud != 0 || !m.mems.isEmpty || !m.body.isEmpty) then false
  else if !saysM m && m.yes then false
  else if m.kind != 2 && !m.tag.isEmpty then false
  else m.kind != 6 || decide (m.txn = ⟨0, 0, 0⟩)
/-- May a message of this kind be? -/
def mayK : Nat → Msg → Bool
  | 1, m => org m.aud && mayMembers m.txn m.mems && isTerm m.body
  | 2, m => (m.yes == !m.tag.isEmpty) && (!m.yes || isTerm m.tag)
  | _, _ => true
def isKind (n : Nat) : Bool := decide (1 ≤ n) && decide (n ≤ 6)
def mayM (m : Msg) : Bool := isKind m.kind && idleM m && (m.kind == 6 || mayTxn m.txn) && mayK m.kind m
def flag (b : Bool) : Bs := numS (if b then 1 else 0)
def orNo : Except Nat Bs → Bs
  | .ok s => s
  | .error _ => []
/-- What is put of a message behind its kind and its transaction. -/
def putK : Nat → Msg → List Bs
  | 1, m => [numS m.aud, orNo (membersT m.txn m.mems), m.body]
  | 2, m => if m.yes then [flag m.yes, m.tag] else [flag m.yes]
  | 3, m => [flag m.yes]
  | _, _ => []
def wordD (n : Nat) : Bs := orNo (data (wordK n))
def partsM (m : Msg) : List Bs := wordD m.kind :: ((if m.kind == 6 then [] else [orNo (txnT m.txn)]) ++ putK m.kind m)
def encM (m : Msg) : Except Nat Bs :=
  if mayM m then (if (partsM m).any (·.isEmpty) then .error 5 else row (partsM m)) else .error 2

def unyesT (t : Bs) : Option Bool := match readNumT t with
  | some v => if v < 2 then some (v == 1) else none
  | none => none
/-- What is got of a message's parts behind its transaction. -/
def getK : Nat → Msg → List Bs → Option Msg
  | 1, m, [a, b, c] => match readNumT a, unmembers m.txn b with
    | some k, some l => some { m with aud := k, mems := l, body := c }
    | _, _ => none
  | 2, m, [a] => match unyesT a with
    | some false => some { m with yes := false }
    | _ => none
  | 2, m, [a, b] => match unyesT a with
    | some true => some { m with yes := true, tag := b }
    | _ => none
  | 3, m, [a] => match unyesT a with
    | some y => some { m with yes := y }
    | none => none
  | 4, m, [] => some m
  | 5, m, [] => some m
  | 6, m, [] => some m
  | _, _, _ => none
def zeroM : Msg := ⟨0, ⟨0, 0, 0⟩, 0, [], [], false, []⟩
/-- What is decoded of the parts behind a kind. -/
def decK (n : Nat) (l : List Bs) : Option Msg :=
  if n = 6 then (match getK 6 { zeroM with kind := 6 } l with | some m => if mayM m then some m else none | none => none)
  else match l with
  | [] => none
  | x :: r => match untxn x with
    | none => none
    | some t => match getK n { zeroM with kind := n, txn := t } r with
      | some m => if mayM m then some m else none
      | none => none
def kindOf (w : Bs) : Nat := if w = wordK 1 then 1 else if w = wordK 2 then 2 else if w = wordK 3 then 3 else if w = wordK 4 then 4 else if w = wordK 5 then 5 else if w = wordK 6 then 6 else 0
def decM (t : Bs) : Option Msg := match rowP t 1 5 with
  | some (x :: r) => if kind x = 1 then (match text x with
    | some w => if kindOf w = 0 then none else decK (kindOf w) r
    | none => none) else none
  | _ => none
end Sp
end Go.Proofs.Ytohblakhojhklaa
