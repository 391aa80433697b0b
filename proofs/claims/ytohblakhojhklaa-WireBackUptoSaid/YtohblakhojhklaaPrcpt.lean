import Derived.Test.YtohblakhojhklaaPwire
/- Plain: receipts as terms (what package receipt computes). -/
namespace Go.Proofs.Ytohblakhojhklaa
namespace Sp

structure Rcpt where
  txn : Txn
  aud : Int
  mems : List Mem
  tags : List Bs
  deriving DecidableEq

def mayR (r : Rcpt) : Bool := mayTxn r.txn && decide (0 ≤ r.aud) && decide (r.aud < 8) && mayMembers r.txn r.mems && decide (r.tags.length = r.mems.length) && r.tags.all isTerm
def isOk {α : Type} : Except Nat α → Bool
  | .ok _ => true
  | .error _ => false
def getS : Except Nat Bs → Bs
  | .ok s => s
  | .error _ => []
/-- "receipt" -/
def wordR : Bs := [114, 101, 99, 101, 105, 112, 116]
def wordT : Bs := getS (data wordR)
/-- The five parts of a receipt's term, or an error. -/
def fiveR (r : Rcpt) : Except Nat (List Bs) :=
  match txnT r.txn, num r.aud, membersT r.txn r.mems, row r.tags with
  | .ok a, .ok b, .ok c, .ok d => .ok [wordT, a, b, c, d]
  | _, _, _, _ => .error 5
def putR (r : Rcpt) : Except Nat Bs := match fiveR r with
  | .ok l => (match row l with | .ok t => .ok t | .error _ => .error 5)
  | .error _ => .error 5
def encR (r : Rcpt) : Except Nat Bs := if mayR r then putR r else .error 2

/-- The organisations of a members' term, whatever they are. -/
def orgsOf : List Bs → Option (List Int)
  | [] => some []
  | s :: r => match rowP s 2 2 with
    | some [a, _] => match readNumT a, orgsOf r with
      | some k, some l => some ((k : Int) :: l)
      | _, _ => none
    | _ => none
def noTwice : List Int → Bool
  | [] => true
  | x :: r => !r.contains x && noTwice r
/-- What a text is the receipt of, or why it is none's. -/
def decR (t : Bs) : Except Nat Rcpt :=
  if t.length > 16384 then .error 5
  else match rowP t 5 5 with
  | some [w, a, b, c, d] =>
    if w ≠ wordT then .error 7
    else match untxn a with
    | none => .error 7
    | some x => match readNumT b with
      | none => .error 7
      | some k => if kind d ≠ 3 ∨ kind c ≠ 3 then .error 7
        else match orgsOf (cut c) with
        | none => .error 7
        | some l => if noTwice l = false then .error 260
          else match unmembers x c with
          | none => .error 7
          | some m => if mayR ⟨x, k, m, cut d⟩ then .ok ⟨x, k, m, cut d⟩ else .error 7
  | _ => .error 7
end Sp
end Go.Proofs.Ytohblakhojhklaa
