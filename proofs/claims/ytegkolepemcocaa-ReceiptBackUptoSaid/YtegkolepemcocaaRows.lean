/-
  No cell of these rows narrows 'for every input' (looked for: loops, veiled, ifaces, maps, wideKeys, modest, calm, conditions, laid).
  DERIVED. THE GIVEN ROWS OF THIS SEAT. 4 by the template 'for every input the law returns true; each argument reads behind the call as it read before'; 0 by the template 'total and deterministic' (their statements: YtegkolepemcocaaTotals.lean).
  GIVEN WITH THE SEED: the statements are not yours to turn. If you find one false, say at which input.
  Laid BY PROGRAM, IN A SANDBOX (cutbox-rows.mjs): the forced cells as the released guide's own fill.sh prints them over the translation 22cabb1faed9b0ff… (all of the seat's roots in one cut). By AI agents, Wed Nov 11 2026. No macro, syntax, notation, axiom, sorry.
-/
import Derived.Test.YtegkolepemcocaaChecked
import GoSem.Claim
import GoSem.ClaimJoined
import GoSem.ClaimMapViews
import Derived.JoinedTies
import Derived.KernelRfl
namespace Go.Proofs.Ytegkolepemcocaa
/- THE CELL 'sum', in the pinned program and in every row, IS THE sha256 OF THE DUMP (.gsa) THAT YtegkolepemcocaaProg.lean LOADS. Nothing in Lean hashes anything: it is a label: what it is worth is what the hold of that sum in a sandbox is worth. -/
noncomputable def Try.pinned : Pinned := { name := "ytegkolepemcocaa", sum := "22cabb1faed9b0ff04ce15587f01708a325a27fbb64d5cba9964a0b535c8037d", checked := Try.checked }
namespace Rows
def none {H : Type} : Left H := { results := [], args := [] }

/-- 'chirographlaw26.ReceiptBack': WHATEVER THE INPUT: true; the input reads as it did. -/
def receiptBackSpec : ChangeSpec := { name := "receiptBack", fn := fun _ => fun
  | [d1, d2, d3, d4, d5] => { results := [.lit (.bool true)], args := [d1, d2, d3, d4, d5] }
  | _ => none }
def receiptBackRow : OpenClaim := { program := "ytegkolepemcocaa", sum := "22cabb1faed9b0ff04ce15587f01708a325a27fbb64d5cba9964a0b535c8037d", func := "chirograph/chirographlaw26.ReceiptBack", spec := "receiptBack", inPlace := ["internal/bytealg.IndexByteString", "internal/bytealg.IndexString", "internal/abi.NoEscape"], unfollowed := true, recurses := true, named := ["internal/bytealg.MaxLen"], apart := false }
def ReceiptBackSaid : Prop := receiptBackRow.holds Try.pinned (OpenSpec.ofChange receiptBackSpec)

/-- ITS FALSE NEIGHBOUR: 'it returns false'. Refute it at one input. -/
def receiptBackWrong : ChangeSpec := { name := "receiptBack", fn := fun _ => fun
  | [d1, d2, d3, d4, d5] => { results := [.lit (.bool false)], args := [d1, d2, d3, d4, d5] }
  | _ => none }
def ReceiptBackWrongFalsely : Prop := receiptBackRow.holds Try.pinned (OpenSpec.ofChange receiptBackWrong)

/-- 'chirographlaw12.WireBack': WHATEVER THE INPUT: true; the input reads as it did. -/
def wireBackSpec : ChangeSpec := { name := "wireBack", fn := fun _ => fun
  | [d1, d2, d3] => { results := [.lit (.bool true)], args := [d1, d2, d3] }
  | _ => none }
def wireBackRow : OpenClaim := { program := "ytegkolepemcocaa", sum := "22cabb1faed9b0ff04ce15587f01708a325a27fbb64d5cba9964a0b535c8037d", func := "chirograph/chirographlaw12.WireBack", spec := "wireBack", inPlace := ["internal/bytealg.IndexByteString", "internal/bytealg.IndexString", "internal/abi.NoEscape"], unfollowed := true, recurses := true, named := ["internal/bytealg.MaxLen"], apart := false }
def WireBackSaid : Prop := wireBackRow.holds Try.pinned (OpenSpec.ofChange wireBackSpec)

/-- ITS FALSE NEIGHBOUR: 'it returns false'. Refute it at one input. -/
def wireBackWrong : ChangeSpec := { name := "wireBack", fn := fun _ => fun
  | [d1, d2, d3] => { results := [.lit (.bool false)], args := [d1, d2, d3] }
  | _ => none }
def WireBackWrongFalsely : Prop := wireBackRow.holds Try.pinned (OpenSpec.ofChange wireBackWrong)

/-- 'chirographlaw26.ReceiptBallots': WHATEVER THE INPUT: true; the input reads as it did. -/
def receiptBallotsSpec : ChangeSpec := { name := "receiptBallots", fn := fun _ => fun
  | [d1, d2] => { results := [.lit (.bool true)], args := [d1, d2] }
  | _ => none }
def receiptBallotsRow : OpenClaim := { program := "ytegkolepemcocaa", sum := "22cabb1faed9b0ff04ce15587f01708a325a27fbb64d5cba9964a0b535c8037d", func := "chirograph/chirographlaw26.ReceiptBallots", spec := "receiptBallots", inPlace := ["internal/bytealg.IndexByteString", "internal/bytealg.IndexString", "internal/abi.NoEscape"], unfollowed := true, recurses := true, named := ["internal/bytealg.MaxLen"], apart := false }
def ReceiptBallotsSaid : Prop := receiptBallotsRow.holds Try.pinned (OpenSpec.ofChange receiptBallotsSpec)

/-- ITS FALSE NEIGHBOUR: 'it returns false'. Refute it at one input. -/
def receiptBallotsWrong : ChangeSpec := { name := "receiptBallots", fn := fun _ => fun
  | [d1, d2] => { results := [.lit (.bool false)], args := [d1, d2] }
  | _ => none }
def ReceiptBallotsWrongFalsely : Prop := receiptBallotsRow.holds Try.pinned (OpenSpec.ofChange receiptBallotsWrong)

/-- 'chirographlaw23.PartKeeps': WHATEVER THE INPUT: true; the input reads as it did. -/
def partKeepsSpec : ChangeSpec := { name := "partKeeps", fn := fun _ => fun
  | [d1, d2, d3, d4] => { results := [.lit (.bool true)], args := [d1, d2, d3, d4] }
  | _ => none }
def partKeepsRow : OpenClaim := { program := "ytegkolepemcocaa", sum := "22cabb1faed9b0ff04ce15587f01708a325a27fbb64d5cba9964a0b535c8037d", func := "chirograph/chirographlaw23.PartKeeps", spec := "partKeeps", inPlace := ["internal/bytealg.IndexByteString", "internal/bytealg.IndexString", "internal/abi.NoEscape"], unfollowed := true, recurses := true, named := ["internal/bytealg.MaxLen"], apart := false }
def PartKeepsSaid : Prop := partKeepsRow.holds Try.pinned (OpenSpec.ofChange partKeepsSpec)

/-- ITS FALSE NEIGHBOUR: 'it returns false'. Refute it at one input. -/
def partKeepsWrong : ChangeSpec := { name := "partKeeps", fn := fun _ => fun
  | [d1, d2, d3, d4] => { results := [.lit (.bool false)], args := [d1, d2, d3, d4] }
  | _ => none }
def PartKeepsWrongFalsely : Prop := partKeepsRow.holds Try.pinned (OpenSpec.ofChange partKeepsWrong)

/- THE SECOND FORM. 'bulk': how many values and letters a reading holds, each counted each time it is reached (what is shared counts as often as it is met; a slice's spare places count too). A statement '..UptoSaid' is the law's where the arguments, and the package variables that the reading takes, are together of bulk at most 1048576: NARROWER than '..Said'. Prove '..Said' where nothing that the law and all that it calls make is longer than what came in: it says more and counts as full. Else prove '..UptoSaid'. A law counts once. -/
mutual
def uptoBulk {H : Type} : DataW H → Nat
  | .lit (.string bytes) => bytes.length + 1
  | .lit _ => 1
  | .nil => 1
  | .ptr d => uptoBulk d + 1
  | .slice elems spare => uptoBulkAll elems + uptoBulkAll spare + 1
  | .agg parts => uptoBulkAll parts + 1
  | .iface _ d => uptoBulk d + 1
  | .map entries => uptoBulkEntries entries + 1
  | .held _ => 1
def uptoBulkAll {H : Type} : List (DataW H) → Nat
  | [] => 0
  | d :: r => uptoBulk d + uptoBulkAll r
def uptoBulkEntries {H : Type} : List (Lit × DataW H) → Nat
  | [] => 0
  | x :: r => uptoBulkEntry x + uptoBulkEntries r
def uptoBulkEntry {H : Type} : Lit × DataW H → Nat
  | (.string bytes, d) => bytes.length + uptoBulk d + 1
  | (_, d) => uptoBulk d + 1
 end
def uptoSmall : (H : Type) → List (DataW H) → Bool := fun _ ds => decide (uptoBulkAll ds ≤ 1048576)
def OpenSpec.upto (s : _root_.Go.ChangeSpec) : _root_.Go.OpenSpec := { _root_.Go.OpenSpec.ofChange s with cond := some uptoSmall }

/-- 'chirographlaw26.ReceiptBack', WHERE WHAT IT READS IS OF BULK AT MOST 1048576: true; the input reads as it did. -/
def receiptBackUptoRow : OpenClaim := { program := "ytegkolepemcocaa", sum := "22cabb1faed9b0ff04ce15587f01708a325a27fbb64d5cba9964a0b535c8037d", func := "chirograph/chirographlaw26.ReceiptBack", spec := "receiptBack", inPlace := ["internal/bytealg.IndexByteString", "internal/bytealg.IndexString", "internal/abi.NoEscape"], unfollowed := true, recurses := true, named := ["internal/bytealg.MaxLen"], apart := false, narrowed := true }
def ReceiptBackUptoSaid : Prop := receiptBackUptoRow.holds Try.pinned (OpenSpec.upto receiptBackSpec)

/-- 'chirographlaw12.WireBack', WHERE WHAT IT READS IS OF BULK AT MOST 1048576: true; the input reads as it did. -/
def wireBackUptoRow : OpenClaim := { program := "ytegkolepemcocaa", sum := "22cabb1faed9b0ff04ce15587f01708a325a27fbb64d5cba9964a0b535c8037d", func := "chirograph/chirographlaw12.WireBack", spec := "wireBack", inPlace := ["internal/bytealg.IndexByteString", "internal/bytealg.IndexString", "internal/abi.NoEscape"], unfollowed := true, recurses := true, named := ["internal/bytealg.MaxLen"], apart := false, narrowed := true }
def WireBackUptoSaid : Prop := wireBackUptoRow.holds Try.pinned (OpenSpec.upto wireBackSpec)

/-- 'chirographlaw26.ReceiptBallots', WHERE WHAT IT READS IS OF BULK AT MOST 1048576: true; the input reads as it did. -/
def receiptBallotsUptoRow : OpenClaim := { program := "ytegkolepemcocaa", sum := "22cabb1faed9b0ff04ce15587f01708a325a27fbb64d5cba9964a0b535c8037d", func := "chirograph/chirographlaw26.ReceiptBallots", spec := "receiptBallots", inPlace := ["internal/bytealg.IndexByteString", "internal/bytealg.IndexString", "internal/abi.NoEscape"], unfollowed := true, recurses := true, named := ["internal/bytealg.MaxLen"], apart := false, narrowed := true }
def ReceiptBallotsUptoSaid : Prop := receiptBallotsUptoRow.holds Try.pinned (OpenSpec.upto receiptBallotsSpec)

/-- 'chirographlaw23.PartKeeps', WHERE WHAT IT READS IS OF BULK AT MOST 1048576: true; the input reads as it did. -/
def partKeepsUptoRow : OpenClaim := { program := "ytegkolepemcocaa", sum := "22cabb1faed9b0ff04ce15587f01708a325a27fbb64d5cba9964a0b535c8037d", func := "chirograph/chirographlaw23.PartKeeps", spec := "partKeeps", inPlace := ["internal/bytealg.IndexByteString", "internal/bytealg.IndexString", "internal/abi.NoEscape"], unfollowed := true, recurses := true, named := ["internal/bytealg.MaxLen"], apart := false, narrowed := true }
def PartKeepsUptoSaid : Prop := partKeepsUptoRow.holds Try.pinned (OpenSpec.upto partKeepsSpec)

end Rows
end Go.Proofs.Ytegkolepemcocaa
