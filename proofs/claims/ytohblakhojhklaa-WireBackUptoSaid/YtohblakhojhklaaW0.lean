import Derived.Test.YtohblakhojhklaaProg
import Derived.Test.YtohblakhojhklaaPterm
import Derived.WalkKit
import Derived.KernelRfl
import Derived.Deep.QuietTactic
import Derived.BigQuiet
import Derived.WalkLawsBesides
import Derived.WalkSpells
/- The ground of the walks: strings as lists of bytes, in one spelling. -/
namespace Go.Proofs.Ytohblakhojhklaa
open Go.RowKit Sp

/-- A fact that the walk does not look into. -/
structure Kp (p : Prop) : Prop where mk :: (out : p)
theorem hid {p : Prop} (h : p) : Kp p := ⟨h⟩

/-- The string of a list of bytes. -/
def ofL (l : Bs) : ByteArray := ⟨l.toArray⟩
theorem ofL_data (s : ByteArray) : ofL s.data.toList = s := rfl
theorem ofL_surj (s : ByteArray) : ∃ l, s = ofL l := ⟨s.data.toList, rfl⟩
theorem ofL_inj {a b : Bs} (h : ofL a = ofL b) : a = b := by
  have := congrArg (fun s : ByteArray => s.data.toList) h
  simpa [ofL] using this
@[go_sem, simp] theorem ofL_size (l : Bs) : (ofL l).size = l.length := by simp [ofL, ByteArray.size]
@[go_sem, simp] theorem ofL_toList (l : Bs) : (ofL l).data.toList = l := rfl
@[go_sem, simp] theorem ofL_toList' (l : Bs) : (ofL l).toList = l := by rw [ByteArray.toList_eq]; rfl
@[go_sem, simp] theorem ofL_extract (l : Bs) (a b : Nat) : (ofL l).extract a b = ofL ((l.drop a).take (b - a)) := ByteArray.extract_mk l a b
@[go_sem, simp] theorem ofL_append (a b : Bs) : ofL a ++ ofL b = ofL (a ++ b) := by
  apply ByteArray.ext; simp [ofL]
@[go_sem, simp] theorem ofL_getElem (l : Bs) (i : Nat) (h : i < (ofL l).size) : (ofL l)[i]'h = l[i]'(by simpa using h) := by
  simp [ofL, ByteArray.getElem_eq_getElem_data]
theorem strOfNums_ofL (l : Bs) : strOfNums (l.map fun b => (b.toNat : Int)) = ofL l := by
  have h : (l.map fun b => (b.toNat : Int)).map (fun n => UInt8.ofNat n.toNat) = l := by
    rw [List.map_map]
    conv => rhs; rw [← List.map_id l]
    apply List.map_congr_left
    intro b _
    simp
  unfold strOfNums ofL
  rw [h]
theorem run_convert_ofL {P : Program} (w : World) (src e dst : TypeId) (hs : P.underlying src = some (.slice e)) (he : P.underlying e = some (.int .u8)) (hd : P.underlying dst = some .string)
    (b off len cap : Nat) (l : Bs) (hlen : l.length = len) (hcell : ∀ i (h : i < l.length), w.cell? ⟨b, off + i, none⟩ = some (.int .u8 ((l[i]'h).toNat : Int))) :
    (convert src dst (.slice (some ⟨b, off, none⟩) len cap)).run P w = .ok (.string (ofL l)) w := by
  rw [← strOfNums_ofL]
  refine run_convert_bytes_arg w src e hs he b off len cap _ (by simpa using hlen) (fun i hi => ?_) dst hd
  rw [hcell i (by omega)]
  simp [List.getD_eq_getElem?_getD, List.getElem?_eq_getElem (show i < l.length by omega)]
theorem run_add_ofL {P : Program} (a b : Bs) (h : a.length + b.length ≤ 9000000000000) (w : World) : (Op.stringOp .add (ofL a) (ofL b)).run P w = .ok (.string (ofL (a ++ b))) w := by
  rw [run_string_add_sum (h := by simp only [ofL_size]; omega), ofL_append]
/-- A quiet callee behind a region that has drawn already. -/
theorem quiet_same2 {P : Program} {f : FuncId} {args : Array Value} {w : World} {m n : Nat} {v : Value}
    (h : Calls P f args (w.drewN (m + n)) fun e w' => e = .returned v ∧ w' = w.drewN (m + n)) : Calls P f args (w.drewN (m + n)) fun e w'' => e = .returned v ∧ ∃ k, w'' = w.drewN (m + k) :=
  h.mono fun _ _ ⟨he, hm⟩ => ⟨he, n, hm⟩
theorem below_drewN {B : Nat} {w W : World} (h : Below B w W) (n : Nat) : Below B w (W.drewN n) := ⟨h.os, h.tape, h.output, h.size, h.block⟩
theorem below_then {B : Nat} {w w1 w2 : World} (h : Below B w w1) (hB : B ≤ w1.heap.size) (k : Below w1.heap.size w1 w2) : Below B w w2 :=
  h.trans (k.mono hB)
theorem bcell {W w1 : World} (hb : Below W.heap.size W w1) : (∀ b o, b < W.heap.size → w1.cell? ⟨b, o, none⟩ = W.cell? ⟨b, o, none⟩) ∧ (∀ b o, b < W.heap.size → w1.frozen? ⟨b, o, none⟩ = W.frozen? ⟨b, o, none⟩) :=
  ⟨fun b o h => hb.cell (p := ⟨b, o, none⟩) h, fun b o h => hb.frozen (p := ⟨b, o, none⟩) h⟩
end Go.Proofs.Ytohblakhojhklaa
