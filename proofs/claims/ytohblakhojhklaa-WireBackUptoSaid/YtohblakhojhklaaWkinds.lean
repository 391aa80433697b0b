import Derived.Test.YtohblakhojhklaaWblk0
import Derived.Test.YtohblakhojhklaaPwire2
import Derived.Maps.OwnSet
import Derived.Laws.EntriesVeiled
/- The walks of wire's plain, kinds, Word. -/
namespace Go.Proofs.Ytohblakhojhklaa
open Go.RowKit Go.Maps Sp

theorem wpList_insert_own {H : Type} {P : Program} (w : World) {ops : Array Oper} {rest : List Oper} {o : Oper} {a : Act} {Q : Exit → Act → World → Prop}
    (hg : o.guard = none) (m x v : Operand) (t : TypeId) (hop : o.op = Op.insert t m x v)
    (k e : TypeId) (K : Keyed P k) (ht : P.underlying t = some (.map k e)) (R : Value → Option (DataW H × List MemPlace)) (b n : Nat) (D : DataW H)
    (hm : a.eval m = .map (some b)) (hown : w.ownsMap P k R b n D) (hn : n < maxLen) (key val : Value) (kl : Lit) (hx : a.eval x = key) (hv : a.eval v = val) (hkey : keyOf P k key = some kl)
    (d : DataW H) (ps : List MemPlace) (hval : R val = some (d, ps))
    (hK : ∀ w', w'.ownsMap P k R b (n + 1) (D.put kl d) → w.grownBy w' (some b) → wpList P ops Q rest (a.put o.dst undef) w') :
    wpList P ops Q (o :: rest) a w := by
  refine wpList_plain hg fun K' hK' => ?_
  obtain ⟨w', hrun, r1, r2⟩ := hown.update K ht hn hkey hval
  unfold Oper.wp
  simp [execOp, hop, hm, hx, hv, hrun, Result.andThen]
  exact hK' _ _ (hK w' r1 r2)

/-- A kind's value. -/
def kindV : Nat → Value
  | 1 => .agg #[.string (ofL (wordK 1)), .int .i64 3, .int .i64 3, .func (.func 54) #[] #[], .func (.func 57) #[] #[], .func (.func 60) #[] #[]]
  | 2 => .agg #[.string (ofL (wordK 2)), .int .i64 1, .int .i64 2, .func (.func 63) #[] #[], .func (.func 64) #[] #[], .func (.func 66) #[] #[]]
  | 3 => .agg #[.string (ofL (wordK 3)), .int .i64 1, .int .i64 1, .func (.func 68) #[] #[], .func (.func 69) #[] #[], .func (.func 70) #[] #[]]
  | 4 => .agg #[.string (ofL (wordK 4)), .int .i64 0, .int .i64 0, .func (.func 84) #[] #[], .func (.func 85) #[] #[], .func (.func 86) #[] #[]]
  | 5 => .agg #[.string (ofL (wordK 5)), .int .i64 0, .int .i64 0, .func (.func 84) #[] #[], .func (.func 85) #[] #[], .func (.func 86) #[] #[]]
  | 6 => .agg #[.string (ofL (wordK 6)), .int .i64 0, .int .i64 0, .func (.func 84) #[] #[], .func (.func 85) #[] #[], .func (.func 86) #[] #[]]
  | _ => .agg #[.string (ofL []), .int .i64 0, .int .i64 0, .nilFunc, .nilFunc, .nilFunc]
theorem zero_kind (w : World) : (zeroValue 64).run Try.prog w = .ok (kindV 0) w := by kernel_rfl
theorem word_of {n m : Nat} (hn : n ≤ 6) (hm : m ≤ 6) (h : kindV n = kindV m) : n = m := by
  have hw : ∀ k, k ≤ 6 → ∃ r, kindV k = .agg (#[.string (ofL (wordK k))] ++ r) := fun k hk => by
    rcases (by omega : k = 0 ∨ k = 1 ∨ k = 2 ∨ k = 3 ∨ k = 4 ∨ k = 5 ∨ k = 6) with rfl | rfl | rfl | rfl | rfl | rfl | rfl <;> exact ⟨#[_, _, _, _, _], rfl⟩
  obtain ⟨r1, e1⟩ := hw n hn
  obtain ⟨r2, e2⟩ := hw m hm
  rw [e1, e2] at h
  injection h with h
  have h2 := congrArg (fun a : Array Value => a.toList.head?) h
  simp only [Array.toList_append, List.cons_append, List.head?_cons, List.nil_append] at h2
  injection h2 with h2
  injection h2 with h2
  have h3 := ofL_inj h2
  rcases (by omega : n = 0 ∨ n = 1 ∨ n = 2 ∨ n = 3 ∨ n = 4 ∨ n = 5 ∨ n = 6) with rfl | rfl | rfl | rfl | rfl | rfl | rfl <;>
    rcases (by omega : m = 0 ∨ m = 1 ∨ m = 2 ∨ m = 3 ∨ m = 4 ∨ m = 5 ∨ m = 6) with rfl | rfl | rfl | rfl | rfl | rfl | rfl <;> first | rfl | (simp [wordK] at h3)

/-- How a kind reads: as its number. -/
noncomputable def kR (v : Value) : Option (DataW Unit × List MemPlace) :=
  open Classical in if h : ∃ n, n ≤ 6 ∧ v = kindV n then some (.lit (.int .i64 (Classical.choose h : Nat)), []) else none
theorem kR_of {n : Nat} (hn : n ≤ 6) : kR (kindV n) = some (.lit (.int .i64 n), []) := by
  have h : ∃ m, m ≤ 6 ∧ kindV n = kindV m := ⟨n, hn, rfl⟩
  unfold kR
  rw [dif_pos h]
  have hs := Classical.choose_spec h
  rw [← word_of hn hs.1 hs.2]
theorem kR_inv {v : Value} {x : DataW Unit × List MemPlace} (h : kR v = some x) : ∃ n, n ≤ 6 ∧ v = kindV n ∧ x = (.lit (.int .i64 (n : Nat)), []) := by
  unfold kR at h
  split at h
  · rename_i hx
    have hs := Classical.choose_spec hx
    injection h with h
    exact ⟨_, hs.1, hs.2, h.symm⟩
  · cases h
/-- What the table of kinds reads as. -/
def kD : DataW Unit := ((((((DataW.map []).put (.int .u8 1) (.lit (.int .i64 1))).put (.int .u8 2) (.lit (.int .i64 2))).put (.int .u8 3) (.lit (.int .i64 3))).put (.int .u8 4) (.lit (.int .i64 4))).put (.int .u8 5) (.lit (.int .i64 5))).put (.int .u8 6) (.lit (.int .i64 6))
theorem law_u8 : Keyed Try.prog 5 := int_keyed Try.underlying5

set_option maxRecDepth 20000 in
set_option maxHeartbeats 1000000 in
theorem plain_calls (s : ByteArray) (w : World) : Calls Try.prog 71 #[.string s] w fun e w' => e = .returned (.agg #[.string s, .int .i64 0, .int .i64 0, .func (.func 84) #[] #[], .func (.func 85) #[] #[], .func (.func 86) #[] #[]]) ∧ Below w.heap.size w w' := by
  go_enter Try.func71, Try.ntmps71
  go_wp2
  refine bodyPost_ret (v := .agg #[.string s, .int .i64 0, .int .i64 0, .func (.func 84) #[] #[], .func (.func 85) #[] #[], .func (.func 86) #[] #[]]) (by simp [results, Try.results71, go_sem]) rfl ⟨rfl, ?_⟩
  exact (Below.refl w.heap.size w).alloc (Nat.le_refl _) _

/-- What kinds owes. -/
def KindsPost (w : World) (e : Ending) (w' : World) : Prop := ∃ b, e = .returned (.map (some b)) ∧ w'.ownsMap Try.prog 5 kR b 6 kD ∧ w.heap.size ≤ b ∧ b < w'.heap.size ∧ Below w.heap.size w w'
set_option maxRecDepth 20000 in
set_option maxHeartbeats 4000000 in
theorem kinds_calls (w : World) : Calls Try.prog 27 #[] w fun e w' => KindsPost w e w' := by
  have hmm := @run_makeMap Try.prog
  have Ho := hid (World.ownsMap_made (H := Unit) w Try.prog 5 kR)
  have HB := hid ((Below.refl w.heap.size w).alloc (Nat.le_refl _) (.map #[] 0))
  go_enter Try.func27, Try.ntmps27
  go_wp2_with (first
    | (refine wpList_insert_own _ rfl _ _ _ 65 rfl 5 64 law_u8 Try.underlying65 kR w.heap.size 0 _ rfl Ho.out (by unfold maxLen; omega) _ (kindV 1) _ rfl rfl (keyOf_int_mk Try.underlying5 (by decide)) _ [] (kR_of (n := 1) (by omega)) ?_; intro wn hown hg; have Ho := hid hown; have HB : Kp (Below w.heap.size w wn) := hid (HB.out.grown hg HB.out.size (fun j hj => by cases hj; exact Nat.le_refl _)); clear hown hg)
    | (refine wpList_insert_own _ rfl _ _ _ 65 rfl 5 64 law_u8 Try.underlying65 kR w.heap.size 1 _ rfl Ho.out (by unfold maxLen; omega) _ (kindV 2) _ rfl rfl (keyOf_int_mk Try.underlying5 (by decide)) _ [] (kR_of (n := 2) (by omega)) ?_; intro wn hown hg; have Ho := hid hown; have HB : Kp (Below w.heap.size w wn) := hid (HB.out.grown hg HB.out.size (fun j hj => by cases hj; exact Nat.le_refl _)); clear hown hg)
    | (refine wpList_insert_own _ rfl _ _ _ 65 rfl 5 64 law_u8 Try.underlying65 kR w.heap.size 2 _ rfl Ho.out (by unfold maxLen; omega) _ (kindV 3) _ rfl rfl (keyOf_int_mk Try.underlying5 (by decide)) _ [] (kR_of (n := 3) (by omega)) ?_; intro wn hown hg; have Ho := hid hown; have HB : Kp (Below w.heap.size w wn) := hid (HB.out.grown hg HB.out.size (fun j hj => by cases hj; exact Nat.le_refl _)); clear hown hg)
    | (refine wpList_insert_own _ rfl _ _ _ 65 rfl 5 64 law_u8 Try.underlying65 kR w.heap.size 3 _ rfl Ho.out (by unfold maxLen; omega) _ (kindV 4) _ rfl rfl (keyOf_int_mk Try.underlying5 (by decide)) _ [] (kR_of (n := 4) (by omega)) ?_; intro wn hown hg; have Ho := hid hown; have HB : Kp (Below w.heap.size w wn) := hid (HB.out.grown hg HB.out.size (fun j hj => by cases hj; exact Nat.le_refl _)); clear hown hg)
    | (refine wpList_insert_own _ rfl _ _ _ 65 rfl 5 64 law_u8 Try.underlying65 kR w.heap.size 4 _ rfl Ho.out (by unfold maxLen; omega) _ (kindV 5) _ rfl rfl (keyOf_int_mk Try.underlying5 (by decide)) _ [] (kR_of (n := 5) (by omega)) ?_; intro wn hown hg; have Ho := hid hown; have HB : Kp (Below w.heap.size w wn) := hid (HB.out.grown hg HB.out.size (fun j hj => by cases hj; exact Nat.le_refl _)); clear hown hg)
    | (refine wpList_insert_own _ rfl _ _ _ 65 rfl 5 64 law_u8 Try.underlying65 kR w.heap.size 5 _ rfl Ho.out (by unfold maxLen; omega) _ (kindV 6) _ rfl rfl (keyOf_int_mk Try.underlying5 (by decide)) _ [] (kR_of (n := 6) (by omega)) ?_; intro wn hown hg; have Ho := hid hown; have HB : Kp (Below w.heap.size w wn) := hid (HB.out.grown hg HB.out.size (fun j hj => by cases hj; exact Nat.le_refl _)); clear hown hg)
    | (go_at_call 71; refine (plain_calls _ _).mono ?_; rintro e vv ⟨rfl, hb⟩; have Ho := hid (Ho.out.kept (show World.grownBy _ vv none from ⟨hb.os, hb.tape, hb.output, hb.size, fun k hk _ => hb.block k hk⟩) (by simp)); have HB := hid (below_then HB.out HB.out.size hb); clear hb))
  go_ret
  exact ⟨w.heap.size, rfl, Ho.out, Nat.le_refl _, Ho.out.lt, HB.out⟩

theorem kD_has (n : Nat) : Maps.has kD (.int .u8 n) = isKind n := by
  have e : kD = .map [(.int .u8 1, .lit (.int .i64 1)), (.int .u8 2, .lit (.int .i64 2)), (.int .u8 3, .lit (.int .i64 3)), (.int .u8 4, .lit (.int .i64 4)), (.int .u8 5, .lit (.int .i64 5)), (.int .u8 6, .lit (.int .i64 6))] := by rfl
  rw [e]
  unfold isKind
  simp only [Maps.has, List.any_cons, List.any_nil, Lit.sameKey, true_and]
  rw [Bool.eq_iff_iff]
  simp
  omega
theorem kD_at (n : Nat) : kD.atKey (.int .u8 n) (.lit (.int .i64 0)) = .lit (.int .i64 (if isKind n then n else 0 : Nat)) := by
  have e : kD = .map [(.int .u8 1, .lit (.int .i64 1)), (.int .u8 2, .lit (.int .i64 2)), (.int .u8 3, .lit (.int .i64 3)), (.int .u8 4, .lit (.int .i64 4)), (.int .u8 5, .lit (.int .i64 5)), (.int .u8 6, .lit (.int .i64 6))] := by rfl
  by_cases h : 1 ≤ n ∧ n ≤ 6
  · rcases (by omega : n = 1 ∨ n = 2 ∨ n = 3 ∨ n = 4 ∨ n = 5 ∨ n = 6) with rfl | rfl | rfl | rfl | rfl | rfl <;> rfl
  · have hk : isKind n = false := by unfold isKind; simp; omega
    rw [hk]
    have hn := kD_has n
    rw [hk] at hn
    exact atKey_of_not_has hn _
/-- The kind that the table has at a number: none's is the zero one. -/
def kindAt (n : Nat) : Nat := if isKind n then n else 0

theorem kind_word (s : ByteArray) (b c d e f : Value) (w : World) : (Instr.field 64 (.agg #[.string s, b, c, d, e, f]) 0).run Try.prog w = .ok (.string s) w := by kernel_rfl
set_option maxRecDepth 20000 in
set_option maxHeartbeats 1000000 in
theorem word_calls (n : Nat) (hn : n ≤ 255) (w : World) : Calls Try.prog 23 #[.int .u8 n] w fun e w' => e = .returned (.string (ofL (wordK n))) ∧ Below w.heap.size w w' := by
  have hz0 : kR (kindV 0) = some (.lit (.int .i64 (0 : Nat)), []) := kR_of (by omega)
  have hwf : (Lit.int .u8 (n : Int)).wf = true := by simp [Lit.wf, IntKind.min, IntKind.max, IntKind.signed, IntKind.bits]; omega
  go_enter Try.func23, Try.ntmps23
  go_wp2_with fail
  refine (kinds_calls _).mono ?_
  rintro e w1 ⟨b, rfl, hown, hge, hlt, hb⟩
  obtain ⟨v, ps, hrun, hv⟩ := hown.lookup law_u8 Try.underlying65 (zero_kind w1) hz0 (keyOf_int_mk Try.underlying5 hwf)
  obtain ⟨m, hm, rfl, hx⟩ := kR_inv hv
  have hmn : m = kindAt n := by
    have h1 := kD_at n
    have h2 := congrArg Prod.fst hx
    simp only at h2
    rw [show (DataW.lit (.int .i64 ((0 : Nat) : Int)) : DataW Unit) = .lit (.int .i64 0) from rfl, h1] at h2
    injection h2 with h2
    injection h2 with h2
    unfold kindAt; omega
  have hwm : wordK n = wordK m := by
    rw [hmn]
    unfold kindAt isKind
    by_cases h : 1 ≤ n ∧ n ≤ 6
    · simp [h.1, h.2]
    · have h2 : (decide (1 ≤ n) && decide (n ≤ 6)) = false := by simp; omega
      rw [h2]
      unfold wordK
      split <;> first | rfl | omega
  have Hb := hid hb
  have Hwm := hid hwm
  clear hown hge hlt hb hv hx hmn hwm hz0 hwf
  rcases (by omega : m = 0 ∨ m = 1 ∨ m = 2 ∨ m = 3 ∨ m = 4 ∨ m = 5 ∨ m = 6) with rfl | rfl | rfl | rfl | rfl | rfl | rfl
  all_goals
    simp only [kindV] at hrun
    have hkw := kind_word
    go_wp2
    go_ret
    exact ⟨by rw [Hwm.out]; rfl, Hb.out⟩
end Go.Proofs.Ytohblakhojhklaa
