import Derived.Test.YtohblakhojhklaaWwcheck2
import Derived.Test.YtohblakhojhklaaPwback
/- The walk of wire's decode. -/
namespace Go.Proofs.Ytohblakhojhklaa
open Go.RowKit Go.Maps Sp

/-- What decode owes. -/
def wdecPost (X : Option Msg) (w : World) (e : Ending) (w' : World) : Prop :=
  match X with
  | some m => (∃ am cm, e = .returned (msgV m am m.mems.length cm) ∧ OwnMems w.heap.size w' (.slice am m.mems.length cm) m.mems) ∧ Below w.heap.size w w'
  | none => e = .panicked thrownW ∧ Below w.heap.size w w'
theorem sameKey_u8 (a b : Int) : (Lit.int .u8 a).sameKey (.int .u8 b) = decide (a = b) := by simp [Lit.sameKey]
/-- A round over the table of kinds. -/
theorem wpList_next_kinds {P : Program} (w : World) {ops : Array Oper} {rest : List Oper} {o : Oper} {a : Act} {Q : Exit → Act → World → Prop} (hP : P = Try.prog)
    (hg : o.guard = none) (it : Operand) (hop : o.op = Op.next it false) (b r m : Nat) (left : Lit → Bool) (cnt : Nat)
    (hit : a.eval it = .pointer (some ⟨r, 0, none⟩)) (h : w.ranges P 5 kR b r m kD left cnt)
    (hDone : (∀ kl, left kl = false) → wpList P ops Q rest (a.put o.dst (.tuple #[.bool false])) w)
    (hMore : ∀ (n : Nat) (w' : World) (cnt' : Nat), 1 ≤ n → n ≤ 6 → w'.ranges P 5 kR b r m kD (fun z => left z && !z.sameKey (.int .u8 n)) cnt' → cnt' < cnt →
      w.grownBy w' (some r) → w'.heap.size = w.heap.size → (Instr.entry (.pointer (some ⟨r, 0, none⟩))).run P w' = .ok (.tuple #[.int .u8 n, kindV n]) w' → wpList P ops Q rest (a.put o.dst (.tuple #[.bool true, .int .u8 n, kindV n])) w') :
    wpList P ops Q (o :: rest) a w := by
  subst hP
  refine wpList_next_ranges w hg it hop 5 law_u8 kR (Value.int .u8) kindV (fun key kl hkey => by obtain ⟨x, rfl, _⟩ := Maps.keyOf_int_inv Try.underlying5 hkey; exact ⟨x, rfl⟩) (fun v y hv => by obtain ⟨c, -, rfl, -⟩ := kR_inv hv; exact ⟨c, rfl⟩)
    b r m kD left cnt hit h (fun _ h2 => hDone h2) (fun x c kl y w' cnt' hkey hlk hv hat hrg hlt hgr hsz hen => ?_)
  obtain ⟨x', ex, rfl, hwx⟩ := Maps.keyOf_int_inv Try.underlying5 hkey
  cases ex
  have hx0 : 0 ≤ x := by simp [Lit.wf, IntKind.min, IntKind.max, IntKind.signed, IntKind.bits] at hwx; omega
  obtain ⟨n, rfl⟩ : ∃ n : Nat, x = n := ⟨x.toNat, by omega⟩
  have hkn : isKind n = true := by rw [← kD_has]; exact has_true_of_atKey hat
  obtain ⟨q, hq, hcq, rfl⟩ := kR_inv hv
  have h1 := hat (.lit (.int .i64 0))
  rw [kD_at, hkn] at h1
  simp only [if_true] at h1
  injection h1 with h1
  injection h1 with _ h1
  have hqn : q = n := by omega
  subst hqn
  rw [hcq] at hen ⊢
  have hk2 : 1 ≤ q ∧ q ≤ 6 := by simpa [isKind] using hkn
  exact hMore q w' cnt' hk2.1 hk2.2 hrg hlt hgr hsz hen
theorem kindOf_word {n : Nat} (h1 : 1 ≤ n) (h6 : n ≤ 6) : kindOf (wordK n) = n := by
  rcases (by omega : n = 1 ∨ n = 2 ∨ n = 3 ∨ n = 4 ∨ n = 5 ∨ n = 6) with rfl | rfl | rfl | rfl | rfl | rfl <;> decide
theorem word_kindOf {s : Bs} (h : kindOf s ≠ 0) : s = wordK (kindOf s) ∧ 1 ≤ kindOf s ∧ kindOf s ≤ 6 := by
  unfold kindOf at h ⊢
  repeat' split
  all_goals first | (rename_i h9; exact ⟨h9, by omega, by omega⟩) | skip
  all_goals (exfalso; revert h; repeat' split) <;> simp_all
abbrev zeroMB : Array Value := #[.int .u8 0, .int .i64 0, .int .i64 0, .int .i64 0, .int .i64 0, .slice none 0 0, .string ⟨#[]⟩, .bool false, .string ⟨#[]⟩]

set_option maxRecDepth 20000 in
set_option maxHeartbeats 1000000 in
theorem wdec_norow (t : Bs) (hm : t.length ≤ 10000000) (hr : rowP t 1 5 = none) (w : World) :
    Calls Try.prog 26 #[.string (ofL t)] w fun e w' => wdecPost (decM t) w e w' := by
  have hX : decM t = none := by unfold decM; rw [hr]
  rw [hX]
  have Hrow := hid (fun W => wrow_no t hm 1 5 (rowP_none hr) W)
  clear hX hr
  go_enter Try.func26, Try.ntmps26
  go_wp2_with fail
  refine (Hrow.out _).mono ?_
  rintro e w1 ⟨rfl, hb⟩
  exact ⟨rfl, rfl, below_then ((Below.refl _ w).alloc (Nat.le_refl _) _) (by simp) hb⟩


/-- Where decode stands once it has found its kind. -/
structure WDec (w : World) (g K : Nat) (l : List Bs) (n : Nat) (t : Txn) (kc : Array Value) (W : World) : Prop where
  blk : BlkAt W w.heap.size (msgCells ⟨n, t, 0, [], [], false, []⟩ none 0 0) 26
  kd : BlkAt W K kc 64
  strs : StrsAt W (some ⟨g, 0, none⟩) l
  bl : Below w.heap.size w W
  ne : w.heap.size ≠ g
  nk : w.heap.size ≠ K
theorem WDec.keep {w : World} {g K : Nat} {l : List Bs} {n : Nat} {t : Txn} {kc : Array Value} {W W' : World} (h : WDec w g K l n t kc W) (hb : Below W.heap.size W W') : WDec w g K l n t kc W' :=
  ⟨h.blk.below hb, h.kd.below hb, h.strs.below hb, below_then h.bl h.bl.size hb, h.ne, h.nk⟩
theorem strsAt_far {W : World} {g b i : Nat} {l : List Bs} (h : StrsAt W (some ⟨g, 0, none⟩) l) (hne : b ≠ g) (v : Value) : StrsAt (W.setCell ⟨b, i, none⟩ v) (some ⟨g, 0, none⟩) l := fun j hj => by
  obtain ⟨b0, o, e, hc⟩ := h j hj
  cases e
  exact ⟨_, _, rfl, cell_setF hne hc⟩
theorem WDec.txn {w : World} {g K : Nat} {l : List Bs} {n : Nat} {t : Txn} {kc : Array Value} {W : World} (h : WDec w g K l n t kc W) (c e s : Int) :
    WDec w g K l n ⟨c, e, s⟩ kc (((W.setCell ⟨w.heap.size, 1, none⟩ (.int .i64 c)).setCell ⟨w.heap.size, 2, none⟩ (.int .i64 e)).setCell ⟨w.heap.size, 3, none⟩ (.int .i64 s)) :=
  ⟨((h.blk.set 1 _).set 2 _).set 3 _, ((h.kd.far (Ne.symm h.nk) _).far (Ne.symm h.nk) _).far (Ne.symm h.nk) _, strsAt_far (strsAt_far (strsAt_far h.strs h.ne _) h.ne _) h.ne _,
   below_set (below_set (below_set h.bl (Nat.le_refl _) _) (Nat.le_refl _) _) (Nat.le_refl _) _, h.ne, h.nk⟩
theorem WDec.first {w w1 W : World} {g K n : Nat} {l : List Bs} {kc : Array Value} (hb : BlkAt W w.heap.size zeroMB 26) (hk : BlkAt W K kc 64) (hs : StrsAt w1 (some ⟨g, 0, none⟩) l) (hw : Below w1.heap.size w1 W)
    (hB : Below w.heap.size w w1) (hne : w.heap.size ≠ g) (hnk : w.heap.size ≠ K) : WDec w g K l n ⟨0, 0, 0⟩ kc (W.setCell ⟨w.heap.size, 0, none⟩ (.int .u8 n)) :=
  ⟨hb.set 0 _, hk.far (Ne.symm hnk) _, strsAt_far (hs.below hw) hne _, below_set (below_then hB hB.size hw) (Nat.le_refl _) _, hne, hnk⟩
theorem WDec.drew {w : World} {g K : Nat} {l : List Bs} {n : Nat} {t : Txn} {kc : Array Value} {W : World} (h : WDec w g K l n t kc W) : WDec w g K l n t kc W.drew :=
  ⟨h.blk, h.kd, h.strs, h.bl.drew, h.ne, h.nk⟩
theorem strs_cell {W : World} {g : Nat} {l : List Bs} (h : StrsAt W (some ⟨g, 0, none⟩) l) (i : Nat) {y : Bs} (hy : l[i]? = some y) : W.cell? ⟨g, i, none⟩ = some (.string (ofL y)) := by
  obtain ⟨hi, e⟩ := List.getElem?_eq_some_iff.1 hy
  obtain ⟨b, o, e2, hc⟩ := h i hi
  cases e2
  rw [e] at hc
  simpa using hc
/-- What is decoded behind a kind's transaction. -/
def decT (n : Nat) (t : Txn) (r : List Bs) : Option Msg := match getK n ⟨n, t, 0, [], [], false, []⟩ r with
  | some m => if mayM m then some m else none
  | none => none
theorem decK_six (r : List Bs) : decK 6 r = decT 6 ⟨0, 0, 0⟩ r := rfl
theorem decK_no {n : Nat} {x : Bs} {r : List Bs} (hn : n ≠ 6) (h : untxn x = none) : decK n (x :: r) = none := by
  unfold decK; rw [if_neg hn]; simp only [h]
theorem decK_some {n : Nat} {x : Bs} {r : List Bs} {t : Txn} (hn : n ≠ 6) (h : untxn x = some t) : decK n (x :: r) = decT n t r := by
  unfold decK; rw [if_neg hn]; simp only [h]; rfl
theorem getK_lim {n : Nat} {t : Txn} {q : List Bs} {m : Msg} (hn : n ≤ 6) (hq : ∀ y ∈ q, y.length ≤ 10000000) (h : getK n ⟨n, t, 0, [], [], false, []⟩ q = some m) :
    m.kind ≤ 255 ∧ m.mems.length ≤ 10000000 ∧ (∀ x ∈ m.mems, x.dig.length ≤ 10000000) ∧ m.body.length ≤ 10000000 ∧ m.tag.length ≤ 10000000 := by
  unfold getK at h
  split at h
  · split at h
    · rename_i hu
      injection h with h
      subst h
      obtain ⟨m1, m2, m3⟩ := mayMembers_is (unmembers_back hu).2
      refine ⟨by simp only; omega, by simp only; omega, fun x hx => ?_, hq _ (by simp), by simp⟩
      have := isTerm_len (mayMem_org m1 x hx).2.2.2; omega
    · cases h
  · split at h
    · injection h with h; subst h; exact ⟨by simp only; omega, by simp, (fun x hx => by cases hx), by simp, by simp⟩
    · cases h
  · split at h
    · injection h with h; subst h; exact ⟨by simp only; omega, by simp, (fun x hx => by cases hx), by simp, hq _ (by simp)⟩
    · cases h
  · split at h
    · injection h with h; subst h; exact ⟨by simp only; omega, by simp, (fun x hx => by cases hx), by simp, by simp⟩
    · cases h
  all_goals first | (injection h with h; subst h; exact ⟨by simp only; omega, by simp, (fun x hx => by cases hx), by simp, by simp⟩) | cases h
theorem wmust_any (b : Bool) (w : World) : Calls Try.prog 52 #[.bool b] w fun e w' => e = (if b then .returned (.tuple #[]) else .panicked thrownW) ∧ w = w' := by
  cases b
  · exact wmust_no w
  · exact wmust_ok w
theorem ownMems_far9 {b : Nat} {W : World} {v : Value} {l : List Mem} {x0 x1 x2 x3 x4 x5 x6 x7 x8 : Value} (h : OwnMems (b + 1) W v l) :
    OwnMems (b + 1) (((((((((W.setCell ⟨b, 0, none⟩ x0).setCell ⟨b, 1, none⟩ x1).setCell ⟨b, 2, none⟩ x2).setCell ⟨b, 3, none⟩ x3).setCell ⟨b, 4, none⟩ x4).setCell ⟨b, 5, none⟩ x5).setCell ⟨b, 6, none⟩ x6).setCell ⟨b, 7, none⟩ x7).setCell ⟨b, 8, none⟩ x8) v l :=
  (((((((((h.far (Nat.lt_succ_self _) _).far (Nat.lt_succ_self _) _).far (Nat.lt_succ_self _) _).far (Nat.lt_succ_self _) _).far (Nat.lt_succ_self _) _).far (Nat.lt_succ_self _) _).far (Nat.lt_succ_self _) _).far (Nat.lt_succ_self _) _).far (Nat.lt_succ_self _) _)
theorem below_far9 {B b : Nat} {w W : World} {x0 x1 x2 x3 x4 x5 x6 x7 x8 : Value} (h : Below B w W) (hb : B ≤ b) :
    Below B w (((((((((W.setCell ⟨b, 0, none⟩ x0).setCell ⟨b, 1, none⟩ x1).setCell ⟨b, 2, none⟩ x2).setCell ⟨b, 3, none⟩ x3).setCell ⟨b, 4, none⟩ x4).setCell ⟨b, 5, none⟩ x5).setCell ⟨b, 6, none⟩ x6).setCell ⟨b, 7, none⟩ x7).setCell ⟨b, 8, none⟩ x8) :=
  (((((((((below_set h hb _).setCell (p := ⟨b, 1, none⟩) hb _).setCell (p := ⟨b, 2, none⟩) hb _).setCell (p := ⟨b, 3, none⟩) hb _).setCell (p := ⟨b, 4, none⟩) hb _).setCell (p := ⟨b, 5, none⟩) hb _).setCell (p := ⟨b, 6, none⟩) hb _).setCell (p := ⟨b, 7, none⟩) hb _).setCell (p := ⟨b, 8, none⟩) hb _)
theorem kindOf_ne {s : Bs} {n : Nat} (h : kindOf s = 0) (h1 : 1 ≤ n) (h6 : n ≤ 6) : (wordK n == s) = false := by
  rw [Bool.eq_false_iff]
  intro e
  have e : wordK n = s := by simpa using e
  rw [← e, kindOf_word h1 h6] at h
  omega
end Go.Proofs.Ytohblakhojhklaa
