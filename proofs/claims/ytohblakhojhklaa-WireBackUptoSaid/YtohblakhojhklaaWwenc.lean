import Derived.Test.YtohblakhojhklaaWwcheck2
import Derived.Test.YtohblakhojhklaaPwback
/- The walk of wire.Encode. -/
namespace Go.Proofs.Ytohblakhojhklaa
open Go.RowKit Go.Maps Sp

set_option maxRecDepth 20000 in
set_option maxHeartbeats 2000000 in
theorem wenc_no (m : Msg) (am : Option Addr) (nm cm : Nat) (w : World) (h : MsgAt m am nm cm w) (hno : mayM m = false) : Calls Try.prog 8 #[msgV m am nm cm] w fun e w' => e = .returned (encMade (encM m)) ∧ Below w.heap.size w w' := by
  have he : encM m = .error 2 := by unfold encM; rw [hno]; rfl
  rw [he]
  have hc := fun W (hm : MsgAt m am nm cm W) => wcheck_calls m am nm cm W hm
  simp only [hno] at hc
  have hB := (Below.refl w.heap.size w).alloc (Nat.le_refl _) (.cells #[.int .u8 m.kind, .int .i64 m.txn.c, .int .i64 m.txn.e, .int .i64 m.txn.s, .int .i64 m.aud, .slice am nm cm, .string (ofL m.body), .bool m.yes, .string (ofL m.tag)] 26)
  have HB := hid hB
  have Hc := hid (hc _ (h.below hB))
  clear hc he hno h hB
  simp only [msgV] at Hc ⊢
  go_enter Try.func8, Try.ntmps8
  go_wp2_with fail
  refine Hc.out.mono ?_
  rintro e1 w1 ⟨rfl, hb1⟩
  have Hb1 := hid (below_then HB.out HB.out.size hb1)
  clear hb1
  go_wp2
  go_ret2
  exact ⟨rfl, Hb1.out⟩

theorem orTxn_len (x : Txn) : (orNo (txnT x)).length ≤ 16384 := by
  cases h : txnT x with
  | ok t => exact isTerm_len (row_isTerm (txnT_row h).2)
  | error e => simp [orNo]
theorem orMem_len (x : Txn) (l : List Mem) : (orNo (membersT x l)).length ≤ 16384 := by
  cases h : membersT x l with
  | ok t =>
    obtain ⟨-, p, -, hr⟩ := membersT_is h
    exact isTerm_len (row_isTerm hr)
  | error e => simp [orNo]
theorem wordD_len (k : Nat) : (wordD k).length ≤ 16384 := by rw [wordD_is]; exact isTerm_len (data_term (word_short k))
theorem any_snoc {L : List Bs} {j : Nat} (hj : j < L.length) (hz : (L.take j).any (·.isEmpty) = false) (hne : (L[j]'hj).isEmpty = false) : (L.take (j + 1)).any (·.isEmpty) = false := by
  rw [List.take_succ_eq_append_getElem hj, List.any_append, hz]; simp [hne]
theorem any_hit {L : List Bs} {j : Nat} (hj : j < L.length) (hne : (L[j]'hj).isEmpty = true) : L.any (·.isEmpty) = true := List.any_eq_true.2 ⟨_, List.getElem_mem hj, hne⟩
theorem news_strs {w : World} {bp op : Nat} {l : List Bs} (h : StrsAt w (some ⟨bp, op, none⟩) l) : ∀ j u, (l.map strV)[j]? = some u → w.cell? ((⟨bp, op, none⟩ : Addr).add j) = some u := by
  intro j u hu
  rw [List.getElem?_map] at hu
  cases hj : l[j]? with
  | none => rw [hj] at hu; cases hu
  | some x =>
    rw [hj] at hu
    injection hu with hu
    obtain ⟨hlt, hx⟩ := List.getElem?_eq_some_iff.1 hj
    obtain ⟨b, o, e, hc⟩ := h j hlt
    cases e
    rw [hx] at hc
    rw [← hu]
    have e : (⟨bp, op, none⟩ : Addr).add j = ⟨bp, op + j, none⟩ := by simp [Addr.add]
    rw [e]
    exact hc
theorem strs_addr {w : World} {a : Option Addr} {l : List Bs} (hl : 0 < l.length) (h : StrsAt w a l) : ∃ b o, a = some ⟨b, o, none⟩ := by
  obtain ⟨b, o, e, -⟩ := h 0 hl
  exact ⟨b, o, e⟩
theorem ownStrs_one (W : World) (x : Bs) : OwnStrs W.heap.size (W.alloc (.cells #[.string (ofL x)] 9)) (.slice (some ⟨W.heap.size, 0, none⟩) 1 1) [x] :=
  ⟨rfl, .inr ⟨W.heap.size, 1, #[.string (ofL x)], rfl, Nat.le_refl _, heap_alloc_new W _, Nat.le_refl _, by unfold maxLen; omega, rfl, rfl⟩⟩

set_option maxRecDepth 20000 in
theorem put4n_calls (m : Msg) (am : Option Addr) (nm cm : Nat) (w : World) : Calls Try.prog 85 #[msgV m am nm cm] w fun e w' => e = .returned (.slice none 0 0) ∧ Below w.heap.size w w' := by
  simp only [msgV]
  go_enter Try.func85, Try.ntmps85
  go_wp2
  go_ret
  exact ⟨rfl, (Below.refl w.heap.size w).alloc (Nat.le_refl _) _⟩
end Go.Proofs.Ytohblakhojhklaa
