import Derived.Test.YtohblakhojhklaaWparts
/- The walks of package wire: what may be, and what it is encoded as. -/
namespace Go.Proofs.Ytohblakhojhklaa
open Go.RowKit Sp

def thrownW : List PanicEntry := [{ v := .iface 96 (.agg #[]), recovered := false }]

set_option maxRecDepth 20000 in
theorem wmust_ok (w : World) : Calls Try.prog 52 #[.bool true] w fun e w' => e = .returned (.tuple #[]) ∧ w = w' := by
  go_enter Try.func52, Try.ntmps52
  go_wp2
  go_end0
  exact ⟨rfl, rfl⟩
set_option maxRecDepth 20000 in
theorem wmust_no (w : World) : Calls Try.prog 52 #[.bool false] w fun e w' => e = .panicked thrownW ∧ w = w' := by
  go_enter Try.func52, Try.ntmps52
  go_wp2
  exact ⟨rfl, rfl, rfl⟩

set_option maxRecDepth 20000 in
theorem wnum_calls (v : Int) (w : World) : Calls Try.prog 59 #[.int .i64 v] w fun e w' => e = .returned (.string (ofL (numS v))) ∧ Below w.heap.size w w' := by
  have h := numT_calls v w
  unfold numS
  cases hn : Sp.num v with
  | error x =>
    rw [hn] at h
    simp only [encMade] at h ⊢
    have H := hid h
    clear h hn
    go_enter Try.func59, Try.ntmps59
    go_wp2_with fail
    refine H.out.mono ?_
    rintro e w1 ⟨rfl, hb⟩
    go_wp2
    go_ret
    exact ⟨rfl, hb⟩
  | ok x =>
    rw [hn] at h
    simp only [encMade] at h ⊢
    have H := hid h
    clear h hn
    go_enter Try.func59, Try.ntmps59
    go_wp2_with fail
    refine H.out.mono ?_
    rintro e w1 ⟨rfl, hb⟩
    go_wp2
    go_ret
    exact ⟨rfl, hb⟩

set_option maxRecDepth 20000 in
theorem worg_calls (k : Int) (w : World) : Calls Try.prog 55 #[.int .i64 k] w fun e w' => e = .returned (.bool (org k)) ∧ w = w' := by
  by_cases h0 : 0 ≤ k
  · have e1 : org k = decide (k < 8) := by simp [org, h0]
    rw [e1]
    clear e1
    go_enter Try.func55, Try.ntmps55
    go_wp2
    go_ret
    exact ⟨rfl, rfl⟩
  · have e1 : org k = false := by simp [org, h0]
    rw [e1]
    clear e1
    go_enter Try.func55, Try.ntmps55
    go_wp2
    go_ret
    exact ⟨rfl, rfl⟩

def txnV (t : Txn) : Value := .agg #[.int .i64 t.c, .int .i64 t.e, .int .i64 t.s]

set_option maxRecDepth 20000 in
set_option maxHeartbeats 1000000 in
theorem mayTxn_calls (t : Txn) (w : World) : Calls Try.prog 32 #[txnV t] w fun e w' => e = .returned (.bool (mayTxn t)) ∧ Below w.heap.size w w' := by
  obtain ⟨c, e, s⟩ := t
  simp only [txnV, mayTxn]
  have ho := fun W => worg_calls c W
  cases hc : org c with
  | false =>
    rw [hc] at ho
    have Ho := hid ho
    clear ho hc
    go_enter Try.func32, Try.ntmps32
    go_wp2_with fail
    refine (Ho.out _).mono ?_
    rintro e1 w1 ⟨rfl, rfl⟩
    go_wp2
    go_ret
    exact ⟨rfl, (Below.refl _ _).alloc (Nat.le_refl _) _⟩
  | true =>
    rw [hc] at ho
    have Ho := hid ho
    clear ho hc
    by_cases h1 : 1 ≤ e
    · by_cases h2 : e ≤ 255
      · by_cases h3 : 1 ≤ s
        · go_enter Try.func32, Try.ntmps32
          go_wp2_with fail
          refine (Ho.out _).mono ?_
          rintro e1 w1 ⟨rfl, rfl⟩
          go_wp2
          go_ret
          exact ⟨by simp [h1, h2, h3], (Below.refl _ _).alloc (Nat.le_refl _) _⟩
        · go_enter Try.func32, Try.ntmps32
          go_wp2_with fail
          refine (Ho.out _).mono ?_
          rintro e1 w1 ⟨rfl, rfl⟩
          go_wp2
          go_ret
          exact ⟨by simp; omega, (Below.refl _ _).alloc (Nat.le_refl _) _⟩
      · go_enter Try.func32, Try.ntmps32
        go_wp2_with fail
        refine (Ho.out _).mono ?_
        rintro e1 w1 ⟨rfl, rfl⟩
        go_wp2
        go_ret
        exact ⟨by simp; omega, (Below.refl _ _).alloc (Nat.le_refl _) _⟩
    · go_enter Try.func32, Try.ntmps32
      go_wp2_with fail
      refine (Ho.out _).mono ?_
      rintro e1 w1 ⟨rfl, rfl⟩
      go_wp2
      go_ret
      exact ⟨by simp; omega, (Below.refl _ _).alloc (Nat.le_refl _) _⟩

/-- The members that a slice's cells hold. -/
def MemsAt (w : World) (a : Option Addr) (l : List Mem) : Prop := ∀ i (h : i < l.length), ∃ b off, a = some ⟨b, off, none⟩ ∧
  w.cell? ⟨b, off + i * 2, none⟩ = some (.int .i64 (l[i]'h).org) ∧ w.cell? ⟨b, off + i * 2 + 1, none⟩ = some (.string (ofL (l[i]'h).dig))
theorem MemsAt.below {w w1 : World} {a : Option Addr} {l : List Mem} (h : MemsAt w a l) (hb : Below w.heap.size w w1) : MemsAt w1 a l := fun i hi => by
  obtain ⟨b, off, e, h1, h2⟩ := h i hi
  exact ⟨b, off, e, (hb.cell (World.block_lt_of_cell? w _ h1)).trans h1, (hb.cell (World.block_lt_of_cell? w _ h2)).trans h2⟩

theorem mayMem_step {c last : Int} {l : List Mem} {k : Nat} (h : k < l.length) : mayMem c last (l.drop k) = (org (l[k]'h).org && decide ((l[k]'h).org ≠ c) && decide (last < (l[k]'h).org) && isTerm (l[k]'h).dig && mayMem c (l[k]'h).org (l.drop (k + 1))) := by
  rw [List.drop_eq_getElem_cons h]; rfl

set_option maxRecDepth 20000 in
set_option maxHeartbeats 4000000 in
theorem mayMembers_calls (t : Txn) (a : Option Addr) (n cap : Nat) (l : List Mem) (hn : n = l.length) (hl : l.length ≤ 100000000) (hm : ∀ x ∈ l, x.dig.length ≤ 100000000) (w : World) (h : MemsAt w a l) :
    Calls Try.prog 56 #[txnV t, .slice a n cap] w fun e w' => e = .returned (.bool (mayMembers t l)) ∧ Below w.heap.size w w' := by
  obtain ⟨c, e, s⟩ := t
  simp only [txnV, mayMembers]
  have Hm := hid hm
  have H := hid h
  have Hn := hid hn
  have hnl : n ≤ 100000000 := by omega
  have hres : (mayMem c (-1) l && decide (1 ≤ l.length) && decide (l.length ≤ 6)) = (mayMem c (-1) l && decide (1 ≤ n) && decide (n ≤ 6)) := by rw [hn]
  rw [hres]
  clear hm h hn hl hres
  go_enter Try.func56, Try.ntmps56
  go_wp2
  go_loopw [4, 5, 10] (fun r last i wr => r = .bool false ∧ ∃ (k : Nat) (q : Int), k ≤ n ∧ i = .int .i64 k ∧ last = .int .i64 q ∧ mayMem c (-1) l = mayMem c q (l.drop k) ∧ wr.cell? ⟨w.heap.size, 0, none⟩ = some (.int .i64 c) ∧ Below w.heap.size w wr ∧ w.heap.size < wr.heap.size) (fun _ _ i _ => n - (intOf i).toNat)
  case atStart => exact ⟨rfl, 0, -1, by omega, rfl, rfl, rfl, by simp [go_sem], (Below.refl _ _).alloc (Nat.le_refl _) _, by simp⟩
  case round =>
    obtain ⟨rfl, k, q, hk, rfl, rfl, hq, hc0, hb, hsz⟩ := hrel
    have Hq := hid hq
    have Hb := hid hb
    clear hq hb
    by_cases hlt : k < n
    · have hkl : k < l.length := by have := Hn.out; omega
      obtain ⟨b, off, rfl, hc1, hc2⟩ := (H.out.below Hb.out) k hkl
      have hlt' : (k : Int) < n := by omega
      have hst := mayMem_step (c := c) (last := q) hkl
      have hwo := fun W => worg_calls (l[k]'hkl).org W
      have hck := fun W => check_calls (l[k]'hkl).dig (Hm.out _ (List.getElem_mem hkl)) W
      obtain ⟨og, dg, hx⟩ : ∃ og dg, l[k]'hkl = ⟨og, dg⟩ := ⟨_, _, rfl⟩
      rw [hx] at hc1 hc2 hst hwo hck
      simp only at hc1 hc2 hst hwo hck
      have Hst := hid hst
      have Hck := hid hck
      clear hst hck hx
      cases ho : org og with
      | false =>
        rw [ho] at hwo
        have Ho := hid ho
        have Hwo := hid hwo
        clear ho hwo
        go_wp2_with fail
        refine (Hwo.out _).mono ?_
        rintro e1 w1 ⟨rfl, rfl⟩
        go_wp2
        go_ret
        exact ⟨by rw [Hq.out, Hst.out, Ho.out]; simp, Hb.out.alloc Hb.out.size _⟩
      | true =>
        rw [ho] at hwo
        have Ho := hid ho
        have Hwo := hid hwo
        clear ho hwo
        by_cases hoc : og = c
        · subst hoc
          have h1 : (og == og) = true := by simp
          have Hne : Kp (decide (og ≠ og) = false) := hid (by simp)
          go_wp2_with fail
          refine (Hwo.out _).mono ?_
          rintro e1 w1 ⟨rfl, rfl⟩
          go_wp2
          go_ret
          exact ⟨by rw [Hq.out, Hst.out, Ho.out, Hne.out]; simp, Hb.out.alloc Hb.out.size _⟩
        · have h1 : (og == c) = false := by simpa using hoc
          have Hne : Kp (decide (og ≠ c) = true) := hid (by simpa using hoc)
          clear hoc
          by_cases hqo : og ≤ q
          · have Hqo : Kp (decide (q < og) = false) := hid (by simp; omega)
            go_wp2_with fail
            refine (Hwo.out _).mono ?_
            rintro e1 w1 ⟨rfl, rfl⟩
            go_wp2
            go_ret
            exact ⟨by rw [Hq.out, Hst.out, Ho.out, Hne.out, Hqo.out]; simp, Hb.out.alloc Hb.out.size _⟩
          · have Hqo : Kp (decide (q < og) = true) := hid (by simp; omega)
            cases ht : isTerm dg with
            | false =>
              have hx0 := not_isTerm_check.1 ht
              obtain ⟨x, hx⟩ : ∃ x, check dg = x := ⟨_, rfl⟩
              rw [hx] at Hck hx0
              have hx1 : ((x : Int) != 0) = true := by simp; omega
              have Ht := hid ht
              clear hx hx0 ht
              go_wp2_with fail
              refine (Hwo.out _).mono ?_
              rintro e1 w1 ⟨rfl, rfl⟩
              go_wp2_with fail
              refine (Hck.out _).mono ?_
              rintro e1 w2 ⟨rfl, hb2⟩
              have Hb2 := hid (below_then (Hb.out.alloc Hb.out.size _) (by simp; omega) hb2)
              clear hb2
              go_wp2
              go_ret
              exact ⟨by rw [Hq.out, Hst.out, Ht.out]; simp, Hb2.out⟩
            | true =>
              have Hck0 : Kp (∀ W, Calls Try.prog 44 #[.string (ofL dg)] W fun e w' => e = .returned (.int .i64 0) ∧ Below W.heap.size W w') := hid (fun W => by have := Hck.out W; rw [isTerm_check.1 ht] at this; exact this)
              have Ht := hid ht
              clear ht
              go_wp2_with fail
              refine (Hwo.out _).mono ?_
              rintro e1 w1 ⟨rfl, rfl⟩
              go_wp2_with fail
              refine (Hck0.out _).mono ?_
              rintro e1 w2 ⟨rfl, hb2⟩
              have d0 : w2.cell? ⟨w.heap.size, 0, none⟩ = some (.int .i64 c) := (hb2.cell (p := ⟨_, 0, none⟩) (by simp; omega)).trans (by simp [go_sem, hc0, hsz])
              have d1 : w2.cell? ⟨wr.heap.size, 0, none⟩ = some (.int .i64 og) := (hb2.cell (p := ⟨_, 0, none⟩) (by simp)).trans (by simp [go_sem])
              have hsz2 : w.heap.size < w2.heap.size := by have := hb2.size; simp at this; omega
              have Hb2 := hid (below_then (Hb.out.alloc Hb.out.size _) (by simp; omega) hb2)
              clear hb2
              go_wp2
              go_roundw
              case rel => exact ⟨rfl, k + 1, og, by omega, by go_num, rfl, by rw [Hq.out, Hst.out, Ho.out, Hne.out, Hqo.out, Ht.out]; simp, d0, Hb2.out, hsz2⟩
              case measure => simp [intOf]; omega
    · have hlt' : ¬ (k : Int) < n := by omega
      obtain rfl : k = n := by omega
      have hend : mayMem c q (l.drop k) = true := by rw [List.drop_of_length_le (by have := Hn.out; omega)]; rfl
      have Hend := hid hend
      clear hend
      by_cases h1 : 1 ≤ k
      · go_wp2
        go_ret
        exact ⟨by rw [Hq.out, Hend.out]; simp; omega, Hb.out⟩
      · go_wp2
        go_ret
        exact ⟨by simp, Hb.out⟩

theorem data_len {s t : Bs} (h : data s = .ok t) : t.length ≤ 1034 := by
  unfold data at h
  split at h
  · cases h
  · injection h with h
    have := numOf_length_le s.length (by omega)
    rw [← h]; unfold textOf; simp; omega
theorem numS_len (v : Int) : (numS v).length ≤ 1034 := by
  unfold numS Sp.num
  split
  · rename_i t ht
    split at ht
    · cases ht
    · exact data_len ht
  · simp

theorem strsAt_two (W : World) (a b : Bs) (T : TypeId) : StrsAt (W.alloc (.cells #[.string (ofL a), .string (ofL b)] T)) (some ⟨W.heap.size, 0, none⟩) [a, b] := fun i h => by
  match i, h with
  | 0, _ => exact ⟨_, _, rfl, by simp⟩
  | 1, _ => exact ⟨_, _, rfl, by simp⟩
theorem strsAt_three (W : World) (a b c : Bs) (T : TypeId) : StrsAt (W.alloc (.cells #[.string (ofL a), .string (ofL b), .string (ofL c)] T)) (some ⟨W.heap.size, 0, none⟩) [a, b, c] := fun i h => by
  match i, h with
  | 0, _ => exact ⟨_, _, rfl, by simp⟩
  | 1, _ => exact ⟨_, _, rfl, by simp⟩
  | 2, _ => exact ⟨_, _, rfl, by simp⟩

set_option maxRecDepth 20000 in
set_option maxHeartbeats 4000000 in
theorem txn_core (c e s : Int) (hm : mayTxn ⟨c, e, s⟩ = true) (x : ByteArray) (y : Int)
    (hrow : ∀ a W, StrsAt W a [numS c, numS e, numS s] → Calls Try.prog 30 #[.slice a 3 3] W fun e w' => e = .returned (.tuple #[.string x, .int .i64 y]) ∧ Below W.heap.size W w') (w : World) :
    Calls Try.prog 29 #[txnV ⟨c, e, s⟩] w fun e w' => e = .returned (.tuple #[.string x, .int .i64 y]) ∧ Below w.heap.size w w' := by
  have hmt := fun W => mayTxn_calls ⟨c, e, s⟩ W
  rw [hm] at hmt
  simp only [txnV] at hmt ⊢
  have Hmt := hid hmt
  have Hrow := hid hrow
  clear hm hmt hrow
  go_enter Try.func29, Try.ntmps29
  go_wp2_with fail
  refine (Hmt.out _).mono ?_
  rintro e1 w1 ⟨rfl, hb⟩
  have c0 : w1.cell? ⟨w.heap.size, 0, none⟩ = some (.int .i64 c) := (hb.cell (p := ⟨_, 0, none⟩) (by simp)).trans (by simp [go_sem])
  have c1 : w1.cell? ⟨w.heap.size, 1, none⟩ = some (.int .i64 e) := (hb.cell (p := ⟨_, 1, none⟩) (by simp)).trans (by simp [go_sem])
  have c2 : w1.cell? ⟨w.heap.size, 2, none⟩ = some (.int .i64 s) := (hb.cell (p := ⟨_, 2, none⟩) (by simp)).trans (by simp [go_sem])
  have hb2 := below_then ((Below.refl w.heap.size w).alloc (Nat.le_refl _) _) (by simp) hb
  have Hb := hid hb2
  have hlt : w.heap.size < w1.heap.size := by have := hb.size; simp at this; omega
  clear hb hb2
  go_wp2_with fail
  have hB0 : Below w.heap.size w w1 := Hb.out
  go_region_held3 (fun w' => w'.cell? ⟨w.heap.size, 0, none⟩ = some (.int .i64 c) ∧ w'.cell? ⟨w.heap.size, 1, none⟩ = some (.int .i64 e) ∧ w'.cell? ⟨w.heap.size, 2, none⟩ = some (.int .i64 s) ∧ Below w.heap.size w w')
    (first
      | (go_split_ands; refine ⟨?_, ?_, ?_, ?_⟩ <;> first | assumption | exact Below.drew (by assumption) | (simp [*, World.cell?_alloc_some]; done) | exact Below.alloc (by assumption) (Below.size (by assumption)) _)
      | (go_split_ands; refine ⟨?_, ?_, ?_, below_then (by assumption) (Below.size (by assumption)) hbn⟩ <;> (refine (hbn.cell (p := ⟨w.heap.size, _, none⟩) ?_).trans ?_ <;> first | assumption | exact World.block_lt_of_cell? _ _ (by assumption))))
    (first
      | (go_at_call 59; refine (wnum_calls _ _).mono ?_; rintro e9 wn ⟨rfl, hbn⟩)
      | (go_at_call 30; refine (Hrow.out _ _ (strsAt_three _ _ _ _ _)).mono ?_; rintro e9 wn ⟨rfl, hbn⟩))
  go_split_ands
  rename_i hBl
  have HB := hid hBl
  clear hBl
  go_wp2
  go_ret2
  exact ⟨rfl, HB.out⟩
set_option maxRecDepth 20000 in
set_option maxHeartbeats 4000000 in
theorem txn_calls (t : Txn) (w : World) : Calls Try.prog 29 #[txnV t] w fun e w' => e = .returned (encMade (txnT t)) ∧ Below w.heap.size w w' := by
  unfold txnT
  cases hm : mayTxn t with
  | false =>
    have hmt := fun W => mayTxn_calls t W
    rw [hm] at hmt
    obtain ⟨c, e, s⟩ := t
    simp only [txnV] at hmt ⊢
    have Hmt := hid hmt
    clear hm hmt
    go_enter Try.func29, Try.ntmps29
    go_wp2_with fail
    refine (Hmt.out _).mono ?_
    rintro e1 w1 ⟨rfl, hb⟩
    have hb2 := below_then ((Below.refl w.heap.size w).alloc (Nat.le_refl _) _) (by simp) hb
    have Hb := hid hb2
    clear hb hb2
    go_wp2
    go_ret2
    exact ⟨rfl, Hb.out⟩
  | true =>
    obtain ⟨c, e, s⟩ := t
    have hrow := fun a W (h : StrsAt W a [numS c, numS e, numS s]) => row_calls a 3 3 [numS c, numS e, numS s] rfl (by simp) (by have := numS_len c; have := numS_len e; have := numS_len s; simp; omega) W h
    simp only [if_true]
    cases hR : row [numS c, numS e, numS s] with
    | error er => rw [hR] at hrow; exact txn_core c e s hm _ _ hrow w
    | ok tm => rw [hR] at hrow; exact txn_core c e s hm _ _ hrow w
end Go.Proofs.Ytohblakhojhklaa
