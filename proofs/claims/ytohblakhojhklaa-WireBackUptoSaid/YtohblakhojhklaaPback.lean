import Derived.Test.YtohblakhojhklaaPrcpt
/- Plain: what was decoded is encoded as it was, and what was encoded is decoded: numbers, transactions, members, receipts. -/
namespace Go.Proofs.Ytohblakhojhklaa
namespace Sp

/-! ### Data and numbers -/
theorem textOf_len {s : Bs} (h : s.length ≤ 1024) : (textOf s).length ≤ 1033 := by
  unfold textOf
  have := numOf_length_le s.length (by omega)
  simp; omega
theorem front_data {s : Bs} (h : s.length ≤ 1024) (r : Bs) : front (100 :: (textOf s ++ r)) = .ok (1 + (textOf s).length, 0) := by
  simp only [front, readText_textOf 1024 s r h (by omega)]
  rw [if_pos trivial]
theorem data_term {s : Bs} (h : s.length ≤ 1024) : isTerm (100 :: textOf s) = true := by
  rw [isTerm_iff]
  have hf := front_data h []
  rw [List.append_nil] at hf
  have hl := textOf_len h
  refine ⟨?_, by simp; omega⟩
  rw [readD, hf]
  simp only [kids, List.length_cons]
  rw [show 1 + (textOf s).length + 0 = (textOf s).length + 1 by omega]
theorem kind_of_head {t : Bs} {c : UInt8} (h : isTerm t = true) (hc : t.headD 0 = c) : kind t = kindNo c := by
  unfold kind; rw [h, hc]; rfl
theorem text_data {s : Bs} (h : s.length ≤ 1024) : text (100 :: textOf s) = some s := by
  have hk : kind (100 :: textOf s) = 1 := kind_of_head (data_term h) rfl
  unfold text
  rw [if_pos (.inl hk)]
  have := readText_textOf 1024 s [] h (by omega)
  rw [List.append_nil] at this
  simp only [List.drop_succ_cons, List.drop_zero, this]
theorem data_back {t : Bs} (h : isTerm t = true) (hc : t.headD 0 = 100) : ∃ s, t = 100 :: textOf s ∧ s.length ≤ 1024 := by
  have h1 := ((isTerm_iff t).1 h).1
  cases t with
  | nil => simp at hc
  | cons c r =>
    simp only [List.headD_cons] at hc
    subst hc
    rw [readD] at h1
    simp only [front] at h1
    rw [if_pos trivial] at h1
    cases hr : readText 1024 r with
    | error e => rw [hr] at h1; cases h1
    | ok p =>
      obtain ⟨s, k⟩ := p
      rw [hr] at h1
      simp only [kids] at h1
      injection h1 with h1
      obtain ⟨a1, a2, a3, a4, a5⟩ := readText_ok hr
      simp only [List.length_cons] at h1
      have hk : k = r.length := by omega
      rw [hk, List.drop_length, List.append_nil] at a1
      exact ⟨s, by rw [← a1], a3⟩
theorem data_ok {s : Bs} (h : s.length ≤ 1024) : data s = .ok (100 :: textOf s) := by unfold data; rw [if_neg (by omega)]
theorem numOf_short {v : Nat} (h : v ≤ 2147483647) : (numOf v).length ≤ 1024 := by have := numOf_length_le v (by omega); omega
theorem num_ok {v : Nat} (h : v ≤ 2147483647) : num (v : Int) = .ok (numB v) := by
  unfold num
  rw [if_neg (by omega), Int.toNat_natCast, data_ok (numOf_short h)]
  rfl
theorem num_ok' {v : Int} (h0 : 0 ≤ v) (h : v ≤ 2147483647) : num v = .ok (numB v.toNat) := by
  obtain ⟨n, rfl⟩ := Int.eq_ofNat_of_zero_le h0
  rw [num_ok (by omega)]; simp
theorem numS_ok {v : Nat} (h : v ≤ 2147483647) : numS (v : Int) = numB v := by unfold numS; rw [num_ok h]
theorem numB_term {v : Nat} (h : v ≤ 2147483647) : isTerm (numB v) = true := data_term (numOf_short h)
theorem readNumT_numB {v : Nat} (h : v ≤ 2147483647) : readNumT (numB v) = some v := by
  have ht : text (numB v) = some (numOf v) := text_data (numOf_short h)
  unfold readNumT
  rw [ht]
  have hr := readNum_numOf v (by omega) []
  rw [List.append_nil] at hr
  have hd : (numB v).headD 0 = 100 := rfl
  simp only [hd, hr, if_true]
  rw [if_pos ⟨trivial, h⟩]
theorem readNumT_back {t : Bs} {v : Nat} (h : readNumT t = some v) : t = numB v ∧ v ≤ 2147483647 := by
  unfold readNumT at h
  cases hx : text t with
  | none => rw [hx] at h; cases h
  | some s =>
    rw [hx] at h
    simp only at h
    split at h
    · rename_i hc
      have hk : isTerm t = true := by
        cases ht : isTerm t with
        | true => rfl
        | false =>
          unfold text kind at hx
          rw [ht] at hx
          simp at hx
      obtain ⟨s', rfl, hs⟩ := data_back hk hc
      rw [text_data hs] at hx
      injection hx with hx
      subst hx
      cases hr : readNum s' with
      | error e => rw [hr] at h; cases h
      | ok p =>
        obtain ⟨a, n⟩ := p
        rw [hr] at h
        simp only at h
        split at h
        · rename_i hc2
          injection h with h
          subst h
          obtain ⟨b1, -, -, -⟩ := readNum_ok hr
          rw [hc2.1, List.drop_length, List.append_nil] at b1
          exact ⟨by unfold numB; rw [← b1], hc2.2⟩
        · cases h
    · cases h

/-! ### Rows -/
theorem row_iff {l : List Bs} {t : Bs} : row l = .ok t ↔ (∀ p ∈ l, isTerm p = true) ∧ isTerm (rowB l) = true ∧ t = rowB l := by
  have e : (114 :: numOf l.length) ++ l.flatten = rowB l := by unfold rowB; simp
  unfold row made
  rw [e]
  constructor
  · intro h
    split at h
    · rename_i ha
      split at h
      · rename_i hb
        injection h with h
        exact ⟨fun p hp => (List.all_eq_true.1 ha) p hp, hb, h.symm⟩
      · cases h
    · cases h
  · rintro ⟨h1, h2, rfl⟩
    rw [if_pos (List.all_eq_true.2 h1), if_pos h2]
theorem rowB_head (l : List Bs) : (rowB l).headD 0 = 114 := rfl
theorem row_kind {l : List Bs} {t : Bs} (h : row l = .ok t) (hl : l.length < 18446744073709551616) : kind t = 3 ∧ cut t = l := by
  obtain ⟨h1, h2, rfl⟩ := row_iff.1 h
  exact ⟨kind_of_head h2 (rowB_head l), parts_rowB h1 h2 hl⟩
theorem row_isTerm {l : List Bs} {t : Bs} (h : row l = .ok t) : isTerm t = true := by
  obtain ⟨-, h2, rfl⟩ := row_iff.1 h
  exact h2
theorem kindNo_3 {c : UInt8} (h : kindNo c = 3) : c = 114 := by
  unfold kindNo at h
  repeat' split at h
  all_goals first | assumption | omega
theorem kind3_is {t : Bs} (h : kind t = 3) : isTerm t = true ∧ t.headD 0 = 114 := by
  unfold kind at h
  split at h
  · rename_i ht; exact ⟨ht, kindNo_3 h⟩
  · omega
theorem row_cut {t : Bs} (h : kind t = 3) : row (cut t) = .ok t ∧ (cut t).length ≤ 32 := by
  obtain ⟨h1, h2⟩ := kind3_is h
  obtain ⟨a, b, c⟩ := row_back h1 h2
  exact ⟨row_iff.2 ⟨b, by rw [← a]; exact h1, a⟩, c⟩
theorem rowP_is {t : Bs} {lo hi : Nat} {p : List Bs} (h : rowP t lo hi = some p) : kind t = 3 ∧ lo ≤ p.length ∧ p.length ≤ hi ∧ cut t = p := by
  unfold rowP at h
  split at h
  · rename_i hc; injection h with h; subst h; exact ⟨hc.1, hc.2.1, hc.2.2, rfl⟩
  · cases h
theorem rowP_mk {t : Bs} {lo hi : Nat} {p : List Bs} (hk : kind t = 3) (hc : cut t = p) (h1 : lo ≤ p.length) (h2 : p.length ≤ hi) : rowP t lo hi = some p := by
  subst hc
  unfold rowP; rw [if_pos ⟨hk, h1, h2⟩]

/-! ### Transactions -/
theorem org_nat {k : Int} (h : org k = true) : 0 ≤ k ∧ k < 8 := by
  unfold org at h; simpa using h
theorem mayTxn_is {t : Txn} (h : mayTxn t = true) : (0 ≤ t.c ∧ t.c < 8) ∧ (1 ≤ t.e ∧ t.e ≤ 255) ∧ (1 ≤ t.s ∧ t.s ≤ 65535) := by
  unfold mayTxn at h
  simp only [Bool.and_eq_true, decide_eq_true_eq] at h
  exact ⟨org_nat h.1.1.1.1, ⟨h.1.1.1.2, h.1.1.2⟩, h.1.2, h.2⟩
theorem numS_of {v : Int} (h0 : 0 ≤ v) (h : v ≤ 2147483647) : numS v = numB v.toNat := by unfold numS; rw [num_ok' h0 h]
theorem untxn_back {t : Bs} {x : Txn} (h : untxn t = some x) : txnT x = .ok t ∧ mayTxn x = true := by
  unfold untxn at h
  cases hr : rowP t 3 3 with
  | none => rw [hr] at h; cases h
  | some p =>
    obtain ⟨hk, h1, h2, hc⟩ := rowP_is hr
    rw [hr] at h
    match p, h1, h2, h with
    | [a, b, c], _, _, h =>
      simp only at h
      cases ha : readNumT a with
      | none => rw [ha] at h; cases h
      | some i =>
        cases hb : readNumT b with
        | none => rw [ha, hb] at h; cases h
        | some j =>
          cases hd : readNumT c with
          | none => rw [ha, hb, hd] at h; cases h
          | some k =>
            rw [ha, hb, hd] at h
            simp only at h
            split at h
            · rename_i hm
              injection h with h
              subst h
              obtain ⟨rfl, li⟩ := readNumT_back ha
              obtain ⟨rfl, lj⟩ := readNumT_back hb
              obtain ⟨rfl, lk⟩ := readNumT_back hd
              refine ⟨?_, hm⟩
              unfold txnT
              rw [if_pos hm]
              simp only [numS_ok li, numS_ok lj, numS_ok lk]
              rw [← hc]
              exact (row_cut hk).1
            · cases h
theorem txnT_row {x : Txn} {t : Bs} (h : txnT x = .ok t) : mayTxn x = true ∧ row [numB x.c.toNat, numB x.e.toNat, numB x.s.toNat] = .ok t := by
  unfold txnT at h
  split at h
  · rename_i hm
    obtain ⟨⟨a1, a2⟩, ⟨b1, b2⟩, c1, c2⟩ := mayTxn_is hm
    rw [numS_of a1 (by omega), numS_of (by omega) (by omega), numS_of (by omega) (by omega)] at h
    exact ⟨hm, h⟩
  · cases h
theorem untxn_txnT {x : Txn} {t : Bs} (h : txnT x = .ok t) : untxn t = some x := by
  obtain ⟨hm, hr⟩ := txnT_row h
  obtain ⟨⟨a1, a2⟩, ⟨b1, b2⟩, c1, c2⟩ := mayTxn_is hm
  obtain ⟨hk, hc⟩ := row_kind hr (by simp)
  unfold untxn
  rw [rowP_mk hk hc (by simp) (by simp)]
  simp only [readNumT_numB (show x.c.toNat ≤ 2147483647 by omega), readNumT_numB (show x.e.toNat ≤ 2147483647 by omega), readNumT_numB (show x.s.toNat ≤ 2147483647 by omega)]
  have e : (⟨(x.c.toNat : Int), (x.e.toNat : Int), (x.s.toNat : Int)⟩ : Txn) = x := by
    obtain ⟨c, e, s⟩ := x
    simp only at a1 a2 b1 b2 c1 c2 ⊢
    rw [Int.toNat_of_nonneg a1, Int.toNat_of_nonneg (by omega : 0 ≤ e), Int.toNat_of_nonneg (by omega : 0 ≤ s)]
  rw [e, if_pos hm]

/-! ### Members -/
theorem unmem_back {s : Bs} {x : Mem} (h : unmem s = some x) : memT x = .ok s ∧ 0 ≤ x.org := by
  unfold unmem at h
  cases hr : rowP s 2 2 with
  | none => rw [hr] at h; cases h
  | some p =>
    obtain ⟨hk, h1, h2, hc⟩ := rowP_is hr
    rw [hr] at h
    match p, h1, h2, h with
    | [a, b], _, _, h =>
      simp only at h
      cases ha : readNumT a with
      | none => rw [ha] at h; cases h
      | some i =>
        rw [ha] at h
        simp only at h
        injection h with h
        subst h
        obtain ⟨rfl, li⟩ := readNumT_back ha
        refine ⟨?_, by simp⟩
        unfold memT
        simp only [numS_ok li]
        rw [← hc]
        exact (row_cut hk).1
theorem unmem_memT {s : Bs} {x : Mem} (h : memT x = .ok s) (h0 : 0 ≤ x.org) (h1 : x.org ≤ 2147483647) : unmem s = some x := by
  unfold memT at h
  rw [numS_of h0 h1] at h
  obtain ⟨hk, hc⟩ := row_kind h (by simp)
  unfold unmem
  rw [rowP_mk hk hc (by simp) (by simp)]
  simp only [readNumT_numB (show x.org.toNat ≤ 2147483647 by omega), Int.toNat_of_nonneg h0]
theorem unmems_back : ∀ {p : List Bs} {l : List Mem}, unmems p = some l → memTs l = .ok p
  | [], l, h => by simp only [unmems] at h; injection h with h; subst h; rfl
  | s :: r, l, h => by
    simp only [unmems] at h
    cases hx : unmem s with
    | none => rw [hx] at h; cases h
    | some x =>
      cases hq : unmems r with
      | none => rw [hx, hq] at h; cases h
      | some q =>
        rw [hx, hq] at h
        simp only at h
        injection h with h
        subst h
        simp only [memTs, (unmem_back hx).1, unmems_back hq]
theorem unmems_memTs : ∀ {l : List Mem} {p : List Bs}, memTs l = .ok p → (∀ x ∈ l, 0 ≤ x.org ∧ x.org ≤ 2147483647) → unmems p = some l
  | [], p, h, _ => by simp only [memTs] at h; injection h with h; subst h; rfl
  | x :: r, p, h, ho => by
    simp only [memTs] at h
    cases hx : memT x with
    | error e => rw [hx] at h; cases h
    | ok s =>
      rw [hx] at h
      simp only at h
      cases hq : memTs r with
      | error e => rw [hq] at h; cases h
      | ok q =>
        rw [hq] at h
        simp only at h
        injection h with h
        subst h
        have := ho x (by simp)
        simp only [unmems, unmem_memT hx this.1 this.2, unmems_memTs hq (fun y hy => ho y (by simp [hy]))]
theorem memTs_len : ∀ {l : List Mem} {p : List Bs}, memTs l = .ok p → p.length = l.length
  | [], p, h => by simp only [memTs] at h; injection h with h; subst h; rfl
  | x :: r, p, h => by
    simp only [memTs] at h
    cases hx : memT x with
    | error e => rw [hx] at h; cases h
    | ok s =>
      rw [hx] at h
      simp only at h
      cases hq : memTs r with
      | error e => rw [hq] at h; cases h
      | ok q =>
        rw [hq] at h
        simp only at h
        injection h with h
        subst h
        simp [memTs_len hq]
theorem mayMem_org : ∀ {c last : Int} {l : List Mem}, mayMem c last l = true → ∀ x ∈ l, (0 ≤ x.org ∧ x.org < 8) ∧ last < x.org ∧ x.org ≠ c ∧ isTerm x.dig = true
  | c, last, [], h, x, hx => by simp at hx
  | c, last, y :: r, h, x, hx => by
    simp only [mayMem, Bool.and_eq_true, decide_eq_true_eq] at h
    obtain ⟨⟨⟨⟨h1, h2⟩, h3⟩, h4⟩, h5⟩ := h
    rcases List.mem_cons.1 hx with rfl | hx
    · exact ⟨org_nat h1, h3, h2, h4⟩
    · obtain ⟨a, b, d⟩ := mayMem_org h5 x hx
      exact ⟨a, by omega, d⟩
theorem mayMembers_is {t : Txn} {l : List Mem} (h : mayMembers t l = true) : mayMem t.c (-1) l = true ∧ 1 ≤ l.length ∧ l.length ≤ 6 := by
  unfold mayMembers at h
  simp only [Bool.and_eq_true, decide_eq_true_eq] at h
  exact ⟨h.1.1, h.1.2, h.2⟩
theorem unmembers_back {x : Txn} {t : Bs} {l : List Mem} (h : unmembers x t = some l) : membersT x l = .ok t ∧ mayMembers x l = true := by
  unfold unmembers at h
  cases hr : rowP t 1 6 with
  | none => rw [hr] at h; cases h
  | some p =>
    obtain ⟨hk, h1, h2, hc⟩ := rowP_is hr
    rw [hr] at h
    simp only at h
    cases hu : unmems p with
    | none => rw [hu] at h; cases h
    | some q =>
      rw [hu] at h
      simp only at h
      split at h
      · rename_i hm
        injection h with h
        subst h
        refine ⟨?_, hm⟩
        unfold membersT
        rw [if_pos hm, unmems_back hu]
        simp only
        rw [← hc]
        exact (row_cut hk).1
      · cases h
theorem membersT_is {x : Txn} {l : List Mem} {t : Bs} (h : membersT x l = .ok t) : mayMembers x l = true ∧ ∃ p, memTs l = .ok p ∧ row p = .ok t := by
  unfold membersT at h
  split at h
  · rename_i hm
    refine ⟨hm, ?_⟩
    split at h
    · cases h
    · rename_i p hp; exact ⟨p, hp, h⟩
  · cases h
theorem unmembers_membersT {x : Txn} {l : List Mem} {t : Bs} (h : membersT x l = .ok t) : unmembers x t = some l := by
  obtain ⟨hm, p, hp, hr⟩ := membersT_is h
  obtain ⟨hmm, h1, h6⟩ := mayMembers_is hm
  have hl := memTs_len hp
  obtain ⟨hk, hc⟩ := row_kind hr (by omega)
  unfold unmembers
  rw [rowP_mk hk hc (by omega) (by omega)]
  simp only [unmems_memTs hp (fun y hy => by have := (mayMem_org hmm y hy).1; omega)]
  rw [if_pos hm]

/-! ### Receipts -/
theorem mayR_is {r : Rcpt} (h : mayR r = true) : mayTxn r.txn = true ∧ (0 ≤ r.aud ∧ r.aud < 8) ∧ mayMembers r.txn r.mems = true ∧ r.tags.length = r.mems.length ∧ ∀ s ∈ r.tags, isTerm s = true := by
  unfold mayR at h
  simp only [Bool.and_eq_true, decide_eq_true_eq] at h
  exact ⟨h.1.1.1.1.1, ⟨h.1.1.1.1.2, h.1.1.1.2⟩, h.1.1.2, h.1.2, List.all_eq_true.1 h.2⟩
theorem orgsOf_unmems : ∀ {p : List Bs} {l : List Mem}, unmems p = some l → orgsOf p = some (l.map (·.org))
  | [], l, h => by simp only [unmems] at h; injection h with h; subst h; rfl
  | s :: r, l, h => by
    simp only [unmems] at h
    cases hx : unmem s with
    | none => rw [hx] at h; cases h
    | some x =>
      cases hq : unmems r with
      | none => rw [hx, hq] at h; cases h
      | some q =>
        rw [hx, hq] at h
        simp only at h
        injection h with h
        subst h
        have ih := orgsOf_unmems hq
        unfold unmem at hx
        cases hr : rowP s 2 2 with
        | none => rw [hr] at hx; cases hx
        | some p =>
          obtain ⟨hk, h1, h2, hc⟩ := rowP_is hr
          rw [hr] at hx
          match p, h1, h2, hx, hr with
          | [a, b], _, _, hx, hr =>
            simp only at hx
            cases ha : readNumT a with
            | none => rw [ha] at hx; cases hx
            | some i =>
              rw [ha] at hx
              simp only at hx
              injection hx with hx
              subst hx
              simp only [orgsOf, hr, ha, ih, List.map_cons]
theorem noTwice_mayMem : ∀ {c last : Int} {l : List Mem}, mayMem c last l = true → noTwice (l.map (·.org)) = true
  | _, _, [], _ => rfl
  | c, last, y :: r, h => by
    have h' := h
    simp only [mayMem, Bool.and_eq_true, decide_eq_true_eq] at h
    simp only [List.map_cons, noTwice, Bool.and_eq_true, Bool.not_eq_true']
    refine ⟨?_, noTwice_mayMem h.2⟩
    rw [← Bool.not_eq_true, List.contains_iff_mem]
    intro hm
    obtain ⟨x, hx, e⟩ := List.mem_map.1 hm
    have := (mayMem_org h.2 x hx).2.1
    omega
theorem wordT_is : wordT = 100 :: textOf wordR := by unfold wordT; rw [data_ok (by decide)]; rfl
theorem wordT_term : isTerm wordT = true := by rw [wordT_is]; exact data_term (by decide)
/-- What was decoded is encoded as it was. -/
theorem decR_back {t : Bs} {r : Rcpt} (h : decR t = .ok r) : encR r = .ok t ∧ mayR r = true ∧ isTerm t = true := by
  unfold decR at h
  split at h
  · cases h
  · rename_i hl
    cases hr : rowP t 5 5 with
    | none => rw [hr] at h; cases h
    | some p =>
      obtain ⟨hk, h1, h2, hc⟩ := rowP_is hr
      rw [hr] at h
      match p, h1, h2, h with
      | [w, a, b, c, d], _, _, h =>
        simp only at h
        split at h
        · cases h
        · rename_i hw
          have hw : w = wordT := by simpa using hw
          subst hw
          cases ha : untxn a with
          | none => rw [ha] at h; cases h
          | some x =>
            rw [ha] at h
            simp only at h
            cases hb : readNumT b with
            | none => rw [hb] at h; cases h
            | some k =>
              rw [hb] at h
              simp only at h
              split at h
              · cases h
              · rename_i hkk
                have hkd : kind d = 3 := by omega
                split at h
                · cases h
                · split at h
                  · cases h
                  · cases hu : unmembers x c with
                    | none => rw [hu] at h; cases h
                    | some m =>
                      rw [hu] at h
                      simp only at h
                      split at h
                      · rename_i hm
                        injection h with h
                        subst h
                        refine ⟨?_, hm, (kind3_is hk).1⟩
                        obtain ⟨rfl, lk⟩ := readNumT_back hb
                        have h5 : fiveR ⟨x, k, m, cut d⟩ = .ok [wordT, a, numB k, c, d] := by
                          unfold fiveR
                          simp only [(untxn_back ha).1, num_ok lk, (unmembers_back hu).1, (row_cut hkd).1]
                        unfold encR putR
                        rw [if_pos hm, h5]
                        simp only
                        rw [← hc, (row_cut hk).1]
                      · cases h
theorem putR_five {r : Rcpt} {t : Bs} (h : putR r = .ok t) : ∃ a b c d, txnT r.txn = .ok a ∧ num r.aud = .ok b ∧ membersT r.txn r.mems = .ok c ∧ row r.tags = .ok d ∧ row [wordT, a, b, c, d] = .ok t := by
  unfold putR at h
  cases h5 : fiveR r with
  | error e => rw [h5] at h; cases h
  | ok l =>
    rw [h5] at h
    simp only at h
    unfold fiveR at h5
    cases ha : txnT r.txn with
    | error e => rw [ha] at h5; cases h5
    | ok a =>
      cases hb : num r.aud with
      | error e => rw [ha, hb] at h5; cases h5
      | ok b =>
        cases hc : membersT r.txn r.mems with
        | error e => rw [ha, hb, hc] at h5; cases h5
        | ok c =>
          cases hd : row r.tags with
          | error e => rw [ha, hb, hc, hd] at h5; cases h5
          | ok d =>
            rw [ha, hb, hc, hd] at h5
            simp only at h5
            injection h5 with h5
            subst h5
            refine ⟨a, b, c, d, rfl, rfl, rfl, rfl, ?_⟩
            cases hr : row [wordT, a, b, c, d] with
            | error e => rw [hr] at h; cases h
            | ok u => rw [hr] at h; simp only at h; exact h
theorem encR_is {r : Rcpt} {t : Bs} (h : encR r = .ok t) : mayR r = true ∧ putR r = .ok t := by
  unfold encR at h
  split at h
  · rename_i hm; exact ⟨hm, h⟩
  · cases h
theorem encR_term {r : Rcpt} {t : Bs} (h : encR r = .ok t) : isTerm t = true := by
  obtain ⟨a, b, c, d, -, -, -, -, hr⟩ := putR_five (encR_is h).2
  exact row_isTerm hr
/-- What was encoded is decoded. -/
theorem decR_encR {r : Rcpt} {t : Bs} (h : encR r = .ok t) : decR t = .ok r := by
  obtain ⟨hm, hp⟩ := encR_is h
  obtain ⟨a, b, c, d, ha, hb, hc, hd, hr⟩ := putR_five hp
  obtain ⟨m1, ⟨m2, m3⟩, m4, m5, m6⟩ := mayR_is hm
  obtain ⟨mm, l1, l6⟩ := mayMembers_is m4
  obtain ⟨hk, hcut⟩ := row_kind hr (by simp)
  obtain ⟨kd, cd⟩ := row_kind hd (by omega)
  have hu := unmembers_membersT hc
  obtain ⟨-, p, hp2, hrc⟩ := membersT_is hc
  have hlp := memTs_len hp2
  obtain ⟨kc, cc⟩ := row_kind hrc (by omega)
  have hus := unmems_memTs hp2 (fun y hy => by have := (mayMem_org mm y hy).1; omega)
  rw [num_ok' m2 (by omega)] at hb
  injection hb with hb
  subst hb
  unfold decR
  rw [if_neg (by have := isTerm_len (row_isTerm hr); omega), rowP_mk hk hcut (by simp) (by simp)]
  simp only [ne_eq, not_true_eq_false, if_false, untxn_txnT ha, readNumT_numB (show r.aud.toNat ≤ 2147483647 by omega), kd, kc, or_self, cc, orgsOf_unmems hus, noTwice_mayMem mm, hu, cd, Bool.true_eq_false]
  have e : (⟨r.txn, (r.aud.toNat : Int), r.mems, r.tags⟩ : Rcpt) = r := by
    obtain ⟨x, k, m, g⟩ := r
    simp only at m2 ⊢
    rw [Int.toNat_of_nonneg m2]
  rw [e, if_pos hm]
theorem encR_inj {r s : Rcpt} {t : Bs} (h : encR r = .ok t) (k : encR s = .ok t) : r = s := by
  have h1 := decR_encR h
  rw [decR_encR k] at h1
  injection h1 with h1
  exact h1.symm

/-! ### What is cut off, or goes on -/
theorem term_cut {t : Bs} (h : isTerm t = true) (k : Nat) (hk : k < t.length) : isTerm (t.take k) = false := by
  rw [Bool.eq_false_iff]
  intro hc
  have h1 := ((isTerm_iff _).1 h).1
  have h2 := ((isTerm_iff _).1 hc).1
  have h3 := readD_app h2 (t.drop k)
  rw [List.take_append_drop, h1] at h3
  injection h3 with h3
  rw [List.length_take] at h3
  omega
theorem term_on {t more : Bs} (h : isTerm t = true) (hm : more ≠ []) : isTerm (t ++ more) = false := by
  rw [Bool.eq_false_iff]
  intro hc
  have h1 := ((isTerm_iff _).1 h).1
  have h2 := ((isTerm_iff _).1 hc).1
  rw [readD_app h1 more] at h2
  injection h2 with h2
  have := List.length_pos_iff.2 hm
  rw [List.length_append] at h2
  omega
theorem decR_noterm {t : Bs} (h : isTerm t = false) : ∃ e, decR t = .error e := by
  cases hd : decR t with
  | error e => exact ⟨e, rfl⟩
  | ok r => rw [(decR_back hd).2.2] at h; cases h
end Sp
end Go.Proofs.Ytohblakhojhklaa
