import Derived.Test.YtohblakhojhklaaPwire2
/- Plain: messages and their terms, there and back. -/
namespace Go.Proofs.Ytohblakhojhklaa
namespace Sp

theorem word_short (k : Nat) : (wordK k).length ≤ 1024 := by
  unfold wordK; split <;> simp
theorem wordD_is (k : Nat) : wordD k = 100 :: textOf (wordK k) := by
  unfold wordD; rw [data_ok (word_short k)]; rfl
theorem wordD_kind (k : Nat) : kind (wordD k) = 1 := by
  rw [wordD_is]; exact kind_of_head (data_term (word_short k)) rfl
theorem wordD_text (k : Nat) : text (wordD k) = some (wordK k) := by
  rw [wordD_is]; exact text_data (word_short k)
theorem kindOf_word {k : Nat} (h : isKind k = true) : kindOf (wordK k) = k := by
  have h2 : 1 ≤ k ∧ k ≤ 6 := by simpa [isKind] using h
  rcases (by omega : k = 1 ∨ k = 2 ∨ k = 3 ∨ k = 4 ∨ k = 5 ∨ k = 6) with rfl | rfl | rfl | rfl | rfl | rfl <;> rfl
theorem word_kindOf {s : Bs} (h : kindOf s ≠ 0) : s = wordK (kindOf s) ∧ isKind (kindOf s) = true := by
  revert h
  unfold kindOf
  split
  · rename_i e; intro _; exact ⟨e, rfl⟩
  split
  · rename_i e; intro _; exact ⟨e, rfl⟩
  split
  · rename_i e; intro _; exact ⟨e, rfl⟩
  split
  · rename_i e; intro _; exact ⟨e, rfl⟩
  split
  · rename_i e; intro _; exact ⟨e, rfl⟩
  split
  · rename_i e; intro _; exact ⟨e, rfl⟩
  intro h; exact (h rfl).elim
theorem flag_back (b : Bool) : unyesT (flag b) = some b := by
  cases b
  · have : flag false = numB 0 := numS_ok (v := 0) (by omega)
    unfold unyesT; rw [this, readNumT_numB (by omega)]; rfl
  · have : flag true = numB 1 := numS_ok (v := 1) (by omega)
    unfold unyesT; rw [this, readNumT_numB (by omega)]; rfl
theorem unyes_back {t : Bs} {b : Bool} (h : unyesT t = some b) : t = flag b := by
  unfold unyesT at h
  cases hr : readNumT t with
  | none => rw [hr] at h; cases h
  | some v =>
    rw [hr] at h
    obtain ⟨rfl, -⟩ := readNumT_back hr
    simp only at h
    by_cases hv : v < 2
    · rw [if_pos hv] at h
      injection h with h
      subst h
      rcases (by omega : v = 0 ∨ v = 1) with rfl | rfl
      · exact (numS_ok (v := 0) (by omega)).symm
      · exact (numS_ok (v := 1) (by omega)).symm
    · rw [if_neg hv] at h; cases h
theorem orNo_ne {x : Except Nat Bs} (h : (orNo x).isEmpty = false) : ∃ s, x = .ok s := by
  cases x with
  | ok s => exact ⟨s, rfl⟩
  | error e => simp [orNo] at h

/-- What was decoded is encoded as it was. -/
theorem decM_back {t : Bs} {m : Msg} (h : decM t = some m) : encM m = .ok t ∧ mayM m = true := by
  unfold decM at h
  cases hr : rowP t 1 5 with
  | none => rw [hr] at h; cases h
  | some p =>
    rw [hr] at h
    cases p with
    | nil => cases h
    | cons x r =>
      simp only at h
      obtain ⟨hk, -, -, hc⟩ := rowP_is hr
      obtain ⟨hrow, -⟩ := row_cut hk
      rw [hc] at hrow
      have hterms := (row_iff.1 hrow).1
      by_cases hx : kind x = 1
      · rw [if_pos hx] at h
        cases ht : text x with
        | none => rw [ht] at h; cases h
        | some s =>
          rw [ht] at h
          simp only at h
          by_cases h0 : kindOf s = 0
          · rw [if_pos h0] at h; cases h
          · rw [if_neg h0] at h
            obtain ⟨hs, hkind⟩ := word_kindOf h0
            have hxt : isTerm x = true := hterms x (by simp)
            have hxh : x.headD 0 = 100 := by
              have h1 := hx
              unfold kind at h1
              rw [if_pos hxt] at h1
              unfold kindNo at h1
              repeat' split at h1
              all_goals first | assumption | omega
            obtain ⟨s2, hx2, hl2⟩ := data_back hxt hxh
            have hs2 : s2 = s := by
              have := text_data hl2
              rw [← hx2, ht] at this
              injection this with this; exact this.symm
            have hxw : x = wordD (kindOf s) := by rw [wordD_is, ← hs, hx2, hs2]
            -- the parts
            have key : mayM m = true ∧ partsM m = x :: r := by
              generalize kindOf s = k at h hxw hkind
              subst hxw
              have h2 : 1 ≤ k ∧ k ≤ 6 := by simpa [isKind] using hkind
              unfold decK at h
              by_cases h6 : k = 6
              · subst h6
                rw [if_pos rfl] at h
                cases r with
                | cons _ _ => simp [getK] at h
                | nil =>
                  simp only [getK] at h
                  by_cases hm : mayM { zeroM with kind := 6 } = true
                  · rw [if_pos hm] at h; injection h with h; subst h; exact ⟨hm, rfl⟩
                  · rw [if_neg hm] at h; cases h
              · rw [if_neg h6] at h
                cases r with
                | nil => cases h
                | cons y q =>
                  simp only at h
                  cases hu : untxn y with
                  | none => rw [hu] at h; cases h
                  | some tx =>
                    rw [hu] at h
                    simp only at h
                    obtain ⟨htx, -⟩ := untxn_back hu
                    cases hg : getK k { zeroM with kind := k, txn := tx } q with
                    | none => rw [hg] at h; cases h
                    | some m2 =>
                      rw [hg] at h
                      simp only at h
                      by_cases hm : mayM m2 = true
                      · rw [if_pos hm] at h
                        injection h with h; subst h
                        refine ⟨hm, ?_⟩
                        have hp : m2.kind = k ∧ m2.txn = tx ∧ putK k m2 = q := by
                          rcases (by omega : k = 1 ∨ k = 2 ∨ k = 3 ∨ k = 4 ∨ k = 5) with rfl | rfl | rfl | rfl | rfl
                          · match q, hg with
                            | [a, b, c], hg =>
                              simp only [getK] at hg
                              cases ha : readNumT a with
                              | none => rw [ha] at hg; cases hg
                              | some v =>
                                rw [ha] at hg
                                cases hb : unmembers tx b with
                                | none => rw [hb] at hg; cases hg
                                | some l =>
                                  rw [hb] at hg
                                  injection hg with hg; subst hg
                                  obtain ⟨rfl, hv⟩ := readNumT_back ha
                                  obtain ⟨hb2, -⟩ := unmembers_back hb
                                  refine ⟨rfl, rfl, ?_⟩
                                  simp only [putK, numS_ok hv, hb2, orNo]
                            | [], hg => simp [getK] at hg
                            | [_], hg => simp [getK] at hg
                            | [_, _], hg => simp [getK] at hg
                            | _ :: _ :: _ :: _ :: _, hg => simp [getK] at hg
                          · match q, hg with
                            | [a], hg =>
                              simp only [getK] at hg
                              cases ha : unyesT a with
                              | none => rw [ha] at hg; cases hg
                              | some b =>
                                rw [ha] at hg
                                cases b with
                                | true => cases hg
                                | false =>
                                  injection hg with hg; subst hg
                                  refine ⟨rfl, rfl, ?_⟩
                                  rw [unyes_back ha]; rfl
                            | [a, c], hg =>
                              simp only [getK] at hg
                              cases ha : unyesT a with
                              | none => rw [ha] at hg; cases hg
                              | some b =>
                                rw [ha] at hg
                                cases b with
                                | false => cases hg
                                | true =>
                                  injection hg with hg; subst hg
                                  refine ⟨rfl, rfl, ?_⟩
                                  rw [unyes_back ha]; rfl
                            | [], hg => simp [getK] at hg
                            | _ :: _ :: _ :: _, hg => simp [getK] at hg
                          · match q, hg with
                            | [a], hg =>
                              simp only [getK] at hg
                              cases ha : unyesT a with
                              | none => rw [ha] at hg; cases hg
                              | some b =>
                                rw [ha] at hg
                                injection hg with hg; subst hg
                                refine ⟨rfl, rfl, ?_⟩
                                rw [unyes_back ha]; rfl
                            | [], hg => simp [getK] at hg
                            | _ :: _ :: _, hg => simp [getK] at hg
                          · match q, hg with
                            | [], hg => simp only [getK] at hg; injection hg with hg; subst hg; exact ⟨rfl, rfl, rfl⟩
                            | _ :: _, hg => simp [getK] at hg
                          · match q, hg with
                            | [], hg => simp only [getK] at hg; injection hg with hg; subst hg; exact ⟨rfl, rfl, rfl⟩
                            | _ :: _, hg => simp [getK] at hg
                        obtain ⟨e1, e2, e3⟩ := hp
                        unfold partsM
                        rw [e1, e2, e3, htx]
                        have h6b : (k == 6) = false := by simpa using h6
                        rw [h6b]
                        rfl
                      · rw [if_neg hm] at h; cases h
            obtain ⟨hm, hp⟩ := key
            refine ⟨?_, hm⟩
            unfold encM
            rw [if_pos hm, hp]
            have hany : (x :: r).any (·.isEmpty) = false := by
              rw [List.any_eq_false]
              intro y hy
              have := isTerm_ne (hterms y hy)
              simpa using this
            rw [hany]
            exact hrow
      · rw [if_neg hx] at h; cases h

/-- What is zero of a message that is not idle's. -/
theorem idle_is {m : Msg} (h : idleM m = true) : (m.kind ≠ 1 → m.aud = 0 ∧ m.mems = [] ∧ m.body = []) ∧ (m.kind ≠ 2 → m.kind ≠ 3 → m.yes = false) ∧ (m.kind ≠ 2 → m.tag = []) ∧ (m.kind = 6 → m.txn = ⟨0, 0, 0⟩) := by
  unfold idleM prepM saysM at h
  split at h
  · cases h
  · rename_i h1
    split at h
    · cases h
    · rename_i h2
      split at h
      · cases h
      · rename_i h3
        refine ⟨fun hk => ?_, fun hk hk3 => ?_, fun hk => ?_, fun hk => ?_⟩
        · simpa [hk, and_assoc] using h1
        · simpa [hk, hk3] using h2
        · simpa [hk] using h3
        · simpa [hk] using h
theorem encM_is {m : Msg} {t : Bs} (h : encM m = .ok t) : mayM m = true ∧ (∀ p ∈ partsM m, p.isEmpty = false) ∧ row (partsM m) = .ok t := by
  unfold encM at h
  split at h
  · rename_i hm
    split at h
    · cases h
    · rename_i hn
      refine ⟨hm, fun p hp => ?_, h⟩
      cases he : p.isEmpty with
      | false => rfl
      | true => exact (hn (List.any_eq_true.2 ⟨p, hp, he⟩)).elim
  · cases h
/-- What was encoded is decoded. -/
theorem encM_back {m : Msg} {t : Bs} (h : encM m = .ok t) : decM t = some m := by
  obtain ⟨hm, hne, hrow⟩ := encM_is h
  have hm2 := hm
  unfold mayM at hm2
  simp only [Bool.and_eq_true] at hm2
  obtain ⟨⟨⟨hkind, hidle⟩, htx⟩, hmay⟩ := hm2
  obtain ⟨i1, i2, i3, i4⟩ := idle_is hidle
  obtain ⟨k, tx, aud, l, body, yes, tag⟩ := m
  simp only at hkind htx hmay i1 i2 i3 i4
  have h2 : 1 ≤ k ∧ k ≤ 6 := by simpa [isKind] using hkind
  have hlen : (partsM ⟨k, tx, aud, l, body, yes, tag⟩).length ≤ 5 ∧ 1 ≤ (partsM ⟨k, tx, aud, l, body, yes, tag⟩).length := by
    unfold partsM
    rcases (by omega : k = 1 ∨ k = 2 ∨ k = 3 ∨ k = 4 ∨ k = 5 ∨ k = 6) with rfl | rfl | rfl | rfl | rfl | rfl
    · simp [putK]
    · cases yes <;> simp [putK]
    all_goals simp [putK]
  obtain ⟨hk3, hcut⟩ := row_kind hrow (by omega)
  have hrp := rowP_mk (lo := 1) (hi := 5) hk3 hcut hlen.2 hlen.1
  unfold decM
  rw [hrp]
  unfold partsM
  simp only
  rw [if_pos (wordD_kind k), wordD_text k]
  simp only
  rw [kindOf_word hkind, if_neg (by omega)]
  unfold decK
  by_cases h6 : k = 6
  · subst h6
    obtain ⟨rfl, rfl, rfl⟩ := i1 (by omega)
    have hy := i2 (by omega) (by omega)
    have hg := i3 (by omega)
    have ht := i4 rfl
    subst hy hg ht
    rw [if_pos rfl]
    simp only [beq_self_eq_true, if_true, putK, List.append_nil, getK]
    exact if_pos hm
  · rw [if_neg h6]
    have h6b : (k == 6) = false := by simpa using h6
    have hp1 : partsM ⟨k, tx, aud, l, body, yes, tag⟩ = wordD k :: orNo (txnT tx) :: putK k ⟨k, tx, aud, l, body, yes, tag⟩ := by
      unfold partsM; simp only [h6b]; rfl
    rw [hp1] at hne
    obtain ⟨s, hs⟩ := orNo_ne (hne (orNo (txnT tx)) (by simp))
    have hun := untxn_txnT hs
    simp only [h6b, hs, orNo]
    simp only [Bool.false_eq_true, if_false, List.cons_append, List.nil_append, hun]
    have hget : getK k { zeroM with kind := k, txn := tx } (putK k ⟨k, tx, aud, l, body, yes, tag⟩) = some ⟨k, tx, aud, l, body, yes, tag⟩ := by
      rcases (by omega : k = 1 ∨ k = 2 ∨ k = 3 ∨ k = 4 ∨ k = 5) with rfl | rfl | rfl | rfl | rfl
      · have hy := i2 (by omega) (by omega)
        have hg := i3 (by omega)
        subst hy hg
        obtain ⟨b, hb⟩ := orNo_ne (hne (orNo (membersT tx l)) (by simp [putK]))
        simp only [mayK, Bool.and_eq_true] at hmay
        obtain ⟨a1, a2⟩ := org_nat hmay.1.1
        obtain ⟨n, rfl⟩ := Int.eq_ofNat_of_zero_le a1
        simp only [putK, getK, numS_ok (v := n) (by omega), readNumT_numB (v := n) (by omega), hb, orNo, unmembers_membersT hb, zeroM]
      · obtain ⟨rfl, rfl, rfl⟩ := i1 (by omega)
        simp only [mayK, Bool.and_eq_true] at hmay
        cases yes with
        | true => simp [putK, getK, flag_back, zeroM]
        | false =>
          have hg : tag = [] := by
            have := hmay.1
            cases tag with
            | nil => rfl
            | cons x y => simp at this
          subst hg
          simp [putK, getK, flag_back, zeroM]
      · obtain ⟨rfl, rfl, rfl⟩ := i1 (by omega)
        have hg := i3 (by omega)
        subst hg
        simp [putK, getK, flag_back, zeroM]
      · obtain ⟨rfl, rfl, rfl⟩ := i1 (by omega)
        have hy := i2 (by omega) (by omega)
        have hg := i3 (by omega)
        subst hy hg
        simp [putK, getK, zeroM]
      · obtain ⟨rfl, rfl, rfl⟩ := i1 (by omega)
        have hy := i2 (by omega) (by omega)
        have hg := i3 (by omega)
        subst hy hg
        simp [putK, getK, zeroM]
    rw [hget]
    exact if_pos hm
theorem encM_inj {m n : Msg} {t : Bs} (h1 : encM m = .ok t) (h2 : encM n = .ok t) : m = n := by
  have a := encM_back h1
  rw [encM_back h2] at a
  injection a with a; exact a.symm
end Sp
end Go.Proofs.Ytohblakhojhklaa
