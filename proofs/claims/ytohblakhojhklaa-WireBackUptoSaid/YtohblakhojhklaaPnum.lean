/- Plain: numbers and texts as bytes (what package octet computes), with no program in sight. -/
namespace Go.Proofs.Ytohblakhojhklaa
namespace Sp

abbrev Bs := List UInt8

/-- The number of bytes, the greatest first. -/
def be (l : Bs) : Nat := l.foldl (fun v b => v * 256 + b.toNat) 0

/-- The bytes of a number, the greatest first, with no zero ahead. -/
def bytesOf (v : Nat) : Bs := if v = 0 then [] else bytesOf (v / 256) ++ [UInt8.ofNat (v % 256)]
termination_by v
decreasing_by omega

def numOf (v : Nat) : Bs := if v ≤ 247 then [UInt8.ofNat v] else UInt8.ofNat (247 + (bytesOf v).length) :: bytesOf v

def textOf (s : Bs) : Bs := numOf s.length ++ s

def readNum : Bs → Except Nat (Nat × Nat)
  | [] => .error 6
  | b :: r =>
    if b.toNat ≤ 247 then .ok (b.toNat, 1)
    else if r.length < b.toNat - 247 then .error 6
    else if r.headD 0 = 0 ∨ be (r.take (b.toNat - 247)) ≤ 247 then .error 7
    else .ok (be (r.take (b.toNat - 247)), b.toNat - 247 + 1)

def readText (most : Nat) (s : Bs) : Except Nat (Bs × Nat) :=
  match readNum s with
  | .error e => .error e
  | .ok (v, n) => if v > most then .error 5 else if v > s.length - n then .error 6 else .ok ((s.drop n).take v, n + v)

theorem be_nil : be [] = 0 := rfl
theorem be_snoc (l : Bs) (b : UInt8) : be (l ++ [b]) = be l * 256 + b.toNat := by simp [be]
theorem foldl_be (l : Bs) (v : Nat) : l.foldl (fun v b => v * 256 + b.toNat) v = v * 256 ^ l.length + be l := by
  induction l generalizing v with
  | nil => simp [be]
  | cons b r ih =>
    simp only [be, List.foldl_cons, List.length_cons]
    rw [ih, ih (0 * 256 + b.toNat), Nat.pow_succ, Nat.add_mul, Nat.zero_mul, Nat.zero_add, Nat.mul_assoc, Nat.mul_comm (256 ^ r.length) 256]
    omega
theorem be_cons (b : UInt8) (r : Bs) : be (b :: r) = b.toNat * 256 ^ r.length + be r := by
  show List.foldl _ (0 * 256 + b.toNat) r = _
  rw [foldl_be]; simp
theorem be_lt (l : Bs) : be l < 256 ^ l.length := by
  induction l with
  | nil => simp [be]
  | cons b r ih =>
    rw [be_cons, List.length_cons, Nat.pow_succ]
    have hb := b.toNat_lt
    have : b.toNat * 256 ^ r.length ≤ 255 * 256 ^ r.length := Nat.mul_le_mul_right _ (by omega)
    omega

theorem bytesOf_zero : bytesOf 0 = [] := by unfold bytesOf; simp
theorem bytesOf_pos {v : Nat} (h : v ≠ 0) : bytesOf v = bytesOf (v / 256) ++ [UInt8.ofNat (v % 256)] := by rw [bytesOf, if_neg h]
theorem be_bytesOf (v : Nat) : be (bytesOf v) = v := by
  induction v using Nat.strongRecOn with
  | _ v ih =>
    by_cases h : v = 0
    · subst h; rw [bytesOf_zero]; rfl
    · rw [bytesOf_pos h, be_snoc, ih (v / 256) (by omega)]
      simp; omega
theorem bytesOf_head (v : Nat) (h : v ≠ 0) : ∃ b r, bytesOf v = b :: r ∧ b ≠ 0 := by
  induction v using Nat.strongRecOn with
  | _ v ih =>
    rw [bytesOf_pos h]
    by_cases h2 : v / 256 = 0
    · rw [h2, bytesOf_zero]
      refine ⟨_, _, rfl, ?_⟩
      intro hc
      have := congrArg UInt8.toNat hc
      simp at this
      omega
    · obtain ⟨b, r, e, hb⟩ := ih (v / 256) (by omega) h2
      exact ⟨b, r ++ [UInt8.ofNat (v % 256)], by rw [e]; rfl, hb⟩
theorem bytesOf_length_le (v k : Nat) (h : v < 256 ^ k) : (bytesOf v).length ≤ k := by
  induction k generalizing v with
  | zero => simp at h; subst h; rw [bytesOf_zero]; simp
  | succ k ih =>
    by_cases h0 : v = 0
    · subst h0; rw [bytesOf_zero]; simp
    · rw [bytesOf_pos h0]
      have := ih (v / 256) (by rw [Nat.div_lt_iff_lt_mul (by omega)]; rwa [Nat.pow_succ] at h)
      simp; omega
theorem bytesOf_be (l : Bs) : (l.headD 0 ≠ 0 ∨ l = []) → bytesOf (be l) = l := by
  induction h : l.length generalizing l with
  | zero => intro _; have := List.eq_nil_of_length_eq_zero h; subst this; exact bytesOf_zero
  | succ n ih =>
    intro hd
    have hne : l ≠ [] := by intro e; subst e; simp at h
    rcases hd with hd | hd
    · obtain ⟨l', b, rfl⟩ : ∃ l' b, l = l' ++ [b] := ⟨l.dropLast, l.getLast hne, (List.dropLast_concat_getLast hne).symm⟩
      have hl : l'.length = n := by simp at h; exact h
      have hb := b.toNat_lt
      rw [be_snoc]
      have hnz : be l' * 256 + b.toNat ≠ 0 := by
        intro hz
        cases l' with
        | nil =>
          simp [be] at hz
          apply hd
          show b = 0
          exact UInt8.toNat_inj.1 (by simpa using hz)
        | cons c r =>
          rw [be_cons] at hz
          have hc : c.toNat ≠ 0 := fun e => hd (by show c = 0; exact UInt8.toNat_inj.1 (by simpa using e))
          have hp : 0 < 256 ^ r.length := Nat.pow_pos (by omega)
          have : 0 < c.toNat * 256 ^ r.length := Nat.mul_pos (by omega) hp
          omega
      rw [bytesOf_pos hnz]
      have e1 : (be l' * 256 + b.toNat) / 256 = be l' := by omega
      have e2 : (be l' * 256 + b.toNat) % 256 = b.toNat := by omega
      rw [e1, e2, ih l' hl ?_]
      · simp
      · cases l' with
        | nil => right; rfl
        | cons c r => left; exact hd
    · exact absurd hd hne

theorem numOf_small {v : Nat} (h : v ≤ 247) : numOf v = [UInt8.ofNat v] := if_pos h
theorem numOf_great {v : Nat} (h : 247 < v) : numOf v = UInt8.ofNat (247 + (bytesOf v).length) :: bytesOf v := if_neg (by omega)
theorem numOf_ne (v : Nat) : numOf v ≠ [] := by unfold numOf; split <;> simp
theorem numOf_length_pos (v : Nat) : 0 < (numOf v).length := List.length_pos_iff.2 (numOf_ne v)
theorem pow8 : (256 : Nat) ^ 8 = 18446744073709551616 := by decide
theorem numOf_length_le (v : Nat) (h : v < 18446744073709551616) : (numOf v).length ≤ 9 := by
  unfold numOf; split
  · simp
  · have := bytesOf_length_le v 8 (by rw [pow8]; exact h); simp; omega

theorem readNum_numOf (v : Nat) (h : v < 18446744073709551616) (r : Bs) : readNum (numOf v ++ r) = .ok (v, (numOf v).length) := by
  by_cases hs : v ≤ 247
  · rw [numOf_small hs]
    have e : (UInt8.ofNat v).toNat = v := by simp; omega
    simp only [List.cons_append, List.nil_append, readNum, e, if_pos hs, List.length_singleton]
  · have hg : 247 < v := by omega
    rw [numOf_great hg]
    have hl := bytesOf_length_le v 8 (by rw [pow8]; exact h)
    obtain ⟨b, q, eb, hb⟩ := bytesOf_head v (by omega)
    have hpos : 0 < (bytesOf v).length := by rw [eb]; simp
    have e : (UInt8.ofNat (247 + (bytesOf v).length)).toNat = 247 + (bytesOf v).length := by simp; omega
    simp only [List.cons_append, readNum, e]
    rw [if_neg (by omega), Nat.add_sub_cancel_left]
    rw [if_neg (by simp)]
    rw [List.take_left, be_bytesOf]
    rw [if_neg]
    · simp
    · rw [eb]; simp only [List.cons_append, List.headD_cons]
      intro hc
      rcases hc with hc | hc
      · exact hb hc
      · omega

theorem readNum_ok {s : Bs} {v n : Nat} (h : readNum s = .ok (v, n)) : s = numOf v ++ s.drop n ∧ n = (numOf v).length ∧ v < 18446744073709551616 ∧ n ≤ s.length := by
  cases s with
  | nil => simp [readNum] at h
  | cons b r =>
    have hb := b.toNat_lt
    simp only [readNum] at h
    split at h
    · rename_i hs
      injection h with h; injection h with h1 h2
      subst h1; subst h2
      rw [numOf_small hs]
      refine ⟨by simp, by simp, by omega, by simp⟩
    · rename_i hs
      split at h
      · cases h
      · rename_i hlen
        split at h
        · cases h
        · rename_i hz
          injection h with h; injection h with h1 h2
          subst h1; subst h2
          have hg : 247 < be (r.take (b.toNat - 247)) := by omega
          rw [numOf_great hg]
          have hl : (r.take (b.toNat - 247)).length = b.toNat - 247 := by simp; omega
          have hback : bytesOf (be (r.take (b.toNat - 247))) = r.take (b.toNat - 247) := by
            apply bytesOf_be
            left
            cases r with
            | nil => simp at hlen; omega
            | cons c q =>
              obtain ⟨k, hk⟩ : ∃ k, b.toNat - 247 = k + 1 := ⟨b.toNat - 248, by omega⟩
              rw [hk]
              simp only [List.take_succ_cons, List.headD_cons]
              intro hc
              exact hz (.inl hc)
          rw [hback, hl]
          have e : UInt8.ofNat (247 + (b.toNat - 247)) = b := by
            apply UInt8.toNat_inj.1; simp; omega
          refine ⟨?_, ?_, ?_, ?_⟩
          · rw [e]; simp
          · simp [hl]
          · have := be_lt (r.take (b.toNat - 247))
            rw [hl] at this
            have h8 : (256 : Nat) ^ (b.toNat - 247) ≤ 256 ^ 8 := Nat.pow_le_pow_right (by omega) (by omega)
            rw [pow8] at h8
            omega
          · simp; omega

theorem numOf_inj {v w : Nat} (hv : v < 18446744073709551616) (hw : w < 18446744073709551616) (h : numOf v = numOf w) : v = w := by
  have h1 := readNum_numOf v hv []
  have h2 := readNum_numOf w hw []
  rw [h] at h1
  rw [h1] at h2
  injection h2 with h2; injection h2 with h2 _

/-- What stands behind does not matter. -/
theorem readNum_ext {s : Bs} {v n : Nat} (h : readNum s = .ok (v, n)) (t : Bs) (ht : t.take n = s.take n) : readNum t = .ok (v, n) := by
  obtain ⟨h1, h2, h3, h4⟩ := readNum_ok h
  have e : s.take n = numOf v := by rw [h1, h2]; simp
  have : t = numOf v ++ t.drop n := by rw [← e, ← ht, List.take_append_drop]
  rw [this, readNum_numOf v h3, h2]

theorem readText_ok {most : Nat} {s t : Bs} {n : Nat} (h : readText most s = .ok (t, n)) : s = textOf t ++ s.drop n ∧ n = (textOf t).length ∧ t.length ≤ most ∧ n ≤ s.length ∧ t.length < 18446744073709551616 := by
  unfold readText at h
  split at h
  · cases h
  · rename_i v k hk
    obtain ⟨h1, h2, h3, h4⟩ := readNum_ok hk
    split at h
    · cases h
    · rename_i hm
      split at h
      · cases h
      · rename_i hv
        injection h with h; injection h with ht hn
        have hl : t.length = v := by rw [← ht]; simp; omega
        subst hn
        refine ⟨?_, ?_, by omega, by omega, by omega⟩
        · conv => lhs; rw [h1]
          unfold textOf
          rw [hl, List.append_assoc]
          congr 1
          rw [← ht, ← List.drop_drop, List.take_append_drop]
        · unfold textOf; simp [hl]; omega

theorem readText_textOf (most : Nat) (t r : Bs) (hm : t.length ≤ most) (h : t.length < 18446744073709551616) : readText most (textOf t ++ r) = .ok (t, (textOf t).length) := by
  unfold readText textOf
  rw [List.append_assoc, readNum_numOf _ h]
  simp only
  rw [if_neg (by omega), if_neg (by simp)]
  simp

theorem readText_ext {most : Nat} {s t : Bs} {n : Nat} (h : readText most s = .ok (t, n)) (u : Bs) (hu : u.take n = s.take n) : readText most u = .ok (t, n) := by
  obtain ⟨h1, h2, h3, h4, h5⟩ := readText_ok h
  have e : s.take n = textOf t := by rw [h1, h2]; simp
  have : u = textOf t ++ u.drop n := by rw [← e, ← hu, List.take_append_drop]
  rw [this, readText_textOf _ _ _ h3 h5, h2]

end Sp
end Go.Proofs.Ytohblakhojhklaa
