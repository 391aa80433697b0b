import Derived.Test.YtohblakhojhklaaWnamed
/- The walks of term's must, front. -/
namespace Go.Proofs.Ytohblakhojhklaa
open Go.RowKit Sp

/-- What term's must throws. -/
def thrown (e : Nat) : List PanicEntry := [{ v := .iface 146 (.agg #[.int .i64 e]), recovered := false }]

set_option maxRecDepth 20000 in
theorem must_ok (w : World) : Calls Try.prog 79 #[.int .i64 0] w fun e w' => e = .returned (.tuple #[]) ∧ w = w' := by
  go_enter Try.func79, Try.ntmps79
  go_wp2
  go_end0
  exact ⟨rfl, rfl⟩

set_option maxRecDepth 20000 in
theorem must_err (k : Nat) (h : 0 < k) (w : World) : Calls Try.prog 79 #[.int .i64 (k : Int)] w fun e w' => e = .panicked (thrown k) ∧ w = w' := by
  have h2 : ((k : Int) != 0) = true := by simp; omega
  go_enter Try.func79, Try.ntmps79
  go_wp2
  exact ⟨rfl, rfl, rfl⟩

def frontEnd : Except Nat (Nat × Nat) → Ending
  | .ok (n, k) => .returned (.tuple #[.int .i64 n, .int .i64 k])
  | .error e => .panicked (thrown e)

set_option maxRecDepth 20000 in
set_option maxHeartbeats 1000000 in
theorem front_nil (w : World) : Calls Try.prog 80 #[.string (ofL [])] w fun e w' => e = frontEnd (front []) ∧ Below w.heap.size w w' := by
  have H := hid (must_err 6 (by omega) w)
  go_enter Try.func80, Try.ntmps80
  go_wp2_with fail
  refine H.out.mono ?_
  rintro e w1 ⟨rfl, rfl⟩
  go_wp2
  exact ⟨rfl, rfl, Below.refl _ _⟩

set_option maxRecDepth 20000 in
set_option maxHeartbeats 1000000 in
theorem front_d (r : Bs) (w : World) (hm : r.length ≤ 100000000) : Calls Try.prog 80 #[.string (ofL (100 :: r))] w fun e w' => e = frontEnd (front (100 :: r)) ∧ Below w.heap.size w w' := by
  have c := readText_calls 1024 r w (by omega) (by omega)
  cases hr : readText 1024 r with
  | error e =>
    rw [hr] at c
    have hfin : frontEnd (front (100 :: r)) = .panicked (thrown e) := by simp only [front, if_true, hr, frontEnd]
    have he := readText_err hr
    have H2 := hid (must_err e (by omega))
    simp only [encText] at c
    have C := hid c
    have Hf := hid hfin
    clear c hr hfin he
    go_enter Try.func80, Try.ntmps80
    go_wp2_with fail
    refine C.out.mono ?_
    rintro e w1 ⟨rfl, rfl⟩
    go_wp2_with fail
    refine (H2.out _).mono ?_
    rintro e w1 ⟨rfl, rfl⟩
    go_wp2
    exact ⟨rfl, Hf.out.symm, Below.refl _ _⟩
  | ok p =>
    obtain ⟨t, k⟩ := p
    rw [hr] at c
    have hfin : frontEnd (front (100 :: r)) = .returned (.tuple #[.int .i64 ((1 + k : Nat) : Int), .int .i64 0]) := by simp only [front, if_true, hr, frontEnd]; rfl
    obtain ⟨-, h2, h3, h4, h5⟩ := readText_ok hr
    simp only [encText] at c
    have C := hid c
    have Hf := hid hfin
    clear c hr hfin h2 h5
    go_enter Try.func80, Try.ntmps80
    go_wp2_with fail
    refine C.out.mono ?_
    rintro e w1 ⟨rfl, rfl⟩
    go_wp2_with fail
    refine (must_ok _).mono ?_
    rintro e w1 ⟨rfl, rfl⟩
    go_wp2
    go_ret2
    exact ⟨by rw [Hf.out]; simp, Below.refl _ _⟩

set_option maxRecDepth 20000 in
set_option maxHeartbeats 1000000 in
theorem front_a (r : Bs) (w : World) (hm : r.length ≤ 100000000) : Calls Try.prog 80 #[.string (ofL (97 :: r))] w fun e w' => e = frontEnd (front (97 :: r)) ∧ Below w.heap.size w w' := by
  have c := readText_calls 32 r w (by omega) (by omega)
  cases hr : readText 32 r with
  | error e =>
    rw [hr] at c
    have hfin : frontEnd (front (97 :: r)) = .panicked (thrown e) := by simp only [front, if_true, hr, frontEnd]; rfl
    have he := readText_err hr
    have H2 := hid (must_err e (by omega))
    simp only [encText] at c
    have C := hid c
    have Hf := hid hfin
    clear c hr hfin he
    go_enter Try.func80, Try.ntmps80
    go_wp2_with fail
    refine C.out.mono ?_
    rintro e w1 ⟨rfl, rfl⟩
    go_wp2_with fail
    refine (H2.out _).mono ?_
    rintro e w1 ⟨rfl, rfl⟩
    go_wp2
    exact ⟨rfl, Hf.out.symm, Below.refl _ _⟩
  | ok p =>
    obtain ⟨t, k⟩ := p
    rw [hr] at c
    have hfin : front (97 :: r) = if named t then .ok (1 + k, 0) else .error 7 := by simp only [front, if_true, hr]; rfl
    obtain ⟨-, h2, h3, h4, h5⟩ := readText_ok hr
    simp only [encText] at c
    have C := hid c
    have Hfin := hid hfin
    have HN := hid (fun W => named_calls t W (by omega))
    clear c hr hfin h2 h5
    cases hn : named t with
    | true =>
      rw [hn] at HN Hfin
      have Hf : Kp (frontEnd (front (97 :: r)) = .returned (.tuple #[.int .i64 ((1 + k : Nat) : Int), .int .i64 0])) := hid (by rw [Hfin.out]; rfl)
      clear hn
      go_enter Try.func80, Try.ntmps80
      go_wp2_with fail
      refine C.out.mono ?_
      rintro e w1 ⟨rfl, rfl⟩
      go_wp2_with fail
      refine (must_ok _).mono ?_
      rintro e w1 ⟨rfl, rfl⟩
      go_wp2_with fail
      refine (HN.out _).mono ?_
      rintro e w1 ⟨rfl, hb⟩
      go_wp2
      go_ret2
      exact ⟨by rw [Hf.out]; simp, hb⟩
    | false =>
      rw [hn] at HN Hfin
      have Hf : Kp (frontEnd (front (97 :: r)) = .panicked (thrown 7)) := hid (by rw [Hfin.out]; rfl)
      clear hn
      have H2 := hid (must_err 7 (by omega))
      go_enter Try.func80, Try.ntmps80
      go_wp2_with fail
      refine C.out.mono ?_
      rintro e w1 ⟨rfl, rfl⟩
      go_wp2_with fail
      refine (must_ok _).mono ?_
      rintro e w1 ⟨rfl, rfl⟩
      go_wp2_with fail
      refine (HN.out _).mono ?_
      rintro e w1 ⟨rfl, hb⟩
      go_wp2_with fail
      refine (H2.out _).mono ?_
      rintro e w2 ⟨rfl, rfl⟩
      go_wp2
      exact ⟨rfl, Hf.out.symm, hb⟩

set_option maxRecDepth 20000 in
set_option maxHeartbeats 1000000 in
theorem front_r (r : Bs) (w : World) (hm : r.length ≤ 100000000) : Calls Try.prog 80 #[.string (ofL (114 :: r))] w fun e w' => e = frontEnd (front (114 :: r)) ∧ Below w.heap.size w w' := by
  have c := readNum_calls r w (by omega)
  cases hr : readNum r with
  | error e =>
    rw [hr] at c
    have hfin : frontEnd (front (114 :: r)) = .panicked (thrown e) := by simp only [front, if_true, hr, frontEnd]; rfl
    have he := readNum_err hr
    have H2 := hid (must_err e (by omega))
    simp only [encNum] at c
    have C := hid c
    have Hf := hid hfin
    clear c hr hfin he
    go_enter Try.func80, Try.ntmps80
    go_wp2_with fail
    refine C.out.mono ?_
    rintro e w1 ⟨rfl, rfl⟩
    go_wp2_with fail
    refine (H2.out _).mono ?_
    rintro e w1 ⟨rfl, rfl⟩
    go_wp2
    exact ⟨rfl, Hf.out.symm, Below.refl _ _⟩
  | ok p =>
    obtain ⟨v, k⟩ := p
    rw [hr] at c
    have hfin : front (114 :: r) = if v > 32 then .error 5 else .ok (1 + k, v) := by simp only [front, if_true, hr]; rfl
    obtain ⟨-, h2, h3, h4⟩ := readNum_ok hr
    simp only [encNum] at c
    have C := hid c
    have Hfin := hid hfin
    clear c hr hfin h2 h3
    by_cases hv : v > 32
    · have Hf : Kp (frontEnd (front (114 :: r)) = .panicked (thrown 5)) := hid (by rw [Hfin.out, if_pos hv]; rfl)
      have H2 := hid (must_err 5 (by omega))
      go_enter Try.func80, Try.ntmps80
      go_wp2_with fail
      refine C.out.mono ?_
      rintro e w1 ⟨rfl, rfl⟩
      go_wp2_with fail
      refine (must_ok _).mono ?_
      rintro e w1 ⟨rfl, rfl⟩
      go_wp2_with fail
      refine (H2.out _).mono ?_
      rintro e w2 ⟨rfl, rfl⟩
      go_wp2
      exact ⟨rfl, Hf.out.symm, Below.refl _ _⟩
    · have Hf : Kp (frontEnd (front (114 :: r)) = .returned (.tuple #[.int .i64 ((1 + k : Nat) : Int), .int .i64 v])) := hid (by rw [Hfin.out, if_neg hv]; rfl)
      have hv2 : (v : Int) ≤ 32 := by omega
      go_enter Try.func80, Try.ntmps80
      go_wp2_with fail
      refine C.out.mono ?_
      rintro e w1 ⟨rfl, rfl⟩
      go_wp2_with fail
      refine (must_ok _).mono ?_
      rintro e w1 ⟨rfl, rfl⟩
      go_wp2
      go_ret2
      exact ⟨by rw [Hf.out]; simp, Below.refl _ _⟩

set_option maxRecDepth 20000 in
set_option maxHeartbeats 1000000 in
theorem front_h (r : Bs) (w : World) : Calls Try.prog 80 #[.string (ofL (104 :: r))] w fun e w' => e = frontEnd (front (104 :: r)) ∧ Below w.heap.size w w' := by
  go_enter Try.func80, Try.ntmps80
  go_wp2
  go_ret2
  exact ⟨rfl, Below.refl _ _⟩
set_option maxRecDepth 20000 in
set_option maxHeartbeats 1000000 in
theorem front_m (r : Bs) (w : World) : Calls Try.prog 80 #[.string (ofL (109 :: r))] w fun e w' => e = frontEnd (front (109 :: r)) ∧ Below w.heap.size w w' := by
  go_enter Try.func80, Try.ntmps80
  go_wp2
  go_ret2
  exact ⟨rfl, Below.refl _ _⟩
set_option maxRecDepth 20000 in
set_option maxHeartbeats 1000000 in
theorem front_s (r : Bs) (w : World) : Calls Try.prog 80 #[.string (ofL (115 :: r))] w fun e w' => e = frontEnd (front (115 :: r)) ∧ Below w.heap.size w w' := by
  go_enter Try.func80, Try.ntmps80
  go_wp2
  go_ret2
  exact ⟨rfl, Below.refl _ _⟩

set_option maxRecDepth 20000 in
set_option maxHeartbeats 1000000 in
theorem front_x (c : UInt8) (r : Bs) (w : World) (h1 : c ≠ 100) (h2 : c ≠ 97) (h3 : c ≠ 114) (h4 : c ≠ 104) (h5 : c ≠ 109) (h6 : c ≠ 115) :
    Calls Try.prog 80 #[.string (ofL (c :: r))] w fun e w' => e = frontEnd (front (c :: r)) ∧ Below w.heap.size w w' := by
  have Hf : Kp (frontEnd (front (c :: r)) = .panicked (thrown 7)) := hid (by simp only [front, if_neg h1, if_neg h2, if_neg h3, if_neg h4, if_neg h5, if_neg h6, frontEnd])
  have hk : ∀ k : UInt8, c ≠ k → ((c.toNat : Int) == (k.toNat : Int)) = false := by
    intro k hk
    rw [beq_eq_false_iff_ne]
    intro e
    exact hk (UInt8.toNat_inj.1 (by omega))
  have k1 : ((c.toNat : Int) == 100) = false := hk 100 h1
  have k2 : ((c.toNat : Int) == 97) = false := hk 97 h2
  have k3 : ((c.toNat : Int) == 114) = false := hk 114 h3
  have k4 : ((c.toNat : Int) == 104) = false := hk 104 h4
  have k5 : ((c.toNat : Int) == 109) = false := hk 109 h5
  have k6 : ((c.toNat : Int) == 115) = false := hk 115 h6
  have H2 := hid (must_err 7 (by omega))
  clear hk h1 h2 h3 h4 h5 h6
  go_enter Try.func80, Try.ntmps80
  go_wp2_with fail
  refine (H2.out _).mono ?_
  rintro e w2 ⟨rfl, rfl⟩
  go_wp2
  exact ⟨rfl, Hf.out.symm, Below.refl _ _⟩

theorem front_calls (s : Bs) (w : World) (hm : s.length ≤ 100000000) : Calls Try.prog 80 #[.string (ofL s)] w fun e w' => e = frontEnd (front s) ∧ Below w.heap.size w w' := by
  cases s with
  | nil => exact front_nil w
  | cons c r =>
    simp only [List.length_cons] at hm
    have hr : r.length ≤ 100000000 := by omega
    by_cases h1 : c = 100
    · subst h1; exact front_d r w hr
    by_cases h2 : c = 97
    · subst h2; exact front_a r w hr
    by_cases h3 : c = 114
    · subst h3; exact front_r r w hr
    by_cases h4 : c = 104
    · subst h4; exact front_h r w
    by_cases h5 : c = 109
    · subst h5; exact front_m r w
    by_cases h6 : c = 115
    · subst h6; exact front_s r w
    exact front_x c r w h1 h2 h3 h4 h5 h6
end Go.Proofs.Ytohblakhojhklaa
