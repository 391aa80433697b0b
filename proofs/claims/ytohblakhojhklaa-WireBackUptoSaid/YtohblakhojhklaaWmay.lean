import Derived.Test.YtohblakhojhklaaWidle
/- The walks of the kinds' may, put, get. -/
namespace Go.Proofs.Ytohblakhojhklaa
open Go.RowKit Go.Maps Sp

theorem MsgAt.cells {m : Msg} {am : Option Addr} {nm cm : Nat} (w : World) : BlkAt (w.alloc (.cells #[.int .u8 m.kind, .int .i64 m.txn.c, .int .i64 m.txn.e, .int .i64 m.txn.s, .int .i64 m.aud, .slice am nm cm, .string (ofL m.body), .bool m.yes, .string (ofL m.tag)] 26)) w.heap.size #[.int .u8 m.kind, .int .i64 m.txn.c, .int .i64 m.txn.e, .int .i64 m.txn.s, .int .i64 m.aud, .slice am nm cm, .string (ofL m.body), .bool m.yes, .string (ofL m.tag)] 26 := BlkAt.new _ _ _

set_option maxRecDepth 20000 in
set_option maxHeartbeats 2000000 in
theorem may1_calls (m : Msg) (am : Option Addr) (nm cm : Nat) (w : World) (h : MsgAt m am nm cm w) : Calls Try.prog 54 #[msgV m am nm cm] w fun e w' => e = .returned (.bool (mayK 1 m)) ∧ Below w.heap.size w w' := by
  obtain ⟨k, ⟨c, e, s⟩, aud, l, body, yes, tag⟩ := m
  have hB := (Below.refl w.heap.size w).alloc (Nat.le_refl _) (.cells #[.int .u8 k, .int .i64 c, .int .i64 e, .int .i64 s, .int .i64 aud, .slice am nm cm, .string (ofL body), .bool yes, .string (ofL tag)] 26)
  have hmm := fun W (hb : Below w.heap.size w W) => mayMembers_calls ⟨c, e, s⟩ am nm cm l h.nm (Nat.le_trans h.lm (by omega)) (fun x hx => Nat.le_trans (h.dm x hx) (by omega)) W (h.mems.below hb)
  have hck := fun W => check_calls body (Nat.le_trans h.lb (by omega)) W
  have HB := hid hB
  obtain ⟨D, hD⟩ : ∃ D, mayK 1 ⟨k, ⟨c, e, s⟩, aud, l, body, yes, tag⟩ = D := ⟨_, rfl⟩
  rw [hD]
  simp only [mayK] at hD
  have HD := hid hD
  simp only [msgV, txnV] at hmm ⊢
  clear hD h hB
  have hbk := BlkAt.new w #[.int .u8 k, .int .i64 c, .int .i64 e, .int .i64 s, .int .i64 aud, .slice am nm cm, .string (ofL body), .bool yes, .string (ofL tag)] 26
  have Hbk := hid hbk
  clear hbk
  cases ho : org aud with
  | false =>
    have HF : Kp (D = false) := hid (by rw [← HD.out, ho]; rfl)
    have hoc := worg_calls aud
    rw [ho] at hoc
    have Hoc := hid hoc
    clear hoc ho HD hmm hck
    go_enter Try.func54, Try.ntmps54
    go_wp2_with fail
    refine (Hoc.out _).mono ?_
    rintro e1 w1 ⟨rfl, rfl⟩
    go_wp2
    go_ret
    exact ⟨by rw [HF.out]; rfl, HB.out⟩
  | true =>
    have hoc := worg_calls aud
    rw [ho] at hoc
    have Hoc := hid hoc
    have Hmm := hid (hmm _ HB.out)
    cases hm : mayMembers ⟨c, e, s⟩ l with
    | false =>
      have HF : Kp (D = false) := hid (by rw [← HD.out, ho, hm]; rfl)
      have hmc := Hmm.out
      rw [hm] at hmc
      have Hmc := hid hmc
      clear hoc ho HD hmm hck hm hmc Hmm
      go_enter Try.func54, Try.ntmps54
      go_wp2_with fail
      refine (Hoc.out _).mono ?_
      rintro e1 w1 ⟨rfl, rfl⟩
      go_wp2_with fail
      refine (Hmc.out).mono ?_
      rintro e2 w2 ⟨rfl, hb2⟩
      have Hb2 := hid (below_then HB.out HB.out.size hb2)
      clear hb2
      go_wp2
      go_ret
      exact ⟨by rw [HF.out]; rfl, Hb2.out⟩
    | true =>
      have hmc := Hmm.out
      rw [hm] at hmc
      have Hmc := hid hmc
      have Hck := hid hck
      have HD2 : Kp (isTerm body = D) := hid (by rw [← HD.out, ho, hm]; rfl)
      have hbt : (((check body : Nat) : Int) == 0) = isTerm body := by unfold isTerm; rw [Bool.eq_iff_iff]; simp
      clear hoc ho HD hmm hck hm hmc Hmm
      rw [HD2.out] at hbt
      go_enter Try.func54, Try.ntmps54
      go_wp2_with fail
      refine (Hoc.out _).mono ?_
      rintro e1 w1 ⟨rfl, rfl⟩
      go_wp2_with fail
      refine (Hmc.out).mono ?_
      rintro e2 w2 ⟨rfl, hb2⟩
      have hbk2 := Hbk.out.below hb2
      have c6 := hbk2.val 6 rfl
      have Hb2 := hid (below_then HB.out HB.out.size hb2)
      clear hb2 hbk2
      go_wp2_with fail
      refine (Hck.out _).mono ?_
      rintro e3 w3 ⟨rfl, hb3⟩
      have Hb3 := hid (below_then Hb2.out Hb2.out.size hb3)
      clear hb3
      go_wp2
      go_ret
      exact ⟨rfl, Hb3.out⟩

set_option maxRecDepth 20000 in
set_option maxHeartbeats 2000000 in
theorem may2_calls (m : Msg) (am : Option Addr) (nm cm : Nat) (w : World) (h : MsgAt m am nm cm w) : Calls Try.prog 63 #[msgV m am nm cm] w fun e w' => e = .returned (.bool (mayK 2 m)) ∧ Below w.heap.size w w' := by
  obtain ⟨k, ⟨c, e, s⟩, aud, l, body, yes, tag⟩ := m
  have hB := (Below.refl w.heap.size w).alloc (Nat.le_refl _) (.cells #[.int .u8 k, .int .i64 c, .int .i64 e, .int .i64 s, .int .i64 aud, .slice am nm cm, .string (ofL body), .bool yes, .string (ofL tag)] 26)
  have hck := fun W => check_calls tag (Nat.le_trans h.lt (by omega)) W
  have HB := hid hB
  have Hck := hid hck
  simp only [msgV, mayK]
  clear h hB hck
  rcases yes with _ | _
  · rcases tag with _ | ⟨x, y⟩
    all_goals
      clear Hck
      go_enter Try.func63, Try.ntmps63
      go_wp2
      go_ret
      exact ⟨rfl, HB.out⟩
  · rcases tag with _ | ⟨x, y⟩
    · clear Hck
      go_enter Try.func63, Try.ntmps63
      go_wp2
      go_ret
      exact ⟨rfl, HB.out⟩
    · obtain ⟨D, hD⟩ : ∃ D, isTerm (x :: y) = D := ⟨_, rfl⟩
      have hbt : (((check (x :: y) : Nat) : Int) == 0) = D := by rw [← hD]; unfold isTerm; rw [Bool.eq_iff_iff]; simp
      have hR : ((true == !(x :: y).isEmpty) && (!true || isTerm (x :: y))) = D := by rw [hD]; rfl
      rw [hR]
      clear hR hD
      go_enter Try.func63, Try.ntmps63
      go_wp2_with fail
      refine (Hck.out _).mono ?_
      rintro e3 w3 ⟨rfl, hb3⟩
      have Hb3 := hid (below_then HB.out HB.out.size hb3)
      clear hb3
      go_wp2
      go_ret
      exact ⟨rfl, Hb3.out⟩

set_option maxRecDepth 20000 in
theorem may3_calls (m : Msg) (am : Option Addr) (nm cm : Nat) (w : World) : Calls Try.prog 68 #[msgV m am nm cm] w fun e w' => e = .returned (.bool true) ∧ Below w.heap.size w w' := by
  unfold msgV
  go_enter Try.func68, Try.ntmps68
  go_wp2
  go_ret
  exact ⟨rfl, (Below.refl w.heap.size w).alloc (Nat.le_refl _) _⟩
set_option maxRecDepth 20000 in
theorem may4_calls (m : Msg) (am : Option Addr) (nm cm : Nat) (w : World) : Calls Try.prog 84 #[msgV m am nm cm] w fun e w' => e = .returned (.bool true) ∧ Below w.heap.size w w' := by
  unfold msgV
  go_enter Try.func84, Try.ntmps84
  go_wp2
  go_ret
  exact ⟨rfl, (Below.refl w.heap.size w).alloc (Nat.le_refl _) _⟩

set_option maxRecDepth 20000 in
set_option maxHeartbeats 1000000 in
theorem yes_calls (m : Msg) (am : Option Addr) (nm cm : Nat) (w : World) : Calls Try.prog 65 #[msgV m am nm cm] w fun e w' => e = .returned (.string (ofL (flag m.yes))) ∧ Below w.heap.size w w' := by
  obtain ⟨k, ⟨c, e, s⟩, aud, l, body, yes, tag⟩ := m
  have HB := hid ((Below.refl w.heap.size w).alloc (Nat.le_refl _) (.cells #[.int .u8 k, .int .i64 c, .int .i64 e, .int .i64 s, .int .i64 aud, .slice am nm cm, .string (ofL body), .bool yes, .string (ofL tag)] 26))
  simp only [msgV]
  have Hn := hid (fun v W => wnum_calls v W)
  rcases yes with _ | _
  all_goals
    go_enter Try.func65, Try.ntmps65
    go_wp2_with fail
    refine (Hn.out _ _).mono ?_
    rintro e3 w3 ⟨rfl, hb3⟩
    have Hb3 := hid (below_then HB.out HB.out.size hb3)
    clear hb3
    go_wp2
    go_ret
    exact ⟨rfl, Hb3.out⟩
end Go.Proofs.Ytohblakhojhklaa
