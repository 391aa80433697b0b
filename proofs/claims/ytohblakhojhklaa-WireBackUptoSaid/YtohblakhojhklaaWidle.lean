import Derived.Test.YtohblakhojhklaaWkinds
import Derived.Test.YtohblakhojhklaaWref
/- The walks of wire's idle and of the kinds' may. -/
namespace Go.Proofs.Ytohblakhojhklaa
open Go.RowKit Go.Maps Sp

/-- A message's value. -/
def msgV (m : Msg) (am : Option Addr) (nm cm : Nat) : Value := .agg #[.int .u8 m.kind, .int .i64 m.txn.c, .int .i64 m.txn.e, .int .i64 m.txn.s, .int .i64 m.aud, .slice am nm cm, .string (ofL m.body), .bool m.yes, .string (ofL m.tag)]
/-- What a message's value stands on. -/
structure MsgAt (m : Msg) (am : Option Addr) (nm cm : Nat) (w : World) : Prop where
  nm : nm = m.mems.length
  lm : m.mems.length ≤ 10000000
  dm : ∀ x ∈ m.mems, x.dig.length ≤ 10000000
  kd : m.kind ≤ 255
  lb : m.body.length ≤ 10000000
  lt : m.tag.length ≤ 10000000
  mems : MemsAt w am m.mems
theorem MsgAt.below {m : Msg} {am : Option Addr} {nm cm : Nat} {w w' : World} (h : MsgAt m am nm cm w) (hb : Below w.heap.size w w') : MsgAt m am nm cm w' := ⟨h.nm, h.lm, h.dm, h.kd, h.lb, h.lt, h.mems.below hb⟩

set_option maxRecDepth 20000 in
set_option maxHeartbeats 8000000 in
theorem idle_calls (m : Msg) (am : Option Addr) (nm cm : Nat) (w : World) (h : MsgAt m am nm cm w) : Calls Try.prog 31 #[msgV m am nm cm] w fun e w' => e = .returned (.bool (idleM m)) ∧ Below w.heap.size w w' := by
  obtain ⟨k, ⟨c, e, s⟩, aud, l, body, yes, tag⟩ := m
  have hnm := h.nm
  have hlm := h.lm
  simp only at hnm hlm
  obtain ⟨D, hD⟩ : ∃ D, idleM ⟨k, ⟨c, e, s⟩, aud, l, body, yes, tag⟩ = D := ⟨_, rfl⟩
  rw [hD]
  unfold idleM prepM saysM at hD
  simp only at hD
  have hle : l.isEmpty = (nm == 0) := by rw [hnm]; cases l <;> rfl
  rw [hle] at hD
  have HD := hid hD
  have hn7 : nm ≤ 10000000 := by omega
  have hz := fun W => eqlTxn ⟨c, e, s⟩ ⟨0, 0, 0⟩ W
  have HB := hid ((Below.refl w.heap.size w).alloc (Nat.le_refl _) (.cells #[.int .u8 k, .int .i64 c, .int .i64 e, .int .i64 s, .int .i64 aud, .slice am nm cm, .string (ofL body), .bool yes, .string (ofL tag)] 26))
  simp only [msgV]
  clear h hnm hlm hle hD
  obtain ⟨zt, hzt⟩ : ∃ zt, decide ((⟨c, e, s⟩ : Txn) = ⟨0, 0, 0⟩) = zt := ⟨_, rfl⟩
  rw [hzt] at hz
  simp only at hz
  rw [hzt] at HD
  clear hzt
  have hpre : k = 1 ∨ k = 2 ∨ k = 3 ∨ k = 6 ∨ (((k : Int) == 1) = false ∧ ((k : Int) == 2) = false ∧ ((k : Int) == 3) = false ∧ ((k : Int) != 2) = true ∧ ((k : Int) != 6) = true ∧ (k == 1) = false ∧ (k == 2) = false ∧ (k == 3) = false ∧ (k != 2) = true ∧ (k != 6) = true) := by
    by_cases h1 : k = 1
    · exact .inl h1
    by_cases h2 : k = 2
    · exact .inr (.inl h2)
    by_cases h3 : k = 3
    · exact .inr (.inr (.inl h3))
    by_cases h6 : k = 6
    · exact .inr (.inr (.inr (.inl h6)))
    refine .inr (.inr (.inr (.inr ⟨?_, ?_, ?_, ?_, ?_, ?_, ?_, ?_, ?_, ?_⟩)))
    all_goals (simp; omega)
  have haud : aud = 0 ∨ ((aud != 0) = true) := by
    by_cases h : aud = 0
    · exact .inl h
    · exact .inr (by simpa using h)
  have hnmz : nm = 0 ∨ (((nm : Int) != 0) = true ∧ (nm == 0) = false) := by
    by_cases h : nm = 0
    · exact .inl h
    · exact .inr ⟨by simp; omega, by simpa using h⟩
  rcases hpre with rfl | rfl | rfl | rfl | ⟨q1, q2, q3, q4, q5, p1, p2, p3, p4, p5⟩
  · clear haud hnmz
    rcases yes <;> rcases tag with _ | ⟨tx, ty⟩
    all_goals
      go_enter Try.func31, Try.ntmps31
      go_wp2_with fail
      go_quiet (fail)
      go_wp2
      go_ret
      exact ⟨by rw [← HD.out]; rfl, by first | exact below_drewN HB.out _ | exact HB.out⟩
  · rcases haud with rfl | ha
    case' inr =>
      have HF : Kp (D = false) := hid (by rw [← HD.out]; simp [ha])
      clear HD hnmz
      go_enter Try.func31, Try.ntmps31
      go_wp2_with fail
      go_quiet (fail)
      go_wp2
      go_ret
      exact ⟨by rw [HF.out]; rfl, by first | exact below_drewN HB.out _ | exact HB.out⟩
    rcases hnmz with rfl | ⟨hn1, hn2⟩
    case' inr =>
      have HF : Kp (D = false) := hid (by rw [← HD.out]; simp [hn2])
      clear HD hn2
      go_enter Try.func31, Try.ntmps31
      go_wp2_with fail
      go_quiet (fail)
      go_wp2
      go_ret
      exact ⟨by rw [HF.out]; rfl, by first | exact below_drewN HB.out _ | exact HB.out⟩
    rcases body with _ | ⟨bx, bz⟩
    case' cons =>
      have HF : Kp (D = false) := hid (by rw [← HD.out]; simp)
      clear HD
      go_enter Try.func31, Try.ntmps31
      go_wp2_with fail
      go_quiet (fail)
      go_wp2
      go_ret
      exact ⟨by rw [HF.out]; rfl, by first | exact below_drewN HB.out _ | exact HB.out⟩
    rcases yes <;> rcases tag with _ | ⟨tx, ty⟩
    all_goals
      go_enter Try.func31, Try.ntmps31
      go_wp2_with fail
      go_quiet (fail)
      go_wp2
      go_ret
      exact ⟨by rw [← HD.out]; rfl, by first | exact below_drewN HB.out _ | exact HB.out⟩
  · rcases haud with rfl | ha
    case' inr =>
      have HF : Kp (D = false) := hid (by rw [← HD.out]; simp [ha])
      clear HD hnmz
      go_enter Try.func31, Try.ntmps31
      go_wp2_with fail
      go_quiet (fail)
      go_wp2
      go_ret
      exact ⟨by rw [HF.out]; rfl, by first | exact below_drewN HB.out _ | exact HB.out⟩
    rcases hnmz with rfl | ⟨hn1, hn2⟩
    case' inr =>
      have HF : Kp (D = false) := hid (by rw [← HD.out]; simp [hn2])
      clear HD hn2
      go_enter Try.func31, Try.ntmps31
      go_wp2_with fail
      go_quiet (fail)
      go_wp2
      go_ret
      exact ⟨by rw [HF.out]; rfl, by first | exact below_drewN HB.out _ | exact HB.out⟩
    rcases body with _ | ⟨bx, bz⟩
    case' cons =>
      have HF : Kp (D = false) := hid (by rw [← HD.out]; simp)
      clear HD
      go_enter Try.func31, Try.ntmps31
      go_wp2_with fail
      go_quiet (fail)
      go_wp2
      go_ret
      exact ⟨by rw [HF.out]; rfl, by first | exact below_drewN HB.out _ | exact HB.out⟩
    rcases yes <;> rcases tag with _ | ⟨tx, ty⟩
    all_goals
      go_enter Try.func31, Try.ntmps31
      go_wp2_with fail
      go_quiet (fail)
      go_wp2
      go_ret
      exact ⟨by rw [← HD.out]; rfl, by first | exact below_drewN HB.out _ | exact HB.out⟩
  · rcases haud with rfl | ha
    case' inr =>
      have HF : Kp (D = false) := hid (by rw [← HD.out]; simp [ha])
      clear HD hnmz
      go_enter Try.func31, Try.ntmps31
      go_wp2_with fail
      go_quiet (fail)
      go_wp2
      go_ret
      exact ⟨by rw [HF.out]; rfl, by first | exact below_drewN HB.out _ | exact HB.out⟩
    rcases hnmz with rfl | ⟨hn1, hn2⟩
    case' inr =>
      have HF : Kp (D = false) := hid (by rw [← HD.out]; simp [hn2])
      clear HD hn2
      go_enter Try.func31, Try.ntmps31
      go_wp2_with fail
      go_quiet (fail)
      go_wp2
      go_ret
      exact ⟨by rw [HF.out]; rfl, by first | exact below_drewN HB.out _ | exact HB.out⟩
    rcases body with _ | ⟨bx, bz⟩
    case' cons =>
      have HF : Kp (D = false) := hid (by rw [← HD.out]; simp)
      clear HD
      go_enter Try.func31, Try.ntmps31
      go_wp2_with fail
      go_quiet (fail)
      go_wp2
      go_ret
      exact ⟨by rw [HF.out]; rfl, by first | exact below_drewN HB.out _ | exact HB.out⟩
    rcases yes <;> rcases tag with _ | ⟨tx, ty⟩ <;> rcases zt
    all_goals
      go_enter Try.func31, Try.ntmps31
      go_wp2_with fail
      go_quiet (fail)
      go_wp2
      go_ret
      exact ⟨by rw [← HD.out]; rfl, by first | exact below_drewN HB.out _ | exact HB.out⟩
  · rcases haud with rfl | ha
    case' inr =>
      have HF : Kp (D = false) := hid (by rw [← HD.out]; simp [ha, p1, p2, p3, p4, p5])
      clear HD hnmz
      go_enter Try.func31, Try.ntmps31
      go_wp2_with fail
      go_quiet (fail)
      go_wp2
      go_ret
      exact ⟨by rw [HF.out]; rfl, by first | exact below_drewN HB.out _ | exact HB.out⟩
    rcases hnmz with rfl | ⟨hn1, hn2⟩
    case' inr =>
      have HF : Kp (D = false) := hid (by rw [← HD.out]; simp [hn2, p1, p2, p3, p4, p5])
      clear HD hn2
      go_enter Try.func31, Try.ntmps31
      go_wp2_with fail
      go_quiet (fail)
      go_wp2
      go_ret
      exact ⟨by rw [HF.out]; rfl, by first | exact below_drewN HB.out _ | exact HB.out⟩
    rcases body with _ | ⟨bx, bz⟩
    case' cons =>
      have HF : Kp (D = false) := hid (by rw [← HD.out]; simp [p1, p2, p3, p4, p5])
      clear HD
      go_enter Try.func31, Try.ntmps31
      go_wp2_with fail
      go_quiet (fail)
      go_wp2
      go_ret
      exact ⟨by rw [HF.out]; rfl, by first | exact below_drewN HB.out _ | exact HB.out⟩
    rcases yes <;> rcases tag with _ | ⟨tx, ty⟩
    all_goals
      go_enter Try.func31, Try.ntmps31
      go_wp2_with fail
      go_quiet (fail)
      go_wp2
      go_ret
      exact ⟨by rw [← HD.out]; simp [p1, p2, p3, p4, p5], by first | exact below_drewN HB.out _ | exact HB.out⟩
end Go.Proofs.Ytohblakhojhklaa
