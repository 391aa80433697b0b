import Derived.Test.YtohblakhojhklaaWwenc2
import Derived.Test.YtohblakhojhklaaWwencb
/- wire.Encode: every kind. -/
namespace Go.Proofs.Ytohblakhojhklaa
open Go.RowKit Go.Maps Sp

theorem wenc_calls (m : Msg) (am : Option Addr) (nm cm : Nat) (w : World) (h : MsgAt m am nm cm w) : Calls Try.prog 8 #[msgV m am nm cm] w fun e w' => e = .returned (encMade (encM m)) ∧ Below w.heap.size w w' := by
  cases hm : mayM m with
  | false => exact wenc_no m am nm cm w h hm
  | true =>
    have hk : isKind m.kind = true := by
      have h1 := hm
      unfold mayM at h1
      simp only [Bool.and_eq_true] at h1
      exact h1.1.1.1
    obtain ⟨k, ⟨c, e, s⟩, aud, l, body, yes, tag⟩ := m
    have hk2 : 1 ≤ k ∧ k ≤ 6 := by simpa [isKind] using hk
    rcases (by omega : k = 1 ∨ k = 2 ∨ k = 3 ∨ k = 4 ∨ k = 5 ∨ k = 6) with rfl | rfl | rfl | rfl | rfl | rfl
    · exact wenc_1 c e s aud l body tag yes am nm cm w h hm _ rfl
    · cases yes with
      | false => exact wenc_2f c e s aud l body tag false am nm cm w h hm _ rfl
      | true => exact wenc_2t c e s aud l body tag true am nm cm w h hm _ rfl
    · exact wenc_3 c e s aud l body tag yes am nm cm w h hm _ rfl
    · exact wenc_4 c e s aud l body tag yes am nm cm w h hm _ rfl
    · exact wenc_5 c e s aud l body tag yes am nm cm w h hm _ rfl
    · exact wenc_6 c e s aud l body tag yes am nm cm w h hm _ rfl
end Go.Proofs.Ytohblakhojhklaa
