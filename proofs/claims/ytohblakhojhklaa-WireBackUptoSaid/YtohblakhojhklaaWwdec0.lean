import Derived.Test.YtohblakhojhklaaWwdech
/- The walk of wire.decode at a kind (printed by gen_dec2.py). -/
namespace Go.Proofs.Ytohblakhojhklaa
open Go.RowKit Go.Maps Sp

set_option maxRecDepth 20000 in
set_option maxHeartbeats 8000000 in
theorem wdec_0 (t x : Bs) (r : List Bs) (hm : t.length ≤ 10000000) (hk : kind t = 3) (hc : cut t = x :: r) (hr : r.length ≤ 4) (s : Bs) (hs0 : kindOf s = 0) (hkx : kind x = 1) (htx : text x = some s) (X : Option Msg) (hX : X = none) (w : World) :
    Calls Try.prog 26 #[.string (ofL t)] w fun e w' => wdecPost X w e w' := by
  have hterms := (kind3_back hk).2.1
  rw [hc] at hterms
  have lx := term_len (hterms x (by simp))
  have hrl : ∀ y ∈ r, y.length ≤ 10000000 := fun y hy => Nat.le_trans (term_len (hterms y (by simp [hy]))) (by omega)
  have Hrl := hid hrl
  have hrow := fun W => wrow_ok t hm 1 5 hk (by rw [hc]; simp; omega) (by rw [hc]; simp; omega) W
  rw [hc] at hrow
  have htc := fun W => termText_calls x (by omega) W
  rw [htx] at htc
  have hkc := fun W => kind_calls x (by omega) W
  rw [hkx] at hkc
  have Hrow := hid hrow
  have HX := hid hX
  have Htx := hid htc
  have Hkd := hid hkc
  clear hX hrow hc hk htc hkc htx hkx hterms lx hm hrl
  go_enter Try.func26, Try.ntmps26
  go_wp2_with fail
  refine (Hrow.out _).mono ?_
  rintro e w1 ⟨v, rfl, hown, hb⟩
  obtain ⟨a0, cap, rfl, hs⟩ := hown.read
  obtain ⟨g, o0, rfl, h0⟩ := hs 0 (by simp)
  have ho0 : o0 = 0 := by
    rcases hown.2 with ⟨e, -⟩ | ⟨g', cap', cur, e, -⟩
    · cases e
    · cases e; rfl
  subst ho0
  have hcap : r.length + 1 ≤ cap ∧ cap ≤ maxLen := by
    rcases hown.2 with ⟨e, -⟩ | ⟨g', cap', cur, e, -, -, h1, h2, -⟩
    · cases e
    · cases e; exact ⟨h1, h2⟩
  have Hs := hid hs
  have Hb1 := hid (below_then ((Below.refl _ w).alloc (Nat.le_refl _) (.cells zeroMB 26)) (by simp) hb)
  have hbk : BlkAt w1 w.heap.size zeroMB 26 := (BlkAt.new w _ _).below hb
  have Hbk := hid hbk
  simp only [List.getElem_cons_zero, Nat.zero_add] at h0
  have hgl := World.block_lt_of_cell? _ _ h0
  simp only at hgl
  obtain ⟨rl, hrl⟩ : ∃ rl, r.length = rl := ⟨_, rfl⟩
  have Hrn := hid hrl
  simp only [List.length_cons]
  rw [hrl] at hr hcap ⊢
  clear hown hs hb hbk Hrow hrl
  go_wp2_with fail
  refine (Htx.out _).mono ?_
  rintro e2 w2 ⟨rfl, hb2⟩
  have h0 := (hb2.cell (p := ⟨g, 0, none⟩) hgl).trans h0
  have Hb2 := hid hb2
  have hgl2 := Nat.lt_of_lt_of_le hgl hb2.size
  clear hb2
  simp only [encOpt]
  go_wp2_with fail
  refine (Hkd.out _).mono ?_
  rintro e3 w3 ⟨rfl, hb3⟩
  have Hb3 := hid (bt0 Hb2.out hb3)
  clear hb3 h0 Hb2 Htx Hkd hgl2
  go_wp2_with fail
  refine (wmust_ok _).mono ?_
  rintro e4 w4 ⟨rfl, rfl⟩
  go_wp2_with fail
  refine (kinds_calls _).mono ?_
  rintro e5 w5 ⟨bm, rfl, hown, hge, hlt, hb5⟩
  have Hown := hid hown
  have Hb5 := hid (bt0 Hb3.out hb5)
  clear hown hge hb5
  go_wp2_with (first
    | (at_range; refine wpList_range_own _ rfl _ 65 rfl 5 64 law_u8 Try.underlying65 kR bm 6 kD rfl Hown.out ?_; intro wa hrg0 hg0 hs0)
    | fail)
  have HBa : Kp (Below w1.heap.size w1 wa) := hid (Hb5.out.grown hg0 Hb5.out.size (fun j hj => by cases hj))
  have Hrg0 := hid hrg0
  have hN1 : w1.heap.size ≤ w5.heap.size := Hb5.out.size
  have Hwo := hid hN1
  clear hrg0 hg0 hs0 Hown Hb5 hlt Hb3 hN1
  obtain ⟨wo, rfl⟩ : ∃ wo : World, wo = w5 := ⟨_, rfl⟩
  simp only [Act.put, List.setIfInBounds_toArray, List.set_cons_zero, List.set_cons_succ]
  go_loopw [3] (fun l3 wx => l3 = .slice (some ⟨g, 0, none⟩) (rl + 1) cap ∧ ∃ (left : Lit → Bool) (cnt : Nat), wx.ranges Try.prog 5 kR bm wo.heap.size 6 kD left cnt ∧ (True) ∧ Below w1.heap.size w1 wx) (fun _ wx => wx.rangeLeft bm wo.heap.size)
  case atStart => exact ⟨rfl, _, _, Hrg0.out, trivial, HBa.out⟩
  case round =>
    obtain ⟨rfl, left, cnt, hrg, hlf, hbx⟩ := hrel
    have Hrg := hid hrg
    have Hlf := hid hlf
    have Hbx := hid hbx
    clear hrg hlf hbx
    go_wp2_with (first
      | (at_next; refine wpList_next_kinds _ rfl rfl _ rfl bm wo.heap.size 6 _ _ rfl Hrg.out ?_ ?_)
      | fail)
    · intro hl0
      go_wp2
      refine ⟨rfl, ?_⟩
      rw [HX.out]
      exact ⟨rfl, below_then Hb1.out Hb1.out.size Hbx.out⟩
    · intro n w1x cnt1 h1n hn6 hrg1 hlt1 hg1 hs1 hen
      have Hbx1 : Kp (Below w1.heap.size w1 w1x) := hid (Hbx.out.grown hg1 Hbx.out.size (fun j hj => by injection hj with hj; subst hj; exact Hwo.out))
      have Hrg1 := hid hrg1
      have Hlt1 := hid hlt1
      clear hg1 hs1 hrg1 hlt1
      rcases (by omega : n = 1 ∨ n = 2 ∨ n = 3 ∨ n = 4 ∨ n = 5 ∨ n = 6) with rfl | rfl | rfl | rfl | rfl | rfl
      all_goals simp only [kindV] at hen ⊢
      case' inl => have hws : (wordK 1 == s) = false := kindOf_ne hs0 (by omega) (by omega)
      case' inr.inl => have hws : (wordK 2 == s) = false := kindOf_ne hs0 (by omega) (by omega)
      case' inr.inr.inl => have hws : (wordK 3 == s) = false := kindOf_ne hs0 (by omega) (by omega)
      case' inr.inr.inr.inl => have hws : (wordK 4 == s) = false := kindOf_ne hs0 (by omega) (by omega)
      case' inr.inr.inr.inr.inl => have hws : (wordK 5 == s) = false := kindOf_ne hs0 (by omega) (by omega)
      case' inr.inr.inr.inr.inr => have hws : (wordK 6 == s) = false := kindOf_ne hs0 (by omega) (by omega)
      all_goals
        go_wp2
        go_roundw
        case rel => exact ⟨rfl, _, cnt1, Hrg1.out.alloc _, trivial, Hbx1.out.alloc Hbx1.out.size _⟩
        case measure => rw [(Hrg1.out.alloc _).left_eq, Hrg.out.left_eq]; exact Hlt1.out
end Go.Proofs.Ytohblakhojhklaa
