import Derived.Test.YtohblakhojhklaaWwdec0
import Derived.Test.YtohblakhojhklaaWwdec1
import Derived.Test.YtohblakhojhklaaWwdec2
import Derived.Test.YtohblakhojhklaaWwdec3
import Derived.Test.YtohblakhojhklaaWwdec4
import Derived.Test.YtohblakhojhklaaWwdec5
import Derived.Test.YtohblakhojhklaaWwdec6
/- The walk of wire.decode: all ways. -/
namespace Go.Proofs.Ytohblakhojhklaa
open Go.RowKit Go.Maps Sp

set_option maxRecDepth 20000 in
set_option maxHeartbeats 8000000 in
theorem wdec_notext (t x : Bs) (r : List Bs) (hm : t.length ≤ 10000000) (hk : kind t = 3) (hc : cut t = x :: r) (hr : r.length ≤ 4) (htx : text x = none) (X : Option Msg) (hX : X = none) (w : World) :
    Calls Try.prog 26 #[.string (ofL t)] w fun e w' => wdecPost X w e w' := by
  have hterms := (kind3_back hk).2.1
  rw [hc] at hterms
  have lx := term_len (hterms x (by simp))
  have hrl : ∀ y ∈ r, y.length ≤ 10000000 := fun y hy => Nat.le_trans (term_len (hterms y (by simp [hy]))) (by omega)
  have Hrl := hid hrl
  have hrow := fun W => wrow_ok t hm 1 5 hk (by rw [hc]; simp; omega) (by rw [hc]; simp; omega) W
  rw [hc] at hrow
  have htc := fun W => termText_calls x (by omega) W
  rw [htx] at htc
  have Hrow := hid hrow
  have HX := hid hX
  have Htx := hid htc
  clear hX hrow hc hk htc htx hterms lx hm hrl
  go_enter Try.func26, Try.ntmps26
  go_wp2_with fail
  refine (Hrow.out _).mono ?_
  rintro e w1 ⟨v, rfl, hown, hb⟩
  obtain ⟨a0, cap, rfl, hs⟩ := hown.read
  obtain ⟨g, o0, rfl, h0⟩ := hs 0 (by simp)
  have ho0 : o0 = 0 := by
    rcases hown.2 with ⟨e, -⟩ | ⟨g', cap', cur, e, -⟩
    · cases e
    · cases e; rfl
  subst ho0
  have hcap : r.length + 1 ≤ cap ∧ cap ≤ maxLen := by
    rcases hown.2 with ⟨e, -⟩ | ⟨g', cap', cur, e, -, -, h1, h2, -⟩
    · cases e
    · cases e; exact ⟨h1, h2⟩
  have Hs := hid hs
  have Hb1 := hid (below_then ((Below.refl _ w).alloc (Nat.le_refl _) (.cells zeroMB 26)) (by simp) hb)
  have hbk : BlkAt w1 w.heap.size zeroMB 26 := (BlkAt.new w _ _).below hb
  have Hbk := hid hbk
  simp only [List.getElem_cons_zero, Nat.zero_add] at h0
  have hgl := World.block_lt_of_cell? _ _ h0
  simp only at hgl
  obtain ⟨rl, hrl⟩ : ∃ rl, r.length = rl := ⟨_, rfl⟩
  have Hrn := hid hrl
  simp only [List.length_cons]
  rw [hrl] at hr hcap ⊢
  clear hown hs hb hbk Hrow hrl
  go_wp2_with fail
  refine (Htx.out _).mono ?_
  rintro e2 w2 ⟨rfl, hb2⟩
  have Hb2 := hid hb2
  clear hb2 h0
  simp only [encOpt]
  go_wp2_with fail
  refine (wmust_no _).mono ?_
  rintro e4 w4 ⟨rfl, rfl⟩
  refine ⟨rfl, ?_⟩
  rw [HX.out]
  exact ⟨rfl, below_then Hb1.out Hb1.out.size Hb2.out⟩

set_option maxRecDepth 20000 in
set_option maxHeartbeats 8000000 in
theorem wdec_nodata (t x : Bs) (r : List Bs) (hm : t.length ≤ 10000000) (hk : kind t = 3) (hc : cut t = x :: r) (hr : r.length ≤ 4) (s : Bs) (hkx : kind x ≠ 1) (htx : text x = some s) (X : Option Msg) (hX : X = none) (w : World) :
    Calls Try.prog 26 #[.string (ofL t)] w fun e w' => wdecPost X w e w' := by
  have hterms := (kind3_back hk).2.1
  rw [hc] at hterms
  have lx := term_len (hterms x (by simp))
  have hrl : ∀ y ∈ r, y.length ≤ 10000000 := fun y hy => Nat.le_trans (term_len (hterms y (by simp [hy]))) (by omega)
  have Hrl := hid hrl
  have hrow := fun W => wrow_ok t hm 1 5 hk (by rw [hc]; simp; omega) (by rw [hc]; simp; omega) W
  rw [hc] at hrow
  have htc := fun W => termText_calls x (by omega) W
  rw [htx] at htc
  have hkc := fun W => kind_calls x (by omega) W
  have hkf : (((kind x : Nat) : Int) == 1) = false := by simpa using (by omega : ¬ ((kind x : Nat) : Int) = 1)
  have Hrow := hid hrow
  have HX := hid hX
  have Htx := hid htc
  have Hkd := hid hkc
  clear hX hrow hc hk htc hkc htx hkx hterms lx hm hrl
  go_enter Try.func26, Try.ntmps26
  go_wp2_with fail
  refine (Hrow.out _).mono ?_
  rintro e w1 ⟨v, rfl, hown, hb⟩
  obtain ⟨a0, cap, rfl, hs⟩ := hown.read
  obtain ⟨g, o0, rfl, h0⟩ := hs 0 (by simp)
  have ho0 : o0 = 0 := by
    rcases hown.2 with ⟨e, -⟩ | ⟨g', cap', cur, e, -⟩
    · cases e
    · cases e; rfl
  subst ho0
  have hcap : r.length + 1 ≤ cap ∧ cap ≤ maxLen := by
    rcases hown.2 with ⟨e, -⟩ | ⟨g', cap', cur, e, -, -, h1, h2, -⟩
    · cases e
    · cases e; exact ⟨h1, h2⟩
  have Hs := hid hs
  have Hb1 := hid (below_then ((Below.refl _ w).alloc (Nat.le_refl _) (.cells zeroMB 26)) (by simp) hb)
  have hbk : BlkAt w1 w.heap.size zeroMB 26 := (BlkAt.new w _ _).below hb
  have Hbk := hid hbk
  simp only [List.getElem_cons_zero, Nat.zero_add] at h0
  have hgl := World.block_lt_of_cell? _ _ h0
  simp only at hgl
  obtain ⟨rl, hrl⟩ : ∃ rl, r.length = rl := ⟨_, rfl⟩
  have Hrn := hid hrl
  simp only [List.length_cons]
  rw [hrl] at hr hcap ⊢
  clear hown hs hb hbk Hrow hrl
  go_wp2_with fail
  refine (Htx.out _).mono ?_
  rintro e2 w2 ⟨rfl, hb2⟩
  have h0 := (hb2.cell (p := ⟨g, 0, none⟩) hgl).trans h0
  have Hb2 := hid hb2
  clear hb2
  simp only [encOpt]
  go_wp2_with fail
  refine (Hkd.out _).mono ?_
  rintro e3 w3 ⟨rfl, hb3⟩
  have Hb3 := hid (bt0 Hb2.out hb3)
  clear hb3 h0 Hb2 Htx Hkd
  go_wp2_with fail
  refine (wmust_no _).mono ?_
  rintro e4 w4 ⟨rfl, rfl⟩
  refine ⟨rfl, ?_⟩
  rw [HX.out]
  exact ⟨rfl, below_then Hb1.out Hb1.out.size Hb3.out⟩

theorem wdec_calls (t : Bs) (hm : t.length ≤ 10000000) (w : World) : Calls Try.prog 26 #[.string (ofL t)] w fun e w' => wdecPost (decM t) w e w' := by
  cases hr : rowP t 1 5 with
  | none => exact wdec_norow t hm hr w
  | some p =>
    obtain ⟨hk, h1, h5, hp⟩ := rowP_some hr
    match hc : p, hr with
    | [], _ => subst hc; rw [← hp] at h1; simp at h1
    | x :: r, hr =>
      subst hc
      have hc : cut t = x :: r := hp.symm
      have hr4 : r.length ≤ 4 := by rw [hc] at h5; simpa using h5
      have hX : decM t = if kind x = 1 then (match text x with | some w => if kindOf w = 0 then none else decK (kindOf w) r | none => none) else none := by unfold decM; rw [hr]; rfl
      cases ht : text x with
      | none =>
        rw [ht] at hX
        exact wdec_notext t x r hm hk hc hr4 ht _ (by rw [hX]; split <;> rfl) w
      | some s =>
        rw [ht] at hX
        by_cases hk1 : kind x = 1
        · rw [if_pos hk1] at hX
          simp only at hX
          by_cases h0 : kindOf s = 0
          · rw [if_pos h0] at hX
            exact wdec_0 t x r hm hk hc hr4 s h0 hk1 ht _ hX w
          · rw [if_neg h0] at hX
            obtain ⟨hs, hs1, hs6⟩ := word_kindOf h0
            generalize kindOf s = n at hs hs1 hs6 hX
            subst hs
            rcases (by omega : n = 1 ∨ n = 2 ∨ n = 3 ∨ n = 4 ∨ n = 5 ∨ n = 6) with rfl | rfl | rfl | rfl | rfl | rfl
            · exact wdec_1 t x r hm hk hc hr4 hk1 ht _ hX.symm w
            · exact wdec_2 t x r hm hk hc hr4 hk1 ht _ hX.symm w
            · exact wdec_3 t x r hm hk hc hr4 hk1 ht _ hX.symm w
            · exact wdec_4 t x r hm hk hc hr4 hk1 ht _ hX.symm w
            · exact wdec_5 t x r hm hk hc hr4 hk1 ht _ hX.symm w
            · exact wdec_6 t x r hm hk hc hr4 hk1 ht _ hX.symm w
        · rw [if_neg hk1] at hX
          exact wdec_nodata t x r hm hk hc hr4 s hk1 ht _ hX w
end Go.Proofs.Ytohblakhojhklaa
