import Derived.Test.YtegkolepemcocaaWrenc
/- The walks of receipt's row, number. -/
namespace Go.Proofs.Ytegkolepemcocaa
open Go.RowKit Sp

def rnumEnd : Option Nat → Ending
  | some v => .returned (.int .i64 v)
  | none => .panicked (thrownR 7)
set_option maxRecDepth 20000 in
set_option maxHeartbeats 1000000 in
theorem rnumber_calls (t : Bs) (hm : t.length ≤ 100000000) (w : World) : Calls Try.prog 78 #[.string (ofL t)] w fun e w' => e = rnumEnd (readNumT t) ∧ Below w.heap.size w w' := by
  have hr := readNumT_calls t hm w
  cases h : readNumT t with
  | none =>
    rw [h] at hr
    simp only [encNumT] at hr
    have Hr := hid hr
    clear hr h
    go_enter Try.func78, Try.ntmps78
    go_wp2_with fail
    refine Hr.out.mono ?_
    rintro e w1 ⟨rfl, hb⟩
    have Hb := hid hb
    clear hb
    go_wp2_with fail
    refine (rmust_no _ _).mono ?_
    rintro e w2 ⟨rfl, rfl⟩
    exact ⟨rfl, rfl, Hb.out⟩
  | some v =>
    rw [h] at hr
    simp only [encNumT] at hr
    have Hr := hid hr
    clear hr h
    go_enter Try.func78, Try.ntmps78
    go_wp2_with fail
    refine Hr.out.mono ?_
    rintro e w1 ⟨rfl, hb⟩
    have Hb := hid hb
    clear hb
    go_wp2_with fail
    refine (rmust_ok _ _).mono ?_
    rintro e w2 ⟨rfl, rfl⟩
    go_wp2
    go_ret
    exact ⟨rfl, Hb.out⟩

set_option maxRecDepth 20000 in
set_option maxHeartbeats 2000000 in
theorem rrow_ok (t : Bs) (hm : t.length ≤ 10000000) (n : Int) (hk : kind t = 3) (hn : n < 0 ∨ ((cut t).length : Int) = n) (w : World) :
    Calls Try.prog 76 #[.string (ofL t), .int .i64 n] w fun e w' => ∃ v, e = .returned v ∧ OwnStrs w.heap.size w' v (cut t) ∧ Below w.heap.size w w' := by
  have hk1 := fun W => kind_calls t (by omega) W
  rw [hk] at hk1
  have Hk := hid hk1
  have Hp := hid (fun W => parts_some t hm W (kind3_term hk))
  clear hk hk1
  go_enter Try.func76, Try.ntmps76
  go_wp2_with fail
  refine (Hp.out _).mono ?_
  rintro e w1 ⟨v, rfl, hown, hb1⟩
  obtain ⟨a, cap, rfl, -⟩ := hown.read
  have Ho := hid (hown.mono (show w.heap.size ≤ w.heap.size + 2 by omega))
  have Hb1 := hid hb1
  clear hown hb1
  go_wp2_with fail
  refine (Hk.out _).mono ?_
  rintro e w2 ⟨rfl, hb2⟩
  have Hb := hid (below_then Hb1.out Hb1.out.size hb2)
  have Ho2 := hid (Ho.out.below hb2)
  clear hb2
  by_cases hlt : n < 0
  · clear hn
    go_wp2_with fail
    refine (rmust_ok _ _).mono ?_
    rintro e w3 ⟨rfl, rfl⟩
    go_wp2
    go_ret
    exact ⟨_, rfl, Ho2.out, Hb.out⟩
  · have he : (((cut t).length : Int) == n) = true := by simp; omega
    clear hn
    go_wp2_with fail
    refine (rmust_ok _ _).mono ?_
    rintro e w3 ⟨rfl, rfl⟩
    go_wp2
    go_ret
    exact ⟨_, rfl, Ho2.out, Hb.out⟩

set_option maxRecDepth 20000 in
set_option maxHeartbeats 2000000 in
theorem rrow_len (t : Bs) (hm : t.length ≤ 10000000) (n : Int) (hk : kind t = 3) (hn : ¬ n < 0) (hc : ((cut t).length : Int) ≠ n) (w : World) :
    Calls Try.prog 76 #[.string (ofL t), .int .i64 n] w fun e w' => e = .panicked (thrownR 7) ∧ Below w.heap.size w w' := by
  have hk1 := fun W => kind_calls t (by omega) W
  rw [hk] at hk1
  have Hk := hid hk1
  have Hp := hid (fun W => parts_some t hm W (kind3_term hk))
  have he : (((cut t).length : Int) == n) = false := by simpa using hc
  clear hc
  clear hk hk1
  go_enter Try.func76, Try.ntmps76
  go_wp2_with fail
  refine (Hp.out _).mono ?_
  rintro e w1 ⟨v, rfl, hown, hb1⟩
  obtain ⟨a, cap, rfl, -⟩ := hown.read
  have Hb1 := hid hb1
  clear hown hb1
  go_wp2_with fail
  refine (Hk.out _).mono ?_
  rintro e w2 ⟨rfl, hb2⟩
  have Hb := hid (below_then Hb1.out Hb1.out.size hb2)
  clear hb2
  go_wp2_with fail
  rw [decide_eq_false (show ¬ n < 0 by omega)]
  refine (rmust_no _ _).mono ?_
  rintro e w3 ⟨rfl, rfl⟩
  exact ⟨rfl, rfl, Hb.out⟩

set_option maxRecDepth 20000 in
set_option maxHeartbeats 2000000 in
theorem rrow_kind (t : Bs) (hm : t.length ≤ 10000000) (n : Int) (hk : ¬ kind t = 3) (w : World) :
    Calls Try.prog 76 #[.string (ofL t), .int .i64 n] w fun e w' => e = .panicked (thrownR 7) ∧ Below w.heap.size w w' := by
  have Hk := hid (fun W => kind_calls t (by omega) W)
  have hp : ∀ W, Calls Try.prog 52 #[.string (ofL t)] W fun e w' => (∃ a n' cap b, e = .returned (.tuple #[.slice a n' cap, .bool b])) ∧ Below W.heap.size W w' := fun W => by
    cases ht : isTerm t with
    | true =>
      refine (parts_some t hm W ht).mono ?_
      rintro e w' ⟨v, rfl, hown, hb⟩
      obtain ⟨a, cap, rfl, -⟩ := hown.read
      exact ⟨⟨_, _, _, _, rfl⟩, hb⟩
    | false =>
      refine (parts_none t hm W ht).mono ?_
      rintro e w' ⟨rfl, hb⟩
      exact ⟨⟨_, _, _, _, rfl⟩, hb⟩
  have Hp := hid hp
  have hbf : (((kind t : Nat) : Int) == 3) = false := by simp; omega
  clear hk hp
  go_enter Try.func76, Try.ntmps76
  go_wp2_with fail
  refine (Hp.out _).mono ?_
  rintro e w1 ⟨⟨a, n', cap, b, rfl⟩, hb1⟩
  have Hb1 := hid hb1
  clear hb1
  go_wp2_with fail
  refine (Hk.out _).mono ?_
  rintro e w2 ⟨rfl, hb2⟩
  have Hb := hid (below_then Hb1.out Hb1.out.size hb2)
  clear hb2
  go_wp2_with fail
  refine (rmust_no _ _).mono ?_
  rintro e w3 ⟨rfl, rfl⟩
  exact ⟨rfl, rfl, Hb.out⟩
end Go.Proofs.Ytegkolepemcocaa
