import Derived.Test.YtohblakhojhklaaWmay
/- The walks of the kinds' put. -/
namespace Go.Proofs.Ytohblakhojhklaa
open Go.RowKit Go.Maps Sp

/-- A slice of texts, whoever's: what put hands back. -/
def PutPost (l : List Bs) (w : World) (e : Ending) (w' : World) : Prop := ∃ a n cap, e = .returned (.slice a n cap) ∧ n = l.length ∧ StrsAt w' a l ∧ (a = none → cap = 0) ∧ Below w.heap.size w w'

theorem membersT_or (t : Txn) (l : List Mem) : ∃ y : Int, encMade (membersT t l) = .tuple #[.string (ofL (orNo (membersT t l))), .int .i64 y] := by
  cases membersT t l with
  | ok s => exact ⟨0, rfl⟩
  | error k => exact ⟨k, rfl⟩
theorem txnT_or (t : Txn) : ∃ y : Int, encMade (txnT t) = .tuple #[.string (ofL (orNo (txnT t))), .int .i64 y] := by
  cases txnT t with
  | ok s => exact ⟨0, rfl⟩
  | error k => exact ⟨k, rfl⟩
theorem data_or (s : Bs) : ∃ y : Int, encMade (data s) = .tuple #[.string (ofL (orNo (data s))), .int .i64 y] := by
  cases data s with
  | ok s => exact ⟨0, rfl⟩
  | error k => exact ⟨k, rfl⟩

set_option maxRecDepth 20000 in
set_option maxHeartbeats 2000000 in
theorem put1_calls (m : Msg) (am : Option Addr) (nm cm : Nat) (w : World) (h : MsgAt m am nm cm w) : Calls Try.prog 57 #[msgV m am nm cm] w fun e w' => PutPost (putK 1 m) w e w' := by
  obtain ⟨k, ⟨c, e, s⟩, aud, l, body, yes, tag⟩ := m
  have hB := (Below.refl w.heap.size w).alloc (Nat.le_refl _) (.cells #[.int .u8 k, .int .i64 c, .int .i64 e, .int .i64 s, .int .i64 aud, .slice am nm cm, .string (ofL body), .bool yes, .string (ofL tag)] 26)
  have hmc := members_calls ⟨c, e, s⟩ am nm cm l h.nm (Nat.le_trans h.lm (by omega)) (fun x hx => Nat.le_trans (h.dm x hx) (by omega)) _ (h.mems.below hB)
  obtain ⟨y, hy⟩ := membersT_or ⟨c, e, s⟩ l
  rw [hy] at hmc
  have HB := hid hB
  have Hbk := hid (BlkAt.new w #[.int .u8 k, .int .i64 c, .int .i64 e, .int .i64 s, .int .i64 aud, .slice am nm cm, .string (ofL body), .bool yes, .string (ofL tag)] 26)
  simp only [msgV, txnV, putK] at hmc ⊢
  generalize orNo (membersT ⟨c, e, s⟩ l) = ms at hmc ⊢
  have Hmc := hid hmc
  have Hn := hid (fun W => wnum_calls aud W)
  clear h hB hmc hy
  go_enter Try.func57, Try.ntmps57
  go_wp2_with fail
  refine Hmc.out.mono ?_
  rintro e1 w1 ⟨rfl, hb1⟩
  have hbk1 := Hbk.out.below hb1
  have Hbk1 := hid hbk1
  have Hb1 := hid (below_then HB.out HB.out.size hb1)
  have c4 := hbk1.val 4 rfl
  have c6 := hbk1.val 6 rfl
  clear hb1 hbk1
  go_wp2_with fail
  go_region_held2 (fun w' => w'.cell? ⟨w.heap.size, 4, none⟩ = some (.int .i64 aud) ∧ w'.cell? ⟨w.heap.size, 6, none⟩ = some (.string (ofL body)))
    ((go_split_ands; refine ⟨?_, ?_⟩ <;> (with_reducible first | assumption | exact cell_alloc_of _ (by assumption) | skip) <;> first | exact c4 | exact c6))
    (first
      | (go_at_call 59; (go_split_ands; refine (Hn.out _).mono ?_; rintro e9 wn ⟨rfl, hbn⟩; have hbn : Below w1.heap.size w1 wn := (by first | exact hbn | exact btd hbn); have hk9 := Hbk1.out.below hbn; have d4 := hk9.val 4 rfl; have d6 := hk9.val 6 rfl)))
  refine gen_world (P := fun V => StrsAt V (some ⟨wn.heap.size, 0, none⟩) [numS aud, ms, body] ∧ Below w.heap.size w V) _ ⟨strsAt_three wn _ _ _ _, (below_then Hb1.out Hb1.out.size hbn).alloc (by have := Hb1.out.size; have := hbn.size; omega) _⟩ ?_
  intro W9 ⟨hs9, hb9⟩
  have Hs9 := hid hs9
  have Hb9 := hid hb9
  clear hs9 hb9 hbn hk9 d4 d6
  go_wp2
  go_ret
  exact ⟨_, _, _, rfl, rfl, Hs9.out, (fun e => by cases e), Hb9.out⟩

set_option maxRecDepth 20000 in
set_option maxHeartbeats 2000000 in
theorem put2_calls (m : Msg) (am : Option Addr) (nm cm : Nat) (w : World) : Calls Try.prog 64 #[msgV m am nm cm] w fun e w' => PutPost (putK 2 m) w e w' := by
  have Hy := hid (fun W => yes_calls m am nm cm W)
  obtain ⟨k, ⟨c, e, s⟩, aud, l, body, yes, tag⟩ := m
  have HB := hid ((Below.refl w.heap.size w).alloc (Nat.le_refl _) (.cells #[.int .u8 k, .int .i64 c, .int .i64 e, .int .i64 s, .int .i64 aud, .slice am nm cm, .string (ofL body), .bool yes, .string (ofL tag)] 26))
  have hbk := BlkAt.new w #[.int .u8 k, .int .i64 c, .int .i64 e, .int .i64 s, .int .i64 aud, .slice am nm cm, .string (ofL body), .bool yes, .string (ofL tag)] 26
  have Hbk := hid hbk
  obtain ⟨W1, hW1⟩ : ∃ W, w.alloc (.cells #[.int .u8 k, .int .i64 c, .int .i64 e, .int .i64 s, .int .i64 aud, .slice am nm cm, .string (ofL body), .bool yes, .string (ofL tag)] 26) = W := ⟨_, rfl⟩
  simp only [msgV, putK] at Hy ⊢
  clear hbk
  rcases yes with _ | _
  · clear hW1
    go_enter Try.func64, Try.ntmps64
    go_wp2_with fail
    refine (Hy.out _).mono ?_
    rintro e3 w3 ⟨rfl, hb3⟩
    have Hb3 := hid (below_then HB.out HB.out.size hb3)
    clear hb3
    go_wp2
    go_ret
    exact ⟨_, _, _, rfl, rfl, strsAt_one _ _ _, (fun e => by cases e), Hb3.out.alloc Hb3.out.size _⟩
  · clear hW1
    go_enter Try.func64, Try.ntmps64
    go_wp2_with fail
    have c0 := Hbk.out.val 0 rfl
    have c1 := Hbk.out.val 1 rfl
    have c2 := Hbk.out.val 2 rfl
    have c3 := Hbk.out.val 3 rfl
    have c4 := Hbk.out.val 4 rfl
    have c5 := Hbk.out.val 5 rfl
    have c6 := Hbk.out.val 6 rfl
    have c7 := Hbk.out.val 7 rfl
    have c8 := Hbk.out.val 8 rfl
    go_region_held2 (fun w' => w'.cell? ⟨w.heap.size, 0, none⟩ = some (.int .u8 k) ∧ w'.cell? ⟨w.heap.size, 1, none⟩ = some (.int .i64 c) ∧ w'.cell? ⟨w.heap.size, 2, none⟩ = some (.int .i64 e) ∧ w'.cell? ⟨w.heap.size, 3, none⟩ = some (.int .i64 s) ∧ w'.cell? ⟨w.heap.size, 4, none⟩ = some (.int .i64 aud) ∧ w'.cell? ⟨w.heap.size, 5, none⟩ = some (.slice am nm cm) ∧ w'.cell? ⟨w.heap.size, 6, none⟩ = some (.string (ofL body)) ∧ w'.cell? ⟨w.heap.size, 7, none⟩ = some (.bool true) ∧ w'.cell? ⟨w.heap.size, 8, none⟩ = some (.string (ofL tag)))
      ((go_split_ands; refine ⟨?_, ?_, ?_, ?_, ?_, ?_, ?_, ?_, ?_⟩ <;> (with_reducible first | assumption | exact cell_alloc_of _ (by assumption) | skip) <;> first | exact c0 | exact c1 | exact c2 | exact c3 | exact c4 | exact c5 | exact c6 | exact c7 | exact c8))
      (first
        | (go_at_call 65; (go_split_ands; refine (Hy.out _).mono ?_; rintro e9 wn ⟨rfl, hbn⟩; have hbn : Below (w.alloc (.cells #[.int .u8 k, .int .i64 c, .int .i64 e, .int .i64 s, .int .i64 aud, .slice am nm cm, .string (ofL body), .bool true, .string (ofL tag)] 26)).heap.size (w.alloc (.cells #[.int .u8 k, .int .i64 c, .int .i64 e, .int .i64 s, .int .i64 aud, .slice am nm cm, .string (ofL body), .bool true, .string (ofL tag)] 26)) wn := (by first | exact hbn | exact btd hbn); have hk9 := Hbk.out.below hbn; have d0 := hk9.val 0 rfl; have d1 := hk9.val 1 rfl; have d2 := hk9.val 2 rfl; have d3 := hk9.val 3 rfl; have d4 := hk9.val 4 rfl; have d5 := hk9.val 5 rfl; have d6 := hk9.val 6 rfl; have d7 := hk9.val 7 rfl; have d8 := hk9.val 8 rfl)))
    refine gen_world (P := fun V => StrsAt V (some ⟨wn.heap.size, 0, none⟩) [flag true, tag] ∧ Below w.heap.size w V) _ ⟨strsAt_two wn _ _ _, (below_then HB.out HB.out.size hbn).alloc (by have := HB.out.size; have := hbn.size; omega) _⟩ ?_
    intro W9 ⟨hs9, hb9⟩
    have Hs9 := hid hs9
    have Hb9 := hid hb9
    clear hs9 hb9 hbn hk9 d0 d1 d2 d3 d4 d5 d6 d7 d8
    go_wp2
    go_ret
    exact ⟨_, _, _, rfl, rfl, Hs9.out, (fun e => by cases e), Hb9.out⟩

set_option maxRecDepth 20000 in
set_option maxHeartbeats 1000000 in
theorem put3_calls (m : Msg) (am : Option Addr) (nm cm : Nat) (w : World) : Calls Try.prog 69 #[msgV m am nm cm] w fun e w' => PutPost (putK 3 m) w e w' := by
  have Hy := hid (fun W => yes_calls m am nm cm W)
  obtain ⟨k, ⟨c, e, s⟩, aud, l, body, yes, tag⟩ := m
  have HB := hid ((Below.refl w.heap.size w).alloc (Nat.le_refl _) (.cells #[.int .u8 k, .int .i64 c, .int .i64 e, .int .i64 s, .int .i64 aud, .slice am nm cm, .string (ofL body), .bool yes, .string (ofL tag)] 26))
  simp only [msgV, putK] at Hy ⊢
  go_enter Try.func69, Try.ntmps69
  go_wp2_with fail
  refine (Hy.out _).mono ?_
  rintro e3 w3 ⟨rfl, hb3⟩
  have Hb3 := hid (below_then HB.out HB.out.size hb3)
  clear hb3
  go_wp2
  go_ret
  exact ⟨_, _, _, rfl, rfl, strsAt_one _ _ _, (fun e => by cases e), Hb3.out.alloc Hb3.out.size _⟩

set_option maxRecDepth 20000 in
theorem put4_calls (m : Msg) (am : Option Addr) (nm cm : Nat) (w : World) : Calls Try.prog 85 #[msgV m am nm cm] w fun e w' => PutPost [] w e w' := by
  simp only [msgV]
  go_enter Try.func85, Try.ntmps85
  go_wp2
  go_ret
  exact ⟨_, _, _, rfl, rfl, StrsAt.nil _ _, (fun _ => rfl), (Below.refl w.heap.size w).alloc (Nat.le_refl _) _⟩
end Go.Proofs.Ytohblakhojhklaa
