import Derived.Test.YtohblakhojhklaaWget
/- The walk of prepare's get. -/
namespace Go.Proofs.Ytohblakhojhklaa
open Go.RowKit Go.Maps Sp

set_option maxRecDepth 20000 in
set_option maxHeartbeats 4000000 in
theorem get1_calls (m : Msg) (hm0 : m.mems = []) (b g cap : Nat) (x y z : Bs) (w : World) (h : BlkAt w b (msgCells m none 0 0) 26) (hne : b ≠ g)
    (hc2 : w.cell? ⟨g, 2, none⟩ = some (.string (ofL x))) (hc3 : w.cell? ⟨g, 3, none⟩ = some (.string (ofL y))) (hc4 : w.cell? ⟨g, 4, none⟩ = some (.string (ofL z))) (hx : x.length ≤ 10000000) (hy : y.length ≤ 10000000) :
    Calls Try.prog 60 #[.pointer (some ⟨b, 0, none⟩), .slice (some ⟨g, 2, none⟩) 3 cap] w fun e w' => GetPost b (getK 1 m [x, y, z]) w e w' := by
  obtain ⟨k, ⟨c, e, s⟩, aud, l, body, yes, tag⟩ := m
  simp only at hm0
  subst hm0
  simp only [msgCells] at h
  have Hbk := hid h
  have hlt := h.lt
  have hgl := World.block_lt_of_cell? _ _ hc3
  simp only at hgl
  have b1 := h.val 1 rfl
  have b2 := h.val 2 rfl
  have b3 := h.val 3 rfl
  obtain ⟨X, hX⟩ : ∃ X, getK 1 ⟨k, ⟨c, e, s⟩, aud, [], body, yes, tag⟩ [x, y, z] = X := ⟨_, rfl⟩
  rw [hX]
  simp only [getK] at hX
  have HX := hid hX
  have Hum := hid (fun W => unmembers_calls ⟨c, e, s⟩ y hy W)
  have HB0 := hid (Below.refl w.heap.size w)
  clear h hX
  go_enter Try.func60, Try.ntmps60
  go_wp2_with fail
  refine wp_region_panicSame w.heap.size w thrownW (X = none) (fun a w' hd hE h => ?_) ?_
  · refine ⟨hd, ?_⟩
    rw [hE]
    exact ⟨rfl, h.mono (Nat.le_of_lt hlt)⟩
  go_region_held2 (fun w' => w'.cell? ⟨g, 2, none⟩ = some (.string (ofL x)) ∧ w'.cell? ⟨g, 3, none⟩ = some (.string (ofL y)) ∧ w'.cell? ⟨g, 4, none⟩ = some (.string (ofL z)) ∧ w'.cell? ⟨b, 1, none⟩ = some (.int .i64 c) ∧ w'.cell? ⟨b, 2, none⟩ = some (.int .i64 e) ∧ w'.cell? ⟨b, 3, none⟩ = some (.int .i64 s))
    ((go_split_ands; refine ⟨?_, ?_, ?_, ?_, ?_, ?_⟩ <;> (with_reducible (repeat (first | refine cell_setF (by assumption) ?_ | refine cell_setO (by decide) ?_))) <;> (with_reducible first | assumption | skip) <;> first | exact hc2 | exact hc3 | exact hc4 | exact b1 | exact b2 | exact b3))
    (first
      | (go_at_call 61; (go_split_ands; with_reducible refine (unnum_calls x (by omega) _).mono ?_; rintro e9 wn ⟨he, hbn⟩; have hk0 : Below w.heap.size w wn := (by first | exact hbn | exact btd hbn); generalize kn : readNumT x = on at he; rcases on with _ | kk; (focus (simp only [unEnd] at he; subst he; exact PanicSame.panic hk0 (show X = none from by have h9 := HX.out; rw [kn] at h9; exact h9.symm) (by rfl))); simp only [unEnd] at he; subst he; have hbk := Hbk.out.below hk0; have u1 := hbk.val 1 rfl; have u2 := hbk.val 2 rfl; have u3 := hbk.val 3 rfl; have y2 := (hk0.cell (p := ⟨g, 2, none⟩) hgl).trans hc2; have y3 := (hk0.cell (p := ⟨g, 3, none⟩) hgl).trans hc3; have y4 := (hk0.cell (p := ⟨g, 4, none⟩) hgl).trans hc4))
      | (go_at_call 62; (go_split_ands; refine (Hum.out _).mono ?_; rintro e9 wn he; generalize km : unmembers ⟨c, e, s⟩ y = om at he; have hbn : Below _ _ wn := (by rcases om with _ | l9 <;> exact he.2); have hk1 := hk0; have hk0 : Below w.heap.size w wn := (by first | exact below_then hk1 hk1.size hbn | exact below_then hk1 hk1.size (btd hbn)); rcases om with _ | l9; (focus (obtain ⟨he, -⟩ := he; subst he; exact PanicSame.panic hk0 (show X = none from by have h9 := HX.out; rw [kn, km] at h9; exact h9.symm) (by rfl))); obtain ⟨⟨v9, he, ho9⟩, -⟩ := he; subst he; have ho9 := ho9.mono (Nat.le_trans (Nat.succ_le_of_lt hlt) hk1.size); obtain ⟨a9, cap9, rfl, hM9⟩ := ho9.read; have hbk := Hbk.out.below hk0; have u1 := hbk.val 1 rfl; have u2 := hbk.val 2 rfl; have u3 := hbk.val 3 rfl; have y2 := (hk0.cell (p := ⟨g, 2, none⟩) hgl).trans hc2; have y3 := (hk0.cell (p := ⟨g, 3, none⟩) hgl).trans hc3; have y4 := (hk0.cell (p := ⟨g, 4, none⟩) hgl).trans hc4; have r4 := hbk.val 4 rfl; have r5 := hbk.val 5 rfl; have r6 := hbk.val 6 rfl; have f4 := hbk.frozen 4; have f5 := hbk.frozen 5; have f6 := hbk.frozen 6)))
  refine PanicSame.normal ?_
  refine gen_world (P := fun V => BlkAt V b #[.int .u8 k, .int .i64 c, .int .i64 e, .int .i64 s, .int .i64 kk, .slice a9 l9.length cap9, .string (ofL z), .bool yes, .string (ofL tag)] 26 ∧ OwnMems (b + 1) V (.slice a9 l9.length cap9) l9 ∧ Below b w V) _ ⟨((hbk.set 4 _).set 5 _).set 6 _, ?_, ?_⟩ ?_
  · refine OwnMems.far ?_ (Nat.lt_succ_self _) _
    refine OwnMems.far ?_ (Nat.lt_succ_self _) _
    refine OwnMems.far ?_ (Nat.lt_succ_self _) _
    exact ho9
  · exact below_set (below_set (below_set (hk0.mono (Nat.le_of_lt hlt)) (Nat.le_refl _) _) (Nat.le_refl _) _) (Nat.le_refl _) _
  intro W9 ⟨g1, g2, g3⟩
  have HX9 : Kp (some (⟨k, ⟨c, e, s⟩, kk, l9, z, yes, tag⟩ : Msg) = X) := hid (by rw [← HX.out, kn, km])
  have G1 := hid g1
  have G2 := hid g2
  have G3 := hid g3
  clear g1 g2 g3 ho9 hM9 hbk u1 u2 u3 y2 y3 y4 r4 r5 r6 f4 f5 f6 hk0 hk1 kn km
  go_wp2
  go_end0
  rw [← HX9.out]
  exact ⟨rfl, ⟨a9, cap9, G1.out, G2.out⟩, G3.out⟩
end Go.Proofs.Ytohblakhojhklaa
