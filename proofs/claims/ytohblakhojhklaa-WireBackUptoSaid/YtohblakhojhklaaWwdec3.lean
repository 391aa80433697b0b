import Derived.Test.YtohblakhojhklaaWwdech
/- The walk of wire.decode at a kind (printed by gen_dec2.py). -/
namespace Go.Proofs.Ytohblakhojhklaa
open Go.RowKit Go.Maps Sp

set_option maxRecDepth 20000 in
set_option maxHeartbeats 8000000 in
theorem wdec_3 (t x : Bs) (r : List Bs) (hm : t.length ≤ 10000000) (hk : kind t = 3) (hc : cut t = x :: r) (hr : r.length ≤ 4) (hkx : kind x = 1) (htx : text x = some (wordK 3)) (X : Option Msg) (hX : decK 3 r = X) (w : World) :
    Calls Try.prog 26 #[.string (ofL t)] w fun e w' => wdecPost X w e w' := by
  have hterms := (kind3_back hk).2.1
  rw [hc] at hterms
  have lx := term_len (hterms x (by simp))
  have hrl : ∀ y ∈ r, y.length ≤ 10000000 := fun y hy => Nat.le_trans (term_len (hterms y (by simp [hy]))) (by omega)
  have Hrl := hid hrl
  have hrow := fun W => wrow_ok t hm 1 5 hk (by rw [hc]; simp; omega) (by rw [hc]; simp; omega) W
  rw [hc] at hrow
  have htc := fun W => termText_calls x (by omega) W
  rw [htx] at htc
  have hkc := fun W => kind_calls x (by omega) W
  rw [hkx] at hkc
  have Hrow := hid hrow
  have HX := hid hX
  have Htx := hid htc
  have Hkd := hid hkc
  clear hX hrow hc hk htc hkc htx hkx hterms lx hm hrl
  go_enter Try.func26, Try.ntmps26
  go_wp2_with fail
  refine (Hrow.out _).mono ?_
  rintro e w1 ⟨v, rfl, hown, hb⟩
  obtain ⟨a0, cap, rfl, hs⟩ := hown.read
  obtain ⟨g, o0, rfl, h0⟩ := hs 0 (by simp)
  have ho0 : o0 = 0 := by
    rcases hown.2 with ⟨e, -⟩ | ⟨g', cap', cur, e, -⟩
    · cases e
    · cases e; rfl
  subst ho0
  have hcap : r.length + 1 ≤ cap ∧ cap ≤ maxLen := by
    rcases hown.2 with ⟨e, -⟩ | ⟨g', cap', cur, e, -, -, h1, h2, -⟩
    · cases e
    · cases e; exact ⟨h1, h2⟩
  have Hs := hid hs
  have Hb1 := hid (below_then ((Below.refl _ w).alloc (Nat.le_refl _) (.cells zeroMB 26)) (by simp) hb)
  have hbk : BlkAt w1 w.heap.size zeroMB 26 := (BlkAt.new w _ _).below hb
  have Hbk := hid hbk
  simp only [List.getElem_cons_zero, Nat.zero_add] at h0
  have hgl := World.block_lt_of_cell? _ _ h0
  simp only at hgl
  obtain ⟨rl, hrl⟩ : ∃ rl, r.length = rl := ⟨_, rfl⟩
  have Hrn := hid hrl
  simp only [List.length_cons]
  rw [hrl] at hr hcap ⊢
  clear hown hs hb hbk Hrow hrl
  go_wp2_with fail
  refine (Htx.out _).mono ?_
  rintro e2 w2 ⟨rfl, hb2⟩
  have h0 := (hb2.cell (p := ⟨g, 0, none⟩) hgl).trans h0
  have Hb2 := hid hb2
  have hgl2 := Nat.lt_of_lt_of_le hgl hb2.size
  clear hb2
  simp only [encOpt]
  go_wp2_with fail
  refine (Hkd.out _).mono ?_
  rintro e3 w3 ⟨rfl, hb3⟩
  have Hb3 := hid (bt0 Hb2.out hb3)
  clear hb3 h0 Hb2 Htx Hkd hgl2
  go_wp2_with fail
  refine (wmust_ok _).mono ?_
  rintro e4 w4 ⟨rfl, rfl⟩
  go_wp2_with fail
  refine (kinds_calls _).mono ?_
  rintro e5 w5 ⟨bm, rfl, hown, hge, hlt, hb5⟩
  have Hown := hid hown
  have Hb5 := hid (bt0 Hb3.out hb5)
  clear hown hge hb5
  go_wp2_with (first
    | (at_range; refine wpList_range_own _ rfl _ 65 rfl 5 64 law_u8 Try.underlying65 kR bm 6 kD rfl Hown.out ?_; intro wa hrg0 hg0 hs0)
    | fail)
  have HBa : Kp (Below w1.heap.size w1 wa) := hid (Hb5.out.grown hg0 Hb5.out.size (fun j hj => by cases hj))
  have Hrg0 := hid hrg0
  have hN1 : w1.heap.size ≤ w5.heap.size := Hb5.out.size
  have Hwo := hid hN1
  clear hrg0 hg0 hs0 Hown Hb5 hlt Hb3 hN1
  obtain ⟨wo, rfl⟩ : ∃ wo : World, wo = w5 := ⟨_, rfl⟩
  simp only [Act.put, List.setIfInBounds_toArray, List.set_cons_zero, List.set_cons_succ]
  go_loopw [3] (fun l3 wx => l3 = .slice (some ⟨g, 0, none⟩) (rl + 1) cap ∧ ∃ (left : Lit → Bool) (cnt : Nat), wx.ranges Try.prog 5 kR bm wo.heap.size 6 kD left cnt ∧ (left (.int .u8 3) = true) ∧ Below w1.heap.size w1 wx) (fun _ wx => wx.rangeLeft bm wo.heap.size)
  case atStart => exact ⟨rfl, _, _, Hrg0.out, (by show Maps.has kD (.int .u8 ((3 : Nat) : Int)) = true; rw [kD_has]; rfl), HBa.out⟩
  case round =>
    obtain ⟨rfl, left, cnt, hrg, hlf, hbx⟩ := hrel
    have Hrg := hid hrg
    have Hlf := hid hlf
    have Hbx := hid hbx
    clear hrg hlf hbx
    go_wp2_with (first
      | (at_next; refine wpList_next_kinds _ rfl rfl _ rfl bm wo.heap.size 6 _ _ rfl Hrg.out ?_ ?_)
      | fail)
    · intro hl0
      have h9 := Hlf.out
      rw [hl0] at h9
      cases h9
    · intro n w1x cnt1 h1n hn6 hrg1 hlt1 hg1 hs1 hen
      have Hbx1 : Kp (Below w1.heap.size w1 w1x) := hid (Hbx.out.grown hg1 Hbx.out.size (fun j hj => by injection hj with hj; subst hj; exact Hwo.out))
      have Hrg1 := hid hrg1
      have Hlt1 := hid hlt1
      clear hg1 hs1 hrg1 hlt1
      rcases (by omega : n = 1 ∨ n = 2 ∨ n = 3 ∨ n = 4 ∨ n = 5 ∨ n = 6) with rfl | rfl | rfl | rfl | rfl | rfl
      all_goals simp only [kindV] at hen ⊢
      case' inl =>
        go_wp2
        go_roundw
        case rel => exact ⟨rfl, _, cnt1, Hrg1.out.alloc _, (by rw [Hlf.out, sameKey_u8]; rfl), Hbx1.out.alloc Hbx1.out.size _⟩
        case measure => rw [(Hrg1.out.alloc _).left_eq, Hrg.out.left_eq]; exact Hlt1.out
      case' inr.inl =>
        go_wp2
        go_roundw
        case rel => exact ⟨rfl, _, cnt1, Hrg1.out.alloc _, (by rw [Hlf.out, sameKey_u8]; rfl), Hbx1.out.alloc Hbx1.out.size _⟩
        case measure => rw [(Hrg1.out.alloc _).left_eq, Hrg.out.left_eq]; exact Hlt1.out
      case' inr.inr.inr.inl =>
        go_wp2
        go_roundw
        case rel => exact ⟨rfl, _, cnt1, Hrg1.out.alloc _, (by rw [Hlf.out, sameKey_u8]; rfl), Hbx1.out.alloc Hbx1.out.size _⟩
        case measure => rw [(Hrg1.out.alloc _).left_eq, Hrg.out.left_eq]; exact Hlt1.out
      case' inr.inr.inr.inr.inl =>
        go_wp2
        go_roundw
        case rel => exact ⟨rfl, _, cnt1, Hrg1.out.alloc _, (by rw [Hlf.out, sameKey_u8]; rfl), Hbx1.out.alloc Hbx1.out.size _⟩
        case measure => rw [(Hrg1.out.alloc _).left_eq, Hrg.out.left_eq]; exact Hlt1.out
      case' inr.inr.inr.inr.inr =>
        go_wp2
        go_roundw
        case rel => exact ⟨rfl, _, cnt1, Hrg1.out.alloc _, (by rw [Hlf.out, sameKey_u8]; rfl), Hbx1.out.alloc Hbx1.out.size _⟩
        case measure => rw [(Hrg1.out.alloc _).left_eq, Hrg.out.left_eq]; exact Hlt1.out
      have HbK := hid ((Hbk.out.below Hbx1.out).alloc (.cells #[.string (ofL (wordK 3)), .int .i64 1, .int .i64 1, .func (.func 68) #[] #[], .func (.func 69) #[] #[], .func (.func 70) #[] #[]] 64))
      have HkK := hid (BlkAt.new w1x #[.string (ofL (wordK 3)), .int .i64 1, .int .i64 1, .func (.func 68) #[] #[], .func (.func 69) #[] #[], .func (.func 70) #[] #[]] 64)
      have Hbw := hid (Hbx1.out.alloc Hbx1.out.size (.cells #[.string (ofL (wordK 3)), .int .i64 1, .int .i64 1, .func (.func 68) #[] #[], .func (.func 69) #[] #[], .func (.func 70) #[] #[]] 64))
      have hng : w.heap.size ≠ g := fun e9 => by
        have h9 := Hbk.out.cell 0
        rw [e9, h0] at h9
        simp at h9
      have hnk : w.heap.size ≠ w1x.heap.size := by have := Hbk.out.lt; have := Hbx1.out.size; omega
      clear Hrg1 Hlt1 Hrg Hlf Hbx Hrg0 HBa Hwo h0
      rcases r with _ | ⟨a, _ | ⟨b, _ | ⟨c, _ | ⟨d, _ | ⟨z, r'⟩⟩⟩⟩⟩
      case' cons.cons.cons.cons.cons =>
        have h9 := Hrn.out
        simp only [List.length_cons] at h9
        omega
      all_goals
        have hrl := Hrn.out
        simp only [List.length_cons, List.length_nil, Nat.zero_add, Nat.reduceAdd] at hrl
        subst hrl
        clear Hrn hr
      · obtain ⟨cp, rfl⟩ : ∃ cp, cap = cp + 1 := ⟨cap - 1, by omega⟩
        clear hcap
        rcases cp with _ | cp
        all_goals
          have c0 := HbK.out.val 0 rfl
          have f0 := HbK.out.frozen 0
          go_wp2_with fail
          go_region_held2 (fun _ => True) (trivial) (fail)
          refine gen_world (P := fun V => WDec w g w1x.heap.size (x :: []) 3 ⟨0, 0, 0⟩ #[.string (ofL (wordK 3)), .int .i64 1, .int .i64 1, .func (.func 68) #[] #[], .func (.func 69) #[] #[], .func (.func 70) #[] #[]] V) _ (by first | exact (WDec.first (n := 3) HbK.out HkK.out Hs.out Hbw.out Hb1.out hng hnk).drew | exact WDec.first (n := 3) HbK.out HkK.out Hs.out Hbw.out Hb1.out hng hnk) ?_
          intro W8 hd8
          have HD8 := hid hd8
          clear hd8 c0 f0 HbK HkK Hbw
          go_wp2_with fail
          refine (wmust_no _).mono ?_
          rintro e9 w9 ⟨rfl, rfl⟩
          refine ⟨rfl, ?_⟩
          rw [← HX.out]
          exact ⟨rfl, HD8.out.bl⟩
      · obtain ⟨cp, rfl⟩ : ∃ cp, cap = cp + 2 := ⟨cap - 2, by omega⟩
        clear hcap
        rcases cp with _ | cp
        all_goals
          have c0 := HbK.out.val 0 rfl
          have f0 := HbK.out.frozen 0
          go_wp2_with fail
          go_region_held2 (fun _ => True) (trivial) (fail)
          refine gen_world (P := fun V => WDec w g w1x.heap.size (x :: [a]) 3 ⟨0, 0, 0⟩ #[.string (ofL (wordK 3)), .int .i64 1, .int .i64 1, .func (.func 68) #[] #[], .func (.func 69) #[] #[], .func (.func 70) #[] #[]] V) _ (by first | exact (WDec.first (n := 3) HbK.out HkK.out Hs.out Hbw.out Hb1.out hng hnk).drew | exact WDec.first (n := 3) HbK.out HkK.out Hs.out Hbw.out Hb1.out hng hnk) ?_
          intro W8 hd8
          have HD8 := hid hd8
          clear hd8 c0 f0 HbK HkK Hbw
          have la : a.length ≤ 10000000 := Hrl.out a (by simp)
          go_wp2_with fail
          refine (wmust_ok _).mono ?_
          rintro e9 w9 ⟨rfl, rfl⟩
          have a1 := strs_cell HD8.out.strs 1 (y := a) rfl
          have HDr := hid HD8.out.drew
          go_wp2_with fail
          refine wp_region_panicSame w.heap.size w thrownW (X = none) (fun a w' hd hE h => ?_) ?_
          · refine ⟨hd, ?_⟩
            rw [hE]
            exact ⟨rfl, h⟩
          go_region_held2 (fun w' => w'.cell? ⟨g, 1, none⟩ = some (.string (ofL a)))
            ((go_split_ands; (with_reducible (repeat refine cell_setF (by assumption) ?_)) <;> (with_reducible first | assumption | skip) <;> first | exact a1 | exact cell_drew a1))
            (first
              | (go_at_call 53; (go_split_ands; with_reducible refine (untxn_calls a (by omega) _).mono ?_; rintro e9 wn ⟨he, hbn⟩; have hd9 := (show WDec w g w1x.heap.size (x :: [a]) 3 ⟨0, 0, 0⟩ #[.string (ofL (wordK 3)), .int .i64 1, .int .i64 1, .func (.func 68) #[] #[], .func (.func 69) #[] #[], .func (.func 70) #[] #[]] wn from (by first | exact HD8.out.keep hbn | exact HDr.out.keep hbn)); generalize kn : untxn a = on at he; rcases on with _ | ⟨c9, e9, s9⟩; (focus (simp only [txnEnd] at he; subst he; exact PanicSame.panic hd9.bl (show X = none from by rw [← HX.out]; exact decK_no (by decide) kn) (by rfl))); simp only [txnEnd, txnV] at he; subst he; have z1 := hd9.blk.val 1 rfl; have z2 := hd9.blk.val 2 rfl; have z3 := hd9.blk.val 3 rfl; have g1 := hd9.blk.frozen 1; have g2 := hd9.blk.frozen 2; have g3 := hd9.blk.frozen 3; have y1 := strs_cell hd9.strs 1 (y := a) rfl)))
          refine PanicSame.normal ?_
          with_reducible (try (rename World.cell? (World.setCell _ _ _) _ = _ => hheld; clear hheld))
          refine gen_world (P := fun V => WDec w g w1x.heap.size (x :: [a]) 3 ⟨c9, e9, s9⟩ #[.string (ofL (wordK 3)), .int .i64 1, .int .i64 1, .func (.func 68) #[] #[], .func (.func 69) #[] #[], .func (.func 70) #[] #[]] V) _ (by first | exact (hd9.txn c9 e9 s9).drew | exact hd9.txn c9 e9 s9) ?_
          intro W10 hd10
          have HXb : Kp (decT 3 ⟨c9, e9, s9⟩ [] = X) := hid ((decK_some (by decide) kn).symm.trans HX.out)
          have HD10 := hid hd10
          clear hd10 hd9 z1 z2 z3 g1 g2 g3 y1 a1 HD8 HDr kn HX la
          have k1 := HD10.out.kd.val 1 rfl
          have k2 := HD10.out.kd.val 2 rfl
          go_wp2_with fail
          refine (wmust_no _).mono ?_
          rintro e11 w11 ⟨rfl, rfl⟩
          refine ⟨rfl, ?_⟩
          rw [← HXb.out]
          exact ⟨rfl, HD10.out.bl⟩
      · obtain ⟨cp, rfl⟩ : ∃ cp, cap = cp + 3 := ⟨cap - 3, by omega⟩
        clear hcap
        have c0 := HbK.out.val 0 rfl
        have f0 := HbK.out.frozen 0
        go_wp2_with fail
        go_region_held2 (fun _ => True) (trivial) (fail)
        refine gen_world (P := fun V => WDec w g w1x.heap.size (x :: [a, b]) 3 ⟨0, 0, 0⟩ #[.string (ofL (wordK 3)), .int .i64 1, .int .i64 1, .func (.func 68) #[] #[], .func (.func 69) #[] #[], .func (.func 70) #[] #[]] V) _ (by first | exact (WDec.first (n := 3) HbK.out HkK.out Hs.out Hbw.out Hb1.out hng hnk).drew | exact WDec.first (n := 3) HbK.out HkK.out Hs.out Hbw.out Hb1.out hng hnk) ?_
        intro W8 hd8
        have HD8 := hid hd8
        clear hd8 c0 f0 HbK HkK Hbw
        have la : a.length ≤ 10000000 := Hrl.out a (by simp)
        go_wp2_with fail
        refine (wmust_ok _).mono ?_
        rintro e9 w9 ⟨rfl, rfl⟩
        have a1 := strs_cell HD8.out.strs 1 (y := a) rfl
        have HDr := hid HD8.out.drew
        go_wp2_with fail
        refine wp_region_panicSame w.heap.size w thrownW (X = none) (fun a w' hd hE h => ?_) ?_
        · refine ⟨hd, ?_⟩
          rw [hE]
          exact ⟨rfl, h⟩
        go_region_held2 (fun w' => w'.cell? ⟨g, 1, none⟩ = some (.string (ofL a)))
          ((go_split_ands; (with_reducible (repeat refine cell_setF (by assumption) ?_)) <;> (with_reducible first | assumption | skip) <;> first | exact a1 | exact cell_drew a1))
          (first
            | (go_at_call 53; (go_split_ands; with_reducible refine (untxn_calls a (by omega) _).mono ?_; rintro e9 wn ⟨he, hbn⟩; have hd9 := (show WDec w g w1x.heap.size (x :: [a, b]) 3 ⟨0, 0, 0⟩ #[.string (ofL (wordK 3)), .int .i64 1, .int .i64 1, .func (.func 68) #[] #[], .func (.func 69) #[] #[], .func (.func 70) #[] #[]] wn from (by first | exact HD8.out.keep hbn | exact HDr.out.keep hbn)); generalize kn : untxn a = on at he; rcases on with _ | ⟨c9, e9, s9⟩; (focus (simp only [txnEnd] at he; subst he; exact PanicSame.panic hd9.bl (show X = none from by rw [← HX.out]; exact decK_no (by decide) kn) (by rfl))); simp only [txnEnd, txnV] at he; subst he; have z1 := hd9.blk.val 1 rfl; have z2 := hd9.blk.val 2 rfl; have z3 := hd9.blk.val 3 rfl; have g1 := hd9.blk.frozen 1; have g2 := hd9.blk.frozen 2; have g3 := hd9.blk.frozen 3; have y1 := strs_cell hd9.strs 1 (y := a) rfl)))
        refine PanicSame.normal ?_
        with_reducible (try (rename World.cell? (World.setCell _ _ _) _ = _ => hheld; clear hheld))
        refine gen_world (P := fun V => WDec w g w1x.heap.size (x :: [a, b]) 3 ⟨c9, e9, s9⟩ #[.string (ofL (wordK 3)), .int .i64 1, .int .i64 1, .func (.func 68) #[] #[], .func (.func 69) #[] #[], .func (.func 70) #[] #[]] V) _ (by first | exact (hd9.txn c9 e9 s9).drew | exact hd9.txn c9 e9 s9) ?_
        intro W10 hd10
        have HXb : Kp (decT 3 ⟨c9, e9, s9⟩ [b] = X) := hid ((decK_some (by decide) kn).symm.trans HX.out)
        have HD10 := hid hd10
        clear hd10 hd9 z1 z2 z3 g1 g2 g3 y1 a1 HD8 HDr kn HX la
        have k1 := HD10.out.kd.val 1 rfl
        have k2 := HD10.out.kd.val 2 rfl
        go_wp2_with fail
        refine (wmust_ok _).mono ?_
        rintro e11 w11 ⟨rfl, rfl⟩
        obtain ⟨R, hR⟩ : ∃ R, getK 3 ⟨3, ⟨c9, e9, s9⟩, 0, [], [], false, []⟩ [b] = R := ⟨_, rfl⟩
        have s0 := strs_cell HD10.out.strs 2 (y := b) rfl
        have l0 : b.length ≤ 10000000 := Hrl.out b (by simp)
        have hg := fun cap => get3_calls ⟨3, ⟨c9, e9, s9⟩, 0, [], [], false, []⟩ rfl w.heap.size g cap b W10 HD10.out.blk s0 l0
        simp only [hR] at hg
        have Hg := hid hg
        have k5 := HD10.out.kd.val 5 rfl
        clear hg s0 l0
        go_wp2_with fail
        refine (Hg.out _).mono ?_
        rintro e13 w13 hp
        rcases R with _ | m9
        · obtain ⟨rfl, hb13⟩ := hp
          refine ⟨rfl, ?_⟩
          rw [show X = none from by rw [← HXb.out]; unfold decT; rw [hR]]
          exact ⟨rfl, HD10.out.bl.trans hb13⟩
        obtain ⟨rfl, ⟨am, cm, hbk9, hm9⟩, hb13⟩ := hp
        obtain ⟨j1, j2, j3, j4, j5⟩ := getK_lim (by omega) (fun y hy => Hrl.out y (by first | exact hy | exact List.mem_cons_of_mem _ hy)) hR
        have hmsg : MsgAt m9 am m9.mems.length cm w13 := ⟨rfl, j2, j3, j1, j4, j5, hm9.at_⟩
        have hck := wcheck_calls m9 am m9.mems.length cm w13 hmsg
        have HXc : Kp ((if mayM m9 then some m9 else none) = X) := hid (by rw [← HXb.out]; unfold decT; rw [hR])
        have Hb13 := hid (HD10.out.bl.trans hb13)
        obtain ⟨k9, ⟨tc, te, ts⟩, aud9, l9, body9, yes9, tag9⟩ := m9
        simp only [msgV, msgCells] at hck hbk9
        have Hbk9 := hid hbk9
        have Hm9 := hid hm9
        have c0 := hbk9.val 0 rfl
        have c1 := hbk9.val 1 rfl
        have c2 := hbk9.val 2 rfl
        have c3 := hbk9.val 3 rfl
        have c4 := hbk9.val 4 rfl
        have c5 := hbk9.val 5 rfl
        have c6 := hbk9.val 6 rfl
        have c7 := hbk9.val 7 rfl
        have c8 := hbk9.val 8 rfl
        cases hmay : mayM ⟨k9, ⟨tc, te, ts⟩, aud9, l9, body9, yes9, tag9⟩ with
        | false =>
          have HX9 : Kp (X = none) := hid (by rw [← HXc.out, hmay]; rfl)
          rw [hmay] at hck
          have Hck := hid hck
          clear hck hmay HXc hmsg hR hbk9 hm9 hb13 j1 j2 j3 j4 j5
          go_wp2_with fail
          refine Hck.out.mono ?_
          rintro e14 w14 ⟨rfl, hb14⟩
          have Hb14 := hid (below_then Hb13.out Hb13.out.size hb14)
          clear hb14
          go_wp2_with fail
          refine (wmust_no _).mono ?_
          rintro e15 w15 ⟨rfl, rfl⟩
          refine ⟨rfl, ?_⟩
          rw [HX9.out]
          exact ⟨rfl, Hb14.out⟩
        | true =>
          have HX9 : Kp (X = some ⟨k9, ⟨tc, te, ts⟩, aud9, l9, body9, yes9, tag9⟩) := hid (by rw [← HXc.out, hmay]; rfl)
          rw [hmay] at hck
          have Hck := hid hck
          clear hck hmay HXc hmsg hR hbk9 hm9 hb13 j1 j2 j3 j4 j5
          go_wp2_with fail
          refine Hck.out.mono ?_
          rintro e14 w14 ⟨rfl, hb14⟩
          have Hb14 := hid (below_then Hb13.out Hb13.out.size hb14)
          have Hbk14 := hid (Hbk9.out.below hb14)
          have Hm14 := hid (Hm9.out.below hb14)
          clear hb14 c0 c1 c2 c3 c4 c5 c6 c7 c8
          go_wp2_with fail
          refine (wmust_ok _).mono ?_
          rintro e15 w15 ⟨rfl, rfl⟩
          have c0 := Hbk14.out.val 0 rfl
          have c1 := Hbk14.out.val 1 rfl
          have c2 := Hbk14.out.val 2 rfl
          have c3 := Hbk14.out.val 3 rfl
          have c4 := Hbk14.out.val 4 rfl
          have c5 := Hbk14.out.val 5 rfl
          have c6 := Hbk14.out.val 6 rfl
          have c7 := Hbk14.out.val 7 rfl
          have c8 := Hbk14.out.val 8 rfl
          have f0 := Hbk14.out.frozen 0
          have f1 := Hbk14.out.frozen 1
          have f2 := Hbk14.out.frozen 2
          have f3 := Hbk14.out.frozen 3
          have f4 := Hbk14.out.frozen 4
          have f5 := Hbk14.out.frozen 5
          have f6 := Hbk14.out.frozen 6
          have f7 := Hbk14.out.frozen 7
          have f8 := Hbk14.out.frozen 8
          go_wp2_with fail
          refine bodyPost_ret (v := .agg #[.int .u8 k9, .int .i64 tc, .int .i64 te, .int .i64 ts, .int .i64 aud9, .slice am l9.length cm, .string (ofL body9), .bool yes9, .string (ofL tag9)]) (by simp [results, Try.results26, go_sem, c0, c1, c2, c3, c4, c5, c6, c7, c8]) rfl ?_
          rw [HX9.out]
          refine ⟨⟨am, cm, rfl, ?_⟩, ?_⟩
          · show OwnMems w.heap.size _ (.slice am l9.length cm) l9
            refine OwnMems.mono (base := w.heap.size + 1) ?_ (Nat.le_succ _)
            exact ownMems_far9 Hm14.out
          · exact below_far9 Hb14.out (Nat.le_refl _)
      · obtain ⟨cp, rfl⟩ : ∃ cp, cap = cp + 4 := ⟨cap - 4, by omega⟩
        clear hcap
        have c0 := HbK.out.val 0 rfl
        have f0 := HbK.out.frozen 0
        go_wp2_with fail
        go_region_held2 (fun _ => True) (trivial) (fail)
        refine gen_world (P := fun V => WDec w g w1x.heap.size (x :: [a, b, c]) 3 ⟨0, 0, 0⟩ #[.string (ofL (wordK 3)), .int .i64 1, .int .i64 1, .func (.func 68) #[] #[], .func (.func 69) #[] #[], .func (.func 70) #[] #[]] V) _ (by first | exact (WDec.first (n := 3) HbK.out HkK.out Hs.out Hbw.out Hb1.out hng hnk).drew | exact WDec.first (n := 3) HbK.out HkK.out Hs.out Hbw.out Hb1.out hng hnk) ?_
        intro W8 hd8
        have HD8 := hid hd8
        clear hd8 c0 f0 HbK HkK Hbw
        have la : a.length ≤ 10000000 := Hrl.out a (by simp)
        go_wp2_with fail
        refine (wmust_ok _).mono ?_
        rintro e9 w9 ⟨rfl, rfl⟩
        have a1 := strs_cell HD8.out.strs 1 (y := a) rfl
        have HDr := hid HD8.out.drew
        go_wp2_with fail
        refine wp_region_panicSame w.heap.size w thrownW (X = none) (fun a w' hd hE h => ?_) ?_
        · refine ⟨hd, ?_⟩
          rw [hE]
          exact ⟨rfl, h⟩
        go_region_held2 (fun w' => w'.cell? ⟨g, 1, none⟩ = some (.string (ofL a)))
          ((go_split_ands; (with_reducible (repeat refine cell_setF (by assumption) ?_)) <;> (with_reducible first | assumption | skip) <;> first | exact a1 | exact cell_drew a1))
          (first
            | (go_at_call 53; (go_split_ands; with_reducible refine (untxn_calls a (by omega) _).mono ?_; rintro e9 wn ⟨he, hbn⟩; have hd9 := (show WDec w g w1x.heap.size (x :: [a, b, c]) 3 ⟨0, 0, 0⟩ #[.string (ofL (wordK 3)), .int .i64 1, .int .i64 1, .func (.func 68) #[] #[], .func (.func 69) #[] #[], .func (.func 70) #[] #[]] wn from (by first | exact HD8.out.keep hbn | exact HDr.out.keep hbn)); generalize kn : untxn a = on at he; rcases on with _ | ⟨c9, e9, s9⟩; (focus (simp only [txnEnd] at he; subst he; exact PanicSame.panic hd9.bl (show X = none from by rw [← HX.out]; exact decK_no (by decide) kn) (by rfl))); simp only [txnEnd, txnV] at he; subst he; have z1 := hd9.blk.val 1 rfl; have z2 := hd9.blk.val 2 rfl; have z3 := hd9.blk.val 3 rfl; have g1 := hd9.blk.frozen 1; have g2 := hd9.blk.frozen 2; have g3 := hd9.blk.frozen 3; have y1 := strs_cell hd9.strs 1 (y := a) rfl)))
        refine PanicSame.normal ?_
        with_reducible (try (rename World.cell? (World.setCell _ _ _) _ = _ => hheld; clear hheld))
        refine gen_world (P := fun V => WDec w g w1x.heap.size (x :: [a, b, c]) 3 ⟨c9, e9, s9⟩ #[.string (ofL (wordK 3)), .int .i64 1, .int .i64 1, .func (.func 68) #[] #[], .func (.func 69) #[] #[], .func (.func 70) #[] #[]] V) _ (by first | exact (hd9.txn c9 e9 s9).drew | exact hd9.txn c9 e9 s9) ?_
        intro W10 hd10
        have HXb : Kp (decT 3 ⟨c9, e9, s9⟩ [b, c] = X) := hid ((decK_some (by decide) kn).symm.trans HX.out)
        have HD10 := hid hd10
        clear hd10 hd9 z1 z2 z3 g1 g2 g3 y1 a1 HD8 HDr kn HX la
        have k1 := HD10.out.kd.val 1 rfl
        have k2 := HD10.out.kd.val 2 rfl
        go_wp2_with fail
        refine (wmust_no _).mono ?_
        rintro e11 w11 ⟨rfl, rfl⟩
        refine ⟨rfl, ?_⟩
        rw [← HXb.out]
        exact ⟨rfl, HD10.out.bl⟩
      · obtain ⟨cp, rfl⟩ : ∃ cp, cap = cp + 5 := ⟨cap - 5, by omega⟩
        clear hcap
        have c0 := HbK.out.val 0 rfl
        have f0 := HbK.out.frozen 0
        go_wp2_with fail
        go_region_held2 (fun _ => True) (trivial) (fail)
        refine gen_world (P := fun V => WDec w g w1x.heap.size (x :: [a, b, c, d]) 3 ⟨0, 0, 0⟩ #[.string (ofL (wordK 3)), .int .i64 1, .int .i64 1, .func (.func 68) #[] #[], .func (.func 69) #[] #[], .func (.func 70) #[] #[]] V) _ (by first | exact (WDec.first (n := 3) HbK.out HkK.out Hs.out Hbw.out Hb1.out hng hnk).drew | exact WDec.first (n := 3) HbK.out HkK.out Hs.out Hbw.out Hb1.out hng hnk) ?_
        intro W8 hd8
        have HD8 := hid hd8
        clear hd8 c0 f0 HbK HkK Hbw
        have la : a.length ≤ 10000000 := Hrl.out a (by simp)
        go_wp2_with fail
        refine (wmust_ok _).mono ?_
        rintro e9 w9 ⟨rfl, rfl⟩
        have a1 := strs_cell HD8.out.strs 1 (y := a) rfl
        have HDr := hid HD8.out.drew
        go_wp2_with fail
        refine wp_region_panicSame w.heap.size w thrownW (X = none) (fun a w' hd hE h => ?_) ?_
        · refine ⟨hd, ?_⟩
          rw [hE]
          exact ⟨rfl, h⟩
        go_region_held2 (fun w' => w'.cell? ⟨g, 1, none⟩ = some (.string (ofL a)))
          ((go_split_ands; (with_reducible (repeat refine cell_setF (by assumption) ?_)) <;> (with_reducible first | assumption | skip) <;> first | exact a1 | exact cell_drew a1))
          (first
            | (go_at_call 53; (go_split_ands; with_reducible refine (untxn_calls a (by omega) _).mono ?_; rintro e9 wn ⟨he, hbn⟩; have hd9 := (show WDec w g w1x.heap.size (x :: [a, b, c, d]) 3 ⟨0, 0, 0⟩ #[.string (ofL (wordK 3)), .int .i64 1, .int .i64 1, .func (.func 68) #[] #[], .func (.func 69) #[] #[], .func (.func 70) #[] #[]] wn from (by first | exact HD8.out.keep hbn | exact HDr.out.keep hbn)); generalize kn : untxn a = on at he; rcases on with _ | ⟨c9, e9, s9⟩; (focus (simp only [txnEnd] at he; subst he; exact PanicSame.panic hd9.bl (show X = none from by rw [← HX.out]; exact decK_no (by decide) kn) (by rfl))); simp only [txnEnd, txnV] at he; subst he; have z1 := hd9.blk.val 1 rfl; have z2 := hd9.blk.val 2 rfl; have z3 := hd9.blk.val 3 rfl; have g1 := hd9.blk.frozen 1; have g2 := hd9.blk.frozen 2; have g3 := hd9.blk.frozen 3; have y1 := strs_cell hd9.strs 1 (y := a) rfl)))
        refine PanicSame.normal ?_
        with_reducible (try (rename World.cell? (World.setCell _ _ _) _ = _ => hheld; clear hheld))
        refine gen_world (P := fun V => WDec w g w1x.heap.size (x :: [a, b, c, d]) 3 ⟨c9, e9, s9⟩ #[.string (ofL (wordK 3)), .int .i64 1, .int .i64 1, .func (.func 68) #[] #[], .func (.func 69) #[] #[], .func (.func 70) #[] #[]] V) _ (by first | exact (hd9.txn c9 e9 s9).drew | exact hd9.txn c9 e9 s9) ?_
        intro W10 hd10
        have HXb : Kp (decT 3 ⟨c9, e9, s9⟩ [b, c, d] = X) := hid ((decK_some (by decide) kn).symm.trans HX.out)
        have HD10 := hid hd10
        clear hd10 hd9 z1 z2 z3 g1 g2 g3 y1 a1 HD8 HDr kn HX la
        have k1 := HD10.out.kd.val 1 rfl
        have k2 := HD10.out.kd.val 2 rfl
        go_wp2_with fail
        refine (wmust_no _).mono ?_
        rintro e11 w11 ⟨rfl, rfl⟩
        refine ⟨rfl, ?_⟩
        rw [← HXb.out]
        exact ⟨rfl, HD10.out.bl⟩
end Go.Proofs.Ytohblakhojhklaa
