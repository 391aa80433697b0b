import Derived.Test.YtohblakhojhklaaWwenc
import Derived.Laws.AppendOwnNone
/- The walks of wire.Encode at each kind (printed by gen_enc.py). -/
namespace Go.Proofs.Ytohblakhojhklaa
open Go.RowKit Go.Maps Sp

set_option maxRecDepth 20000 in
set_option maxHeartbeats 8000000 in
theorem wenc_4 (c e s aud : Int) (l : List Mem) (body tag : Bs) (yes : Bool) (am : Option Addr) (nm cm : Nat) (w : World) (h : MsgAt ⟨4, ⟨c, e, s⟩, aud, l, body, yes, tag⟩ am nm cm w) (hmay : mayM ⟨4, ⟨c, e, s⟩, aud, l, body, yes, tag⟩ = true) (X : Except Nat Bs) (hX : encM ⟨4, ⟨c, e, s⟩, aud, l, body, yes, tag⟩ = X) :
    Calls Try.prog 8 #[msgV ⟨4, ⟨c, e, s⟩, aud, l, body, yes, tag⟩ am nm cm] w fun e w' => e = .returned (encMade X) ∧ Below w.heap.size w w' := by
  have HB := hid ((Below.refl w.heap.size w).alloc (Nat.le_refl _) (.cells #[.int .u8 4, .int .i64 c, .int .i64 e, .int .i64 s, .int .i64 aud, .slice am nm cm, .string (ofL body), .bool yes, .string (ofL tag)] 26))
  have Hbk := hid (BlkAt.new w #[.int .u8 4, .int .i64 c, .int .i64 e, .int .i64 s, .int .i64 aud, .slice am nm cm, .string (ofL body), .bool yes, .string (ofL tag)] 26)
  have hc := wcheck_calls ⟨4, ⟨c, e, s⟩, aud, l, body, yes, tag⟩ am nm cm _ (h.below HB.out)
  rw [hmay] at hc
  have Hc := hid hc
  have Hmsg := hid (fun W (hb : Below w.heap.size w W) => h.below hb)
  have HX := hid hX
  have Hd := hid (fun W => data_calls (wordK 4) (by have := word_short 4; omega) W)
  have hdd : encMade (data (wordK 4)) = .tuple #[.string (ofL (wordD 4)), .int .i64 0] := by rw [data_ok (word_short 4), wordD_is]; rfl
  rw [hdd] at Hd
  obtain ⟨i0, hi0, hz0, hz1, hz2⟩ := info_parts info_string
  obtain ⟨tm, htm⟩ : ∃ tm, orNo (txnT ⟨c, e, s⟩) = tm := ⟨_, rfl⟩
  have Htx := hid (fun W => txn_calls ⟨c, e, s⟩ W)
  obtain ⟨ty, hty⟩ := txnT_or ⟨c, e, s⟩
  rw [hty, htm] at Htx
  have htl : tm.length ≤ 16384 := by rw [← htm]; exact orTxn_len _
  have HP : Kp (partsM ⟨4, ⟨c, e, s⟩, aud, l, body, yes, tag⟩ = [wordD 4, tm] ++ putK 4 ⟨4, ⟨c, e, s⟩, aud, l, body, yes, tag⟩) := hid (by unfold partsM; rw [htm]; rfl)
  simp only [txnV] at Htx
  have Hput := hid (fun W => put4n_calls ⟨4, ⟨c, e, s⟩, aud, l, body, yes, tag⟩ am nm cm W)
  simp only [msgV] at Hput
  have HMAY := hid hmay
  clear hdd hc h hX hmay hty htm
  simp only [msgV] at Hc ⊢
  have Hlk : Kp (∀ (W : World) (b n : Nat), W.ownsMap Try.prog 5 kR b n kD → (Instr.lookup 65 (.map (some b)) (.int .u8 4) false).run Try.prog W = .ok (.agg #[.string (ofL (wordK 4)), .int .i64 0, .int .i64 0, .func (.func 84) #[] #[], .func (.func 85) #[] #[], .func (.func 86) #[] #[]]) W) := hid (fun W b n ho => (kinds_look (k := 4) (by omega) ho).2)
  go_enter Try.func8, Try.ntmps8
  go_wp2_with fail
  refine Hc.out.mono ?_
  rintro e1 w1 ⟨rfl, hb1⟩
  have HB1 := hid (below_then HB.out HB.out.size hb1)
  have HBK1 := hid (Hbk.out.below hb1)
  have c0 := HBK1.out.val 0 rfl
  have hne1 : w1.heap.size ≠ w.heap.size := by have := HBK1.out.lt; omega
  clear hb1 Hc Hbk HB
  go_wp2_with fail
  go_region_held2 (fun w' => w'.cell? ⟨w.heap.size, 0, none⟩ = some (.int .u8 4))
    ((go_split_ands; (with_reducible (repeat (first | refine cell_setF (by assumption) ?_))) <;> (with_reducible first | assumption | exact cell_alloc_of _ (by assumption) | skip) <;> with_reducible first | exact c0 | exact cell_alloc_of _ c0 | exact cell_alloc_drew _ c0 | exact cell_drew c0))
    (first
      | (go_at_call 27; (go_split_ands; refine (kinds_calls _).mono ?_; rintro e9 wn ⟨bm, rfl, hown, -, -, hbn⟩; have hl1 := Hlk.out _ _ _ hown; have hl2 := Hlk.out _ _ _ hown.drew; have hl3 := Hlk.out _ _ _ (hown.kept (World.grownBy_alloc wn (.cells #[.string ⟨#[]⟩, .int .i64 0, .int .i64 0, .nilFunc, .nilFunc, .nilFunc] 64) none) (by simp)); have hl4 := Hlk.out _ _ _ (hown.drew.kept (World.grownBy_alloc wn.drew (.cells #[.string ⟨#[]⟩, .int .i64 0, .int .i64 0, .nilFunc, .nilFunc, .nilFunc] 64) none) (by simp)); have hk0 : Below w1.heap.size w1 wn := (by first | exact hbn | exact btd hbn | exact bt1 (Below.refl _ _) hbn | exact bt0 (((Below.refl _ _).alloc (Nat.le_refl _) _).drew) hbn); have hbk := HBK1.out.below hk0; have u0 := hbk.val 0 rfl; clear hbk; first | (have hbz : BlkAt wn w1.heap.size #[.string ⟨#[]⟩, .int .i64 0, .int .i64 0, .nilFunc, .nilFunc, .nilFunc] 64 := (BlkAt.new w1 _ _).drew.below hbn; have z0 := hbz.val 0 rfl; have z1 := hbz.val 1 rfl; have z2 := hbz.val 2 rfl; have z3 := hbz.val 3 rfl; have z4 := hbz.val 4 rfl; have z5 := hbz.val 5 rfl; have g0 := hbz.frozen 0; have g1 := hbz.frozen 1; have g2 := hbz.frozen 2; have g3 := hbz.frozen 3; have g4 := hbz.frozen 4; have g5 := hbz.frozen 5) | skip)))
  all_goals
    go_split_ands
    refine gen3 (fun b W => BlkAt W b #[.string (ofL (wordK 4)), .int .i64 0, .int .i64 0, .func (.func 84) #[] #[], .func (.func 85) #[] #[], .func (.func 86) #[] #[]] 64 ∧ Below w1.heap.size w1 W) (by first | exact ⟨(((((hbz.set 0 _).set 1 _).set 2 _).set 3 _).set 4 _).set 5 _, below_set (below_set (below_set (below_set (below_set (below_set hk0 (by simp) _) (by simp) _) (by simp) _) (by simp) _) (by simp) _) (by simp) _⟩ | with_reducible exact ⟨BlkAt.new _ _ _, hk0.alloc hk0.size _⟩ | with_reducible exact ⟨BlkAt.new _ _ _, hk0.drew.alloc hk0.size _⟩) ?_
  all_goals
    rintro W9 ⟨hz9, hb9⟩
    have HB9 := hid (below_then HB1.out HB1.out.size hb9)
    have HBK9 := hid (HBK1.out.below hb9)
    have HZ9 := hid hz9
    with_reducible (try (rename World.cell? (World.setCell _ _ _) _ = _ => hheld; clear hheld))
    clear hz9 hb9 hk0 hbn u0 hl1 hl2 c0 hne1 Hlk HB1 HBK1
    (try clear hl3 hl4 hown)
    (try clear hbz z0 z1 z2 z3 z4 z5 g0 g1 g2 g3 g4 g5)
    have z0 := HZ9.out.val 0 rfl
    go_wp2_with fail
    refine (Hd.out _).mono ?_
    rintro e10 w10 ⟨rfl, hb10⟩
    have HB10 := hid (below_then HB9.out HB9.out.size hb10)
    have HBK10 := hid (HBK9.out.below hb10)
    have HZ10 := hid (HZ9.out.below hb10)
    clear hb10 z0 HB9 HBK9 HZ9
    have hA := (Below.refl w10.heap.size w10).alloc (Nat.le_refl _) (.cells #[.string (ofL (wordD 4))] 9)
    have HOA := hid (ownStrs_one w10 (wordD 4))
    have c0 := (HBK10.out.below hA).val 0 rfl
    have c1 := (HBK10.out.below hA).val 1 rfl
    have c2 := (HBK10.out.below hA).val 2 rfl
    have c3 := (HBK10.out.below hA).val 3 rfl
    have HA := hid hA
    clear hA
    go_wp2_with fail
    refine (Htx.out _).mono ?_
    rintro e12 w12 ⟨rfl, hb12⟩
    have hown := HOA.out.below hb12
    have hE := below_then HA.out HA.out.size hb12
    have hEs := hE.size
    have HE := hid hE
    clear hE hb12 c0 c1 c2 c3 HOA
    go_wp2_with (first | (at_builtin; refine wpList_append_lies _ rfl _ _ _ rfl w10.heap.size 9 i0 _ 1 16 Try.underlying55 hi0 hz0 hz1 hz2 rfl (by omega) (.slice (some ⟨w10.heap.size, 0, none⟩) 1 1) 1 ([wordD 4].map strV) rfl (hown.alloc _) ⟨w12.heap.size, 0, none⟩ 1 1 [strV tm] rfl rfl (World.news_of_block (cs := #[strV tm]) (t := 9) (fr := (0, 0)) (heap_alloc_new w12 _)) (by simp [Value.oneCell', strV]) (by omega) (by unfold maxLen; omega) (by omega) (by simp; omega) (w12.heap.size + 1) (by simp) ?_; intro gg cap2 w13 hown13 hgrow hat hlt2; have hb13 : Below w10.heap.size w10 w13 := (HE.out.alloc hEs _).grown hgrow (by simp; omega) (fun j hj => (hown.lt j hj).1); have HBK13 := hid (HBK10.out.below hb13); have HZ13 := hid (HZ10.out.below hb13); have c0 := HBK13.out.val 0 rfl; have c1 := HBK13.out.val 1 rfl; have c2 := HBK13.out.val 2 rfl; have c3 := HBK13.out.val 3 rfl; have c4 := HBK13.out.val 4 rfl; have c5 := HBK13.out.val 5 rfl; have c6 := HBK13.out.val 6 rfl; have c7 := HBK13.out.val 7 rfl; have c8 := HBK13.out.val 8 rfl; have z4 := HZ13.out.val 4 rfl))
    have HO13 : Kp (OwnStrs w10.heap.size w13 (.slice (some ⟨gg, 0, none⟩) 2 cap2) [wordD 4, tm]) := hid hown13
    have HB13 := hid (below_then HB10.out HB10.out.size hb13)
    have HS13 := hid hb13.size
    clear hown13 hgrow hat hown hb13 HE hEs HBK10 HZ10 HA HB10
    refine (Hput.out _).mono ?_
    rintro e14 w14 ⟨rfl, hb14⟩
    have hown := HO13.out.below hb14
    have HB14 := hid (below_then HB13.out HB13.out.size hb14)
    clear hb14 HB13 HBK13 HZ13 c0 c1 c2 c3 c4 c5 c6 c7 c8 z4
    go_wp2_with (first | (at_builtin; refine wpList_append_own_none rfl _ _ _ rfl w10.heap.size 9 i0 1 Try.underlying55 hi0 (.slice (some ⟨gg, 0, none⟩) 2 cap2) 2 ([wordD 4, tm].map strV) rfl hown rfl ?_))
    have hStr := hown.at_
    have HPX : Kp ((if ([wordD 4, tm] : List Bs).any (·.isEmpty) then (.error 5 : Except Nat Bs) else row [wordD 4, tm]) = X) := hid (by rw [← HX.out]; unfold encM; rw [if_pos HMAY.out, HP.out] <;> rfl)
    obtain ⟨L, hL⟩ : ∃ L : List Bs, [wordD 4, tm] = L := ⟨_, rfl⟩
    have hLn : L.length = 2 := by rw [← hL]; rfl
    have hLd : ∀ s ∈ L, s.length ≤ 10000000 := by rw [← hL]; intro q hq; simp at hq; rcases hq with rfl | rfl; (have := wordD_len 4; omega); omega
    rw [hL] at hStr HPX
    have HLd := hid hLd
    clear hLd
    have HS := hid hStr
    have HLn := hid hLn
    clear hStr hLn hL hown HX HP Hmsg Hput Htx Hd HS13 HO13
    go_loopw [12, 51] (fun _ i wr => ∃ j : Nat, j ≤ 2 ∧ i = .int .i64 j ∧ (L.take j).any (·.isEmpty) = false ∧ wr = w14) (fun _ i _ => 2 - (intOf i).toNat)
    case atStart => exact ⟨0, by omega, rfl, rfl, rfl⟩
    case round =>
      obtain ⟨j, hj, rfl, hz, rfl⟩ := hrel
      by_cases hlt : j < 2
      · have hjl : j < L.length := by have := HLn.out; omega
        obtain ⟨bb, off, hab, hcell⟩ := HS.out j hjl
        injection hab with hab
        injection hab with hab1 hab2 hab3
        subst hab1 hab2
        rw [Nat.zero_add] at hcell
        have hlt' : (j : Int) < 2 := by omega
        have hsn := fun hne => any_snoc hjl hz hne
        have hit := fun hne => any_hit hjl hne
        generalize hx : L[j]'hjl = y at hcell hsn hit
        rcases y with _ | ⟨y0, y1⟩
        · have HF : Kp (X = .error 5) := hid (by rw [← HPX.out, if_pos (hit rfl)])
          clear hsn hit hx HPX HS
          go_wp2
          go_ret2
          exact ⟨by rw [HF.out]; rfl, HB14.out⟩
        · have HN := hid (hsn rfl)
          clear hsn hit hx
          go_wp2
          go_roundw
          case rel => exact ⟨j + 1, by omega, by go_num, HN.out, by trivial⟩
          case measure => simp [intOf]; omega
      · have hlt' : ¬ (j : Int) < 2 := by omega
        obtain rfl : j = 2 := by omega
        have hall : L.any (·.isEmpty) = false := by
          rw [List.take_of_length_le (by have := HLn.out; omega)] at hz; exact hz
        have hrow := row_calls (some ⟨gg, 0, none⟩) 2 cap2 L HLn.out.symm (by have := HLn.out; omega) HLd.out _ HS.out
        have hXr : row L = X := by rw [← HPX.out, hall]; rfl
        rw [hXr] at hrow
        have Hrow := hid hrow
        clear hrow hXr hall hz HPX HS
        rcases X with xe | xs
        all_goals
          simp only [encMade] at Hrow
          go_wp2_with fail
          refine Hrow.out.mono ?_
          rintro e15 w15 ⟨rfl, hb15⟩
          have HB15 := hid (below_then HB14.out HB14.out.size hb15)
          clear hb15
          go_wp2
          go_ret2
          exact ⟨rfl, HB15.out⟩

set_option maxRecDepth 20000 in
set_option maxHeartbeats 8000000 in
theorem wenc_5 (c e s aud : Int) (l : List Mem) (body tag : Bs) (yes : Bool) (am : Option Addr) (nm cm : Nat) (w : World) (h : MsgAt ⟨5, ⟨c, e, s⟩, aud, l, body, yes, tag⟩ am nm cm w) (hmay : mayM ⟨5, ⟨c, e, s⟩, aud, l, body, yes, tag⟩ = true) (X : Except Nat Bs) (hX : encM ⟨5, ⟨c, e, s⟩, aud, l, body, yes, tag⟩ = X) :
    Calls Try.prog 8 #[msgV ⟨5, ⟨c, e, s⟩, aud, l, body, yes, tag⟩ am nm cm] w fun e w' => e = .returned (encMade X) ∧ Below w.heap.size w w' := by
  have HB := hid ((Below.refl w.heap.size w).alloc (Nat.le_refl _) (.cells #[.int .u8 5, .int .i64 c, .int .i64 e, .int .i64 s, .int .i64 aud, .slice am nm cm, .string (ofL body), .bool yes, .string (ofL tag)] 26))
  have Hbk := hid (BlkAt.new w #[.int .u8 5, .int .i64 c, .int .i64 e, .int .i64 s, .int .i64 aud, .slice am nm cm, .string (ofL body), .bool yes, .string (ofL tag)] 26)
  have hc := wcheck_calls ⟨5, ⟨c, e, s⟩, aud, l, body, yes, tag⟩ am nm cm _ (h.below HB.out)
  rw [hmay] at hc
  have Hc := hid hc
  have Hmsg := hid (fun W (hb : Below w.heap.size w W) => h.below hb)
  have HX := hid hX
  have Hd := hid (fun W => data_calls (wordK 5) (by have := word_short 5; omega) W)
  have hdd : encMade (data (wordK 5)) = .tuple #[.string (ofL (wordD 5)), .int .i64 0] := by rw [data_ok (word_short 5), wordD_is]; rfl
  rw [hdd] at Hd
  obtain ⟨i0, hi0, hz0, hz1, hz2⟩ := info_parts info_string
  obtain ⟨tm, htm⟩ : ∃ tm, orNo (txnT ⟨c, e, s⟩) = tm := ⟨_, rfl⟩
  have Htx := hid (fun W => txn_calls ⟨c, e, s⟩ W)
  obtain ⟨ty, hty⟩ := txnT_or ⟨c, e, s⟩
  rw [hty, htm] at Htx
  have htl : tm.length ≤ 16384 := by rw [← htm]; exact orTxn_len _
  have HP : Kp (partsM ⟨5, ⟨c, e, s⟩, aud, l, body, yes, tag⟩ = [wordD 5, tm] ++ putK 5 ⟨5, ⟨c, e, s⟩, aud, l, body, yes, tag⟩) := hid (by unfold partsM; rw [htm]; rfl)
  simp only [txnV] at Htx
  have Hput := hid (fun W => put4n_calls ⟨5, ⟨c, e, s⟩, aud, l, body, yes, tag⟩ am nm cm W)
  simp only [msgV] at Hput
  have HMAY := hid hmay
  clear hdd hc h hX hmay hty htm
  simp only [msgV] at Hc ⊢
  have Hlk : Kp (∀ (W : World) (b n : Nat), W.ownsMap Try.prog 5 kR b n kD → (Instr.lookup 65 (.map (some b)) (.int .u8 5) false).run Try.prog W = .ok (.agg #[.string (ofL (wordK 5)), .int .i64 0, .int .i64 0, .func (.func 84) #[] #[], .func (.func 85) #[] #[], .func (.func 86) #[] #[]]) W) := hid (fun W b n ho => (kinds_look (k := 5) (by omega) ho).2)
  go_enter Try.func8, Try.ntmps8
  go_wp2_with fail
  refine Hc.out.mono ?_
  rintro e1 w1 ⟨rfl, hb1⟩
  have HB1 := hid (below_then HB.out HB.out.size hb1)
  have HBK1 := hid (Hbk.out.below hb1)
  have c0 := HBK1.out.val 0 rfl
  have hne1 : w1.heap.size ≠ w.heap.size := by have := HBK1.out.lt; omega
  clear hb1 Hc Hbk HB
  go_wp2_with fail
  go_region_held2 (fun w' => w'.cell? ⟨w.heap.size, 0, none⟩ = some (.int .u8 5))
    ((go_split_ands; (with_reducible (repeat (first | refine cell_setF (by assumption) ?_))) <;> (with_reducible first | assumption | exact cell_alloc_of _ (by assumption) | skip) <;> with_reducible first | exact c0 | exact cell_alloc_of _ c0 | exact cell_alloc_drew _ c0 | exact cell_drew c0))
    (first
      | (go_at_call 27; (go_split_ands; refine (kinds_calls _).mono ?_; rintro e9 wn ⟨bm, rfl, hown, -, -, hbn⟩; have hl1 := Hlk.out _ _ _ hown; have hl2 := Hlk.out _ _ _ hown.drew; have hl3 := Hlk.out _ _ _ (hown.kept (World.grownBy_alloc wn (.cells #[.string ⟨#[]⟩, .int .i64 0, .int .i64 0, .nilFunc, .nilFunc, .nilFunc] 64) none) (by simp)); have hl4 := Hlk.out _ _ _ (hown.drew.kept (World.grownBy_alloc wn.drew (.cells #[.string ⟨#[]⟩, .int .i64 0, .int .i64 0, .nilFunc, .nilFunc, .nilFunc] 64) none) (by simp)); have hk0 : Below w1.heap.size w1 wn := (by first | exact hbn | exact btd hbn | exact bt1 (Below.refl _ _) hbn | exact bt0 (((Below.refl _ _).alloc (Nat.le_refl _) _).drew) hbn); have hbk := HBK1.out.below hk0; have u0 := hbk.val 0 rfl; clear hbk; first | (have hbz : BlkAt wn w1.heap.size #[.string ⟨#[]⟩, .int .i64 0, .int .i64 0, .nilFunc, .nilFunc, .nilFunc] 64 := (BlkAt.new w1 _ _).drew.below hbn; have z0 := hbz.val 0 rfl; have z1 := hbz.val 1 rfl; have z2 := hbz.val 2 rfl; have z3 := hbz.val 3 rfl; have z4 := hbz.val 4 rfl; have z5 := hbz.val 5 rfl; have g0 := hbz.frozen 0; have g1 := hbz.frozen 1; have g2 := hbz.frozen 2; have g3 := hbz.frozen 3; have g4 := hbz.frozen 4; have g5 := hbz.frozen 5) | skip)))
  all_goals
    go_split_ands
    refine gen3 (fun b W => BlkAt W b #[.string (ofL (wordK 5)), .int .i64 0, .int .i64 0, .func (.func 84) #[] #[], .func (.func 85) #[] #[], .func (.func 86) #[] #[]] 64 ∧ Below w1.heap.size w1 W) (by first | exact ⟨(((((hbz.set 0 _).set 1 _).set 2 _).set 3 _).set 4 _).set 5 _, below_set (below_set (below_set (below_set (below_set (below_set hk0 (by simp) _) (by simp) _) (by simp) _) (by simp) _) (by simp) _) (by simp) _⟩ | with_reducible exact ⟨BlkAt.new _ _ _, hk0.alloc hk0.size _⟩ | with_reducible exact ⟨BlkAt.new _ _ _, hk0.drew.alloc hk0.size _⟩) ?_
  all_goals
    rintro W9 ⟨hz9, hb9⟩
    have HB9 := hid (below_then HB1.out HB1.out.size hb9)
    have HBK9 := hid (HBK1.out.below hb9)
    have HZ9 := hid hz9
    with_reducible (try (rename World.cell? (World.setCell _ _ _) _ = _ => hheld; clear hheld))
    clear hz9 hb9 hk0 hbn u0 hl1 hl2 c0 hne1 Hlk HB1 HBK1
    (try clear hl3 hl4 hown)
    (try clear hbz z0 z1 z2 z3 z4 z5 g0 g1 g2 g3 g4 g5)
    have z0 := HZ9.out.val 0 rfl
    go_wp2_with fail
    refine (Hd.out _).mono ?_
    rintro e10 w10 ⟨rfl, hb10⟩
    have HB10 := hid (below_then HB9.out HB9.out.size hb10)
    have HBK10 := hid (HBK9.out.below hb10)
    have HZ10 := hid (HZ9.out.below hb10)
    clear hb10 z0 HB9 HBK9 HZ9
    have hA := (Below.refl w10.heap.size w10).alloc (Nat.le_refl _) (.cells #[.string (ofL (wordD 5))] 9)
    have HOA := hid (ownStrs_one w10 (wordD 5))
    have c0 := (HBK10.out.below hA).val 0 rfl
    have c1 := (HBK10.out.below hA).val 1 rfl
    have c2 := (HBK10.out.below hA).val 2 rfl
    have c3 := (HBK10.out.below hA).val 3 rfl
    have HA := hid hA
    clear hA
    go_wp2_with fail
    refine (Htx.out _).mono ?_
    rintro e12 w12 ⟨rfl, hb12⟩
    have hown := HOA.out.below hb12
    have hE := below_then HA.out HA.out.size hb12
    have hEs := hE.size
    have HE := hid hE
    clear hE hb12 c0 c1 c2 c3 HOA
    go_wp2_with (first | (at_builtin; refine wpList_append_lies _ rfl _ _ _ rfl w10.heap.size 9 i0 _ 1 16 Try.underlying55 hi0 hz0 hz1 hz2 rfl (by omega) (.slice (some ⟨w10.heap.size, 0, none⟩) 1 1) 1 ([wordD 5].map strV) rfl (hown.alloc _) ⟨w12.heap.size, 0, none⟩ 1 1 [strV tm] rfl rfl (World.news_of_block (cs := #[strV tm]) (t := 9) (fr := (0, 0)) (heap_alloc_new w12 _)) (by simp [Value.oneCell', strV]) (by omega) (by unfold maxLen; omega) (by omega) (by simp; omega) (w12.heap.size + 1) (by simp) ?_; intro gg cap2 w13 hown13 hgrow hat hlt2; have hb13 : Below w10.heap.size w10 w13 := (HE.out.alloc hEs _).grown hgrow (by simp; omega) (fun j hj => (hown.lt j hj).1); have HBK13 := hid (HBK10.out.below hb13); have HZ13 := hid (HZ10.out.below hb13); have c0 := HBK13.out.val 0 rfl; have c1 := HBK13.out.val 1 rfl; have c2 := HBK13.out.val 2 rfl; have c3 := HBK13.out.val 3 rfl; have c4 := HBK13.out.val 4 rfl; have c5 := HBK13.out.val 5 rfl; have c6 := HBK13.out.val 6 rfl; have c7 := HBK13.out.val 7 rfl; have c8 := HBK13.out.val 8 rfl; have z4 := HZ13.out.val 4 rfl))
    have HO13 : Kp (OwnStrs w10.heap.size w13 (.slice (some ⟨gg, 0, none⟩) 2 cap2) [wordD 5, tm]) := hid hown13
    have HB13 := hid (below_then HB10.out HB10.out.size hb13)
    have HS13 := hid hb13.size
    clear hown13 hgrow hat hown hb13 HE hEs HBK10 HZ10 HA HB10
    refine (Hput.out _).mono ?_
    rintro e14 w14 ⟨rfl, hb14⟩
    have hown := HO13.out.below hb14
    have HB14 := hid (below_then HB13.out HB13.out.size hb14)
    clear hb14 HB13 HBK13 HZ13 c0 c1 c2 c3 c4 c5 c6 c7 c8 z4
    go_wp2_with (first | (at_builtin; refine wpList_append_own_none rfl _ _ _ rfl w10.heap.size 9 i0 1 Try.underlying55 hi0 (.slice (some ⟨gg, 0, none⟩) 2 cap2) 2 ([wordD 5, tm].map strV) rfl hown rfl ?_))
    have hStr := hown.at_
    have HPX : Kp ((if ([wordD 5, tm] : List Bs).any (·.isEmpty) then (.error 5 : Except Nat Bs) else row [wordD 5, tm]) = X) := hid (by rw [← HX.out]; unfold encM; rw [if_pos HMAY.out, HP.out] <;> rfl)
    obtain ⟨L, hL⟩ : ∃ L : List Bs, [wordD 5, tm] = L := ⟨_, rfl⟩
    have hLn : L.length = 2 := by rw [← hL]; rfl
    have hLd : ∀ s ∈ L, s.length ≤ 10000000 := by rw [← hL]; intro q hq; simp at hq; rcases hq with rfl | rfl; (have := wordD_len 5; omega); omega
    rw [hL] at hStr HPX
    have HLd := hid hLd
    clear hLd
    have HS := hid hStr
    have HLn := hid hLn
    clear hStr hLn hL hown HX HP Hmsg Hput Htx Hd HS13 HO13
    go_loopw [12, 51] (fun _ i wr => ∃ j : Nat, j ≤ 2 ∧ i = .int .i64 j ∧ (L.take j).any (·.isEmpty) = false ∧ wr = w14) (fun _ i _ => 2 - (intOf i).toNat)
    case atStart => exact ⟨0, by omega, rfl, rfl, rfl⟩
    case round =>
      obtain ⟨j, hj, rfl, hz, rfl⟩ := hrel
      by_cases hlt : j < 2
      · have hjl : j < L.length := by have := HLn.out; omega
        obtain ⟨bb, off, hab, hcell⟩ := HS.out j hjl
        injection hab with hab
        injection hab with hab1 hab2 hab3
        subst hab1 hab2
        rw [Nat.zero_add] at hcell
        have hlt' : (j : Int) < 2 := by omega
        have hsn := fun hne => any_snoc hjl hz hne
        have hit := fun hne => any_hit hjl hne
        generalize hx : L[j]'hjl = y at hcell hsn hit
        rcases y with _ | ⟨y0, y1⟩
        · have HF : Kp (X = .error 5) := hid (by rw [← HPX.out, if_pos (hit rfl)])
          clear hsn hit hx HPX HS
          go_wp2
          go_ret2
          exact ⟨by rw [HF.out]; rfl, HB14.out⟩
        · have HN := hid (hsn rfl)
          clear hsn hit hx
          go_wp2
          go_roundw
          case rel => exact ⟨j + 1, by omega, by go_num, HN.out, by trivial⟩
          case measure => simp [intOf]; omega
      · have hlt' : ¬ (j : Int) < 2 := by omega
        obtain rfl : j = 2 := by omega
        have hall : L.any (·.isEmpty) = false := by
          rw [List.take_of_length_le (by have := HLn.out; omega)] at hz; exact hz
        have hrow := row_calls (some ⟨gg, 0, none⟩) 2 cap2 L HLn.out.symm (by have := HLn.out; omega) HLd.out _ HS.out
        have hXr : row L = X := by rw [← HPX.out, hall]; rfl
        rw [hXr] at hrow
        have Hrow := hid hrow
        clear hrow hXr hall hz HPX HS
        rcases X with xe | xs
        all_goals
          simp only [encMade] at Hrow
          go_wp2_with fail
          refine Hrow.out.mono ?_
          rintro e15 w15 ⟨rfl, hb15⟩
          have HB15 := hid (below_then HB14.out HB14.out.size hb15)
          clear hb15
          go_wp2
          go_ret2
          exact ⟨rfl, HB15.out⟩

set_option maxRecDepth 20000 in
set_option maxHeartbeats 8000000 in
theorem wenc_6 (c e s aud : Int) (l : List Mem) (body tag : Bs) (yes : Bool) (am : Option Addr) (nm cm : Nat) (w : World) (h : MsgAt ⟨6, ⟨c, e, s⟩, aud, l, body, yes, tag⟩ am nm cm w) (hmay : mayM ⟨6, ⟨c, e, s⟩, aud, l, body, yes, tag⟩ = true) (X : Except Nat Bs) (hX : encM ⟨6, ⟨c, e, s⟩, aud, l, body, yes, tag⟩ = X) :
    Calls Try.prog 8 #[msgV ⟨6, ⟨c, e, s⟩, aud, l, body, yes, tag⟩ am nm cm] w fun e w' => e = .returned (encMade X) ∧ Below w.heap.size w w' := by
  have HB := hid ((Below.refl w.heap.size w).alloc (Nat.le_refl _) (.cells #[.int .u8 6, .int .i64 c, .int .i64 e, .int .i64 s, .int .i64 aud, .slice am nm cm, .string (ofL body), .bool yes, .string (ofL tag)] 26))
  have Hbk := hid (BlkAt.new w #[.int .u8 6, .int .i64 c, .int .i64 e, .int .i64 s, .int .i64 aud, .slice am nm cm, .string (ofL body), .bool yes, .string (ofL tag)] 26)
  have hc := wcheck_calls ⟨6, ⟨c, e, s⟩, aud, l, body, yes, tag⟩ am nm cm _ (h.below HB.out)
  rw [hmay] at hc
  have Hc := hid hc
  have Hmsg := hid (fun W (hb : Below w.heap.size w W) => h.below hb)
  have HX := hid hX
  have Hd := hid (fun W => data_calls (wordK 6) (by have := word_short 6; omega) W)
  have hdd : encMade (data (wordK 6)) = .tuple #[.string (ofL (wordD 6)), .int .i64 0] := by rw [data_ok (word_short 6), wordD_is]; rfl
  rw [hdd] at Hd
  obtain ⟨i0, hi0, hz0, hz1, hz2⟩ := info_parts info_string
  obtain ⟨tm, htm⟩ : ∃ tm, orNo (txnT ⟨c, e, s⟩) = tm := ⟨_, rfl⟩
  have Htx := hid (fun W => txn_calls ⟨c, e, s⟩ W)
  obtain ⟨ty, hty⟩ := txnT_or ⟨c, e, s⟩
  rw [hty, htm] at Htx
  have htl : tm.length ≤ 16384 := by rw [← htm]; exact orTxn_len _
  have HP : Kp (partsM ⟨6, ⟨c, e, s⟩, aud, l, body, yes, tag⟩ = [wordD 6]) := hid (by unfold partsM; rw [htm]; rfl)
  simp only [txnV] at Htx
  have Hput := hid (fun W => put4n_calls ⟨6, ⟨c, e, s⟩, aud, l, body, yes, tag⟩ am nm cm W)
  simp only [msgV] at Hput
  have HMAY := hid hmay
  clear hdd hc h hX hmay hty htm
  simp only [msgV] at Hc ⊢
  have Hlk : Kp (∀ (W : World) (b n : Nat), W.ownsMap Try.prog 5 kR b n kD → (Instr.lookup 65 (.map (some b)) (.int .u8 6) false).run Try.prog W = .ok (.agg #[.string (ofL (wordK 6)), .int .i64 0, .int .i64 0, .func (.func 84) #[] #[], .func (.func 85) #[] #[], .func (.func 86) #[] #[]]) W) := hid (fun W b n ho => (kinds_look (k := 6) (by omega) ho).2)
  go_enter Try.func8, Try.ntmps8
  go_wp2_with fail
  refine Hc.out.mono ?_
  rintro e1 w1 ⟨rfl, hb1⟩
  have HB1 := hid (below_then HB.out HB.out.size hb1)
  have HBK1 := hid (Hbk.out.below hb1)
  have c0 := HBK1.out.val 0 rfl
  have hne1 : w1.heap.size ≠ w.heap.size := by have := HBK1.out.lt; omega
  clear hb1 Hc Hbk HB
  go_wp2_with fail
  go_region_held2 (fun w' => w'.cell? ⟨w.heap.size, 0, none⟩ = some (.int .u8 6))
    ((go_split_ands; (with_reducible (repeat (first | refine cell_setF (by assumption) ?_))) <;> (with_reducible first | assumption | exact cell_alloc_of _ (by assumption) | skip) <;> with_reducible first | exact c0 | exact cell_alloc_of _ c0 | exact cell_alloc_drew _ c0 | exact cell_drew c0))
    (first
      | (go_at_call 27; (go_split_ands; refine (kinds_calls _).mono ?_; rintro e9 wn ⟨bm, rfl, hown, -, -, hbn⟩; have hl1 := Hlk.out _ _ _ hown; have hl2 := Hlk.out _ _ _ hown.drew; have hl3 := Hlk.out _ _ _ (hown.kept (World.grownBy_alloc wn (.cells #[.string ⟨#[]⟩, .int .i64 0, .int .i64 0, .nilFunc, .nilFunc, .nilFunc] 64) none) (by simp)); have hl4 := Hlk.out _ _ _ (hown.drew.kept (World.grownBy_alloc wn.drew (.cells #[.string ⟨#[]⟩, .int .i64 0, .int .i64 0, .nilFunc, .nilFunc, .nilFunc] 64) none) (by simp)); have hk0 : Below w1.heap.size w1 wn := (by first | exact hbn | exact btd hbn | exact bt1 (Below.refl _ _) hbn | exact bt0 (((Below.refl _ _).alloc (Nat.le_refl _) _).drew) hbn); have hbk := HBK1.out.below hk0; have u0 := hbk.val 0 rfl; clear hbk; first | (have hbz : BlkAt wn w1.heap.size #[.string ⟨#[]⟩, .int .i64 0, .int .i64 0, .nilFunc, .nilFunc, .nilFunc] 64 := (BlkAt.new w1 _ _).drew.below hbn; have z0 := hbz.val 0 rfl; have z1 := hbz.val 1 rfl; have z2 := hbz.val 2 rfl; have z3 := hbz.val 3 rfl; have z4 := hbz.val 4 rfl; have z5 := hbz.val 5 rfl; have g0 := hbz.frozen 0; have g1 := hbz.frozen 1; have g2 := hbz.frozen 2; have g3 := hbz.frozen 3; have g4 := hbz.frozen 4; have g5 := hbz.frozen 5) | skip)))
  all_goals
    go_split_ands
    refine gen3 (fun b W => BlkAt W b #[.string (ofL (wordK 6)), .int .i64 0, .int .i64 0, .func (.func 84) #[] #[], .func (.func 85) #[] #[], .func (.func 86) #[] #[]] 64 ∧ Below w1.heap.size w1 W) (by first | exact ⟨(((((hbz.set 0 _).set 1 _).set 2 _).set 3 _).set 4 _).set 5 _, below_set (below_set (below_set (below_set (below_set (below_set hk0 (by simp) _) (by simp) _) (by simp) _) (by simp) _) (by simp) _) (by simp) _⟩ | with_reducible exact ⟨BlkAt.new _ _ _, hk0.alloc hk0.size _⟩ | with_reducible exact ⟨BlkAt.new _ _ _, hk0.drew.alloc hk0.size _⟩) ?_
  all_goals
    rintro W9 ⟨hz9, hb9⟩
    have HB9 := hid (below_then HB1.out HB1.out.size hb9)
    have HBK9 := hid (HBK1.out.below hb9)
    have HZ9 := hid hz9
    with_reducible (try (rename World.cell? (World.setCell _ _ _) _ = _ => hheld; clear hheld))
    clear hz9 hb9 hk0 hbn u0 hl1 hl2 c0 hne1 Hlk HB1 HBK1
    (try clear hl3 hl4 hown)
    (try clear hbz z0 z1 z2 z3 z4 z5 g0 g1 g2 g3 g4 g5)
    have z0 := HZ9.out.val 0 rfl
    go_wp2_with fail
    refine (Hd.out _).mono ?_
    rintro e10 w10 ⟨rfl, hb10⟩
    have HB10 := hid (below_then HB9.out HB9.out.size hb10)
    have HBK10 := hid (HBK9.out.below hb10)
    have HZ10 := hid (HZ9.out.below hb10)
    clear hb10 z0 HB9 HBK9 HZ9
    have hA := (Below.refl w10.heap.size w10).alloc (Nat.le_refl _) (.cells #[.string (ofL (wordD 6))] 9)
    have HOA := hid (ownStrs_one w10 (wordD 6))
    have c0 := (HBK10.out.below hA).val 0 rfl
    have c1 := (HBK10.out.below hA).val 1 rfl
    have c2 := (HBK10.out.below hA).val 2 rfl
    have c3 := (HBK10.out.below hA).val 3 rfl
    have HA := hid hA
    clear hA
    have c4 := (HBK10.out.below HA.out).val 4 rfl
    have c5 := (HBK10.out.below HA.out).val 5 rfl
    have c6 := (HBK10.out.below HA.out).val 6 rfl
    have c7 := (HBK10.out.below HA.out).val 7 rfl
    have c8 := (HBK10.out.below HA.out).val 8 rfl
    have z4 := (HZ10.out.below HA.out).val 4 rfl
    go_wp2_with fail
    refine (Hput.out _).mono ?_
    rintro e14 w14 ⟨rfl, hb14⟩
    have hown := HOA.out.below hb14
    have HB14 := hid (below_then (below_then HB10.out HB10.out.size HA.out) (Nat.le_trans HB10.out.size HA.out.size) hb14)
    clear hb14 HB10 HBK10 HZ10 HOA HA c0 c1 c2 c3 c4 c5 c6 c7 c8 z4
    go_wp2_with (first | (at_builtin; refine wpList_append_own_none rfl _ _ _ rfl w10.heap.size 9 i0 1 Try.underlying55 hi0 (.slice (some ⟨w10.heap.size, 0, none⟩) 1 1) 1 ([wordD 6].map strV) rfl hown rfl ?_))
    have hStr := hown.at_
    have HPX : Kp ((if ([wordD 6] : List Bs).any (·.isEmpty) then (.error 5 : Except Nat Bs) else row [wordD 6]) = X) := hid (by rw [← HX.out]; unfold encM; rw [if_pos HMAY.out, HP.out] <;> rfl)
    obtain ⟨L, hL⟩ : ∃ L : List Bs, [wordD 6] = L := ⟨_, rfl⟩
    have hLn : L.length = 1 := by rw [← hL]; rfl
    have hLd : ∀ s ∈ L, s.length ≤ 10000000 := by rw [← hL]; intro q hq; (obtain rfl := List.mem_singleton.1 hq); have := wordD_len 6; omega
    rw [hL] at hStr HPX
    have HLd := hid hLd
    clear hLd
    have HS := hid hStr
    have HLn := hid hLn
    clear hStr hLn hL hown HX HP Hmsg Hput Htx Hd
    go_loopw [12, 51] (fun _ i wr => ∃ j : Nat, j ≤ 1 ∧ i = .int .i64 j ∧ (L.take j).any (·.isEmpty) = false ∧ wr = w14) (fun _ i _ => 1 - (intOf i).toNat)
    case atStart => exact ⟨0, by omega, rfl, rfl, rfl⟩
    case round =>
      obtain ⟨j, hj, rfl, hz, rfl⟩ := hrel
      by_cases hlt : j < 1
      · have hjl : j < L.length := by have := HLn.out; omega
        obtain ⟨bb, off, hab, hcell⟩ := HS.out j hjl
        injection hab with hab
        injection hab with hab1 hab2 hab3
        subst hab1 hab2
        rw [Nat.zero_add] at hcell
        have hlt' : (j : Int) < 1 := by omega
        have hsn := fun hne => any_snoc hjl hz hne
        have hit := fun hne => any_hit hjl hne
        generalize hx : L[j]'hjl = y at hcell hsn hit
        rcases y with _ | ⟨y0, y1⟩
        · have HF : Kp (X = .error 5) := hid (by rw [← HPX.out, if_pos (hit rfl)])
          clear hsn hit hx HPX HS
          go_wp2
          go_ret2
          exact ⟨by rw [HF.out]; rfl, HB14.out⟩
        · have HN := hid (hsn rfl)
          clear hsn hit hx
          go_wp2
          go_roundw
          case rel => exact ⟨j + 1, by omega, by go_num, HN.out, by trivial⟩
          case measure => simp [intOf]; omega
      · have hlt' : ¬ (j : Int) < 1 := by omega
        obtain rfl : j = 1 := by omega
        have hall : L.any (·.isEmpty) = false := by
          rw [List.take_of_length_le (by have := HLn.out; omega)] at hz; exact hz
        have hrow := row_calls (some ⟨w10.heap.size, 0, none⟩) 1 1 L HLn.out.symm (by have := HLn.out; omega) HLd.out _ HS.out
        have hXr : row L = X := by rw [← HPX.out, hall]; rfl
        rw [hXr] at hrow
        have Hrow := hid hrow
        clear hrow hXr hall hz HPX HS
        rcases X with xe | xs
        all_goals
          simp only [encMade] at Hrow
          go_wp2_with fail
          refine Hrow.out.mono ?_
          rintro e15 w15 ⟨rfl, hb15⟩
          have HB15 := hid (below_then HB14.out HB14.out.size hb15)
          clear hb15
          go_wp2
          go_ret2
          exact ⟨rfl, HB15.out⟩
end Go.Proofs.Ytohblakhojhklaa
