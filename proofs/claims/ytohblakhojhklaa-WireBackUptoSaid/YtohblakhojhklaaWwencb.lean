import Derived.Test.YtohblakhojhklaaWwenc
import Derived.Laws.AppendOwnNone
/- The walks of wire.Encode at each kind (printed by gen_enc.py). -/
namespace Go.Proofs.Ytohblakhojhklaa
open Go.RowKit Go.Maps Sp
theorem numTm_len (v : Int) : (numS v).length ≤ 16384 := by
  unfold numS
  cases h : num v with
  | ok t =>
    unfold num at h
    split at h
    · cases h
    · rename_i hv
      have h0 : 0 ≤ v := by omega
      obtain ⟨n, rfl⟩ := Int.eq_ofNat_of_zero_le h0
      have hn : n ≤ 2147483647 := by omega
      have := num_ok hn
      unfold num at this
      rw [if_neg (by omega)] at this
      rw [this] at h
      injection h with h
      rw [← h]
      exact isTerm_len (numB_term hn)
  | error e => simp
theorem flag_len (b : Bool) : (flag b).length ≤ 16384 := by
  cases b
  · have : flag false = numB 0 := numS_ok (v := 0) (by omega)
    rw [this]; exact isTerm_len (numB_term (by omega))
  · have : flag true = numB 1 := numS_ok (v := 1) (by omega)
    rw [this]; exact isTerm_len (numB_term (by omega))

set_option maxRecDepth 20000 in
set_option maxHeartbeats 8000000 in
theorem wenc_1 (c e s aud : Int) (l : List Mem) (body tag : Bs) (yes : Bool) (am : Option Addr) (nm cm : Nat) (w : World) (h : MsgAt ⟨1, ⟨c, e, s⟩, aud, l, body, yes, tag⟩ am nm cm w) (hmay : mayM ⟨1, ⟨c, e, s⟩, aud, l, body, yes, tag⟩ = true) (X : Except Nat Bs) (hX : encM ⟨1, ⟨c, e, s⟩, aud, l, body, yes, tag⟩ = X) :
    Calls Try.prog 8 #[msgV ⟨1, ⟨c, e, s⟩, aud, l, body, yes, tag⟩ am nm cm] w fun e w' => e = .returned (encMade X) ∧ Below w.heap.size w w' := by
  have HB := hid ((Below.refl w.heap.size w).alloc (Nat.le_refl _) (.cells #[.int .u8 1, .int .i64 c, .int .i64 e, .int .i64 s, .int .i64 aud, .slice am nm cm, .string (ofL body), .bool yes, .string (ofL tag)] 26))
  have Hbk := hid (BlkAt.new w #[.int .u8 1, .int .i64 c, .int .i64 e, .int .i64 s, .int .i64 aud, .slice am nm cm, .string (ofL body), .bool yes, .string (ofL tag)] 26)
  have hc := wcheck_calls ⟨1, ⟨c, e, s⟩, aud, l, body, yes, tag⟩ am nm cm _ (h.below HB.out)
  rw [hmay] at hc
  have Hc := hid hc
  have Hmsg := hid (fun W (hb : Below w.heap.size w W) => h.below hb)
  have HX := hid hX
  have Hd := hid (fun W => data_calls (wordK 1) (by have := word_short 1; omega) W)
  have hdd : encMade (data (wordK 1)) = .tuple #[.string (ofL (wordD 1)), .int .i64 0] := by rw [data_ok (word_short 1), wordD_is]; rfl
  rw [hdd] at Hd
  obtain ⟨i0, hi0, hz0, hz1, hz2⟩ := info_parts info_string
  obtain ⟨tm, htm⟩ : ∃ tm, orNo (txnT ⟨c, e, s⟩) = tm := ⟨_, rfl⟩
  have Htx := hid (fun W => txn_calls ⟨c, e, s⟩ W)
  obtain ⟨ty, hty⟩ := txnT_or ⟨c, e, s⟩
  rw [hty, htm] at Htx
  have htl : tm.length ≤ 16384 := by rw [← htm]; exact orTxn_len _
  have HP : Kp (partsM ⟨1, ⟨c, e, s⟩, aud, l, body, yes, tag⟩ = [wordD 1, tm] ++ putK 1 ⟨1, ⟨c, e, s⟩, aud, l, body, yes, tag⟩) := hid (by unfold partsM; rw [htm]; rfl)
  simp only [txnV] at Htx
  have Hput := hid (fun W (hm : MsgAt ⟨1, ⟨c, e, s⟩, aud, l, body, yes, tag⟩ am nm cm W) => put1_calls ⟨1, ⟨c, e, s⟩, aud, l, body, yes, tag⟩ am nm cm W hm)
  simp only [msgV] at Hput
  have HMAY := hid hmay
  have HTL := hid h.lt
  have HBL := hid h.lb
  clear hdd hc h hX hmay hty htm
  simp only [msgV] at Hc ⊢
  have Hlk : Kp (∀ (W : World) (b n : Nat), W.ownsMap Try.prog 5 kR b n kD → (Instr.lookup 65 (.map (some b)) (.int .u8 1) false).run Try.prog W = .ok (.agg #[.string (ofL (wordK 1)), .int .i64 3, .int .i64 3, .func (.func 54) #[] #[], .func (.func 57) #[] #[], .func (.func 60) #[] #[]]) W) := hid (fun W b n ho => (kinds_look (k := 1) (by omega) ho).2)
  go_enter Try.func8, Try.ntmps8
  go_wp2_with fail
  refine Hc.out.mono ?_
  rintro e1 w1 ⟨rfl, hb1⟩
  have HB1 := hid (below_then HB.out HB.out.size hb1)
  have HBK1 := hid (Hbk.out.below hb1)
  have c0 := HBK1.out.val 0 rfl
  have hne1 : w1.heap.size ≠ w.heap.size := by have := HBK1.out.lt; omega
  clear hb1 Hc Hbk HB
  go_wp2_with fail
  go_region_held2 (fun w' => w'.cell? ⟨w.heap.size, 0, none⟩ = some (.int .u8 1))
    ((go_split_ands; (with_reducible (repeat (first | refine cell_setF (by assumption) ?_))) <;> (with_reducible first | assumption | exact cell_alloc_of _ (by assumption) | skip) <;> with_reducible first | exact c0 | exact cell_alloc_of _ c0 | exact cell_alloc_drew _ c0 | exact cell_drew c0))
    (first
      | (go_at_call 27; (go_split_ands; refine (kinds_calls _).mono ?_; rintro e9 wn ⟨bm, rfl, hown, -, -, hbn⟩; have hl1 := Hlk.out _ _ _ hown; have hl2 := Hlk.out _ _ _ hown.drew; have hl3 := Hlk.out _ _ _ (hown.kept (World.grownBy_alloc wn (.cells #[.string ⟨#[]⟩, .int .i64 0, .int .i64 0, .nilFunc, .nilFunc, .nilFunc] 64) none) (by simp)); have hl4 := Hlk.out _ _ _ (hown.drew.kept (World.grownBy_alloc wn.drew (.cells #[.string ⟨#[]⟩, .int .i64 0, .int .i64 0, .nilFunc, .nilFunc, .nilFunc] 64) none) (by simp)); have hk0 : Below w1.heap.size w1 wn := (by first | exact hbn | exact btd hbn | exact bt1 (Below.refl _ _) hbn | exact bt0 (((Below.refl _ _).alloc (Nat.le_refl _) _).drew) hbn); have hbk := HBK1.out.below hk0; have u0 := hbk.val 0 rfl; clear hbk; first | (have hbz : BlkAt wn w1.heap.size #[.string ⟨#[]⟩, .int .i64 0, .int .i64 0, .nilFunc, .nilFunc, .nilFunc] 64 := (BlkAt.new w1 _ _).drew.below hbn; have z0 := hbz.val 0 rfl; have z1 := hbz.val 1 rfl; have z2 := hbz.val 2 rfl; have z3 := hbz.val 3 rfl; have z4 := hbz.val 4 rfl; have z5 := hbz.val 5 rfl; have g0 := hbz.frozen 0; have g1 := hbz.frozen 1; have g2 := hbz.frozen 2; have g3 := hbz.frozen 3; have g4 := hbz.frozen 4; have g5 := hbz.frozen 5) | skip)))
  all_goals
    go_split_ands
    refine gen3 (fun b W => BlkAt W b #[.string (ofL (wordK 1)), .int .i64 3, .int .i64 3, .func (.func 54) #[] #[], .func (.func 57) #[] #[], .func (.func 60) #[] #[]] 64 ∧ Below w1.heap.size w1 W) (by first | exact ⟨(((((hbz.set 0 _).set 1 _).set 2 _).set 3 _).set 4 _).set 5 _, below_set (below_set (below_set (below_set (below_set (below_set hk0 (by simp) _) (by simp) _) (by simp) _) (by simp) _) (by simp) _) (by simp) _⟩ | with_reducible exact ⟨BlkAt.new _ _ _, hk0.alloc hk0.size _⟩ | with_reducible exact ⟨BlkAt.new _ _ _, hk0.drew.alloc hk0.size _⟩) ?_
  all_goals
    rintro W9 ⟨hz9, hb9⟩
    have HB9 := hid (below_then HB1.out HB1.out.size hb9)
    have HBK9 := hid (HBK1.out.below hb9)
    have HZ9 := hid hz9
    with_reducible (try (rename World.cell? (World.setCell _ _ _) _ = _ => hheld; clear hheld))
    clear hz9 hb9 hk0 hbn u0 hl1 hl2 c0 hne1 Hlk HB1 HBK1
    (try clear hl3 hl4 hown)
    (try clear hbz z0 z1 z2 z3 z4 z5 g0 g1 g2 g3 g4 g5)
    have z0 := HZ9.out.val 0 rfl
    go_wp2_with fail
    refine (Hd.out _).mono ?_
    rintro e10 w10 ⟨rfl, hb10⟩
    have HB10 := hid (below_then HB9.out HB9.out.size hb10)
    have HBK10 := hid (HBK9.out.below hb10)
    have HZ10 := hid (HZ9.out.below hb10)
    clear hb10 z0 HB9 HBK9 HZ9
    have hA := (Below.refl w10.heap.size w10).alloc (Nat.le_refl _) (.cells #[.string (ofL (wordD 1))] 9)
    have HOA := hid (ownStrs_one w10 (wordD 1))
    have c0 := (HBK10.out.below hA).val 0 rfl
    have c1 := (HBK10.out.below hA).val 1 rfl
    have c2 := (HBK10.out.below hA).val 2 rfl
    have c3 := (HBK10.out.below hA).val 3 rfl
    have HA := hid hA
    clear hA
    go_wp2_with fail
    refine (Htx.out _).mono ?_
    rintro e12 w12 ⟨rfl, hb12⟩
    have hown := HOA.out.below hb12
    have hE := below_then HA.out HA.out.size hb12
    have hEs := hE.size
    have HE := hid hE
    clear hE hb12 c0 c1 c2 c3 HOA
    go_wp2_with (first | (at_builtin; refine wpList_append_lies _ rfl _ _ _ rfl w10.heap.size 9 i0 _ 1 16 Try.underlying55 hi0 hz0 hz1 hz2 rfl (by omega) (.slice (some ⟨w10.heap.size, 0, none⟩) 1 1) 1 ([wordD 1].map strV) rfl (hown.alloc _) ⟨w12.heap.size, 0, none⟩ 1 1 [strV tm] rfl rfl (World.news_of_block (cs := #[strV tm]) (t := 9) (fr := (0, 0)) (heap_alloc_new w12 _)) (by simp [Value.oneCell', strV]) (by omega) (by unfold maxLen; omega) (by omega) (by simp; omega) (w12.heap.size + 1) (by simp) ?_; intro gg cap2 w13 hown13 hgrow hat hlt2; have hb13 : Below w10.heap.size w10 w13 := (HE.out.alloc hEs _).grown hgrow (by simp; omega) (fun j hj => (hown.lt j hj).1); have HBK13 := hid (HBK10.out.below hb13); have HZ13 := hid (HZ10.out.below hb13); have c0 := HBK13.out.val 0 rfl; have c1 := HBK13.out.val 1 rfl; have c2 := HBK13.out.val 2 rfl; have c3 := HBK13.out.val 3 rfl; have c4 := HBK13.out.val 4 rfl; have c5 := HBK13.out.val 5 rfl; have c6 := HBK13.out.val 6 rfl; have c7 := HBK13.out.val 7 rfl; have c8 := HBK13.out.val 8 rfl; have z4 := HZ13.out.val 4 rfl))
    have HO13 : Kp (OwnStrs w10.heap.size w13 (.slice (some ⟨gg, 0, none⟩) 2 cap2) [wordD 1, tm]) := hid hown13
    have HB13 := hid (below_then HB10.out HB10.out.size hb13)
    have HS13 := hid hb13.size
    have HBS : Kp (w.heap.size ≤ w10.heap.size) := hid HB10.out.size
    clear hown13 hgrow hat hown hb13 HE hEs HBK10 HZ10 HA HB10
    refine (Hput.out _ (Hmsg.out _ HB13.out)).mono ?_
    rintro e14 w14 ⟨ap, np, cp, rfl, hnp, hsp, -, hb14⟩
    have hnp1 : np = 3 := hnp
    subst hnp1
    have hsp2 : StrsAt w14 ap [numS aud, orNo (membersT ⟨c, e, s⟩ l), body] := hsp
    obtain ⟨bp, op, rfl⟩ := strs_addr (by simp) hsp2
    have hnews := news_strs hsp2
    have hown := HO13.out.below hb14
    have HB14 := hid (below_then HB13.out HB13.out.size hb14)
    have hs14 : w10.heap.size ≤ w14.heap.size := Nat.le_trans HS13.out hb14.size
    have HNEWS := hid hnews
    clear hnp hsp hsp2 hnews hb14 HB13 HBK13 HZ13 c0 c1 c2 c3 c4 c5 c6 c7 c8 z4
    go_wp2_with (first | (at_builtin; refine wpList_append_lies _ rfl _ _ _ rfl w10.heap.size 9 i0 _ 1 16 Try.underlying55 hi0 hz0 hz1 hz2 rfl (by omega) (.slice (some ⟨gg, 0, none⟩) 2 cap2) 2 ([wordD 1, tm].map strV) rfl hown ⟨bp, op, none⟩ 3 cp ([numS aud, orNo (membersT ⟨c, e, s⟩ l), body].map strV) rfl rfl HNEWS.out (by simp [Value.oneCell', strV]) (by omega) (by unfold maxLen; omega) (by omega) hs14 w14.heap.size rfl ?_; intro g3 cap3 w15 hown15 hgrow15 hat15 hlt15))
    have hb15 : Below w.heap.size w w15 := HB14.out.grown hgrow15 HB14.out.size (fun j hj => Nat.le_trans HBS.out (hown.lt j hj).1)
    have hown : OwnStrs w10.heap.size w15 (.slice (some ⟨g3, 0, none⟩) 5 cap3) ([wordD 1, tm] ++ [numS aud, orNo (membersT ⟨c, e, s⟩ l), body]) := hown15
    have HBX := hid hb15
    clear hb15 hown15 hgrow15 hat15 hlt15 hs14 HB14 HNEWS
    have hStr := hown.at_
    have HPX : Kp ((if (([wordD 1, tm] ++ [numS aud, orNo (membersT ⟨c, e, s⟩ l), body]) : List Bs).any (·.isEmpty) then (.error 5 : Except Nat Bs) else row ([wordD 1, tm] ++ [numS aud, orNo (membersT ⟨c, e, s⟩ l), body])) = X) := hid (by rw [← HX.out]; unfold encM; rw [if_pos HMAY.out, HP.out] <;> rfl)
    obtain ⟨L, hL⟩ : ∃ L : List Bs, ([wordD 1, tm] ++ [numS aud, orNo (membersT ⟨c, e, s⟩ l), body]) = L := ⟨_, rfl⟩
    have hLn : L.length = 5 := by rw [← hL]; rfl
    have hLd : ∀ s ∈ L, s.length ≤ 10000000 := by rw [← hL]; intro q hq; simp at hq; rcases hq with rfl | rfl | rfl | rfl | rfl; (have := wordD_len 1; omega); omega; (have := numTm_len aud; omega); (have := orMem_len ⟨c, e, s⟩ l; omega); exact HBL.out
    rw [hL] at hStr HPX
    have HLd := hid hLd
    clear hLd
    have HS := hid hStr
    have HLn := hid hLn
    clear hStr hLn hL hown HX HP Hmsg Hput Htx Hd HS13 HO13
    go_loopw [12, 51] (fun _ i wr => ∃ j : Nat, j ≤ 5 ∧ i = .int .i64 j ∧ (L.take j).any (·.isEmpty) = false ∧ wr = w15) (fun _ i _ => 5 - (intOf i).toNat)
    case atStart => exact ⟨0, by omega, rfl, rfl, rfl⟩
    case round =>
      obtain ⟨j, hj, rfl, hz, rfl⟩ := hrel
      by_cases hlt : j < 5
      · have hjl : j < L.length := by have := HLn.out; omega
        obtain ⟨bb, off, hab, hcell⟩ := HS.out j hjl
        injection hab with hab
        injection hab with hab1 hab2 hab3
        subst hab1 hab2
        rw [Nat.zero_add] at hcell
        have hlt' : (j : Int) < 5 := by omega
        have hsn := fun hne => any_snoc hjl hz hne
        have hit := fun hne => any_hit hjl hne
        generalize hx : L[j]'hjl = y at hcell hsn hit
        rcases y with _ | ⟨y0, y1⟩
        · have HF : Kp (X = .error 5) := hid (by rw [← HPX.out, if_pos (hit rfl)])
          clear hsn hit hx HPX HS
          go_wp2
          go_ret2
          exact ⟨by rw [HF.out]; rfl, HBX.out⟩
        · have HN := hid (hsn rfl)
          clear hsn hit hx
          go_wp2
          go_roundw
          case rel => exact ⟨j + 1, by omega, by go_num, HN.out, by trivial⟩
          case measure => simp [intOf]; omega
      · have hlt' : ¬ (j : Int) < 5 := by omega
        obtain rfl : j = 5 := by omega
        have hall : L.any (·.isEmpty) = false := by
          rw [List.take_of_length_le (by have := HLn.out; omega)] at hz; exact hz
        have hrow := row_calls (some ⟨g3, 0, none⟩) 5 cap3 L HLn.out.symm (by have := HLn.out; omega) HLd.out _ HS.out
        have hXr : row L = X := by rw [← HPX.out, hall]; rfl
        rw [hXr] at hrow
        have Hrow := hid hrow
        clear hrow hXr hall hz HPX HS
        rcases X with xe | xs
        all_goals
          simp only [encMade] at Hrow
          go_wp2_with fail
          refine Hrow.out.mono ?_
          rintro e15 w15 ⟨rfl, hb15⟩
          have HB15 := hid (below_then HBX.out HBX.out.size hb15)
          clear hb15
          go_wp2
          go_ret2
          exact ⟨rfl, HB15.out⟩

set_option maxRecDepth 20000 in
set_option maxHeartbeats 8000000 in
theorem wenc_2f (c e s aud : Int) (l : List Mem) (body tag : Bs) (yes : Bool) (am : Option Addr) (nm cm : Nat) (w : World) (h : MsgAt ⟨2, ⟨c, e, s⟩, aud, l, body, false, tag⟩ am nm cm w) (hmay : mayM ⟨2, ⟨c, e, s⟩, aud, l, body, false, tag⟩ = true) (X : Except Nat Bs) (hX : encM ⟨2, ⟨c, e, s⟩, aud, l, body, false, tag⟩ = X) :
    Calls Try.prog 8 #[msgV ⟨2, ⟨c, e, s⟩, aud, l, body, false, tag⟩ am nm cm] w fun e w' => e = .returned (encMade X) ∧ Below w.heap.size w w' := by
  have HB := hid ((Below.refl w.heap.size w).alloc (Nat.le_refl _) (.cells #[.int .u8 2, .int .i64 c, .int .i64 e, .int .i64 s, .int .i64 aud, .slice am nm cm, .string (ofL body), .bool false, .string (ofL tag)] 26))
  have Hbk := hid (BlkAt.new w #[.int .u8 2, .int .i64 c, .int .i64 e, .int .i64 s, .int .i64 aud, .slice am nm cm, .string (ofL body), .bool false, .string (ofL tag)] 26)
  have hc := wcheck_calls ⟨2, ⟨c, e, s⟩, aud, l, body, false, tag⟩ am nm cm _ (h.below HB.out)
  rw [hmay] at hc
  have Hc := hid hc
  have Hmsg := hid (fun W (hb : Below w.heap.size w W) => h.below hb)
  have HX := hid hX
  have Hd := hid (fun W => data_calls (wordK 2) (by have := word_short 2; omega) W)
  have hdd : encMade (data (wordK 2)) = .tuple #[.string (ofL (wordD 2)), .int .i64 0] := by rw [data_ok (word_short 2), wordD_is]; rfl
  rw [hdd] at Hd
  obtain ⟨i0, hi0, hz0, hz1, hz2⟩ := info_parts info_string
  obtain ⟨tm, htm⟩ : ∃ tm, orNo (txnT ⟨c, e, s⟩) = tm := ⟨_, rfl⟩
  have Htx := hid (fun W => txn_calls ⟨c, e, s⟩ W)
  obtain ⟨ty, hty⟩ := txnT_or ⟨c, e, s⟩
  rw [hty, htm] at Htx
  have htl : tm.length ≤ 16384 := by rw [← htm]; exact orTxn_len _
  have HP : Kp (partsM ⟨2, ⟨c, e, s⟩, aud, l, body, false, tag⟩ = [wordD 2, tm] ++ putK 2 ⟨2, ⟨c, e, s⟩, aud, l, body, false, tag⟩) := hid (by unfold partsM; rw [htm]; rfl)
  simp only [txnV] at Htx
  have Hput := hid (fun W => put2_calls ⟨2, ⟨c, e, s⟩, aud, l, body, false, tag⟩ am nm cm W)
  simp only [msgV] at Hput
  have HMAY := hid hmay
  have HTL := hid h.lt
  have HBL := hid h.lb
  clear hdd hc h hX hmay hty htm
  simp only [msgV] at Hc ⊢
  have Hlk : Kp (∀ (W : World) (b n : Nat), W.ownsMap Try.prog 5 kR b n kD → (Instr.lookup 65 (.map (some b)) (.int .u8 2) false).run Try.prog W = .ok (.agg #[.string (ofL (wordK 2)), .int .i64 1, .int .i64 2, .func (.func 63) #[] #[], .func (.func 64) #[] #[], .func (.func 66) #[] #[]]) W) := hid (fun W b n ho => (kinds_look (k := 2) (by omega) ho).2)
  go_enter Try.func8, Try.ntmps8
  go_wp2_with fail
  refine Hc.out.mono ?_
  rintro e1 w1 ⟨rfl, hb1⟩
  have HB1 := hid (below_then HB.out HB.out.size hb1)
  have HBK1 := hid (Hbk.out.below hb1)
  have c0 := HBK1.out.val 0 rfl
  have hne1 : w1.heap.size ≠ w.heap.size := by have := HBK1.out.lt; omega
  clear hb1 Hc Hbk HB
  go_wp2_with fail
  go_region_held2 (fun w' => w'.cell? ⟨w.heap.size, 0, none⟩ = some (.int .u8 2))
    ((go_split_ands; (with_reducible (repeat (first | refine cell_setF (by assumption) ?_))) <;> (with_reducible first | assumption | exact cell_alloc_of _ (by assumption) | skip) <;> with_reducible first | exact c0 | exact cell_alloc_of _ c0 | exact cell_alloc_drew _ c0 | exact cell_drew c0))
    (first
      | (go_at_call 27; (go_split_ands; refine (kinds_calls _).mono ?_; rintro e9 wn ⟨bm, rfl, hown, -, -, hbn⟩; have hl1 := Hlk.out _ _ _ hown; have hl2 := Hlk.out _ _ _ hown.drew; have hl3 := Hlk.out _ _ _ (hown.kept (World.grownBy_alloc wn (.cells #[.string ⟨#[]⟩, .int .i64 0, .int .i64 0, .nilFunc, .nilFunc, .nilFunc] 64) none) (by simp)); have hl4 := Hlk.out _ _ _ (hown.drew.kept (World.grownBy_alloc wn.drew (.cells #[.string ⟨#[]⟩, .int .i64 0, .int .i64 0, .nilFunc, .nilFunc, .nilFunc] 64) none) (by simp)); have hk0 : Below w1.heap.size w1 wn := (by first | exact hbn | exact btd hbn | exact bt1 (Below.refl _ _) hbn | exact bt0 (((Below.refl _ _).alloc (Nat.le_refl _) _).drew) hbn); have hbk := HBK1.out.below hk0; have u0 := hbk.val 0 rfl; clear hbk; first | (have hbz : BlkAt wn w1.heap.size #[.string ⟨#[]⟩, .int .i64 0, .int .i64 0, .nilFunc, .nilFunc, .nilFunc] 64 := (BlkAt.new w1 _ _).drew.below hbn; have z0 := hbz.val 0 rfl; have z1 := hbz.val 1 rfl; have z2 := hbz.val 2 rfl; have z3 := hbz.val 3 rfl; have z4 := hbz.val 4 rfl; have z5 := hbz.val 5 rfl; have g0 := hbz.frozen 0; have g1 := hbz.frozen 1; have g2 := hbz.frozen 2; have g3 := hbz.frozen 3; have g4 := hbz.frozen 4; have g5 := hbz.frozen 5) | skip)))
  all_goals
    go_split_ands
    refine gen3 (fun b W => BlkAt W b #[.string (ofL (wordK 2)), .int .i64 1, .int .i64 2, .func (.func 63) #[] #[], .func (.func 64) #[] #[], .func (.func 66) #[] #[]] 64 ∧ Below w1.heap.size w1 W) (by first | exact ⟨(((((hbz.set 0 _).set 1 _).set 2 _).set 3 _).set 4 _).set 5 _, below_set (below_set (below_set (below_set (below_set (below_set hk0 (by simp) _) (by simp) _) (by simp) _) (by simp) _) (by simp) _) (by simp) _⟩ | with_reducible exact ⟨BlkAt.new _ _ _, hk0.alloc hk0.size _⟩ | with_reducible exact ⟨BlkAt.new _ _ _, hk0.drew.alloc hk0.size _⟩) ?_
  all_goals
    rintro W9 ⟨hz9, hb9⟩
    have HB9 := hid (below_then HB1.out HB1.out.size hb9)
    have HBK9 := hid (HBK1.out.below hb9)
    have HZ9 := hid hz9
    with_reducible (try (rename World.cell? (World.setCell _ _ _) _ = _ => hheld; clear hheld))
    clear hz9 hb9 hk0 hbn u0 hl1 hl2 c0 hne1 Hlk HB1 HBK1
    (try clear hl3 hl4 hown)
    (try clear hbz z0 z1 z2 z3 z4 z5 g0 g1 g2 g3 g4 g5)
    have z0 := HZ9.out.val 0 rfl
    go_wp2_with fail
    refine (Hd.out _).mono ?_
    rintro e10 w10 ⟨rfl, hb10⟩
    have HB10 := hid (below_then HB9.out HB9.out.size hb10)
    have HBK10 := hid (HBK9.out.below hb10)
    have HZ10 := hid (HZ9.out.below hb10)
    clear hb10 z0 HB9 HBK9 HZ9
    have hA := (Below.refl w10.heap.size w10).alloc (Nat.le_refl _) (.cells #[.string (ofL (wordD 2))] 9)
    have HOA := hid (ownStrs_one w10 (wordD 2))
    have c0 := (HBK10.out.below hA).val 0 rfl
    have c1 := (HBK10.out.below hA).val 1 rfl
    have c2 := (HBK10.out.below hA).val 2 rfl
    have c3 := (HBK10.out.below hA).val 3 rfl
    have HA := hid hA
    clear hA
    go_wp2_with fail
    refine (Htx.out _).mono ?_
    rintro e12 w12 ⟨rfl, hb12⟩
    have hown := HOA.out.below hb12
    have hE := below_then HA.out HA.out.size hb12
    have hEs := hE.size
    have HE := hid hE
    clear hE hb12 c0 c1 c2 c3 HOA
    go_wp2_with (first | (at_builtin; refine wpList_append_lies _ rfl _ _ _ rfl w10.heap.size 9 i0 _ 1 16 Try.underlying55 hi0 hz0 hz1 hz2 rfl (by omega) (.slice (some ⟨w10.heap.size, 0, none⟩) 1 1) 1 ([wordD 2].map strV) rfl (hown.alloc _) ⟨w12.heap.size, 0, none⟩ 1 1 [strV tm] rfl rfl (World.news_of_block (cs := #[strV tm]) (t := 9) (fr := (0, 0)) (heap_alloc_new w12 _)) (by simp [Value.oneCell', strV]) (by omega) (by unfold maxLen; omega) (by omega) (by simp; omega) (w12.heap.size + 1) (by simp) ?_; intro gg cap2 w13 hown13 hgrow hat hlt2; have hb13 : Below w10.heap.size w10 w13 := (HE.out.alloc hEs _).grown hgrow (by simp; omega) (fun j hj => (hown.lt j hj).1); have HBK13 := hid (HBK10.out.below hb13); have HZ13 := hid (HZ10.out.below hb13); have c0 := HBK13.out.val 0 rfl; have c1 := HBK13.out.val 1 rfl; have c2 := HBK13.out.val 2 rfl; have c3 := HBK13.out.val 3 rfl; have c4 := HBK13.out.val 4 rfl; have c5 := HBK13.out.val 5 rfl; have c6 := HBK13.out.val 6 rfl; have c7 := HBK13.out.val 7 rfl; have c8 := HBK13.out.val 8 rfl; have z4 := HZ13.out.val 4 rfl))
    have HO13 : Kp (OwnStrs w10.heap.size w13 (.slice (some ⟨gg, 0, none⟩) 2 cap2) [wordD 2, tm]) := hid hown13
    have HB13 := hid (below_then HB10.out HB10.out.size hb13)
    have HS13 := hid hb13.size
    have HBS : Kp (w.heap.size ≤ w10.heap.size) := hid HB10.out.size
    clear hown13 hgrow hat hown hb13 HE hEs HBK10 HZ10 HA HB10
    refine (Hput.out _).mono ?_
    rintro e14 w14 ⟨ap, np, cp, rfl, hnp, hsp, -, hb14⟩
    have hnp1 : np = 1 := hnp
    subst hnp1
    have hsp2 : StrsAt w14 ap [flag false] := hsp
    obtain ⟨bp, op, rfl⟩ := strs_addr (by simp) hsp2
    have hnews := news_strs hsp2
    have hown := HO13.out.below hb14
    have HB14 := hid (below_then HB13.out HB13.out.size hb14)
    have hs14 : w10.heap.size ≤ w14.heap.size := Nat.le_trans HS13.out hb14.size
    have HNEWS := hid hnews
    clear hnp hsp hsp2 hnews hb14 HB13 HBK13 HZ13 c0 c1 c2 c3 c4 c5 c6 c7 c8 z4
    go_wp2_with (first | (at_builtin; refine wpList_append_lies _ rfl _ _ _ rfl w10.heap.size 9 i0 _ 1 16 Try.underlying55 hi0 hz0 hz1 hz2 rfl (by omega) (.slice (some ⟨gg, 0, none⟩) 2 cap2) 2 ([wordD 2, tm].map strV) rfl hown ⟨bp, op, none⟩ 1 cp ([flag false].map strV) rfl rfl HNEWS.out (by simp [Value.oneCell', strV]) (by omega) (by unfold maxLen; omega) (by omega) hs14 w14.heap.size rfl ?_; intro g3 cap3 w15 hown15 hgrow15 hat15 hlt15))
    have hb15 : Below w.heap.size w w15 := HB14.out.grown hgrow15 HB14.out.size (fun j hj => Nat.le_trans HBS.out (hown.lt j hj).1)
    have hown : OwnStrs w10.heap.size w15 (.slice (some ⟨g3, 0, none⟩) 3 cap3) ([wordD 2, tm] ++ [flag false]) := hown15
    have HBX := hid hb15
    clear hb15 hown15 hgrow15 hat15 hlt15 hs14 HB14 HNEWS
    have hStr := hown.at_
    have HPX : Kp ((if (([wordD 2, tm] ++ [flag false]) : List Bs).any (·.isEmpty) then (.error 5 : Except Nat Bs) else row ([wordD 2, tm] ++ [flag false])) = X) := hid (by rw [← HX.out]; unfold encM; rw [if_pos HMAY.out, HP.out] <;> rfl)
    obtain ⟨L, hL⟩ : ∃ L : List Bs, ([wordD 2, tm] ++ [flag false]) = L := ⟨_, rfl⟩
    have hLn : L.length = 3 := by rw [← hL]; rfl
    have hLd : ∀ s ∈ L, s.length ≤ 10000000 := by rw [← hL]; intro q hq; simp at hq; rcases hq with rfl | rfl | rfl; (have := wordD_len 2; omega); omega; (have := flag_len false; omega)
    rw [hL] at hStr HPX
    have HLd := hid hLd
    clear hLd
    have HS := hid hStr
    have HLn := hid hLn
    clear hStr hLn hL hown HX HP Hmsg Hput Htx Hd HS13 HO13
    go_loopw [12, 51] (fun _ i wr => ∃ j : Nat, j ≤ 3 ∧ i = .int .i64 j ∧ (L.take j).any (·.isEmpty) = false ∧ wr = w15) (fun _ i _ => 3 - (intOf i).toNat)
    case atStart => exact ⟨0, by omega, rfl, rfl, rfl⟩
    case round =>
      obtain ⟨j, hj, rfl, hz, rfl⟩ := hrel
      by_cases hlt : j < 3
      · have hjl : j < L.length := by have := HLn.out; omega
        obtain ⟨bb, off, hab, hcell⟩ := HS.out j hjl
        injection hab with hab
        injection hab with hab1 hab2 hab3
        subst hab1 hab2
        rw [Nat.zero_add] at hcell
        have hlt' : (j : Int) < 3 := by omega
        have hsn := fun hne => any_snoc hjl hz hne
        have hit := fun hne => any_hit hjl hne
        generalize hx : L[j]'hjl = y at hcell hsn hit
        rcases y with _ | ⟨y0, y1⟩
        · have HF : Kp (X = .error 5) := hid (by rw [← HPX.out, if_pos (hit rfl)])
          clear hsn hit hx HPX HS
          go_wp2
          go_ret2
          exact ⟨by rw [HF.out]; rfl, HBX.out⟩
        · have HN := hid (hsn rfl)
          clear hsn hit hx
          go_wp2
          go_roundw
          case rel => exact ⟨j + 1, by omega, by go_num, HN.out, by trivial⟩
          case measure => simp [intOf]; omega
      · have hlt' : ¬ (j : Int) < 3 := by omega
        obtain rfl : j = 3 := by omega
        have hall : L.any (·.isEmpty) = false := by
          rw [List.take_of_length_le (by have := HLn.out; omega)] at hz; exact hz
        have hrow := row_calls (some ⟨g3, 0, none⟩) 3 cap3 L HLn.out.symm (by have := HLn.out; omega) HLd.out _ HS.out
        have hXr : row L = X := by rw [← HPX.out, hall]; rfl
        rw [hXr] at hrow
        have Hrow := hid hrow
        clear hrow hXr hall hz HPX HS
        rcases X with xe | xs
        all_goals
          simp only [encMade] at Hrow
          go_wp2_with fail
          refine Hrow.out.mono ?_
          rintro e15 w15 ⟨rfl, hb15⟩
          have HB15 := hid (below_then HBX.out HBX.out.size hb15)
          clear hb15
          go_wp2
          go_ret2
          exact ⟨rfl, HB15.out⟩

set_option maxRecDepth 20000 in
set_option maxHeartbeats 8000000 in
theorem wenc_2t (c e s aud : Int) (l : List Mem) (body tag : Bs) (yes : Bool) (am : Option Addr) (nm cm : Nat) (w : World) (h : MsgAt ⟨2, ⟨c, e, s⟩, aud, l, body, true, tag⟩ am nm cm w) (hmay : mayM ⟨2, ⟨c, e, s⟩, aud, l, body, true, tag⟩ = true) (X : Except Nat Bs) (hX : encM ⟨2, ⟨c, e, s⟩, aud, l, body, true, tag⟩ = X) :
    Calls Try.prog 8 #[msgV ⟨2, ⟨c, e, s⟩, aud, l, body, true, tag⟩ am nm cm] w fun e w' => e = .returned (encMade X) ∧ Below w.heap.size w w' := by
  have HB := hid ((Below.refl w.heap.size w).alloc (Nat.le_refl _) (.cells #[.int .u8 2, .int .i64 c, .int .i64 e, .int .i64 s, .int .i64 aud, .slice am nm cm, .string (ofL body), .bool true, .string (ofL tag)] 26))
  have Hbk := hid (BlkAt.new w #[.int .u8 2, .int .i64 c, .int .i64 e, .int .i64 s, .int .i64 aud, .slice am nm cm, .string (ofL body), .bool true, .string (ofL tag)] 26)
  have hc := wcheck_calls ⟨2, ⟨c, e, s⟩, aud, l, body, true, tag⟩ am nm cm _ (h.below HB.out)
  rw [hmay] at hc
  have Hc := hid hc
  have Hmsg := hid (fun W (hb : Below w.heap.size w W) => h.below hb)
  have HX := hid hX
  have Hd := hid (fun W => data_calls (wordK 2) (by have := word_short 2; omega) W)
  have hdd : encMade (data (wordK 2)) = .tuple #[.string (ofL (wordD 2)), .int .i64 0] := by rw [data_ok (word_short 2), wordD_is]; rfl
  rw [hdd] at Hd
  obtain ⟨i0, hi0, hz0, hz1, hz2⟩ := info_parts info_string
  obtain ⟨tm, htm⟩ : ∃ tm, orNo (txnT ⟨c, e, s⟩) = tm := ⟨_, rfl⟩
  have Htx := hid (fun W => txn_calls ⟨c, e, s⟩ W)
  obtain ⟨ty, hty⟩ := txnT_or ⟨c, e, s⟩
  rw [hty, htm] at Htx
  have htl : tm.length ≤ 16384 := by rw [← htm]; exact orTxn_len _
  have HP : Kp (partsM ⟨2, ⟨c, e, s⟩, aud, l, body, true, tag⟩ = [wordD 2, tm] ++ putK 2 ⟨2, ⟨c, e, s⟩, aud, l, body, true, tag⟩) := hid (by unfold partsM; rw [htm]; rfl)
  simp only [txnV] at Htx
  have Hput := hid (fun W => put2_calls ⟨2, ⟨c, e, s⟩, aud, l, body, true, tag⟩ am nm cm W)
  simp only [msgV] at Hput
  have HMAY := hid hmay
  have HTL := hid h.lt
  have HBL := hid h.lb
  clear hdd hc h hX hmay hty htm
  simp only [msgV] at Hc ⊢
  have Hlk : Kp (∀ (W : World) (b n : Nat), W.ownsMap Try.prog 5 kR b n kD → (Instr.lookup 65 (.map (some b)) (.int .u8 2) false).run Try.prog W = .ok (.agg #[.string (ofL (wordK 2)), .int .i64 1, .int .i64 2, .func (.func 63) #[] #[], .func (.func 64) #[] #[], .func (.func 66) #[] #[]]) W) := hid (fun W b n ho => (kinds_look (k := 2) (by omega) ho).2)
  go_enter Try.func8, Try.ntmps8
  go_wp2_with fail
  refine Hc.out.mono ?_
  rintro e1 w1 ⟨rfl, hb1⟩
  have HB1 := hid (below_then HB.out HB.out.size hb1)
  have HBK1 := hid (Hbk.out.below hb1)
  have c0 := HBK1.out.val 0 rfl
  have hne1 : w1.heap.size ≠ w.heap.size := by have := HBK1.out.lt; omega
  clear hb1 Hc Hbk HB
  go_wp2_with fail
  go_region_held2 (fun w' => w'.cell? ⟨w.heap.size, 0, none⟩ = some (.int .u8 2))
    ((go_split_ands; (with_reducible (repeat (first | refine cell_setF (by assumption) ?_))) <;> (with_reducible first | assumption | exact cell_alloc_of _ (by assumption) | skip) <;> with_reducible first | exact c0 | exact cell_alloc_of _ c0 | exact cell_alloc_drew _ c0 | exact cell_drew c0))
    (first
      | (go_at_call 27; (go_split_ands; refine (kinds_calls _).mono ?_; rintro e9 wn ⟨bm, rfl, hown, -, -, hbn⟩; have hl1 := Hlk.out _ _ _ hown; have hl2 := Hlk.out _ _ _ hown.drew; have hl3 := Hlk.out _ _ _ (hown.kept (World.grownBy_alloc wn (.cells #[.string ⟨#[]⟩, .int .i64 0, .int .i64 0, .nilFunc, .nilFunc, .nilFunc] 64) none) (by simp)); have hl4 := Hlk.out _ _ _ (hown.drew.kept (World.grownBy_alloc wn.drew (.cells #[.string ⟨#[]⟩, .int .i64 0, .int .i64 0, .nilFunc, .nilFunc, .nilFunc] 64) none) (by simp)); have hk0 : Below w1.heap.size w1 wn := (by first | exact hbn | exact btd hbn | exact bt1 (Below.refl _ _) hbn | exact bt0 (((Below.refl _ _).alloc (Nat.le_refl _) _).drew) hbn); have hbk := HBK1.out.below hk0; have u0 := hbk.val 0 rfl; clear hbk; first | (have hbz : BlkAt wn w1.heap.size #[.string ⟨#[]⟩, .int .i64 0, .int .i64 0, .nilFunc, .nilFunc, .nilFunc] 64 := (BlkAt.new w1 _ _).drew.below hbn; have z0 := hbz.val 0 rfl; have z1 := hbz.val 1 rfl; have z2 := hbz.val 2 rfl; have z3 := hbz.val 3 rfl; have z4 := hbz.val 4 rfl; have z5 := hbz.val 5 rfl; have g0 := hbz.frozen 0; have g1 := hbz.frozen 1; have g2 := hbz.frozen 2; have g3 := hbz.frozen 3; have g4 := hbz.frozen 4; have g5 := hbz.frozen 5) | skip)))
  all_goals
    go_split_ands
    refine gen3 (fun b W => BlkAt W b #[.string (ofL (wordK 2)), .int .i64 1, .int .i64 2, .func (.func 63) #[] #[], .func (.func 64) #[] #[], .func (.func 66) #[] #[]] 64 ∧ Below w1.heap.size w1 W) (by first | exact ⟨(((((hbz.set 0 _).set 1 _).set 2 _).set 3 _).set 4 _).set 5 _, below_set (below_set (below_set (below_set (below_set (below_set hk0 (by simp) _) (by simp) _) (by simp) _) (by simp) _) (by simp) _) (by simp) _⟩ | with_reducible exact ⟨BlkAt.new _ _ _, hk0.alloc hk0.size _⟩ | with_reducible exact ⟨BlkAt.new _ _ _, hk0.drew.alloc hk0.size _⟩) ?_
  all_goals
    rintro W9 ⟨hz9, hb9⟩
    have HB9 := hid (below_then HB1.out HB1.out.size hb9)
    have HBK9 := hid (HBK1.out.below hb9)
    have HZ9 := hid hz9
    with_reducible (try (rename World.cell? (World.setCell _ _ _) _ = _ => hheld; clear hheld))
    clear hz9 hb9 hk0 hbn u0 hl1 hl2 c0 hne1 Hlk HB1 HBK1
    (try clear hl3 hl4 hown)
    (try clear hbz z0 z1 z2 z3 z4 z5 g0 g1 g2 g3 g4 g5)
    have z0 := HZ9.out.val 0 rfl
    go_wp2_with fail
    refine (Hd.out _).mono ?_
    rintro e10 w10 ⟨rfl, hb10⟩
    have HB10 := hid (below_then HB9.out HB9.out.size hb10)
    have HBK10 := hid (HBK9.out.below hb10)
    have HZ10 := hid (HZ9.out.below hb10)
    clear hb10 z0 HB9 HBK9 HZ9
    have hA := (Below.refl w10.heap.size w10).alloc (Nat.le_refl _) (.cells #[.string (ofL (wordD 2))] 9)
    have HOA := hid (ownStrs_one w10 (wordD 2))
    have c0 := (HBK10.out.below hA).val 0 rfl
    have c1 := (HBK10.out.below hA).val 1 rfl
    have c2 := (HBK10.out.below hA).val 2 rfl
    have c3 := (HBK10.out.below hA).val 3 rfl
    have HA := hid hA
    clear hA
    go_wp2_with fail
    refine (Htx.out _).mono ?_
    rintro e12 w12 ⟨rfl, hb12⟩
    have hown := HOA.out.below hb12
    have hE := below_then HA.out HA.out.size hb12
    have hEs := hE.size
    have HE := hid hE
    clear hE hb12 c0 c1 c2 c3 HOA
    go_wp2_with (first | (at_builtin; refine wpList_append_lies _ rfl _ _ _ rfl w10.heap.size 9 i0 _ 1 16 Try.underlying55 hi0 hz0 hz1 hz2 rfl (by omega) (.slice (some ⟨w10.heap.size, 0, none⟩) 1 1) 1 ([wordD 2].map strV) rfl (hown.alloc _) ⟨w12.heap.size, 0, none⟩ 1 1 [strV tm] rfl rfl (World.news_of_block (cs := #[strV tm]) (t := 9) (fr := (0, 0)) (heap_alloc_new w12 _)) (by simp [Value.oneCell', strV]) (by omega) (by unfold maxLen; omega) (by omega) (by simp; omega) (w12.heap.size + 1) (by simp) ?_; intro gg cap2 w13 hown13 hgrow hat hlt2; have hb13 : Below w10.heap.size w10 w13 := (HE.out.alloc hEs _).grown hgrow (by simp; omega) (fun j hj => (hown.lt j hj).1); have HBK13 := hid (HBK10.out.below hb13); have HZ13 := hid (HZ10.out.below hb13); have c0 := HBK13.out.val 0 rfl; have c1 := HBK13.out.val 1 rfl; have c2 := HBK13.out.val 2 rfl; have c3 := HBK13.out.val 3 rfl; have c4 := HBK13.out.val 4 rfl; have c5 := HBK13.out.val 5 rfl; have c6 := HBK13.out.val 6 rfl; have c7 := HBK13.out.val 7 rfl; have c8 := HBK13.out.val 8 rfl; have z4 := HZ13.out.val 4 rfl))
    have HO13 : Kp (OwnStrs w10.heap.size w13 (.slice (some ⟨gg, 0, none⟩) 2 cap2) [wordD 2, tm]) := hid hown13
    have HB13 := hid (below_then HB10.out HB10.out.size hb13)
    have HS13 := hid hb13.size
    have HBS : Kp (w.heap.size ≤ w10.heap.size) := hid HB10.out.size
    clear hown13 hgrow hat hown hb13 HE hEs HBK10 HZ10 HA HB10
    refine (Hput.out _).mono ?_
    rintro e14 w14 ⟨ap, np, cp, rfl, hnp, hsp, -, hb14⟩
    have hnp1 : np = 2 := hnp
    subst hnp1
    have hsp2 : StrsAt w14 ap [flag true, tag] := hsp
    obtain ⟨bp, op, rfl⟩ := strs_addr (by simp) hsp2
    have hnews := news_strs hsp2
    have hown := HO13.out.below hb14
    have HB14 := hid (below_then HB13.out HB13.out.size hb14)
    have hs14 : w10.heap.size ≤ w14.heap.size := Nat.le_trans HS13.out hb14.size
    have HNEWS := hid hnews
    clear hnp hsp hsp2 hnews hb14 HB13 HBK13 HZ13 c0 c1 c2 c3 c4 c5 c6 c7 c8 z4
    go_wp2_with (first | (at_builtin; refine wpList_append_lies _ rfl _ _ _ rfl w10.heap.size 9 i0 _ 1 16 Try.underlying55 hi0 hz0 hz1 hz2 rfl (by omega) (.slice (some ⟨gg, 0, none⟩) 2 cap2) 2 ([wordD 2, tm].map strV) rfl hown ⟨bp, op, none⟩ 2 cp ([flag true, tag].map strV) rfl rfl HNEWS.out (by simp [Value.oneCell', strV]) (by omega) (by unfold maxLen; omega) (by omega) hs14 w14.heap.size rfl ?_; intro g3 cap3 w15 hown15 hgrow15 hat15 hlt15))
    have hb15 : Below w.heap.size w w15 := HB14.out.grown hgrow15 HB14.out.size (fun j hj => Nat.le_trans HBS.out (hown.lt j hj).1)
    have hown : OwnStrs w10.heap.size w15 (.slice (some ⟨g3, 0, none⟩) 4 cap3) ([wordD 2, tm] ++ [flag true, tag]) := hown15
    have HBX := hid hb15
    clear hb15 hown15 hgrow15 hat15 hlt15 hs14 HB14 HNEWS
    have hStr := hown.at_
    have HPX : Kp ((if (([wordD 2, tm] ++ [flag true, tag]) : List Bs).any (·.isEmpty) then (.error 5 : Except Nat Bs) else row ([wordD 2, tm] ++ [flag true, tag])) = X) := hid (by rw [← HX.out]; unfold encM; rw [if_pos HMAY.out, HP.out] <;> rfl)
    obtain ⟨L, hL⟩ : ∃ L : List Bs, ([wordD 2, tm] ++ [flag true, tag]) = L := ⟨_, rfl⟩
    have hLn : L.length = 4 := by rw [← hL]; rfl
    have hLd : ∀ s ∈ L, s.length ≤ 10000000 := by rw [← hL]; intro q hq; simp at hq; rcases hq with rfl | rfl | rfl | rfl; (have := wordD_len 2; omega); omega; (have := flag_len true; omega); exact HTL.out
    rw [hL] at hStr HPX
    have HLd := hid hLd
    clear hLd
    have HS := hid hStr
    have HLn := hid hLn
    clear hStr hLn hL hown HX HP Hmsg Hput Htx Hd HS13 HO13
    go_loopw [12, 51] (fun _ i wr => ∃ j : Nat, j ≤ 4 ∧ i = .int .i64 j ∧ (L.take j).any (·.isEmpty) = false ∧ wr = w15) (fun _ i _ => 4 - (intOf i).toNat)
    case atStart => exact ⟨0, by omega, rfl, rfl, rfl⟩
    case round =>
      obtain ⟨j, hj, rfl, hz, rfl⟩ := hrel
      by_cases hlt : j < 4
      · have hjl : j < L.length := by have := HLn.out; omega
        obtain ⟨bb, off, hab, hcell⟩ := HS.out j hjl
        injection hab with hab
        injection hab with hab1 hab2 hab3
        subst hab1 hab2
        rw [Nat.zero_add] at hcell
        have hlt' : (j : Int) < 4 := by omega
        have hsn := fun hne => any_snoc hjl hz hne
        have hit := fun hne => any_hit hjl hne
        generalize hx : L[j]'hjl = y at hcell hsn hit
        rcases y with _ | ⟨y0, y1⟩
        · have HF : Kp (X = .error 5) := hid (by rw [← HPX.out, if_pos (hit rfl)])
          clear hsn hit hx HPX HS
          go_wp2
          go_ret2
          exact ⟨by rw [HF.out]; rfl, HBX.out⟩
        · have HN := hid (hsn rfl)
          clear hsn hit hx
          go_wp2
          go_roundw
          case rel => exact ⟨j + 1, by omega, by go_num, HN.out, by trivial⟩
          case measure => simp [intOf]; omega
      · have hlt' : ¬ (j : Int) < 4 := by omega
        obtain rfl : j = 4 := by omega
        have hall : L.any (·.isEmpty) = false := by
          rw [List.take_of_length_le (by have := HLn.out; omega)] at hz; exact hz
        have hrow := row_calls (some ⟨g3, 0, none⟩) 4 cap3 L HLn.out.symm (by have := HLn.out; omega) HLd.out _ HS.out
        have hXr : row L = X := by rw [← HPX.out, hall]; rfl
        rw [hXr] at hrow
        have Hrow := hid hrow
        clear hrow hXr hall hz HPX HS
        rcases X with xe | xs
        all_goals
          simp only [encMade] at Hrow
          go_wp2_with fail
          refine Hrow.out.mono ?_
          rintro e15 w15 ⟨rfl, hb15⟩
          have HB15 := hid (below_then HBX.out HBX.out.size hb15)
          clear hb15
          go_wp2
          go_ret2
          exact ⟨rfl, HB15.out⟩

set_option maxRecDepth 20000 in
set_option maxHeartbeats 8000000 in
theorem wenc_3 (c e s aud : Int) (l : List Mem) (body tag : Bs) (yes : Bool) (am : Option Addr) (nm cm : Nat) (w : World) (h : MsgAt ⟨3, ⟨c, e, s⟩, aud, l, body, yes, tag⟩ am nm cm w) (hmay : mayM ⟨3, ⟨c, e, s⟩, aud, l, body, yes, tag⟩ = true) (X : Except Nat Bs) (hX : encM ⟨3, ⟨c, e, s⟩, aud, l, body, yes, tag⟩ = X) :
    Calls Try.prog 8 #[msgV ⟨3, ⟨c, e, s⟩, aud, l, body, yes, tag⟩ am nm cm] w fun e w' => e = .returned (encMade X) ∧ Below w.heap.size w w' := by
  have HB := hid ((Below.refl w.heap.size w).alloc (Nat.le_refl _) (.cells #[.int .u8 3, .int .i64 c, .int .i64 e, .int .i64 s, .int .i64 aud, .slice am nm cm, .string (ofL body), .bool yes, .string (ofL tag)] 26))
  have Hbk := hid (BlkAt.new w #[.int .u8 3, .int .i64 c, .int .i64 e, .int .i64 s, .int .i64 aud, .slice am nm cm, .string (ofL body), .bool yes, .string (ofL tag)] 26)
  have hc := wcheck_calls ⟨3, ⟨c, e, s⟩, aud, l, body, yes, tag⟩ am nm cm _ (h.below HB.out)
  rw [hmay] at hc
  have Hc := hid hc
  have Hmsg := hid (fun W (hb : Below w.heap.size w W) => h.below hb)
  have HX := hid hX
  have Hd := hid (fun W => data_calls (wordK 3) (by have := word_short 3; omega) W)
  have hdd : encMade (data (wordK 3)) = .tuple #[.string (ofL (wordD 3)), .int .i64 0] := by rw [data_ok (word_short 3), wordD_is]; rfl
  rw [hdd] at Hd
  obtain ⟨i0, hi0, hz0, hz1, hz2⟩ := info_parts info_string
  obtain ⟨tm, htm⟩ : ∃ tm, orNo (txnT ⟨c, e, s⟩) = tm := ⟨_, rfl⟩
  have Htx := hid (fun W => txn_calls ⟨c, e, s⟩ W)
  obtain ⟨ty, hty⟩ := txnT_or ⟨c, e, s⟩
  rw [hty, htm] at Htx
  have htl : tm.length ≤ 16384 := by rw [← htm]; exact orTxn_len _
  have HP : Kp (partsM ⟨3, ⟨c, e, s⟩, aud, l, body, yes, tag⟩ = [wordD 3, tm] ++ putK 3 ⟨3, ⟨c, e, s⟩, aud, l, body, yes, tag⟩) := hid (by unfold partsM; rw [htm]; rfl)
  simp only [txnV] at Htx
  have Hput := hid (fun W => put3_calls ⟨3, ⟨c, e, s⟩, aud, l, body, yes, tag⟩ am nm cm W)
  simp only [msgV] at Hput
  have HMAY := hid hmay
  have HTL := hid h.lt
  have HBL := hid h.lb
  clear hdd hc h hX hmay hty htm
  simp only [msgV] at Hc ⊢
  have Hlk : Kp (∀ (W : World) (b n : Nat), W.ownsMap Try.prog 5 kR b n kD → (Instr.lookup 65 (.map (some b)) (.int .u8 3) false).run Try.prog W = .ok (.agg #[.string (ofL (wordK 3)), .int .i64 1, .int .i64 1, .func (.func 68) #[] #[], .func (.func 69) #[] #[], .func (.func 70) #[] #[]]) W) := hid (fun W b n ho => (kinds_look (k := 3) (by omega) ho).2)
  go_enter Try.func8, Try.ntmps8
  go_wp2_with fail
  refine Hc.out.mono ?_
  rintro e1 w1 ⟨rfl, hb1⟩
  have HB1 := hid (below_then HB.out HB.out.size hb1)
  have HBK1 := hid (Hbk.out.below hb1)
  have c0 := HBK1.out.val 0 rfl
  have hne1 : w1.heap.size ≠ w.heap.size := by have := HBK1.out.lt; omega
  clear hb1 Hc Hbk HB
  go_wp2_with fail
  go_region_held2 (fun w' => w'.cell? ⟨w.heap.size, 0, none⟩ = some (.int .u8 3))
    ((go_split_ands; (with_reducible (repeat (first | refine cell_setF (by assumption) ?_))) <;> (with_reducible first | assumption | exact cell_alloc_of _ (by assumption) | skip) <;> with_reducible first | exact c0 | exact cell_alloc_of _ c0 | exact cell_alloc_drew _ c0 | exact cell_drew c0))
    (first
      | (go_at_call 27; (go_split_ands; refine (kinds_calls _).mono ?_; rintro e9 wn ⟨bm, rfl, hown, -, -, hbn⟩; have hl1 := Hlk.out _ _ _ hown; have hl2 := Hlk.out _ _ _ hown.drew; have hl3 := Hlk.out _ _ _ (hown.kept (World.grownBy_alloc wn (.cells #[.string ⟨#[]⟩, .int .i64 0, .int .i64 0, .nilFunc, .nilFunc, .nilFunc] 64) none) (by simp)); have hl4 := Hlk.out _ _ _ (hown.drew.kept (World.grownBy_alloc wn.drew (.cells #[.string ⟨#[]⟩, .int .i64 0, .int .i64 0, .nilFunc, .nilFunc, .nilFunc] 64) none) (by simp)); have hk0 : Below w1.heap.size w1 wn := (by first | exact hbn | exact btd hbn | exact bt1 (Below.refl _ _) hbn | exact bt0 (((Below.refl _ _).alloc (Nat.le_refl _) _).drew) hbn); have hbk := HBK1.out.below hk0; have u0 := hbk.val 0 rfl; clear hbk; first | (have hbz : BlkAt wn w1.heap.size #[.string ⟨#[]⟩, .int .i64 0, .int .i64 0, .nilFunc, .nilFunc, .nilFunc] 64 := (BlkAt.new w1 _ _).drew.below hbn; have z0 := hbz.val 0 rfl; have z1 := hbz.val 1 rfl; have z2 := hbz.val 2 rfl; have z3 := hbz.val 3 rfl; have z4 := hbz.val 4 rfl; have z5 := hbz.val 5 rfl; have g0 := hbz.frozen 0; have g1 := hbz.frozen 1; have g2 := hbz.frozen 2; have g3 := hbz.frozen 3; have g4 := hbz.frozen 4; have g5 := hbz.frozen 5) | skip)))
  all_goals
    go_split_ands
    refine gen3 (fun b W => BlkAt W b #[.string (ofL (wordK 3)), .int .i64 1, .int .i64 1, .func (.func 68) #[] #[], .func (.func 69) #[] #[], .func (.func 70) #[] #[]] 64 ∧ Below w1.heap.size w1 W) (by first | exact ⟨(((((hbz.set 0 _).set 1 _).set 2 _).set 3 _).set 4 _).set 5 _, below_set (below_set (below_set (below_set (below_set (below_set hk0 (by simp) _) (by simp) _) (by simp) _) (by simp) _) (by simp) _) (by simp) _⟩ | with_reducible exact ⟨BlkAt.new _ _ _, hk0.alloc hk0.size _⟩ | with_reducible exact ⟨BlkAt.new _ _ _, hk0.drew.alloc hk0.size _⟩) ?_
  all_goals
    rintro W9 ⟨hz9, hb9⟩
    have HB9 := hid (below_then HB1.out HB1.out.size hb9)
    have HBK9 := hid (HBK1.out.below hb9)
    have HZ9 := hid hz9
    with_reducible (try (rename World.cell? (World.setCell _ _ _) _ = _ => hheld; clear hheld))
    clear hz9 hb9 hk0 hbn u0 hl1 hl2 c0 hne1 Hlk HB1 HBK1
    (try clear hl3 hl4 hown)
    (try clear hbz z0 z1 z2 z3 z4 z5 g0 g1 g2 g3 g4 g5)
    have z0 := HZ9.out.val 0 rfl
    go_wp2_with fail
    refine (Hd.out _).mono ?_
    rintro e10 w10 ⟨rfl, hb10⟩
    have HB10 := hid (below_then HB9.out HB9.out.size hb10)
    have HBK10 := hid (HBK9.out.below hb10)
    have HZ10 := hid (HZ9.out.below hb10)
    clear hb10 z0 HB9 HBK9 HZ9
    have hA := (Below.refl w10.heap.size w10).alloc (Nat.le_refl _) (.cells #[.string (ofL (wordD 3))] 9)
    have HOA := hid (ownStrs_one w10 (wordD 3))
    have c0 := (HBK10.out.below hA).val 0 rfl
    have c1 := (HBK10.out.below hA).val 1 rfl
    have c2 := (HBK10.out.below hA).val 2 rfl
    have c3 := (HBK10.out.below hA).val 3 rfl
    have HA := hid hA
    clear hA
    go_wp2_with fail
    refine (Htx.out _).mono ?_
    rintro e12 w12 ⟨rfl, hb12⟩
    have hown := HOA.out.below hb12
    have hE := below_then HA.out HA.out.size hb12
    have hEs := hE.size
    have HE := hid hE
    clear hE hb12 c0 c1 c2 c3 HOA
    go_wp2_with (first | (at_builtin; refine wpList_append_lies _ rfl _ _ _ rfl w10.heap.size 9 i0 _ 1 16 Try.underlying55 hi0 hz0 hz1 hz2 rfl (by omega) (.slice (some ⟨w10.heap.size, 0, none⟩) 1 1) 1 ([wordD 3].map strV) rfl (hown.alloc _) ⟨w12.heap.size, 0, none⟩ 1 1 [strV tm] rfl rfl (World.news_of_block (cs := #[strV tm]) (t := 9) (fr := (0, 0)) (heap_alloc_new w12 _)) (by simp [Value.oneCell', strV]) (by omega) (by unfold maxLen; omega) (by omega) (by simp; omega) (w12.heap.size + 1) (by simp) ?_; intro gg cap2 w13 hown13 hgrow hat hlt2; have hb13 : Below w10.heap.size w10 w13 := (HE.out.alloc hEs _).grown hgrow (by simp; omega) (fun j hj => (hown.lt j hj).1); have HBK13 := hid (HBK10.out.below hb13); have HZ13 := hid (HZ10.out.below hb13); have c0 := HBK13.out.val 0 rfl; have c1 := HBK13.out.val 1 rfl; have c2 := HBK13.out.val 2 rfl; have c3 := HBK13.out.val 3 rfl; have c4 := HBK13.out.val 4 rfl; have c5 := HBK13.out.val 5 rfl; have c6 := HBK13.out.val 6 rfl; have c7 := HBK13.out.val 7 rfl; have c8 := HBK13.out.val 8 rfl; have z4 := HZ13.out.val 4 rfl))
    have HO13 : Kp (OwnStrs w10.heap.size w13 (.slice (some ⟨gg, 0, none⟩) 2 cap2) [wordD 3, tm]) := hid hown13
    have HB13 := hid (below_then HB10.out HB10.out.size hb13)
    have HS13 := hid hb13.size
    have HBS : Kp (w.heap.size ≤ w10.heap.size) := hid HB10.out.size
    clear hown13 hgrow hat hown hb13 HE hEs HBK10 HZ10 HA HB10
    refine (Hput.out _).mono ?_
    rintro e14 w14 ⟨ap, np, cp, rfl, hnp, hsp, -, hb14⟩
    have hnp1 : np = 1 := hnp
    subst hnp1
    have hsp2 : StrsAt w14 ap [flag yes] := hsp
    obtain ⟨bp, op, rfl⟩ := strs_addr (by simp) hsp2
    have hnews := news_strs hsp2
    have hown := HO13.out.below hb14
    have HB14 := hid (below_then HB13.out HB13.out.size hb14)
    have hs14 : w10.heap.size ≤ w14.heap.size := Nat.le_trans HS13.out hb14.size
    have HNEWS := hid hnews
    clear hnp hsp hsp2 hnews hb14 HB13 HBK13 HZ13 c0 c1 c2 c3 c4 c5 c6 c7 c8 z4
    go_wp2_with (first | (at_builtin; refine wpList_append_lies _ rfl _ _ _ rfl w10.heap.size 9 i0 _ 1 16 Try.underlying55 hi0 hz0 hz1 hz2 rfl (by omega) (.slice (some ⟨gg, 0, none⟩) 2 cap2) 2 ([wordD 3, tm].map strV) rfl hown ⟨bp, op, none⟩ 1 cp ([flag yes].map strV) rfl rfl HNEWS.out (by simp [Value.oneCell', strV]) (by omega) (by unfold maxLen; omega) (by omega) hs14 w14.heap.size rfl ?_; intro g3 cap3 w15 hown15 hgrow15 hat15 hlt15))
    have hb15 : Below w.heap.size w w15 := HB14.out.grown hgrow15 HB14.out.size (fun j hj => Nat.le_trans HBS.out (hown.lt j hj).1)
    have hown : OwnStrs w10.heap.size w15 (.slice (some ⟨g3, 0, none⟩) 3 cap3) ([wordD 3, tm] ++ [flag yes]) := hown15
    have HBX := hid hb15
    clear hb15 hown15 hgrow15 hat15 hlt15 hs14 HB14 HNEWS
    have hStr := hown.at_
    have HPX : Kp ((if (([wordD 3, tm] ++ [flag yes]) : List Bs).any (·.isEmpty) then (.error 5 : Except Nat Bs) else row ([wordD 3, tm] ++ [flag yes])) = X) := hid (by rw [← HX.out]; unfold encM; rw [if_pos HMAY.out, HP.out] <;> rfl)
    obtain ⟨L, hL⟩ : ∃ L : List Bs, ([wordD 3, tm] ++ [flag yes]) = L := ⟨_, rfl⟩
    have hLn : L.length = 3 := by rw [← hL]; rfl
    have hLd : ∀ s ∈ L, s.length ≤ 10000000 := by rw [← hL]; intro q hq; simp at hq; rcases hq with rfl | rfl | rfl; (have := wordD_len 3; omega); omega; (have := flag_len yes; omega)
    rw [hL] at hStr HPX
    have HLd := hid hLd
    clear hLd
    have HS := hid hStr
    have HLn := hid hLn
    clear hStr hLn hL hown HX HP Hmsg Hput Htx Hd HS13 HO13
    go_loopw [12, 51] (fun _ i wr => ∃ j : Nat, j ≤ 3 ∧ i = .int .i64 j ∧ (L.take j).any (·.isEmpty) = false ∧ wr = w15) (fun _ i _ => 3 - (intOf i).toNat)
    case atStart => exact ⟨0, by omega, rfl, rfl, rfl⟩
    case round =>
      obtain ⟨j, hj, rfl, hz, rfl⟩ := hrel
      by_cases hlt : j < 3
      · have hjl : j < L.length := by have := HLn.out; omega
        obtain ⟨bb, off, hab, hcell⟩ := HS.out j hjl
        injection hab with hab
        injection hab with hab1 hab2 hab3
        subst hab1 hab2
        rw [Nat.zero_add] at hcell
        have hlt' : (j : Int) < 3 := by omega
        have hsn := fun hne => any_snoc hjl hz hne
        have hit := fun hne => any_hit hjl hne
        generalize hx : L[j]'hjl = y at hcell hsn hit
        rcases y with _ | ⟨y0, y1⟩
        · have HF : Kp (X = .error 5) := hid (by rw [← HPX.out, if_pos (hit rfl)])
          clear hsn hit hx HPX HS
          go_wp2
          go_ret2
          exact ⟨by rw [HF.out]; rfl, HBX.out⟩
        · have HN := hid (hsn rfl)
          clear hsn hit hx
          go_wp2
          go_roundw
          case rel => exact ⟨j + 1, by omega, by go_num, HN.out, by trivial⟩
          case measure => simp [intOf]; omega
      · have hlt' : ¬ (j : Int) < 3 := by omega
        obtain rfl : j = 3 := by omega
        have hall : L.any (·.isEmpty) = false := by
          rw [List.take_of_length_le (by have := HLn.out; omega)] at hz; exact hz
        have hrow := row_calls (some ⟨g3, 0, none⟩) 3 cap3 L HLn.out.symm (by have := HLn.out; omega) HLd.out _ HS.out
        have hXr : row L = X := by rw [← HPX.out, hall]; rfl
        rw [hXr] at hrow
        have Hrow := hid hrow
        clear hrow hXr hall hz HPX HS
        rcases X with xe | xs
        all_goals
          simp only [encMade] at Hrow
          go_wp2_with fail
          refine Hrow.out.mono ?_
          rintro e15 w15 ⟨rfl, hb15⟩
          have HB15 := hid (below_then HBX.out HBX.out.size hb15)
          clear hb15
          go_wp2
          go_ret2
          exact ⟨rfl, HB15.out⟩
end Go.Proofs.Ytohblakhojhklaa
