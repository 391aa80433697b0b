import Derived.Test.YtegkolepemcocaaWblk
/- The walk of receipt's decode, behind its first row. -/
namespace Go.Proofs.Ytegkolepemcocaa
open Go.RowKit Sp


/-- row with any number of parts: both ways. -/
theorem rrow_any (t : Bs) (hm : t.length ≤ 10000000) (w : World) : Calls Try.prog 76 #[.string (ofL t), .int .i64 (-1)] w fun e w' =>
    ((kind t = 3 ∧ ∃ v, e = .returned v ∧ OwnStrs w.heap.size w' v (cut t)) ∨ (kind t ≠ 3 ∧ e = .panicked (thrownR 7))) ∧ Below w.heap.size w w' := by
  by_cases hk : kind t = 3
  · refine (rrow_ok t hm (-1) hk (by omega) w).mono ?_
    rintro e w' ⟨v, rfl, ho, hb⟩
    exact ⟨.inl ⟨hk, v, rfl, ho⟩, hb⟩
  · refine (rrow_kind t hm (-1) hk w).mono ?_
    rintro e w' ⟨rfl, hb⟩
    exact ⟨.inr ⟨hk, rfl⟩, hb⟩

/-- What decode does behind its first row. -/
def decFive (x0 x1 x2 x3 x4 : Bs) : Except Nat Rcpt :=
  if x0 ≠ wordT then .error 7
  else match untxn x1 with
  | none => .error 7
  | some x => match readNumT x2 with
    | none => .error 7
    | some k => if kind x4 ≠ 3 ∨ kind x3 ≠ 3 then .error 7
      else match orgsOf (cut x3) with
      | none => .error 7
      | some l => if noTwice l = false then .error 260
        else match unmembers x x3 with
        | none => .error 7
        | some m => if mayR ⟨x, k, m, cut x4⟩ then .ok ⟨x, k, m, cut x4⟩ else .error 7
theorem decR_five {t x0 x1 x2 x3 x4 : Bs} (hl : t.length ≤ 16384) (hk : kind t = 3) (hc : cut t = [x0, x1, x2, x3, x4]) : decR t = decFive x0 x1 x2 x3 x4 := by
  have hr : rowP t 5 5 = some [x0, x1, x2, x3, x4] := by unfold rowP; rw [hc]; simp [hk]
  unfold decR
  rw [if_neg (by omega), hr]
  rfl

/-- What decode does behind its fourth row. -/
def decRest (x : Txn) (k : Int) (l4 : List Bs) (x3 : Bs) : Except Nat Rcpt :=
  if kind x3 ≠ 3 then .error 7
  else match orgsOf (cut x3) with
  | none => .error 7
  | some l => if noTwice l = false then .error 260
    else match unmembers x x3 with
    | none => .error 7
    | some m => if mayR ⟨x, k, m, l4⟩ then .ok ⟨x, k, m, l4⟩ else .error 7

theorem cell_farN {W : World} {b g i o : Nat} {v x : Value} (hne : b ≠ g) (h : W.cell? ⟨g, o, none⟩ = some v) : (W.setCell ⟨b, i, none⟩ x).cell? ⟨g, o, none⟩ = some v := (World.cell?_setCell_far _ _ _ _ hne).trans h
theorem rmust_any (b : Bool) (k : Int) (w : World) : Calls Try.prog 75 #[.bool b, .int .i64 k] w fun e w' => e = (if b then .returned (.tuple #[]) else .panicked (thrownR k)) ∧ w = w' := by
  cases b
  · exact rmust_no k w
  · exact rmust_ok k w
set_option maxRecDepth 20000 in
set_option maxHeartbeats 4000000 in
theorem rdec_core (t x0 x1 x2 x3 x4 : Bs) (hl : t.length ≤ 16384) (hk : kind t = 3) (hc : cut t = [x0, x1, x2, x3, x4]) (X : Except Nat Rcpt) (hX : decFive x0 x1 x2 x3 x4 = X) (w : World) :
    Calls Try.prog 37 #[.string (ofL t)] w fun e w' => rdecPost X w e w' := by
  have hd : ((t.length : Int) ≤ 16384) := by omega
  have hterms := (kind3_back hk).2.1
  rw [hc] at hterms
  have lx1 := term_len (hterms x1 (by simp))
  have lx2 := term_len (hterms x2 (by simp))
  have lx3 := term_len (hterms x3 (by simp))
  have lx4 := term_len (hterms x4 (by simp))
  clear hterms
  have hrow := fun W => rrow_ok t (by omega) 5 hk (by rw [hc]; simp) W
  rw [hc] at hrow
  have hdt := fun W => data_calls wordR (by decide) W
  rw [wordT_ok] at hdt
  simp only [encMade] at hdt
  have Hrow := hid hrow
  have Hdt := hid hdt
  have HX := hid hX
  clear hX hrow hdt hc hk
  go_enter Try.func37, Try.ntmps37
  go_wp2_with fail
  refine (rmust_ok _ _).mono ?_
  rintro e w1 ⟨rfl, rfl⟩
  go_wp2_with fail
  refine (Hrow.out _).mono ?_
  rintro e w1 ⟨v, rfl, hown, hb⟩
  obtain ⟨g, cap, rfl, h0, h1, h2, h3, h4⟩ := hown.cells5
  have hB1 : Below w.heap.size w w1 := below_then ((Below.refl _ w).alloc (Nat.le_refl _) _) (by simp) hb
  have hN0 : w.heap.size < w1.heap.size := by have := hb.size; simp at this; omega
  have HN := hid hN0
  clear hN0
  have hbase := hown
  have hC5 : ∀ W, Below w1.heap.size w1 W → (W.cell? ⟨g, 0, none⟩ = some (.string (ofL x0)) ∧ W.cell? ⟨g, 1, none⟩ = some (.string (ofL x1)) ∧ W.cell? ⟨g, 2, none⟩ = some (.string (ofL x2)) ∧ W.cell? ⟨g, 3, none⟩ = some (.string (ofL x3)) ∧ W.cell? ⟨g, 4, none⟩ = some (.string (ofL x4))) := fun W hb => by
    have hl := World.block_lt_of_cell? _ _ h0
    exact ⟨(hb.cell (p := ⟨g, 0, none⟩) hl).trans h0, (hb.cell (p := ⟨g, 1, none⟩) hl).trans h1, (hb.cell (p := ⟨g, 2, none⟩) hl).trans h2, (hb.cell (p := ⟨g, 3, none⟩) hl).trans h3, (hb.cell (p := ⟨g, 4, none⟩) hl).trans h4⟩
  have HC5 := hid hC5
  have hr : ∀ W, Below w1.heap.size w1 W → BlkAt W w.heap.size #[.int .i64 0, .int .i64 0, .int .i64 0, .int .i64 0, .slice none 0 0, .slice none 0 0] 27 := fun W hW => (BlkAt.new w _ _).below (below_then hb hb.size hW)
  have Hr := hid hr
  clear hown hb h1 h2 h3 h4 hC5 hbase hr
  have hW1 := Below.refl w1.heap.size w1
  go_wp2_with fail
  refine wp_region_panicSame w.heap.size w (thrownR 7) (X = .error 7) (fun a w' hd hE h => ?_) ?_
  · refine ⟨hd, ?_⟩
    rw [hE]
    exact ⟨rfl, h⟩
  go_region_held2 (fun w' => w'.cell? ⟨g, 0, none⟩ = some (.string (ofL x0)) ∧ Below w1.heap.size w1 w')
    ((go_split_ands; refine ⟨?_, ?_⟩ <;> (with_reducible first | assumption | exact Below.drew (by assumption) | skip) <;> first | exact h0))
    (first
      | (go_at_call 41; go_split_ands; refine (Hdt.out _).mono ?_; rintro e9 wn ⟨rfl, hbn⟩; have hk0 : Below w1.heap.size w1 wn := bt0 (by assumption) hbn; have e0 := (HC5.out _ hk0).1)
      | (go_at_call 39; go_split_ands; with_reducible refine (rmade_ok _ _).mono ?_; rintro e9 wn ⟨rfl, rfl⟩)
      | (go_at_call 75; go_split_ands; with_reducible refine (rmust_any _ _ _).mono ?_; rintro e9 wn ⟨he, rfl⟩; rcases Decidable.em (x0 = wordT) with zw | zw; rotate_left; (focus (rw [show (x0 == wordT) = false by simpa using zw] at he; simp only [Bool.false_eq_true, if_false] at he; subst he; exact PanicSame.panic (below_then hB1 hB1.size (by assumption)) (by rw [← HX.out]; unfold decFive; rw [if_pos zw]) (by rfl))); rw [show (x0 == wordT) = true by simpa using zw] at he; simp only [if_true] at he; subst he))
  refine PanicSame.normal ?_
  have HX2 : Kp ((match untxn x1 with
    | none => .error 7
    | some x => match readNumT x2 with
      | none => .error 7
      | some k => if kind x4 ≠ 3 ∨ kind x3 ≠ 3 then .error 7
        else match orgsOf (cut x3) with
        | none => .error 7
        | some l => if noTwice l = false then .error 260
          else match unmembers x x3 with
          | none => .error 7
          | some m => if mayR ⟨x, k, m, cut x4⟩ then .ok ⟨x, k, m, cut x4⟩ else .error 7) = X) := hid (by rw [← HX.out]; unfold decFive; rw [if_neg (by simpa using zw)])
  have HK := hid hk0
  obtain ⟨-, d1, d2, d3, d4⟩ := HC5.out _ hk0
  clear HX hk0 Hdt Hrow
  go_wp2_with fail
  refine (readTxn_calls x1 (by omega) _).mono ?_
  rintro e2 w2 ⟨rfl, hb2⟩
  have hK2 := bt0 HK.out hb2
  have HK2 := hid hK2
  clear hb2 hK2 HK d1 d2 d3 d4
  cases hu : untxn x1 with
  | none =>
    rw [hu] at HX2
    have HX3 : Kp (X = .error 7) := hid HX2.out.symm
    have hg : txnGot x1 = ⟨0, 0, 0⟩ := by unfold txnGot; rw [hu]; rfl
    rw [hg]
    simp only [Option.isSome, txnV]
    clear HX2 hu hg
    go_wp2_with fail
    refine (rmust_no _ _).mono ?_
    rintro e3 w3 ⟨rfl, rfl⟩
    refine ⟨rfl, ?_⟩
    rw [HX3.out]
    exact ⟨rfl, (below_then hB1 hB1.size HK2.out).alloc (by have := hB1.size; have := HK2.out.size; omega) _⟩
  | some x =>
    rw [hu] at HX2
    have hg : txnGot x1 = x := by unfold txnGot; rw [hu]; rfl
    rw [hg]
    simp only [Option.isSome]
    obtain ⟨c, e, s⟩ := x
    simp only [txnV]
    clear hu hg
    go_wp2_with fail
    refine (rmust_ok _ _).mono ?_
    rintro e3 w3 ⟨rfl, rfl⟩
    go_wp2_with fail
    have hN : w.heap.size < w1.heap.size := HN.out
    have hT0 : Below w1.heap.size w1 (w2.alloc (.cells #[.int .i64 c, .int .i64 e, .int .i64 s] 23)) := HK2.out.alloc HK2.out.size _
    have t0 : (w2.alloc (.cells #[.int .i64 c, .int .i64 e, .int .i64 s] 23)).cell? ⟨w2.heap.size, 0, none⟩ = some (.int .i64 c) := by simp [go_sem]
    have t1 : (w2.alloc (.cells #[.int .i64 c, .int .i64 e, .int .i64 s] 23)).cell? ⟨w2.heap.size, 1, none⟩ = some (.int .i64 e) := by simp [go_sem]
    have t2 : (w2.alloc (.cells #[.int .i64 c, .int .i64 e, .int .i64 s] 23)).cell? ⟨w2.heap.size, 2, none⟩ = some (.int .i64 s) := by simp [go_sem]
    obtain ⟨-, -, y2, -, y4⟩ := HC5.out _ hT0
    refine wp_region_panicSame w.heap.size w (thrownR 7) (X = .error 7) (fun a w' hd hE h => ?_) ?_
    · refine ⟨hd, ?_⟩
      rw [hE]
      exact ⟨rfl, h⟩
    have hgl := World.block_lt_of_cell? _ _ h0
    have hng : w.heap.size ≠ g := fun e => by
      have := (Hr.out w1 hW1).cell 0
      rw [e, h0] at this
      simp at this
    have hnt : w.heap.size ≠ w2.heap.size := by have := HK2.out.size; omega
    have hsz : Kp (∀ V : World, Below w1.heap.size w1 V → w.heap.size + 1 ≤ V.heap.size) := hid (fun V h => by have := h.size; omega)
    go_region_held2 (fun w' => w'.cell? ⟨g, 2, none⟩ = some (.string (ofL x2)) ∧ w'.cell? ⟨g, 4, none⟩ = some (.string (ofL x4)) ∧ w'.cell? ⟨w2.heap.size, 0, none⟩ = some (.int .i64 c) ∧ w'.cell? ⟨w2.heap.size, 1, none⟩ = some (.int .i64 e) ∧ w'.cell? ⟨w2.heap.size, 2, none⟩ = some (.int .i64 s))
      ((go_split_ands; refine ⟨?_, ?_, ?_, ?_, ?_⟩ <;> (with_reducible (repeat refine cell_farN (by assumption) ?_)) <;> (with_reducible first | assumption | skip) <;> first | exact y2 | exact y4 | exact t0 | exact t1 | exact t2))
      (first
        | (go_at_call 78; (go_split_ands; with_reducible refine (rnumber_calls x2 (by omega) _).mono ?_; rintro e9 wn ⟨he, hbn⟩; have hk0 : Below w1.heap.size w1 wn := (by with_reducible first | exact bt0 (by assumption) hbn | exact bt0 (Below.drew hT0) hbn); have hx : BlkAt wn w2.heap.size #[.int .i64 c, .int .i64 e, .int .i64 s] 23 := (BlkAt.new w2 _ _).drew.below hbn; generalize kn : readNumT x2 = on at he; rcases on with _ | kk; (focus (simp only [rnumEnd] at he; subst he; exact PanicSame.panic (below_then hB1 hB1.size hk0) (show X = .error 7 from by have h9 := HX2.out; rw [kn] at h9; exact h9.symm) (by rfl))); simp only [rnumEnd] at he; subst he; obtain ⟨-, -, z2, -, z4⟩ := HC5.out _ hk0; obtain ⟨u0, u1, u2⟩ := (show wn.cell? ⟨w2.heap.size, 0, none⟩ = some (.int .i64 c) ∧ wn.cell? ⟨w2.heap.size, 1, none⟩ = some (.int .i64 e) ∧ wn.cell? ⟨w2.heap.size, 2, none⟩ = some (.int .i64 s) from ⟨(hbn.cell (p := ⟨w2.heap.size, 0, none⟩) (by simp)).trans (by assumption), (hbn.cell (p := ⟨w2.heap.size, 1, none⟩) (by simp)).trans (by assumption), (hbn.cell (p := ⟨w2.heap.size, 2, none⟩) (by simp)).trans (by assumption)⟩)))
        | (go_at_call 76; (go_split_ands; with_reducible refine (rrow_any x4 (by omega) _).mono ?_; rintro e9 wn ⟨he, hbn⟩; have hk1 := hk0; have hk0 : Below w1.heap.size w1 wn := (by with_reducible first | exact bt0 (by assumption) hbn); rcases he with ⟨k4, v4, he, ho4⟩ | ⟨k4, he⟩; rotate_left; (focus (subst he; exact PanicSame.panic (below_then hB1 hB1.size hk0) (show X = .error 7 from by have h9 := HX2.out; rw [kn] at h9; simp only [] at h9; rw [if_pos (Or.inl k4)] at h9; exact h9.symm) (by rfl))); subst he; obtain ⟨a4, cap4, rfl, -⟩ := ho4.read; obtain ⟨-, -, z2, -, z4⟩ := HC5.out _ hk0; have q0 := (hbn.cell (p := ⟨w2.heap.size, 0, none⟩) (World.block_lt_of_cell? _ _ u0)).trans u0; have q1 := (hbn.cell (p := ⟨w2.heap.size, 1, none⟩) (World.block_lt_of_cell? _ _ u1)).trans u1; have q2 := (hbn.cell (p := ⟨w2.heap.size, 2, none⟩) (World.block_lt_of_cell? _ _ u2)).trans u2; have hbk := Hr.out _ hk0; have hx := hx.below hbn; have ho4 := ho4.mono (show w.heap.size + 1 ≤ _ from hsz.out _ hk1); have z3 := (HC5.out _ hk0).2.2.2.1; have r0 : wn.cell? ⟨w.heap.size, 0, none⟩ = some (.int .i64 0) := hbk.val 0 rfl; have r1 : wn.cell? ⟨w.heap.size, 1, none⟩ = some (.int .i64 0) := hbk.val 1 rfl; have r2 : wn.cell? ⟨w.heap.size, 2, none⟩ = some (.int .i64 0) := hbk.val 2 rfl; have r3 : wn.cell? ⟨w.heap.size, 3, none⟩ = some (.int .i64 0) := hbk.val 3 rfl; have r5 : wn.cell? ⟨w.heap.size, 5, none⟩ = some (.slice none 0 0) := hbk.val 5 rfl; have f0 := hbk.frozen 0; have f1 := hbk.frozen 1; have f2 := hbk.frozen 2; have f3 := hbk.frozen 3; have f5 := hbk.frozen 5)))
    refine PanicSame.normal ?_
    refine gen_world (P := DecSt w g w2.heap.size c e s kk (.slice a4 (cut x4).length cap4) x3 (cut x4)) _ ?_ ?_
    · refine ⟨?_, ?_, ?_, ?_, ?_⟩
      · exact ((((hbk.set 0 _).set 1 _).set 2 _).set 3 _).set 5 _
      · repeat refine BlkAt.far ?_ (Ne.symm hnt) _
        exact hx
      · repeat refine cell_farN hng ?_
        exact z3
      · repeat refine OwnStrs.far ?_ (Nat.lt_succ_self _) _
        exact ho4
      · repeat refine below_set ?_ (Nat.le_refl _) _
        exact below_then hB1 hB1.size hk0
    intro W6 hst
    have HX4 : Kp (decRest ⟨c, e, s⟩ kk (cut x4) x3 = X) := hid (by
      rw [← HX2.out, kn]
      unfold decRest
      simp only [k4, ne_eq, not_true_eq_false, false_or])
    have HS := hid hst
    have hN6 := hst.blk.lt
    have d3 := hst.x3
    clear hst HX2 HK2 Hr HC5 HN hB1 hW1 hT0 t0 t1 t2 y2 y4 hsz hbk hx ho4 z3 z2 z4 r0 r1 r2 r3 r5 f0 f1 f2 f3 f5 q0 q1 q2 u0 u1 u2 hgl hN hk0 hk1 lx1 lx2 lx4 hd
    have hmm := @run_makeMap Try.prog
    have d3' := cell_alloc_of (.map #[] 0) d3
    go_wp2_with fail
    refine (rrow_any x3 (by omega) _).mono ?_
    rintro e7 w7 ⟨he, hb7⟩
    rcases he with ⟨k3, v7, rfl, ho7⟩ | ⟨k3, rfl⟩
    rotate_left
    · refine ⟨rfl, ?_⟩
      rw [← HX4.out]
      unfold decRest
      rw [if_pos k3]
      exact ⟨rfl, below_then HS.out.bl HS.out.bl.size (bt1 (Below.refl _ W6) hb7)⟩
    obtain ⟨a7, cap7, rfl, -⟩ := ho7.read
    have HO7 := hid (ho7.mono (show W6.heap.size + 1 ≤ _ by simp))
    have hM7 : w7.ownsMap (H := Unit) Try.prog 3 (plainElem Try.prog 3) W6.heap.size 0 (.map []) := (World.ownsMap_made W6 Try.prog 3 (plainElem Try.prog 3)).kept (show (W6.alloc (.map #[] 0)).grownBy w7 none from ⟨hb7.os, hb7.tape, hb7.output, hb7.size, fun k hk _ => hb7.block k hk⟩) (by simp)
    have HM7 := hid hM7
    have HB7 := hid (bt1 (Below.refl _ W6) hb7)
    have HX5 : Kp ((match orgsOf (cut x3) with
      | none => .error 7
      | some l => if noTwice l = false then .error 260
        else match unmembers ⟨c, e, s⟩ x3 with
        | none => .error 7
        | some m => if mayR ⟨⟨c, e, s⟩, kk, m, cut x4⟩ then .ok ⟨⟨c, e, s⟩, kk, m, cut x4⟩ else .error 7) = X) := hid (by rw [← HX4.out]; unfold decRest; rw [if_neg (by simpa using k3)])
    have hparts := (kind3_back k3).2
    obtain ⟨p, hp⟩ : ∃ p, cut x3 = p := ⟨_, rfl⟩
    rw [hp] at hparts HX5 HO7
    rw [hp]
    have Hparts := hid hparts.1
    have hn32 := hparts.2
    obtain ⟨n, hn⟩ : ∃ n, p.length = n := ⟨_, rfl⟩
    rw [hn] at hn32 HO7 ⊢
    have Hn := hid hn
    clear hn hp hparts hb7 ho7 hM7 d3 d3' HX4 k3 hmm
    go_wp2_with fail
    go_loopw [53] (fun i wr => ∃ (k : Nat) (ls : List Int) (D : DataW Unit), k ≤ n ∧ i = .int .i64 k ∧ orgsOf (p.take k) = some ls ∧ ls.length = k ∧ CntOf D ls ∧ wr.ownsMap Try.prog 3 (plainElem Try.prog 3) W6.heap.size k D ∧ OwnStrs (W6.heap.size + 1) wr (.slice a7 n cap7) p ∧ Below W6.heap.size W6 wr ∧ W6.heap.size ≤ wr.heap.size) (fun i _ => n - (intOf i).toNat)
    case atStart => exact ⟨0, [], _, by omega, rfl, rfl, rfl, cnt_nil, HM7.out, HO7.out, HB7.out, HB7.out.size⟩
    case round =>
      obtain ⟨k, ls, D, hk, rfl, hts, hsl, hcd, hmp, hos, hb, hsz⟩ := hrel
      have Hts := hid hts
      have Hsl := hid hsl
      have Hcd := hid hcd
      have Hmp := hid hmp
      have Hos := hid hos
      have Hb := hid hb
      clear hts hsl hcd hmp hos hb
      by_cases hlt : k < n
      · have hkl : k < p.length := by have := Hn.out; omega
        obtain ⟨a', cap', e', hS⟩ := Hos.out.read
        injection e' with e1 e2 e3
        subst e1
        obtain ⟨b, off, rfl, hc⟩ := hS k hkl
        have hlt' : (k : Int) < n := by omega
        have hmem : p[k]'hkl ∈ p := List.getElem_mem hkl
        have hylen := term_len (Hparts.out _ hmem)
        have hsn := orgsOf_snoc (s := p[k]'hkl) Hts.out
        rw [← List.take_succ_eq_append_getElem hkl] at hsn
        obtain ⟨y, hy⟩ : ∃ y, p[k]'hkl = y := ⟨_, rfl⟩
        rw [hy] at hc hylen hsn hmem
        have Hsn := hid hsn
        have Hmem := hid hmem
        clear hy hsn hmem hS e2 e3
        go_wp2_with fail
        refine (rrow_two y (by omega) _).mono ?_
        rintro e1 w8 ⟨he, hb8⟩
        rcases he with ⟨u, d, v, hr2, rfl, hown1, htu⟩ | ⟨hr2, rfl⟩
        rotate_left
        · refine ⟨rfl, ?_⟩
          rw [← HX5.out, orgsOf_fail Hmem.out (orgsOf_one_no hr2)]
          exact ⟨rfl, below_then HS.out.bl HS.out.bl.size (Hb.out.trans (hb8.mono hsz))⟩
        have lu := term_len htu
        obtain ⟨g2, cap2, rfl, d0, d1⟩ := hown1.cells2
        have Hr2 := hid hr2
        have Hb8 := hid hb8
        clear hown1 htu hr2 hb8
        go_wp2_with fail
        refine (rnumber_calls u (by omega) _).mono ?_
        rintro e2 w9 ⟨rfl, hb9⟩
        have Hb9 := hid (bt0 Hb8.out hb9)
        have hsz9 : W6.heap.size ≤ w9.heap.size := Nat.le_trans hsz Hb9.out.size
        clear hb9 Hb8 d0 d1
        cases hn : readNumT u with
        | none =>
          simp only [rnumEnd]
          refine ⟨rfl, ?_⟩
          rw [← HX5.out, orgsOf_fail Hmem.out (by rw [orgsOf_one Hr2.out, hn])]
          exact ⟨rfl, below_then HS.out.bl HS.out.bl.size (Hb.out.trans (Hb9.out.mono hsz))⟩
        | some v =>
          simp only [rnumEnd]
          have hv := (readNumT_back hn).2
          have Hsn2 : Kp (orgsOf (p.take (k + 1)) = some (ls ++ [(v : Int)])) := hid (by rw [Hsn.out, orgsOf_one Hr2.out, hn])
          have hwv : (Lit.int .i64 (v : Int)).wf = true := WalkArith.wf_i64 (by omega)
          have hm9 := Hmp.out.kept (show wr.grownBy w9 none from ⟨Hb9.out.os, Hb9.out.tape, Hb9.out.output, Hb9.out.size, fun k hk _ => Hb9.out.block k hk⟩) (by simp)
          have Hm9 := hid hm9
          clear hm9 hn Hsn Hmp
          have hlen := Hsl.out
          have hcl : ls.count (v : Int) ≤ ls.length := List.count_le_length
          go_wp2_with (first
            | (at_lookup; refine wpList_lookup_own_int _ rfl _ _ 132 rfl 3 3 .i64 law_int Try.underlying132 Try.underlying3 (zero_int _) W6.heap.size k D rfl Hm9.out _ _ rfl (Go.Maps.keyOf_int_mk Try.underlying3 hwv) ?_; intro cc hat hwc; have Hcc := hid (cnt_val Hcd.out hat); have hcc : 0 ≤ cc ∧ cc ≤ 100 := (by have := Hcc.out; omega); clear hat; obtain ⟨hc0, hc1⟩ := hcc)
            | (at_mapUpdate; refine wpList_mapUpdate_own _ rfl _ _ _ 132 rfl 3 3 law_int Try.underlying132 _ W6.heap.size k _ rfl Hm9.out (by unfold maxLen; omega) _ _ _ rfl rfl (Go.Maps.keyOf_int_mk Try.underlying3 hwv) _ [] (plainElem_int Try.underlying3 (WalkArith.wf_i64 (by omega))) ?_; intro w3 hown3 hgrow3))
          have HD := hid (cnt_step Hcd.out (v : Int))
          rw [← Hcc.out] at HD
          have Hown3 := hid hown3
          have Hos3 := hid ((Hos.out.below Hb9.out).grown hgrow3 (Nat.lt_succ_self _))
          have Hb3 := hid ((Hb.out.trans (Hb9.out.mono hsz)).grown hgrow3 hsz9 (fun j hj => by cases hj; exact Nat.le_refl _))
          have hsz3 := Nat.le_trans hsz9 hgrow3.size
          clear hown3 hgrow3
          go_roundw
          case rel => exact ⟨k + 1, ls ++ [(v : Int)], _, by omega, by go_num, Hsn2.out, by simp [hlen], HD.out, Hown3.out, Hos3.out, Hb3.out, hsz3⟩
          case measure => simp [intOf]; omega
      · have hlt' : ¬ (k : Int) < n := by omega
        obtain rfl : k = n := by omega
        have hall : orgsOf p = some ls := by
          have h1 := Hts.out
          rwa [List.take_of_length_le (by have := Hn.out; omega)] at h1
        have HX6 : Kp ((if noTwice ls = false then .error 260
          else match unmembers ⟨c, e, s⟩ x3 with
          | none => .error 7
          | some m => if mayR ⟨⟨c, e, s⟩, kk, m, cut x4⟩ then .ok ⟨⟨c, e, s⟩, kk, m, cut x4⟩ else .error 7) = X) := hid (by rw [← HX5.out, hall])
        clear hall Hts HX5 Hos Hparts HM7 HO7 HB7
        go_wp2_with (first
          | (at_range; refine wpList_range_own _ rfl _ 132 rfl 3 3 law_int Try.underlying132 _ W6.heap.size k D rfl Hmp.out ?_; intro wa hrg0 hg0 hs0)
          | fail)
        have HBa : Kp (Below W6.heap.size W6 wa) := hid (Hb.out.grown hg0 hsz (fun j hj => by cases hj))
        have hsza : W6.heap.size ≤ wa.heap.size := by omega
        have hrs : W6.heap.size ≤ wr.heap.size := hsz
        have Hrg0 := hid hrg0
        clear hrg0 hg0 hs0 Hb Hmp
        obtain ⟨wo, rfl⟩ : ∃ wo : World, wo = wr := ⟨_, rfl⟩
        go_loopw [68] (fun _ wx => ∃ (left : Lit → Bool) (cnt : Nat), wx.ranges Try.prog 3 (plainElem Try.prog 3) W6.heap.size wo.heap.size k D left cnt ∧ (∀ j ∈ ls, left (.int .i64 j) = true ∨ ls.count j = 1) ∧ Below W6.heap.size W6 wx ∧ W6.heap.size ≤ wx.heap.size) (fun _ wx => wx.rangeLeft W6.heap.size wo.heap.size)
        case atStart => exact ⟨_, _, Hrg0.out, fun j hj => .inl (cnt_has Hcd.out hj), HBa.out, hsza⟩
        case round =>
          obtain ⟨left, cnt, hrg, hlf, hbx, hszx⟩ := hrel
          have Hrg := hid hrg
          have Hlf := hid hlf
          have Hbx := hid hbx
          clear hrg hlf hbx
          go_wp2_with (first
            | (at_next; refine wpList_next_ranges_ii _ rfl _ rfl 3 3 .i64 .i64 law_int Try.underlying3 Try.underlying3 W6.heap.size wo.heap.size k _ _ _ rfl Hrg.out ?_ ?_)
            | fail)
          · intro _ hl0
            have hnt : noTwice ls = true := (noTwice_iff ls).2 (fun j hj => by
              rcases Hlf.out j hj with h | h
              · rw [hl0] at h; cases h
              · exact h)
            have HX7 : Kp ((match unmembers ⟨c, e, s⟩ x3 with
              | none => .error 7
              | some m => if mayR ⟨⟨c, e, s⟩, kk, m, cut x4⟩ then .ok ⟨⟨c, e, s⟩, kk, m, cut x4⟩ else .error 7) = X) := hid (by rw [← HX6.out, hnt]; rfl)
            have hst := HS.out.keep Hbx.out
            clear hnt hl0 HX6 Hlf Hrg Hrg0 Hcd HBa HS
            obtain ⟨wy, rfl⟩ : ∃ wy : World, wy = wr := ⟨_, rfl⟩
            have HS := hid hst
            have t0 := hst.tx.val 0 rfl
            have t1 := hst.tx.val 1 rfl
            have t2 := hst.tx.val 2 rfl
            have d3 := hst.x3
            clear hst Hbx
            cases hu : unmembers ⟨c, e, s⟩ x3 with
            | none =>
              have HX8 : Kp (X = .error 7) := hid (by rw [← HX7.out, hu])
              have Hrm := hid (fun W => readMembers_none ⟨c, e, s⟩ x3 (by omega) hu W)
              clear hu HX7
              go_wp2_with fail
              go_region_held2 (fun w' => w'.cell? ⟨g, 3, none⟩ = some (.string (ofL x3)) ∧ w'.cell? ⟨w2.heap.size, 0, none⟩ = some (.int .i64 c) ∧ w'.cell? ⟨w2.heap.size, 1, none⟩ = some (.int .i64 e) ∧ w'.cell? ⟨w2.heap.size, 2, none⟩ = some (.int .i64 s))
                ((go_split_ands; refine ⟨?_, ?_, ?_, ?_⟩ <;> (with_reducible (repeat refine cell_farN (by assumption) ?_)) <;> (with_reducible first | assumption | skip) <;> first | exact d3 | exact t0 | exact t1 | exact t2))
                (first
                  | (go_at_call 79; (go_split_ands; refine (Hrm.out _).mono ?_; rintro e9 wn ⟨rfl, hbn⟩; have hs9 := (show DecSt w g w2.heap.size c e s kk (.slice a4 (cut x4).length cap4) x3 (cut x4) wn from (by first | exact HS.out.keep hbn | exact HS.out.drew.keep hbn)); have t0 := hs9.tx.val 0 rfl; have t1 := hs9.tx.val 1 rfl; have t2 := hs9.tx.val 2 rfl; have d3 := hs9.x3; have b4 := hs9.blk.val 4 rfl; have f4 := hs9.blk.frozen 4)))
              refine gen_world (P := fun W => Below w.heap.size w W) _ (below_set hs9.bl (Nat.le_refl _) _) ?_
              intro W9 hb9
              go_wp2_with fail
              refine (rmust_no _ _).mono ?_
              rintro e3 w3 ⟨rfl, rfl⟩
              refine ⟨rfl, ?_⟩
              rw [HX8.out]
              exact ⟨rfl, hb9⟩
            | some m =>
              have HX8 : Kp ((if mayR ⟨⟨c, e, s⟩, kk, m, cut x4⟩ then .ok ⟨⟨c, e, s⟩, kk, m, cut x4⟩ else .error 7) = X) := hid (by rw [← HX7.out, hu])
              have Hrm := hid (fun W => readMembers_some ⟨c, e, s⟩ x3 (by omega) m hu W)
              have hmm := (unmembers_back hu).2
              obtain ⟨hm1, hm2, hm3⟩ := mayMembers_is hmm
              have hdg : ∀ x ∈ m, x.dig.length ≤ 10000000 := fun x hx => by have := isTerm_len (mayMem_org hm1 x hx).2.2.2; omega
              have h4 := kind3_back k4
              have htg : ∀ x ∈ cut x4, x.length ≤ 10000000 := fun x hx => by have := isTerm_len (h4.2.1 x hx); omega
              have hl4 := h4.2.2
              have Hdg := hid hdg
              have Htg := hid htg
              clear hdg htg h4 hm1 hm2 hmm hu HX7
              go_wp2_with fail
              go_region_held2 (fun w' => w'.cell? ⟨g, 3, none⟩ = some (.string (ofL x3)) ∧ w'.cell? ⟨w2.heap.size, 0, none⟩ = some (.int .i64 c) ∧ w'.cell? ⟨w2.heap.size, 1, none⟩ = some (.int .i64 e) ∧ w'.cell? ⟨w2.heap.size, 2, none⟩ = some (.int .i64 s))
                ((go_split_ands; refine ⟨?_, ?_, ?_, ?_⟩ <;> (with_reducible (repeat refine cell_farN (by assumption) ?_)) <;> (with_reducible first | assumption | skip) <;> first | exact d3 | exact t0 | exact t1 | exact t2))
                (first
                  | (go_at_call 79; (go_split_ands; refine (Hrm.out _).mono ?_; rintro e9 wn ⟨v9, rfl, ho9, hbn⟩; obtain ⟨a9, cap9, rfl, -⟩ := ho9.read; have hs9 := (show DecSt w g w2.heap.size c e s kk (.slice a4 (cut x4).length cap4) x3 (cut x4) wn from (by first | exact HS.out.keep hbn | exact HS.out.drew.keep hbn)); have hm9 : OwnMems (w.heap.size + 1) wn (.slice a9 m.length cap9) m := ho9.mono (by have := HS.out.blk.lt; simp; omega); have t0 := hs9.tx.val 0 rfl; have t1 := hs9.tx.val 1 rfl; have t2 := hs9.tx.val 2 rfl; have d3 := hs9.x3; have b4 := hs9.blk.val 4 rfl; have f4 := hs9.blk.frozen 4)))
              refine gen_world (P := fun W => BlkAt W w.heap.size #[.int .i64 c, .int .i64 e, .int .i64 s, .int .i64 kk, .slice a9 m.length cap9, .slice a4 (cut x4).length cap4] 27 ∧ OwnStrs (w.heap.size + 1) W (.slice a4 (cut x4).length cap4) (cut x4) ∧ OwnMems (w.heap.size + 1) W (.slice a9 m.length cap9) m ∧ Below w.heap.size w W) _ ⟨hs9.blk.set 4 _, hs9.tags.far (Nat.lt_succ_self _) _, hm9.far (Nat.lt_succ_self _) _, below_set hs9.bl (Nat.le_refl _) _⟩ ?_
              intro W9 ⟨hbk, htg9, hmm9, hbl9⟩
              obtain ⟨x9, y9, e9', hM9⟩ := hmm9.read
              injection e9' with q1 q2 q3
              subst q1
              obtain ⟨x8, y8, e8', hT9⟩ := htg9.read
              injection e8' with q1' q2' q3'
              subst q1'
              clear q2 q3 q2' q3'
              have hck := rcheck_at ⟨⟨c, e, s⟩, kk, m, cut x4⟩ a9 m.length cap9 a4 (cut x4).length cap4 W9 ⟨rfl, rfl, by simp only; omega, by simp only; omega, Hdg.out, Htg.out, hM9, hT9⟩
              simp only [rcptV] at hck
              have Hbk := hid hbk
              have Htg9 := hid htg9
              have Hmm9 := hid hmm9
              have Hbl9 := hid hbl9
              have c0 := hbk.val 0 rfl
              have c1 := hbk.val 1 rfl
              have c2 := hbk.val 2 rfl
              have c3 := hbk.val 3 rfl
              have c4 := hbk.val 4 rfl
              have c5 := hbk.val 5 rfl
              clear hbk htg9 hmm9 hbl9 hM9 hT9 b4 f4 hs9 hm9 ho9 t0 t1 t2 d3
              cases hmay : mayR ⟨⟨c, e, s⟩, kk, m, cut x4⟩ with
              | false =>
                have HX9 : Kp (X = .error 7) := hid (by rw [← HX8.out, hmay]; rfl)
                rw [hmay] at hck
                have Hck := hid hck
                clear hmay HX8 hck
                go_wp2_with fail
                refine Hck.out.mono ?_
                rintro e10 w10 ⟨rfl, hb10⟩
                have Hb10 := hid (below_then Hbl9.out Hbl9.out.size hb10)
                clear hb10
                go_wp2_with fail
                refine (rmust_no _ _).mono ?_
                rintro e3 w3 ⟨rfl, rfl⟩
                refine ⟨rfl, ?_⟩
                rw [HX9.out]
                exact ⟨rfl, Hb10.out⟩
              | true =>
                have HX9 : Kp (X = .ok ⟨⟨c, e, s⟩, kk, m, cut x4⟩) := hid (by rw [← HX8.out, hmay]; rfl)
                rw [hmay] at hck
                have Hck := hid hck
                clear hmay HX8 hck
                go_wp2_with fail
                refine Hck.out.mono ?_
                rintro e10 w10 ⟨rfl, hb10⟩
                have Hb10 := hid (below_then Hbl9.out Hbl9.out.size hb10)
                have Hbk10 := hid (Hbk.out.below hb10)
                have Htg10 := hid (Htg9.out.below hb10)
                have Hmm10 := hid (Hmm9.out.below hb10)
                clear hb10 c0 c1 c2 c3 c4 c5
                go_wp2_with fail
                refine (rmust_ok _ _).mono ?_
                rintro e3 w3 ⟨rfl, rfl⟩
                have c0 := Hbk10.out.val 0 rfl
                have c1 := Hbk10.out.val 1 rfl
                have c2 := Hbk10.out.val 2 rfl
                have c3 := Hbk10.out.val 3 rfl
                have c4 := Hbk10.out.val 4 rfl
                have c5 := Hbk10.out.val 5 rfl
                have f0 := Hbk10.out.frozen 0
                have f1 := Hbk10.out.frozen 1
                have f2 := Hbk10.out.frozen 2
                have f3 := Hbk10.out.frozen 3
                have f4 := Hbk10.out.frozen 4
                have f5 := Hbk10.out.frozen 5
                go_wp2_with fail
                refine bodyPost_ret (v := rcptV ⟨c, e, s⟩ kk a9 m.length cap9 a4 (cut x4).length cap4) (by simp [results, Try.results37, go_sem, c0, c1, c2, c3, c4, c5, rcptV]) rfl ?_
                rw [HX9.out]
                refine ⟨⟨a9, cap9, a4, cap4, rfl, ?_, ?_⟩, ?_⟩
                · show OwnMems w.heap.size _ (.slice a9 m.length cap9) m
                  refine OwnMems.mono (base := w.heap.size + 1) ?_ (Nat.le_succ _)
                  repeat refine OwnMems.far ?_ (Nat.lt_succ_self _) _
                  exact Hmm10.out
                · show OwnStrs w.heap.size _ (.slice a4 (cut x4).length cap4) (cut x4)
                  refine OwnStrs.mono (base := w.heap.size + 1) ?_ (Nat.le_succ _)
                  repeat refine OwnStrs.far ?_ (Nat.lt_succ_self _) _
                  exact Htg10.out
                · repeat refine below_set ?_ (Nat.le_refl _) _
                  exact Hb10.out
          · intro x cc w1x cnt1 hwx hwc hlx hat hrg1 hlt1 hg1 hs1 hen
            obtain ⟨hxl, hcc⟩ := cnt_get Hcd.out hat
            have Hen := hid hen
            have Hrg1 := hid hrg1
            have hbx1 : Below W6.heap.size W6 w1x := Hbx.out.grown hg1 hszx (fun j hj => by cases hj; exact hrs)
            have Hbx1 := hid hbx1
            have hsz1 : W6.heap.size ≤ w1x.heap.size := by omega
            clear hen hrg1 hbx1 hg1 hwx hwc hat
            by_cases hc1 : cc = 1
            · subst hc1
              have Hcc := hid hcc
              have HL : Kp (∀ j ∈ ls, (left (.int .i64 j) && !(Lit.int .i64 j).sameKey (.int .i64 x)) = true ∨ ls.count j = 1) := hid (fun j hj => by
                by_cases hjx : j = x
                · subst hjx; right; have := Hcc.out; omega
                · rcases Hlf.out j hj with h | h
                  · left; rw [h, sameKey_int]; simp [hjx]
                  · exact .inr h)
              clear hcc hxl hlx
              have hen := Hen.out
              go_wp2_with fail
              refine (rmust_ok _ _).mono ?_
              rintro e3 w3 ⟨rfl, rfl⟩
              clear hen
              go_wp2
              go_roundw
              case rel => exact ⟨_, cnt1, Hrg1.out, HL.out, Hbx1.out, hsz1⟩
              case measure => rw [Hrg1.out.left_eq, Hrg.out.left_eq]; exact hlt1
            · have HX8 : Kp (X = .error 260) := hid (by
                have hnt : noTwice ls = false := by
                  rw [Bool.eq_false_iff]
                  intro h
                  have := (noTwice_iff ls).1 h x hxl
                  omega
                rw [← HX6.out, hnt]; rfl)
              have hcb : (cc == 1) = false := by simpa using hc1
              clear hcc hc1 hlx hlt1 hxl
              have hen := Hen.out
              go_wp2_with fail
              refine (rmust_no _ _).mono ?_
              rintro e3 w3 ⟨rfl, rfl⟩
              refine ⟨rfl, ?_⟩
              rw [HX8.out]
              exact ⟨rfl, below_then HS.out.bl HS.out.bl.size Hbx1.out⟩

theorem rdec_calls (t : Bs) (hm : t.length ≤ 10000000) (w : World) : Calls Try.prog 37 #[.string (ofL t)] w fun e w' => rdecPost (decR t) w e w' := by
  by_cases hl : 16384 < t.length
  · exact rdec_long t hm hl w
  · cases hr : rowP t 5 5 with
    | none => exact rdec_norow t (by omega) hr w
    | some p =>
      obtain ⟨hk, h1, h2, hc⟩ := rowP_is hr
      match p, h1, h2, hc with
      | [x0, x1, x2, x3, x4], _, _, hc => exact rdec_core t x0 x1 x2 x3 x4 (by omega) hk hc _ (decR_five (by omega) hk hc).symm w
end Go.Proofs.Ytegkolepemcocaa
