import Derived.Test.YtegkolepemcocaaWballaw
/- The walk of the law ReceiptBallots at a right receipt. -/
namespace Go.Proofs.Ytegkolepemcocaa
open Go.RowKit Sp

theorem OwnBals.cellsAt {base : Nat} {w : World} {g n cap : Nat} {t : Txn} {aud : Int} {l : List Mem} {os : List Int} {L : List ((Option Addr × Nat) × Int)} (h : OwnBals base w (.slice (some ⟨g, 0, none⟩) n cap) t aud l os L) (hn : n = L.length) (k : Nat) (hk : k < L.length) (og : Int) (ho : os[k]? = some og) :
    w.cell? ⟨g, k * 6, none⟩ = some (.int .i64 t.c) ∧ w.cell? ⟨g, k * 6 + 1, none⟩ = some (.int .i64 t.e) ∧ w.cell? ⟨g, k * 6 + 2, none⟩ = some (.int .i64 t.s) ∧ w.cell? ⟨g, k * 6 + 3, none⟩ = some (.int .i64 aud) ∧ w.cell? ⟨g, k * 6 + 5, none⟩ = some (.int .i64 og) := by
  subst hn
  have hx : (L[k]'hk).2 = og := by
    have := ho
    rw [← h.orgs, List.getElem?_map, List.getElem?_eq_getElem hk] at this
    simpa using this
  have hc := fun j (hj : j < 6) => (World.ownsRow.cellAt h.row (k * 6 + j) (by omega)).trans (balsCells_get t aud l.length hk j hj)
  have h0 := hc 0 (by omega)
  have h1 := hc 1 (by omega)
  have h2 := hc 2 (by omega)
  have h3 := hc 3 (by omega)
  have h5 := hc 5 (by omega)
  simp only [balCells, hx] at h0 h1 h2 h3 h5
  exact ⟨h0, h1, h2, h3, h5⟩

set_option maxRecDepth 20000 in
set_option maxHeartbeats 8000000 in
theorem lawBal_yes (r : Rcpt) (am : Option Addr) (nm cm : Nat) (at_ : Option Addr) (nt ct : Nat) (o : Int) (w : World) (h : RcptAt r am nm cm at_ nt ct w) (hr : Rooms am cm at_ ct) (hL : longR r = false) (hm : mayR r = true) :
    Calls Try.prog 5 #[rcptV r.txn r.aud am nm cm at_ nt ct, .int .i64 o] w fun e w' => e = .returned (.bool true) ∧ Below w.heap.size w w' := by
  obtain ⟨⟨c, e, s⟩, aud, l, tg⟩ := r
  have hB0 := (Below.refl w.heap.size w).alloc (Nat.le_refl _) (.cells #[.int .i64 c, .int .i64 e, .int .i64 s, .int .i64 aud, .slice am nm cm, .slice at_ nt ct] 27)
  have hl := long26_calls ⟨⟨c, e, s⟩, aud, l, tg⟩ am nm cm at_ nt ct _ (h.below hB0)
  rw [hL] at hl
  have how := fun W (hW : RcptAt ⟨⟨c, e, s⟩, aud, l, tg⟩ am nm cm at_ nt ct W) => own26_calls ⟨⟨c, e, s⟩, aud, l, tg⟩ am nm cm at_ nt ct W hW hr
  have hbal := fun a1 c1 a2 c2 W (hW : RcptAt ⟨⟨c, e, s⟩, aud, l, tg⟩ a1 l.length c1 a2 tg.length c2 W) => ballots_yes ⟨⟨c, e, s⟩, aud, l, tg⟩ a1 l.length c1 a2 tg.length c2 W hW hm
  have hck := fun a1 c1 a2 c2 W (hW : RcptAt ⟨⟨c, e, s⟩, aud, l, tg⟩ a1 l.length c1 a2 tg.length c2 W) => rcheck_at ⟨⟨c, e, s⟩, aud, l, tg⟩ a1 l.length c1 a2 tg.length c2 W hW
  rw [hm] at hck
  have hnam := fun x a1 c1 a2 c2 W (hW : RcptAt ⟨⟨c, e, s⟩, aud, l, tg⟩ a1 l.length c1 a2 tg.length c2 W) => names_calls ⟨⟨c, e, s⟩, aud, l, tg⟩ a1 l.length c1 a2 tg.length c2 x W hW
  have HLaw : Kp (LawAt ⟨⟨c, e, s⟩, aud, l, tg⟩ am nm cm at_ nt ct w.heap.size (w.alloc (.cells #[.int .i64 c, .int .i64 e, .int .i64 s, .int .i64 aud, .slice am nm cm, .slice at_ nt ct] 27))) := hid ⟨BlkAt.new _ _ _, h.below hB0⟩
  have hlim : l.length ≤ 10000000 ∧ tg.length ≤ 10000000 ∧ (∀ x ∈ l, x.dig.length ≤ 10000000) ∧ ∀ s ∈ tg, s.length ≤ 10000000 := ⟨h.lm, h.lt, h.dm, h.dt⟩
  have hmm := mayMembers_is (mayR_is hm).2.2.1
  have htl := (mayR_is hm).2.2.2.1
  have hnm := h.nm
  have hnt := h.nt
  simp only at hmm htl hnm hnt
  have hn6 : nm ≤ 6 := by omega
  have hn1 : 1 ≤ nm := by omega
  have hself := fun i hi hi' => names_self hm i hi hi'
  have hnis := names_is hm o
  simp only at hself hnis
  simp only [rcptV, OwnPost, BalPost] at hl how hbal hck hnam ⊢
  have Hl := hid hl
  have HB0 := hid hB0
  have How := hid how
  have Hbal := hid hbal
  have Hck := hid hck
  have Hlim := hid hlim
  have Hnam := hid hnam
  have Hself := hid hself
  have Hnis := hid hnis
  have Hn := hid hnm
  have Hnt := hid (show nm = tg.length by omega)
  have Hntm := hid (show nt = nm by omega)
  have hne := fun W => neqTxn ⟨c, e, s⟩ ⟨c, e, s⟩ W
  simp only [decide_true, Bool.not_true] at hne
  clear hl hB0 h hL how hbal hck hlim hm hr hmm htl hnm hnt hself hnis hnam
  go_enter Try.func5, Try.ntmps5
  go_wp2_with fail
  refine Hl.out.mono ?_
  rintro e1 w1 ⟨rfl, hb⟩
  have hla := HLaw.out.below hb
  have HLa := hid hla
  have Hb := hid (below_then HB0.out HB0.out.size hb)
  have c0 := hla.blk.val 0 rfl
  have c1 := hla.blk.val 1 rfl
  have c2 := hla.blk.val 2 rfl
  have c3 := hla.blk.val 3 rfl
  have c4 := hla.blk.val 4 rfl
  have c5 := hla.blk.val 5 rfl
  clear hb hla HLaw
  go_wp2_with fail
  refine (How.out _ HLa.out.rc).mono ?_
  rintro e2 w2 ⟨a1, k1, a2, k2, rfl, hm2, hs2, hb2⟩
  have hrc2 := RcptAt.own (r := ⟨⟨c, e, s⟩, aud, l, tg⟩) Hlim.out.1 Hlim.out.2.1 Hlim.out.2.2.1 Hlim.out.2.2.2 hm2 hs2
  have Hrc2 := hid hrc2
  have HLb := hid (HLa.out.below hb2)
  have Hb2 := hid (below_then Hb.out Hb.out.size hb2)
  clear hm2 hs2 hb2 hrc2
  go_wp2_with fail
  refine (Hbal.out _ _ _ _ _ Hrc2.out).mono ?_
  rintro e3 w3 ⟨v, L, rfl, hob, hb3⟩
  have hLn : L.length = nm := by
    have := congrArg List.length hob.orgs
    simp only [List.length_map] at this
    have := Hn.out
    omega
  obtain ⟨g, cap, rfl, -, -⟩ := hob.row.form (by omega)
  rw [hLn] at hob ⊢
  have hlc := HLb.out.below hb3
  have HLc := hid hlc
  have Hob := hid hob
  have HLn := hid hLn
  have Hb3 := hid (below_then Hb2.out Hb2.out.size hb3)
  clear c0 c1 c2 c3 c4 c5 Hrc2 HLb HLa hb3 hob hLn
  have c0 := hlc.blk.val 0 rfl
  have c1 := hlc.blk.val 1 rfl
  have c2 := hlc.blk.val 2 rfl
  have c3 := hlc.blk.val 3 rfl
  have c4 := hlc.blk.val 4 rfl
  have c5 := hlc.blk.val 5 rfl
  clear hlc
  go_wp2_with fail
  refine (How.out _ HLc.out.rc).mono ?_
  rintro e4 w4 ⟨a3, k3, a4, k4, rfl, hm4, hs4, hb4⟩
  have hrc4 := RcptAt.own (r := ⟨⟨c, e, s⟩, aud, l, tg⟩) Hlim.out.1 Hlim.out.2.1 Hlim.out.2.2.1 Hlim.out.2.2.2 hm4 hs4
  have Hrc4 := hid hrc4
  have Hb4 := hid (below_then Hb3.out Hb3.out.size hb4)
  have HLd := hid (HLc.out.below hb4)
  have Hobd := hid (Hob.out.below hb4)
  clear hm4 hs4 hb4 hrc4
  go_wp2_with fail
  refine (Hck.out _ _ _ _ _ Hrc4.out).mono ?_
  rintro e5 w5 ⟨rfl, hb5⟩
  have Hb5 := hid (below_then Hb4.out Hb4.out.size hb5)
  have hle := HLd.out.below hb5
  have HLe := hid hle
  have Hobe := hid (Hobd.out.below hb5)
  clear hb5 c0 c1 c2 c3 c4 c5 Hrc4 HLc HLd Hob Hobd
  have c0 := hle.blk.val 0 rfl
  have c1 := hle.blk.val 1 rfl
  have c2 := hle.blk.val 2 rfl
  have c3 := hle.blk.val 3 rfl
  have c4 := hle.blk.val 4 rfl
  have c5 := hle.blk.val 5 rfl
  clear hle
  go_wp2
  go_loopw [6, 7] (fun m i wr => ∃ k : Nat, k ≤ nm ∧ i = .int .i64 k ∧ m = .bool ((l.take k).any (fun x => x.org == o)) ∧ Below w5.heap.size w5 wr) (fun _ i _ => nm - (intOf i).toNat)
  case atStart => exact ⟨0, by omega, rfl, rfl, Below.refl _ _⟩
  case round =>
    obtain ⟨k, hk, rfl, rfl, hb⟩ := hrel
    have hlr := HLe.out.below hb
    have HLr := hid hlr
    have Hbr := hid (Hobe.out.below hb)
    have Hb := hid hb
    clear c0 c1 c2 c3 c4 c5
    have c0 := hlr.blk.val 0 rfl
    have c1 := hlr.blk.val 1 rfl
    have c2 := hlr.blk.val 2 rfl
    have c3 := hlr.blk.val 3 rfl
    have c4 := hlr.blk.val 4 rfl
    have c5 := hlr.blk.val 5 rfl
    clear hb hlr
    by_cases hlt : k < nm
    · have hkl : k < l.length := by have := Hn.out; omega
      have hkt : k < tg.length := by have := Hnt.out; omega
      have hkn : k < nt := by have := Hntm.out; omega
      obtain ⟨bm, om, rfl, -, -⟩ := HLr.out.rc.mems k hkl
      obtain ⟨bt, ot, rfl, -⟩ := HLr.out.rc.tags k hkt
      have hlt' : (k : Int) < nm := by omega
      have hltn : (k : Int) < nt := by omega
      have hst := any_take_snoc (p := fun x : Mem => x.org == o) hkl
      have hcells : ∀ W, LawAt ⟨⟨c, e, s⟩, aud, l, tg⟩ (some ⟨bm, om, none⟩) nm cm (some ⟨bt, ot, none⟩) nt ct w.heap.size W → W.cell? ⟨bm, om + k * 2, none⟩ = some (.int .i64 (l[k]'hkl).org) ∧ W.cell? ⟨bm, om + k * 2 + 1, none⟩ = some (.string (ofL (l[k]'hkl).dig)) ∧ W.cell? ⟨bt, ot + k, none⟩ = some (.string (ofL (tg[k]'hkt))) := fun W hW => by
        obtain ⟨_, _, e1, m0, m1⟩ := hW.rc.mems k hkl
        obtain ⟨_, _, e2, t0⟩ := hW.rc.tags k hkt
        cases e1; cases e2
        exact ⟨m0, m1, t0⟩
      have hbals : ∀ W, Below wr.heap.size wr W → W.cell? ⟨g, k * 6, none⟩ = some (.int .i64 c) ∧ W.cell? ⟨g, k * 6 + 1, none⟩ = some (.int .i64 e) ∧ W.cell? ⟨g, k * 6 + 2, none⟩ = some (.int .i64 s) ∧ W.cell? ⟨g, k * 6 + 3, none⟩ = some (.int .i64 aud) ∧ W.cell? ⟨g, k * 6 + 5, none⟩ = some (.int .i64 (l[k]'hkl).org) := fun W hW =>
        (Hbr.out.below hW).cellsAt HLn.out.symm k (by have := HLn.out; omega) _ (by rw [List.getElem?_map, List.getElem?_eq_getElem hkl]; rfl)
      have hnk := Hself.out k hkl hkt
      generalize (l[k]'hkl).dig = dg at hcells hnk
      generalize tg[k]'hkt = tt at hcells hnk
      generalize (l[k]'hkl).org = og at hcells hnk hbals hst
      generalize (l.take k).any (fun x => x.org == o) = mm at hst ⊢
      have hnm := fun a1 c1 a2 c2 W hW => Hnam.out og a1 c1 a2 c2 W hW
      rw [hnk] at hnm
      simp only [namesV] at hnm
      have Hnm := hid hnm
      have Hst := hid hst
      have Hcells := hid hcells
      have Hbals := hid hbals
      obtain ⟨-, -, -, -, g5⟩ := hbals wr (Below.refl _ _)
      clear hnm hst hcells hbals hnk
      go_wp2_with fail
      go_region_held2 (fun w' => w'.cell? ⟨w.heap.size, 0, none⟩ = some (.int .i64 c) ∧ w'.cell? ⟨w.heap.size, 1, none⟩ = some (.int .i64 e) ∧ w'.cell? ⟨w.heap.size, 2, none⟩ = some (.int .i64 s) ∧ w'.cell? ⟨w.heap.size, 3, none⟩ = some (.int .i64 aud) ∧ w'.cell? ⟨w.heap.size, 4, none⟩ = some (.slice (some ⟨bm, om, none⟩) nm cm) ∧ w'.cell? ⟨w.heap.size, 5, none⟩ = some (.slice (some ⟨bt, ot, none⟩) nt ct) ∧ w'.cell? ⟨g, k * 6 + 5, none⟩ = some (.int .i64 og))
        ((go_split_ands; refine ⟨?_, ?_, ?_, ?_, ?_, ?_, ?_⟩ <;> (with_reducible first | assumption | skip) <;> first | exact c0 | exact c1 | exact c2 | exact c3 | exact c4 | exact c5 | exact g5))
        (first
          | (go_at_call 14; (go_split_ands; refine (How.out _ (by first | exact HLr.out.rc | exact HLr.out.drew.rc)).mono ?_; rintro e9 wn ⟨a1, k1, a2, k2, rfl, hm9, hs9, hbn⟩; have hbn : Below wr.heap.size wr wn := (by first | exact hbn | exact btd hbn); have hl9 := HLr.out.below hbn; have d0 := hl9.blk.val 0 rfl; have d1 := hl9.blk.val 1 rfl; have d2 := hl9.blk.val 2 rfl; have d3 := hl9.blk.val 3 rfl; have d4 := hl9.blk.val 4 rfl; have d5 := hl9.blk.val 5 rfl; obtain ⟨-, -, -, -, gg5⟩ := Hbals.out wn hbn; have hrc9 := RcptAt.own (r := ⟨⟨c, e, s⟩, aud, l, tg⟩) Hlim.out.1 Hlim.out.2.1 Hlim.out.2.2.1 Hlim.out.2.2.2 hm9 hs9))
          | (go_at_call 24; (go_split_ands; refine (Hnm.out _ _ _ _ _ (by exact hrc9)).mono ?_; rintro e9 wq ⟨rfl, hbq⟩; have hbq : Below wr.heap.size wr wq := bt0 hbn hbq; have hlq := HLr.out.below hbq; have d0 := hlq.blk.val 0 rfl; have d1 := hlq.blk.val 1 rfl; have d2 := hlq.blk.val 2 rfl; have d3 := hlq.blk.val 3 rfl; have d4 := hlq.blk.val 4 rfl; have d5 := hlq.blk.val 5 rfl; obtain ⟨x0, x1, x2, x3, x5⟩ := Hbals.out wq hbq)))
      obtain ⟨m0, m1, tc⟩ := Hcells.out _ hlq
      have Hlq := hid hlq
      have Hbq := hid hbq
      clear hlq hbq hl9 hrc9 hbn hm9 hs9 gg5 g5 Hbals Hcells Hnm HLr Hbr c0 c1 c2 c3 c4 c5
      go_wp2_with fail
      go_quiet (fail)
      cases mm with
      | true =>
        go_wp2
        go_roundw
        case rel => exact ⟨k + 1, by omega, by go_num, by rw [Hst.out]; rfl, by first | exact below_drewN (Hb.out.trans (Hbq.out.mono Hb.out.size)) _ | exact Hb.out.trans (Hbq.out.mono Hb.out.size)⟩
        case measure => simp [intOf]; omega
      | false =>
        obtain ⟨bb, hbb⟩ : ∃ bb, (og == o) = bb := ⟨_, rfl⟩
        rw [hbb] at Hst
        go_wp2
        go_roundw
        case rel => exact ⟨k + 1, by omega, by go_num, by rw [Hst.out]; rfl, by first | exact below_drewN (Hb.out.trans (Hbq.out.mono Hb.out.size)) _ | exact Hb.out.trans (Hbq.out.mono Hb.out.size)⟩
        case measure => simp [intOf]; omega
    · have hlt' : ¬ (k : Int) < nm := by omega
      obtain rfl : k = nm := by omega
      have htk : l.take k = l := List.take_of_length_le (by have := Hn.out; omega)
      have hnf := fun a1 c1 a2 c2 W hW => Hnam.out o a1 c1 a2 c2 W hW
      have hni := Hnis.out
      rw [htk]
      clear htk
      have HbA := hid (below_then Hb5.out Hb5.out.size Hb.out)
      cases hnr : namesR ⟨⟨c, e, s⟩, aud, l, tg⟩ o with
      | none =>
        rw [hnr] at hnf hni
        simp only [Option.isSome_none] at hni
        rw [← hni]
        simp only [namesV] at hnf
        have Hnf := hid hnf
        clear hnf hni hnr
        go_wp2_with fail
        refine (How.out _ HLr.out.rc).mono ?_
        rintro e6 w6 ⟨a5, k5, a6, k6, rfl, hm6, hs6, hb6⟩
        have hrc6 := hid (RcptAt.own (r := ⟨⟨c, e, s⟩, aud, l, tg⟩) Hlim.out.1 Hlim.out.2.1 Hlim.out.2.2.1 Hlim.out.2.2.2 hm6 hs6)
        have Hb6 := hid (below_then HbA.out HbA.out.size hb6)
        clear hm6 hs6 hb6
        go_wp2_with fail
        refine (Hnf.out _ _ _ _ _ hrc6.out).mono ?_
        rintro e7 w7 ⟨rfl, hb7⟩
        have Hb7 := hid (below_then Hb6.out Hb6.out.size hb7)
        clear hb7
        go_wp2_with fail
        refine (alive26_calls _).mono ?_
        rintro e8 w8 ⟨rfl, hb8⟩
        have Hb8 := hid (below_then Hb7.out Hb7.out.size hb8)
        clear hb8
        go_wp2
        go_ret
        exact ⟨rfl, Hb8.out⟩
      | some p =>
        obtain ⟨dd, tt⟩ := p
        rw [hnr] at hnf hni
        simp only [Option.isSome_some] at hni
        rw [← hni]
        simp only [namesV] at hnf
        have Hnf := hid hnf
        clear hnf hni hnr
        go_wp2_with fail
        refine (How.out _ HLr.out.rc).mono ?_
        rintro e6 w6 ⟨a5, k5, a6, k6, rfl, hm6, hs6, hb6⟩
        have hrc6 := hid (RcptAt.own (r := ⟨⟨c, e, s⟩, aud, l, tg⟩) Hlim.out.1 Hlim.out.2.1 Hlim.out.2.2.1 Hlim.out.2.2.2 hm6 hs6)
        have Hb6 := hid (below_then HbA.out HbA.out.size hb6)
        clear hm6 hs6 hb6
        go_wp2_with fail
        refine (Hnf.out _ _ _ _ _ hrc6.out).mono ?_
        rintro e7 w7 ⟨rfl, hb7⟩
        have Hb7 := hid (below_then Hb6.out Hb6.out.size hb7)
        clear hb7
        go_wp2_with fail
        refine (alive26_calls _).mono ?_
        rintro e8 w8 ⟨rfl, hb8⟩
        have Hb8 := hid (below_then Hb7.out Hb7.out.size hb8)
        clear hb8
        go_wp2
        go_ret
        exact ⟨rfl, Hb8.out⟩

theorem lawBal_calls (r : Rcpt) (am : Option Addr) (nm cm : Nat) (at_ : Option Addr) (nt ct : Nat) (o : Int) (w : World) (h : RcptAt r am nm cm at_ nt ct w) (hr : Rooms am cm at_ ct) :
    Calls Try.prog 5 #[rcptV r.txn r.aud am nm cm at_ nt ct, .int .i64 o] w fun e w' => e = .returned (.bool true) ∧ Below w.heap.size w w' := by
  cases hL : longR r with
  | true => exact lawBal_long r am nm cm at_ nt ct o w h hL
  | false => cases hm : mayR r with
    | true => exact lawBal_yes r am nm cm at_ nt ct o w h hr hL hm
    | false => exact lawBal_no r am nm cm at_ nt ct o w h hr hL hm
end Go.Proofs.Ytegkolepemcocaa
