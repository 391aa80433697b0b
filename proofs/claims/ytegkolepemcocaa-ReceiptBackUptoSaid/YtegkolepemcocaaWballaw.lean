import Derived.Test.YtegkolepemcocaaWalive26
/- The walk of the law ReceiptBallots. -/
namespace Go.Proofs.Ytegkolepemcocaa
open Go.RowKit Sp

theorem mayMem_lt : ∀ {c last : Int} {l : List Mem}, mayMem c last l = true → ∀ (i j : Nat) (hj : j < l.length) (hij : i < j), (l[i]'(by omega)).org < (l[j]'hj).org
  | c, last, [], _, i, j, hj, _ => by simp at hj
  | c, last, y :: r, h, i, j, hj, hij => by
    simp only [mayMem, Bool.and_eq_true, decide_eq_true_eq] at h
    cases j with
    | zero => omega
    | succ j =>
      cases i with
      | zero =>
        have := (mayMem_org h.2 (r[j]'(by simpa using hj)) (List.getElem_mem _)).2.1
        simpa using this
      | succ i =>
        have := mayMem_lt h.2 i j (by simpa using hj) (by omega)
        simpa using this
theorem place_self {c last : Int} {l : List Mem} (h : mayMem c last l = true) (i : Nat) (hi : i < l.length) : placeOf (l[i]'hi).org l = some i := by
  refine place_some hi (List.all_eq_true.2 fun x hx => ?_) rfl
  obtain ⟨j, hj, rfl⟩ := List.getElem_of_mem hx
  have hj' : j < i := by simp at hj; omega
  have := mayMem_lt h j i hi hj'
  have e : (l.take i)[j]'hj = l[j]'(by omega) := by simp
  rw [e]
  simp; omega
theorem names_self {r : Rcpt} (hm : mayR r = true) (i : Nat) (hi : i < r.mems.length) (hi' : i < r.tags.length) : namesR r (r.mems[i]'hi).org = some ((r.mems[i]'hi).dig, r.tags[i]'hi') := by
  unfold namesR
  rw [place_self (mayMembers_is (mayR_is hm).2.2.1).1 i hi]
  simp only [hm, if_true]
  simp [List.getD_eq_getElem?_getD, List.getElem?_eq_getElem hi, List.getElem?_eq_getElem hi']
theorem names_is {r : Rcpt} (hm : mayR r = true) (o : Int) : (namesR r o).isSome = r.mems.any (fun x => x.org == o) := by
  have h1 : (placeOf o r.mems).isSome = r.mems.any (fun x => x.org == o) := by unfold placeOf; exact List.findIdx?_isSome
  rw [← h1]
  unfold namesR
  cases placeOf o r.mems with
  | none => rfl
  | some k => simp only [hm, if_true]; rfl

/-- What stands under the law all the while. -/
structure LawAt (r : Rcpt) (am : Option Addr) (nm cm : Nat) (at_ : Option Addr) (nt ct : Nat) (b : Nat) (W : World) : Prop where
  blk : BlkAt W b #[.int .i64 r.txn.c, .int .i64 r.txn.e, .int .i64 r.txn.s, .int .i64 r.aud, .slice am nm cm, .slice at_ nt ct] 27
  rc : RcptAt r am nm cm at_ nt ct W
theorem LawAt.below {r : Rcpt} {am : Option Addr} {nm cm : Nat} {at_ : Option Addr} {nt ct : Nat} {b : Nat} {W W' : World} (h : LawAt r am nm cm at_ nt ct b W) (hb : Below W.heap.size W W') : LawAt r am nm cm at_ nt ct b W' := ⟨h.blk.below hb, h.rc.below hb⟩
theorem LawAt.drew {r : Rcpt} {am : Option Addr} {nm cm : Nat} {at_ : Option Addr} {nt ct : Nat} {b : Nat} {W : World} (h : LawAt r am nm cm at_ nt ct b W) : LawAt r am nm cm at_ nt ct b W.drew := ⟨h.blk, h.rc.below ((Below.refl _ _).drew)⟩

set_option maxRecDepth 20000 in
set_option maxHeartbeats 4000000 in
theorem lawBal_long (r : Rcpt) (am : Option Addr) (nm cm : Nat) (at_ : Option Addr) (nt ct : Nat) (o : Int) (w : World) (h : RcptAt r am nm cm at_ nt ct w) (hL : longR r = true) :
    Calls Try.prog 5 #[rcptV r.txn r.aud am nm cm at_ nt ct, .int .i64 o] w fun e w' => e = .returned (.bool true) ∧ Below w.heap.size w w' := by
  obtain ⟨⟨c, e, s⟩, aud, l, tg⟩ := r
  have hB0 := (Below.refl w.heap.size w).alloc (Nat.le_refl _) (.cells #[.int .i64 c, .int .i64 e, .int .i64 s, .int .i64 aud, .slice am nm cm, .slice at_ nt ct] 27)
  have hl := long26_calls ⟨⟨c, e, s⟩, aud, l, tg⟩ am nm cm at_ nt ct _ (h.below hB0)
  rw [hL] at hl
  simp only [rcptV] at hl ⊢
  have Hl := hid hl
  have HB0 := hid hB0
  clear hl hB0 h hL
  go_enter Try.func5, Try.ntmps5
  go_wp2_with fail
  refine Hl.out.mono ?_
  rintro e1 w1 ⟨rfl, hb⟩
  have Hb := hid (below_then HB0.out HB0.out.size hb)
  clear hb
  go_wp2_with fail
  refine (alive26_calls _).mono ?_
  rintro e2 w2 ⟨rfl, hb2⟩
  have Hb2 := hid (below_then Hb.out Hb.out.size hb2)
  clear hb2
  go_wp2
  go_ret
  exact ⟨rfl, Hb2.out⟩

set_option maxRecDepth 20000 in
set_option maxHeartbeats 4000000 in
theorem lawBal_no (r : Rcpt) (am : Option Addr) (nm cm : Nat) (at_ : Option Addr) (nt ct : Nat) (o : Int) (w : World) (h : RcptAt r am nm cm at_ nt ct w) (hr : Rooms am cm at_ ct) (hL : longR r = false) (hm : mayR r = false) :
    Calls Try.prog 5 #[rcptV r.txn r.aud am nm cm at_ nt ct, .int .i64 o] w fun e w' => e = .returned (.bool true) ∧ Below w.heap.size w w' := by
  obtain ⟨⟨c, e, s⟩, aud, l, tg⟩ := r
  have hB0 := (Below.refl w.heap.size w).alloc (Nat.le_refl _) (.cells #[.int .i64 c, .int .i64 e, .int .i64 s, .int .i64 aud, .slice am nm cm, .slice at_ nt ct] 27)
  have hl := long26_calls ⟨⟨c, e, s⟩, aud, l, tg⟩ am nm cm at_ nt ct _ (h.below hB0)
  rw [hL] at hl
  have how := fun W (hW : RcptAt ⟨⟨c, e, s⟩, aud, l, tg⟩ am nm cm at_ nt ct W) => own26_calls ⟨⟨c, e, s⟩, aud, l, tg⟩ am nm cm at_ nt ct W hW hr
  have hbal := fun a1 c1 a2 c2 W (hW : RcptAt ⟨⟨c, e, s⟩, aud, l, tg⟩ a1 l.length c1 a2 tg.length c2 W) => ballots_no ⟨⟨c, e, s⟩, aud, l, tg⟩ a1 l.length c1 a2 tg.length c2 W hW hm
  have hck := fun a1 c1 a2 c2 W (hW : RcptAt ⟨⟨c, e, s⟩, aud, l, tg⟩ a1 l.length c1 a2 tg.length c2 W) => rcheck_at ⟨⟨c, e, s⟩, aud, l, tg⟩ a1 l.length c1 a2 tg.length c2 W hW
  rw [hm] at hck
  have HLaw : Kp (LawAt ⟨⟨c, e, s⟩, aud, l, tg⟩ am nm cm at_ nt ct w.heap.size (w.alloc (.cells #[.int .i64 c, .int .i64 e, .int .i64 s, .int .i64 aud, .slice am nm cm, .slice at_ nt ct] 27))) := hid ⟨BlkAt.new _ _ _, h.below hB0⟩
  have hlim : l.length ≤ 10000000 ∧ tg.length ≤ 10000000 ∧ (∀ x ∈ l, x.dig.length ≤ 10000000) ∧ ∀ s ∈ tg, s.length ≤ 10000000 := ⟨h.lm, h.lt, h.dm, h.dt⟩
  simp only [rcptV, OwnPost] at hl how hbal hck ⊢
  have Hl := hid hl
  have HB0 := hid hB0
  have How := hid how
  have Hbal := hid hbal
  have Hck := hid hck
  have Hlim := hid hlim
  clear hl hB0 h hL how hbal hck hlim hm hr
  go_enter Try.func5, Try.ntmps5
  go_wp2_with fail
  refine Hl.out.mono ?_
  rintro e1 w1 ⟨rfl, hb⟩
  have hla := HLaw.out.below hb
  have HLa := hid hla
  have Hb := hid (below_then HB0.out HB0.out.size hb)
  have c0 := hla.blk.val 0 rfl
  have c1 := hla.blk.val 1 rfl
  have c2 := hla.blk.val 2 rfl
  have c3 := hla.blk.val 3 rfl
  have c4 := hla.blk.val 4 rfl
  have c5 := hla.blk.val 5 rfl
  clear hb hla HLaw
  go_wp2_with fail
  refine (How.out _ HLa.out.rc).mono ?_
  rintro e2 w2 ⟨a1, k1, a2, k2, rfl, hm2, hs2, hb2⟩
  have hrc2 := RcptAt.own (r := ⟨⟨c, e, s⟩, aud, l, tg⟩) Hlim.out.1 Hlim.out.2.1 Hlim.out.2.2.1 Hlim.out.2.2.2 hm2 hs2
  have Hrc2 := hid hrc2
  have HLb := hid (HLa.out.below hb2)
  have Hb2 := hid (below_then Hb.out Hb.out.size hb2)
  clear hm2 hs2 hb2 hrc2
  go_wp2_with fail
  refine (Hbal.out _ _ _ _ _ Hrc2.out).mono ?_
  rintro e3 w3 ⟨rfl, hb3⟩
  have hlc := HLb.out.below hb3
  have HLc := hid hlc
  have Hb3 := hid (below_then Hb2.out Hb2.out.size hb3)
  clear c0 c1 c2 c3 c4 c5 Hrc2 HLb HLa hb3
  have c0 := hlc.blk.val 0 rfl
  have c1 := hlc.blk.val 1 rfl
  have c2 := hlc.blk.val 2 rfl
  have c3 := hlc.blk.val 3 rfl
  have c4 := hlc.blk.val 4 rfl
  have c5 := hlc.blk.val 5 rfl
  clear hlc
  go_wp2_with fail
  refine (How.out _ HLc.out.rc).mono ?_
  rintro e4 w4 ⟨a3, k3, a4, k4, rfl, hm4, hs4, hb4⟩
  have hrc4 := RcptAt.own (r := ⟨⟨c, e, s⟩, aud, l, tg⟩) Hlim.out.1 Hlim.out.2.1 Hlim.out.2.2.1 Hlim.out.2.2.2 hm4 hs4
  have Hrc4 := hid hrc4
  have Hb4 := hid (below_then Hb3.out Hb3.out.size hb4)
  clear hm4 hs4 hb4 hrc4
  go_wp2_with fail
  refine (Hck.out _ _ _ _ _ Hrc4.out).mono ?_
  rintro e5 w5 ⟨rfl, hb5⟩
  have Hb5 := hid (below_then Hb4.out Hb4.out.size hb5)
  clear hb5 c0 c1 c2 c3 c4 c5 Hrc4 HLc
  go_wp2_with fail
  refine (alive26_calls _).mono ?_
  rintro e6 w6 ⟨rfl, hb6⟩
  have Hb6 := hid (below_then Hb5.out Hb5.out.size hb6)
  clear hb6
  go_wp2
  go_ret
  exact ⟨rfl, Hb6.out⟩
end Go.Proofs.Ytegkolepemcocaa
