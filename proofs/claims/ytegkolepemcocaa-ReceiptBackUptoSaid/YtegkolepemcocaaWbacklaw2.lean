import Derived.Test.YtegkolepemcocaaWbacklaw
/- The walk of the law ReceiptBack at what is not too long. -/
namespace Go.Proofs.Ytegkolepemcocaa
open Go.RowKit Sp

/-- How a receipt, and its term, stand when it is encoded. -/
theorem encR_pair (r : Rcpt) : ∃ (a : Bs) (f : Int), encMade (encR r) = .tuple #[.string (ofL a), .int .i64 f] ∧ ((f = 0 ∧ encR r = .ok a) ∨ (f ≠ 0 ∧ ∃ k, encR r = .error k)) := by
  cases h : encR r with
  | ok a => exact ⟨a, 0, rfl, .inl ⟨rfl, rfl⟩⟩
  | error k =>
    refine ⟨[], k, rfl, .inr ⟨?_, k, rfl⟩⟩
    unfold encR at h
    split at h
    · have := putR_err h; omega
    · injection h with h; omega
/-- A decoding, as one open triple. -/
theorem decode_err (t : Bs) (ht : t.length ≤ 10000000) (h : isTerm t = false) : ∃ k : Int, k ≠ 0 ∧ ∀ w, Calls Try.prog 9 #[.string (ofL t)] w fun e w' => e = .returned (.tuple #[.agg #[.int .i64 0, .int .i64 0, .int .i64 0, .int .i64 0, .slice none 0 0, .slice none 0 0], .int .i64 k]) ∧ Below w.heap.size w w' := by
  obtain ⟨k, hk⟩ := decR_noterm h
  have hd := fun w => rdecode_calls t ht w
  rw [hk] at hd
  exact ⟨k, by have := decR_err hk; omega, hd⟩
/-- A receipt's term, with something behind it or nothing: as one open answer. -/
theorem decode_more {r : Rcpt} {a : Bs} (h : encR r = .ok a) (more : Bs) (hl : (a ++ more).length ≤ 10000000) : ∃ i : Int, (i == 0) = more.isEmpty ∧ ∀ w, Calls Try.prog 9 #[.string (ofL (a ++ more))] w fun e w' =>
    (∃ (x0 x1 x2 x3 : Int) (m0 : Option Addr) (m1 m2 : Nat) (n0 : Option Addr) (n1 n2 : Nat), e = .returned (.tuple #[.agg #[.int .i64 x0, .int .i64 x1, .int .i64 x2, .int .i64 x3, .slice m0 m1 m2, .slice n0 n1 n2], .int .i64 i])) ∧ Below w.heap.size w w' := by
  cases more with
  | nil =>
    rw [List.append_nil] at hl ⊢
    refine ⟨0, rfl, fun w => ?_⟩
    have hd := rdecode_calls a hl w
    rw [decR_encR h] at hd
    refine hd.mono ?_
    rintro e w' ⟨⟨am, cm, at_, ct, rfl, -, -⟩, hb⟩
    exact ⟨⟨_, _, _, _, _, _, _, _, _, _, rfl⟩, hb⟩
  | cons x y =>
    obtain ⟨k, hk, hc⟩ := decode_err (a ++ x :: y) hl (term_on (encR_term h) (by simp))
    refine ⟨k, by simpa using hk, fun w => (hc w).mono ?_⟩
    rintro e w' ⟨rfl, hb⟩
    exact ⟨⟨_, _, _, _, _, _, _, _, _, _, rfl⟩, hb⟩
theorem decR_long {t : Bs} {k : Nat} (h : decR t = .error k) (hl : 16384 < t.length) : k = 5 := by
  unfold decR at h
  rw [if_pos hl] at h
  injection h with h; exact h.symm

set_option maxRecDepth 20000 in
set_option maxHeartbeats 8000000 in
theorem lawBack_main (t : Bs) (ht : t.length ≤ 20000) (r s : Rcpt) (am : Option Addr) (nm cm : Nat) (at_ : Option Addr) (nt ct : Nat) (bm : Option Addr) (mm dm : Nat) (bt : Option Addr) (mt dt : Nat) (more : Bs) (hmo : more.length ≤ 20000) (cu : Nat) (hcu : cu ≤ 65535) (w : World)
    (h : RcptAt r am nm cm at_ nt ct w) (h' : RcptAt s bm mm dm bt mt dt w) (hr : Rooms am cm at_ ct) (hr' : Rooms bm dm bt dt) (hlr : longR r = false) (hls : longR s = false) :
    Calls Try.prog 3 #[.string (ofL t), rcptV r.txn r.aud am nm cm at_ nt ct, rcptV s.txn s.aud bm mm dm bt mt dt, .string (ofL more), .int .u16 cu] w fun e w' => e = .returned (.bool true) ∧ Below w.heap.size w w' := by
  -- what is encoded of each
  obtain ⟨a, f, hea, hfa⟩ := encR_pair r
  obtain ⟨b, g, heb, hgb⟩ := encR_pair s
  have hsame : f = 0 → g = 0 → (a == b) = decide (r = s) := fun h1 h2 => by
    rcases hfa with ⟨-, e1⟩ | ⟨hn, -⟩
    · rcases hgb with ⟨-, e2⟩ | ⟨hn, -⟩
      · by_cases hab : a = b
        · subst hab
          have := encR_inj e1 e2
          subst this; simp
        · have hrs : r ≠ s := fun e => by subst e; rw [e1] at e2; injection e2 with e2; exact hab e2
          simp [hab, hrs]
      · exact absurd h2 hn
    · exact absurd h1 hn
  have hown1 := fun W (hW : RcptAt r am nm cm at_ nt ct W) => own26_calls r am nm cm at_ nt ct W hW hr
  have hown2 := fun W (hW : RcptAt s bm mm dm bt mt dt W) => own26_calls s bm mm dm bt mt dt W hW hr'
  have henc1 := fun a1 c1 a2 c2 W hW => rencode_calls r a1 r.mems.length c1 a2 r.tags.length c2 W hW
  have henc2 := fun a1 c1 a2 c2 W hW => rencode_calls s a1 s.mems.length c1 a2 s.tags.length c2 W hW
  rw [hea] at henc1
  rw [heb] at henc2
  have hsm := fun W (hW : RcptAt r am nm cm at_ nt ct W) (hW' : RcptAt s bm mm dm bt mt dt W) => same26_calls r s am nm cm at_ nt ct bm mm dm bt mt dt W hW hW'
  have hlim1 : r.mems.length ≤ 10000000 ∧ r.tags.length ≤ 10000000 ∧ (∀ x ∈ r.mems, x.dig.length ≤ 10000000) ∧ ∀ s ∈ r.tags, s.length ≤ 10000000 := ⟨h.lm, h.lt, h.dm, h.dt⟩
  have hlim2 : s.mems.length ≤ 10000000 ∧ s.tags.length ≤ 10000000 ∧ (∀ x ∈ s.mems, x.dig.length ≤ 10000000) ∧ ∀ x ∈ s.tags, x.length ≤ 10000000 := ⟨h'.lm, h'.lt, h'.dm, h'.dt⟩
  have hdec := fun W => rdecode_calls t (by omega) W
  obtain ⟨⟨c, e, s1⟩, aud, l, tg⟩ := r
  obtain ⟨⟨c', e', s'⟩, aud', l', tg'⟩ := s
  have hB0 := ((Below.refl w.heap.size w).alloc (Nat.le_refl _) (.cells #[.int .i64 c, .int .i64 e, .int .i64 s1, .int .i64 aud, .slice am nm cm, .slice at_ nt ct] 27)).alloc (by simp) (.cells #[.int .i64 c', .int .i64 e', .int .i64 s', .int .i64 aud', .slice bm mm dm, .slice bt mt dt] 27)
  have hl1 := long26_calls ⟨⟨c, e, s1⟩, aud, l, tg⟩ am nm cm at_ nt ct _ (h.below hB0)
  have hl2 := fun W (hb : Below w.heap.size w W) => long26_calls ⟨⟨c', e', s'⟩, aud', l', tg'⟩ bm mm dm bt mt dt W (h'.below hb)
  rw [hlr] at hl1
  rw [hls] at hl2
  have hbk1 := (BlkAt.new w #[.int .i64 c, .int .i64 e, .int .i64 s1, .int .i64 aud, .slice am nm cm, .slice at_ nt ct] 27).alloc (.cells #[.int .i64 c', .int .i64 e', .int .i64 s', .int .i64 aud', .slice bm mm dm, .slice bt mt dt] 27)
  have hbk2 : BlkAt ((w.alloc (.cells #[.int .i64 c, .int .i64 e, .int .i64 s1, .int .i64 aud, .slice am nm cm, .slice at_ nt ct] 27)).alloc (.cells #[.int .i64 c', .int .i64 e', .int .i64 s', .int .i64 aud', .slice bm mm dm, .slice bt mt dt] 27)) (w.heap.size + 1) #[.int .i64 c', .int .i64 e', .int .i64 s', .int .i64 aud', .slice bm mm dm, .slice bt mt dt] 27 := by
    have := BlkAt.new (w.alloc (.cells #[.int .i64 c, .int .i64 e, .int .i64 s1, .int .i64 aud, .slice am nm cm, .slice at_ nt ct] 27)) #[.int .i64 c', .int .i64 e', .int .i64 s', .int .i64 aud', .slice bm mm dm, .slice bt mt dt] 27
    simpa using this
  have HLaw1 : Kp (LawAt ⟨⟨c, e, s1⟩, aud, l, tg⟩ am nm cm at_ nt ct w.heap.size ((w.alloc (.cells #[.int .i64 c, .int .i64 e, .int .i64 s1, .int .i64 aud, .slice am nm cm, .slice at_ nt ct] 27)).alloc (.cells #[.int .i64 c', .int .i64 e', .int .i64 s', .int .i64 aud', .slice bm mm dm, .slice bt mt dt] 27))) := hid ⟨hbk1, h.below hB0⟩
  have HLaw2 : Kp (LawAt ⟨⟨c', e', s'⟩, aud', l', tg'⟩ bm mm dm bt mt dt (w.heap.size + 1) ((w.alloc (.cells #[.int .i64 c, .int .i64 e, .int .i64 s1, .int .i64 aud, .slice am nm cm, .slice at_ nt ct] 27)).alloc (.cells #[.int .i64 c', .int .i64 e', .int .i64 s', .int .i64 aud', .slice bm mm dm, .slice bt mt dt] 27))) := hid ⟨hbk2, h'.below hB0⟩
  simp only [rcptV, OwnPost, rDecodePost] at hl1 hl2 hown1 hown2 henc1 henc2 hsm hdec ⊢
  have HB0 := hid hB0
  have Hl1 := hid hl1
  have Hl2 := hid hl2
  have Hown1 := hid hown1
  have Hown2 := hid hown2
  have Henc1 := hid henc1
  have Henc2 := hid henc2
  have Hsm := hid hsm
  have Hlim1 := hid hlim1
  have Hlim2 := hid hlim2
  have Hfa := hid hfa
  have Hgb := hid hgb
  have Hsame := hid hsame
  have hA' : ¬ (20000 : Int) < t.length := by omega
  have hM' : ¬ (20000 : Int) < more.length := by omega
  clear h h' hB0 hbk1 hbk2 hl1 hl2 hown1 hown2 henc1 henc2 hsm hlim1 hlim2 hfa hgb hsame hlr hls hea heb hr hr'
  go_enter Try.func3, Try.ntmps3
  go_wp2_with fail
  refine Hl1.out.mono ?_
  rintro e1 w1 ⟨rfl, hb1⟩
  have k1 := HLaw1.out.below hb1
  have k2 := HLaw2.out.below hb1
  have Hb1 := hid (below_then HB0.out HB0.out.size hb1)
  have d0 := k2.blk.val 0 rfl
  have d1 := k2.blk.val 1 rfl
  have d2 := k2.blk.val 2 rfl
  have d3 := k2.blk.val 3 rfl
  have d4 := k2.blk.val 4 rfl
  have d5 := k2.blk.val 5 rfl
  have K1 := hid k1
  have K2 := hid k2
  clear hb1 k1 k2 HLaw1 HLaw2
  go_wp2_with fail
  refine (Hl2.out _ Hb1.out).mono ?_
  rintro e2 w2 ⟨rfl, hb2⟩
  have J1 := hid (K1.out.below hb2)
  have J2 := hid (K2.out.below hb2)
  have Hb2 := hid (below_then Hb1.out Hb1.out.size hb2)
  clear hb2 K1 K2 d0 d1 d2 d3 d4 d5 Hl1 Hl2 HB0 Hb1
  go_wp2_with fail
  rcases hX : decR t with k | x
  case' ok =>
    rw [hX] at hdec
    obtain ⟨hxe, hxm, hxt⟩ := decR_back hX
    have hxl := mayR_lim hxm
    have hxn := (mayR_is hxm).2.2.2.1
    have Hdec := hid hdec
    clear hdec hX
    obtain ⟨⟨xc, xe, xs⟩, xa, xl, xg⟩ := x
    refine (Hdec.out _).mono ?_
    rintro e3 w3 ⟨⟨xm, xk, xt, xj, rfl, hm3, hs3⟩, hb3⟩
    have hx3 := RcptAt.own hxl.1 hxl.2.1 hxl.2.2.1 hxl.2.2.2 hm3 hs3
    have ha3 : Below w3.heap.size w3 (w3.alloc (.cells #[.int .i64 xc, .int .i64 xe, .int .i64 xs, .int .i64 xa, .slice xm xl.length xk, .slice xt xg.length xj] 27)) := (Below.refl _ _).alloc (Nat.le_refl _) _
    have hb3a := bt0 hb3 ha3
    have hbx := BlkAt.new w3 #[.int .i64 xc, .int .i64 xe, .int .i64 xs, .int .i64 xa, .slice xm xl.length xk, .slice xt xg.length xj] 27
    have hx4 := hx3.below ha3
    have hen := fun W hW => rencode_calls ⟨⟨xc, xe, xs⟩, xa, xl, xg⟩ xm xl.length xk xt xg.length xj W hW
    rw [hxe] at hen
    have hck := fun W hW => rcheck_at ⟨⟨xc, xe, xs⟩, xa, xl, xg⟩ xm xl.length xk xt xg.length xj W hW
    rw [hxm] at hck
    have htc : ∀ W, Calls Try.prog 12 #[.string (ofL t)] W fun e w' => e = .returned (.int .i64 0) ∧ Below W.heap.size W w' := fun W => by have h9 := check_calls t (by omega) W; rw [isTerm_check.1 hxt] at h9; exact h9
    simp only [rcptV, encMade] at hen hck hxn
    have I1 := hid (J1.out.below hb3a)
    have I2 := hid (J2.out.below hb3a)
    have Hb3 := hid (below_then Hb2.out Hb2.out.size hb3a)
    have Hbx := hid hbx
    have Hx4 := hid hx4
    have Hen := hid hen
    have Hck := hid hck
    have Htc := hid htc
    have hneq : ((xl.length : Int) != xg.length) = false := by simp; omega
    clear hm3 hs3 hb3 hx3 ha3 hb3a hbx hx4 hen hck htc hxe hxm hxt hxl hxn J1 J2 Hb2
    go_wp2_with fail
    refine (Hen.out _ Hx4.out).mono ?_
    rintro e4 w4 ⟨rfl, hb4⟩
    have hbx4 := Hbx.out.below hb4
    have c0 := hbx4.val 0 rfl
    have c1 := hbx4.val 1 rfl
    have c2 := hbx4.val 2 rfl
    have c3 := hbx4.val 3 rfl
    have c4 := hbx4.val 4 rfl
    have c5 := hbx4.val 5 rfl
    have Hbx4 := hid hbx4
    have Hx5 := hid (Hx4.out.below hb4)
    have I3 := hid (I1.out.below hb4)
    have I4 := hid (I2.out.below hb4)
    have hs3a : (w3.alloc (.cells #[.int .i64 xc, .int .i64 xe, .int .i64 xs, .int .i64 xa, .slice xm xl.length xk, .slice xt xg.length xj] 27)).heap.size = w3.heap.size + 1 := by simp
    have Hb4 := hid (below_then Hb3.out Hb3.out.size hb4)
    clear hb4 hbx4 I1 I2 Hx4 Hbx hs3a Hb3 Hen
    go_wp2_with fail
    refine (Hck.out _ Hx5.out).mono ?_
    rintro e5 w5 ⟨rfl, hb5⟩
    have hbx5 := Hbx4.out.below hb5
    have b4 := hbx5.val 4 rfl
    have b5 := hbx5.val 5 rfl
    have I5 := hid (I3.out.below hb5)
    have I6 := hid (I4.out.below hb5)
    have Hb5 := hid (below_then Hb4.out Hb4.out.size hb5)
    clear hb5 hbx5 I3 I4 Hx5 Hbx4 Hb4 c0 c1 c2 c3 c4 c5
    go_wp2_with fail
    refine (Htc.out _).mono ?_
    rintro e6 w6 ⟨rfl, hb6⟩
    have J1 := hid (I5.out.below hb6)
    have J2 := hid (I6.out.below hb6)
    have Hb2 := hid (below_then Hb5.out Hb5.out.size hb6)
    clear hb6 I5 I6 Hb5 b4 b5 hneq Htc Hck Hdec
  case' error =>
    have hk0 := decR_err hX
    rw [hX] at hdec
    have hk5 := fun hl => decR_long hX hl
    have hz := fun W => same26_calls zeroR zeroR none 0 0 none 0 0 none 0 0 none 0 0 W (zeroR_at W) (zeroR_at W)
    simp only [rcptV, zeroR, decide_true] at hz hdec
    have Hz := hid hz
    have Hdec := hid hdec
    have hk1 : ((k : Int) == 0) = false := by simpa using hk0
    clear hdec hX hz hk0
    by_cases hl16 : 16384 < t.length
    case' pos =>
      obtain rfl := hk5 hl16
      have hl17 : (16384 : Int) < t.length := by omega
      clear hk5 hk1
      refine (Hdec.out _).mono ?_
      rintro e3 w3 ⟨rfl, hb3⟩
      have hb3a := bt0 hb3 ((Below.refl w3.heap.size w3).alloc (Nat.le_refl _) (.cells zeroRB 27))
      have I1 := hid (J1.out.below hb3a)
      have I2 := hid (J2.out.below hb3a)
      have Hb3 := hid (below_then Hb2.out Hb2.out.size hb3a)
      clear hb3 hb3a J1 J2 Hb2
      go_wp2_with fail
      refine (Hz.out _).mono ?_
      rintro e6 w6 ⟨rfl, hb6⟩
      have J1 := hid (I1.out.below hb6)
      have J2 := hid (I2.out.below hb6)
      have Hb2 := hid (below_then Hb3.out Hb3.out.size hb6)
      clear hb6 I1 I2 Hb3 Hz Hdec
    case' neg =>
      have hl17 : ¬ (16384 : Int) < t.length := by omega
      clear hk5
      refine (Hdec.out _).mono ?_
      rintro e3 w3 ⟨rfl, hb3⟩
      have hb3a := bt0 hb3 ((Below.refl w3.heap.size w3).alloc (Nat.le_refl _) (.cells zeroRB 27))
      have I1 := hid (J1.out.below hb3a)
      have I2 := hid (J2.out.below hb3a)
      have Hb3 := hid (below_then Hb2.out Hb2.out.size hb3a)
      clear hb3 hb3a J1 J2 Hb2
      go_wp2_with fail
      refine (Hz.out _).mono ?_
      rintro e6 w6 ⟨rfl, hb6⟩
      have J1 := hid (I1.out.below hb6)
      have J2 := hid (I2.out.below hb6)
      have Hb2 := hid (below_then Hb3.out Hb3.out.size hb6)
      clear hb6 I1 I2 Hb3 Hz Hdec
  all_goals
    have d0 := J1.out.blk.val 0 rfl
    have d1 := J1.out.blk.val 1 rfl
    have d2 := J1.out.blk.val 2 rfl
    have d3 := J1.out.blk.val 3 rfl
    have d4 := J1.out.blk.val 4 rfl
    have d5 := J1.out.blk.val 5 rfl
    go_wp2_with fail
    refine (Hown1.out _ J1.out.rc).mono ?_
    rintro ea wa ⟨a1, k1, a2, k2, rfl, hma, hsa, hba⟩
    have Hra := hid (RcptAt.own (r := ⟨⟨c, e, s1⟩, aud, l, tg⟩) Hlim1.out.1 Hlim1.out.2.1 Hlim1.out.2.2.1 Hlim1.out.2.2.2 hma hsa)
    have M1 := hid (J1.out.below hba)
    have M2 := hid (J2.out.below hba)
    have Hba := hid (below_then Hb2.out Hb2.out.size hba)
    clear hma hsa hba d0 d1 d2 d3 d4 d5 J1 J2 Hb2
    go_wp2_with fail
    refine (Henc1.out _ _ _ _ _ Hra.out).mono ?_
    rintro eb wb ⟨rfl, hbb⟩
    have M3 := hid (M1.out.below hbb)
    have M4 := hid (M2.out.below hbb)
    have Hbb := hid (below_then Hba.out Hba.out.size hbb)
    have d0 := M4.out.blk.val 0 rfl
    have d1 := M4.out.blk.val 1 rfl
    have d2 := M4.out.blk.val 2 rfl
    have d3 := M4.out.blk.val 3 rfl
    have d4 := M4.out.blk.val 4 rfl
    have d5 := M4.out.blk.val 5 rfl
    clear hbb M1 M2 Hba Hra
    go_wp2_with fail
    refine (Hown2.out _ M4.out.rc).mono ?_
    rintro ec wc ⟨a3, k3, a4, k4, rfl, hmc, hsc, hbc⟩
    have Hrc := hid (RcptAt.own (r := ⟨⟨c', e', s'⟩, aud', l', tg'⟩) Hlim2.out.1 Hlim2.out.2.1 Hlim2.out.2.2.1 Hlim2.out.2.2.2 hmc hsc)
    have N1 := hid (M3.out.below hbc)
    have N2 := hid (M4.out.below hbc)
    have Hbc := hid (below_then Hbb.out Hbb.out.size hbc)
    clear hmc hsc hbc d0 d1 d2 d3 d4 d5 M3 M4 Hbb
    go_wp2_with fail
    refine (Henc2.out _ _ _ _ _ Hrc.out).mono ?_
    rintro ed wd ⟨rfl, hbd⟩
    have P1 := hid (N1.out.below hbd)
    have P2 := hid (N2.out.below hbd)
    have Hbd := hid (below_then Hbc.out Hbc.out.size hbd)
    clear hbd N1 N2 Hbc Hrc
    rcases Hfa.out with ⟨rfl, hfe⟩ | ⟨hf0, kf, hfe⟩
    rotate_left
    · have hf1 : (f == 0) = false := by simpa using hf0
      have hf2 : (f != 0) = true := by simpa using hf0
      clear hfe hf0
      go_wp2_with fail
      refine (alive26_calls _).mono ?_
      rintro e8 w8 ⟨rfl, hb8⟩
      have Hb8 := hid (below_then Hbd.out Hbd.out.size hb8)
      clear hb8
      go_wp2
      go_ret
      exact ⟨rfl, Hb8.out⟩
    · have hat : isTerm a = true := encR_term hfe
      have haL := isTerm_len hat
      have hae : a.isEmpty = false := by
        cases a with
        | nil => exact absurd rfl (isTerm_ne hat)
        | cons x y => rfl
      have ha0 : 0 < a.length := List.length_pos_iff.2 (isTerm_ne hat)
      obtain ⟨kc, hkc⟩ : ∃ kc, cu % a.length = kc := ⟨_, rfl⟩
      have hkl : kc < a.length := by rw [← hkc]; exact Nat.mod_lt _ ha0
      obtain ⟨kh, hkh, hdh⟩ := decode_err (a.take kc) (by rw [List.length_take]; omega) (term_cut hat kc hkl)
      obtain ⟨ki, hki, hdm⟩ := decode_more hfe more (by rw [List.length_append]; omega)
      have hadd := run_add_ofL (P := Try.prog) a more (by omega)
      have hmod : (cu : Int) % (a.length : Int) = (kc : Int) := by rw [← hkc]; first | exact (Int.natCast_emod _ _).symm | exact (Int.ofNat_emod _ _).symm | rfl
      have hkh1 : (kh != 0) = true := by simpa using hkh
      have hc0 : (0 : Int) ≤ cu := by omega
      have hc1 : (cu : Int) ≤ 65535 := by omega
      have hk0 : (0 : Int) ≤ kc := by omega
      have hk1 : (kc : Int) ≤ a.length := by omega
      have hal : (1 : Int) ≤ a.length := by omega
      have Hdh := hid hdh
      have Hdm := hid hdm
      have Hki := hid hki
      have Hmod := hid hmod
      clear hat hfe hkc hkh hdh hdm hki hmod Hfa
      rcases Hgb.out with ⟨rfl, hge⟩ | ⟨hg0, kg, hge⟩
      case' inl =>
        have hs := Hsame.out rfl rfl
        generalize decide ((⟨⟨c, e, s1⟩, aud, l, tg⟩ : Rcpt) = ⟨⟨c', e', s'⟩, aud', l', tg'⟩) = D at hs Hsm
        have x0 := P1.out.blk.val 0 rfl
        have x1 := P1.out.blk.val 1 rfl
        have x2 := P1.out.blk.val 2 rfl
        have x3 := P1.out.blk.val 3 rfl
        have x4 := P1.out.blk.val 4 rfl
        have x5 := P1.out.blk.val 5 rfl
        have y0 := P2.out.blk.val 0 rfl
        have y1 := P2.out.blk.val 1 rfl
        have y2 := P2.out.blk.val 2 rfl
        have y3 := P2.out.blk.val 3 rfl
        have y4 := P2.out.blk.val 4 rfl
        have y5 := P2.out.blk.val 5 rfl
        have Hs := hid hs
        clear hge hs
        go_wp2_with fail
        refine (Hsm.out _ P1.out.rc P2.out.rc).mono ?_
        rintro ex wx ⟨rfl, hbx⟩
        have Hbe := hid (below_then Hbd.out Hbd.out.size hbx)
        have hs := Hs.out
        clear hbx x0 x1 x2 x3 x4 x5 y0 y1 y2 y3 y4 y5 P1 P2 Hbd
      case' inr =>
        have hg1 : (g == 0) = false := by simpa using hg0
        have Hbe := hid Hbd.out
        clear hg0 hge P1 P2 Hbd
      all_goals
        have hmod := Hmod.out
        go_wp2_with fail
        refine (Hdh.out _).mono ?_
        rintro ey wy ⟨rfl, hby⟩
        have Hby := hid (below_then Hbe.out Hbe.out.size hby)
        clear hby Hbe hmod
        go_wp2_with fail
        refine (Hdm.out _).mono ?_
        rintro ez wz ⟨⟨z0, z1, z2, z3, m0, m1, m2, n0, n1, n2, rfl⟩, hbz⟩
        have Hbz := hid (bt0 (below_then Hby.out Hby.out.size ((Below.refl _ _).alloc (Nat.le_refl _) _)) hbz)
        have hki := Hki.out
        clear hbz Hby
        go_wp2_with fail
        refine (alive26_calls _).mono ?_
        rintro e8 w8 ⟨rfl, hb8⟩
        have Hb8 := hid (bt0 (below_then Hbz.out Hbz.out.size ((Below.refl _ _).alloc (Nat.le_refl _) _)) hb8)
        clear hb8
        go_wp2
        go_ret
        exact ⟨rfl, Hb8.out⟩

theorem lawBack_calls (t : Bs) (ht : t.length ≤ 10000000) (r s : Rcpt) (am : Option Addr) (nm cm : Nat) (at_ : Option Addr) (nt ct : Nat) (bm : Option Addr) (mm dm : Nat) (bt : Option Addr) (mt dt : Nat) (more : Bs) (hmo : more.length ≤ 10000000) (cu : Nat) (hcu : cu ≤ 65535) (w : World)
    (h : RcptAt r am nm cm at_ nt ct w) (h' : RcptAt s bm mm dm bt mt dt w) (hr : Rooms am cm at_ ct) (hr' : Rooms bm dm bt dt) :
    Calls Try.prog 3 #[.string (ofL t), rcptV r.txn r.aud am nm cm at_ nt ct, rcptV s.txn s.aud bm mm dm bt mt dt, .string (ofL more), .int .u16 cu] w fun e w' => e = .returned (.bool true) ∧ Below w.heap.size w w' := by
  cases hL : backLong t r s more with
  | true => exact lawBack_long t ht r s am nm cm at_ nt ct bm mm dm bt mt dt more hmo cu w h h' hL
  | false =>
    unfold backLong at hL
    simp only [Bool.or_eq_false_iff, decide_eq_false_iff_not] at hL
    exact lawBack_main t (by omega) r s am nm cm at_ nt ct bm mm dm bt mt dt more (by omega) cu hcu w h h' hr hr' hL.1.1.2 hL.1.2
end Go.Proofs.Ytegkolepemcocaa
