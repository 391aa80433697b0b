import Derived.Test.YtohblakhojhklaaWalive12
/- The walk of the law WireBack. -/
namespace Go.Proofs.Ytohblakhojhklaa
open Go.RowKit Go.Maps Sp

/-- A message as the law's argument: its block, and what it stands on. -/
structure LawM (m : Msg) (am : Option Addr) (nm cm b : Nat) (W : World) : Prop where
  blk : BlkAt W b #[.int .u8 m.kind, .int .i64 m.txn.c, .int .i64 m.txn.e, .int .i64 m.txn.s, .int .i64 m.aud, .slice am nm cm, .string (ofL m.body), .bool m.yes, .string (ofL m.tag)] 26
  rc : MsgAt m am nm cm W
theorem LawM.below {m : Msg} {am : Option Addr} {nm cm b : Nat} {W W' : World} (h : LawM m am nm cm b W) (hb : Below W.heap.size W W') : LawM m am nm cm b W' := ⟨h.blk.below hb, h.rc.below hb⟩
theorem encM_pair (m : Msg) : ∃ (a : Bs) (f : Int), encMade (encM m) = .tuple #[.string (ofL a), .int .i64 f] ∧ ((f = 0 ∧ encM m = .ok a) ∨ (f ≠ 0 ∧ ∃ k, encM m = .error k)) := by
  cases h : encM m with
  | ok a => exact ⟨a, 0, rfl, .inl ⟨rfl, rfl⟩⟩
  | error k =>
    refine ⟨[], k, rfl, .inr ⟨?_, k, rfl⟩⟩
    unfold encM at h
    split at h
    · split at h
      · injection h with h; omega
      · have := row_err h; omega
    · injection h with h; omega
theorem encM_kind {m : Msg} {a : Bs} (h : encM m = .ok a) : kind a = 3 ∧ a.length ≤ 10000000 := by
  have hd := encM_back h
  unfold decM at hd
  split at hd
  · rename_i hr
    have hk := (rowP_some hr).1
    exact ⟨hk, by have := isTerm_len (kind3_term hk); omega⟩
  · cases hd
theorem zeroM_at (w : World) : MsgAt zeroM none 0 0 w := ⟨rfl, by simp [zeroM], (fun x hx => by cases hx), by decide, by simp [zeroM], by simp [zeroM], memsAt_nil _ _⟩
theorem MsgAt.own {m : Msg} {base : Nat} {w : World} {am : Option Addr} {cm : Nat} {am' : Option Addr} {nm' cm' : Nat} {w0 : World} (h : MsgAt m am' nm' cm' w0) (ho : OwnMems base w (.slice am m.mems.length cm) m.mems) : MsgAt m am m.mems.length cm w :=
  ⟨rfl, h.lm, h.dm, h.kd, h.lb, h.lt, ho.at_⟩
theorem mayM_at {m : Msg} (h : mayM m = true) {base : Nat} {w : World} {am : Option Addr} {cm : Nat} (ho : OwnMems base w (.slice am m.mems.length cm) m.mems) : MsgAt m am m.mems.length cm w := by
  unfold mayM at h
  simp only [Bool.and_eq_true] at h
  obtain ⟨⟨⟨h1, h2⟩, -⟩, h4⟩ := h
  obtain ⟨i1, i2, i3⟩ := idle_is h2
  have hk2 : 1 ≤ m.kind ∧ m.kind ≤ 6 := by simpa [isKind] using h1
  obtain ⟨k, t, aud, l, body, yes, tag⟩ := m
  simp only at i1 i2 i3 hk2 h4
  by_cases hk1 : k = 1
  · subst hk1
    obtain rfl := i3.1 (by decide)
    simp only [mayK, Bool.and_eq_true] at h4
    obtain ⟨m1, m2, m3⟩ := mayMembers_is h4.1.2
    have hb := isTerm_len h4.2
    refine ⟨rfl, by simp only; omega, fun x hx => ?_, by simp, by simp only; omega, by simp, ho.at_⟩
    have := isTerm_len (mayMem_org m1 x hx).2.2.2; omega
  · obtain ⟨-, rfl, rfl⟩ := i1 hk1
    refine ⟨rfl, by simp, (fun x hx => by cases hx), by simp only; omega, by simp, ?_, ho.at_⟩
    by_cases hk2 : k = 2
    · subst hk2
      simp only [mayK, Bool.and_eq_true] at h4
      cases yes with
      | false =>
        have h5 := h4.1
        have : tag = [] := by cases tag with | nil => rfl | cons x y => simp at h5
        subst this; simp
      | true =>
        have h5 := h4.2
        simp at h5
        have := isTerm_len h5
        simp only; omega
    · obtain rfl := i3.1 hk2
      simp

/-- One of the ways by which the law says nothing. -/
def backLongM (t : Bs) (m n : Msg) : Bool := decide (20000 < t.length) || longM m || longM n

set_option maxRecDepth 20000 in
set_option maxHeartbeats 8000000 in
theorem lawW_long (t : Bs) (ht : t.length ≤ 10000000) (m n : Msg) (am : Option Addr) (nm cm : Nat) (bm : Option Addr) (mm dm : Nat) (w : World) (h : MsgAt m am nm cm w) (h' : MsgAt n bm mm dm w) (hL : backLongM t m n = true) :
    Calls Try.prog 3 #[.string (ofL t), msgV m am nm cm, msgV n bm mm dm] w fun e w' => e = .returned (.bool true) ∧ Below w.heap.size w w' := by
  obtain ⟨k, ⟨c, e, s⟩, aud, l, body, yes, tag⟩ := m
  obtain ⟨k', ⟨c', e', s'⟩, aud', l', body', yes', tag'⟩ := n
  have hB0 := ((Below.refl w.heap.size w).alloc (Nat.le_refl _) (.cells #[.int .u8 k, .int .i64 c, .int .i64 e, .int .i64 s, .int .i64 aud, .slice am nm cm, .string (ofL body), .bool yes, .string (ofL tag)] 26)).alloc (by simp) (.cells #[.int .u8 k', .int .i64 c', .int .i64 e', .int .i64 s', .int .i64 aud', .slice bm mm dm, .string (ofL body'), .bool yes', .string (ofL tag')] 26)
  have hl1 := long12m_calls ⟨k, ⟨c, e, s⟩, aud, l, body, yes, tag⟩ am nm cm _ (h.below hB0)
  have hl2 := fun W (hb : Below w.heap.size w W) => long12m_calls ⟨k', ⟨c', e', s'⟩, aud', l', body', yes', tag'⟩ bm mm dm W (h'.below hb)
  have hbk2 := BlkAt.new2 w (.cells #[.int .u8 k, .int .i64 c, .int .i64 e, .int .i64 s, .int .i64 aud, .slice am nm cm, .string (ofL body), .bool yes, .string (ofL tag)] 26) #[.int .u8 k', .int .i64 c', .int .i64 e', .int .i64 s', .int .i64 aud', .slice bm mm dm, .string (ofL body'), .bool yes', .string (ofL tag')] 26
  simp only [msgV] at hl1 hl2 ⊢
  have HB0 := hid hB0
  have Hbk2 := hid hbk2
  have HL := hid hL
  clear h h' hB0 hbk2 hL
  by_cases hA : 20000 < t.length
  · have hA' : (20000 : Int) < t.length := by omega
    clear hl1 hl2
    go_enter Try.func3, Try.ntmps3
    go_wp2_with fail
    refine (alive12_calls _).mono ?_
    rintro e8 w8 ⟨rfl, hb8⟩
    have Hb8 := hid (below_then HB0.out HB0.out.size hb8)
    clear hb8
    go_wp2
    go_ret
    exact ⟨rfl, Hb8.out⟩
  have hA' : ¬ (20000 : Int) < t.length := by omega
  cases hlr : longM ⟨k, ⟨c, e, s⟩, aud, l, body, yes, tag⟩ with
  | true =>
    rw [hlr] at hl1
    have Hl1 := hid hl1
    clear hl1 hl2 hlr
    go_enter Try.func3, Try.ntmps3
    go_wp2_with fail
    refine Hl1.out.mono ?_
    rintro e1 w1 ⟨rfl, hb1⟩
    have Hb1 := hid (below_then HB0.out HB0.out.size hb1)
    clear hb1
    go_wp2_with fail
    refine (alive12_calls _).mono ?_
    rintro e8 w8 ⟨rfl, hb8⟩
    have Hb8 := hid (below_then Hb1.out Hb1.out.size hb8)
    clear hb8
    go_wp2
    go_ret
    exact ⟨rfl, Hb8.out⟩
  | false =>
    have hls : longM ⟨k', ⟨c', e', s'⟩, aud', l', body', yes', tag'⟩ = true := by
      have h9 := HL.out
      unfold backLongM at h9
      rw [hlr, decide_eq_false hA] at h9
      simpa using h9
    rw [hlr] at hl1
    rw [hls] at hl2
    have Hl1 := hid hl1
    have Hl2 := hid hl2
    clear hl1 hl2 hlr hls
    go_enter Try.func3, Try.ntmps3
    go_wp2_with fail
    refine Hl1.out.mono ?_
    rintro e1 w1 ⟨rfl, hb1⟩
    have hk := Hbk2.out.below hb1
    have c0 := hk.val 0 rfl
    have c1 := hk.val 1 rfl
    have c2 := hk.val 2 rfl
    have c3 := hk.val 3 rfl
    have c4 := hk.val 4 rfl
    have c5 := hk.val 5 rfl
    have c6 := hk.val 6 rfl
    have c7 := hk.val 7 rfl
    have c8 := hk.val 8 rfl
    have Hb1 := hid (below_then HB0.out HB0.out.size hb1)
    clear hb1 hk
    go_wp2_with fail
    refine (Hl2.out _ Hb1.out).mono ?_
    rintro e3 w3 ⟨rfl, hb3⟩
    have Hb3 := hid (below_then Hb1.out Hb1.out.size hb3)
    clear hb3 c0 c1 c2 c3 c4 c5 c6 c7 c8
    go_wp2_with fail
    refine (alive12_calls _).mono ?_
    rintro e8 w8 ⟨rfl, hb8⟩
    have Hb8 := hid (below_then Hb3.out Hb3.out.size hb8)
    clear hb8
    go_wp2
    go_ret
    exact ⟨rfl, Hb8.out⟩

set_option maxRecDepth 20000 in
set_option maxHeartbeats 8000000 in
theorem lawW_main (t : Bs) (ht : t.length ≤ 10000000) (m n : Msg) (am : Option Addr) (nm cm : Nat) (bm : Option Addr) (mm dm : Nat) (w : World) (h : MsgAt m am nm cm w) (h' : MsgAt n bm mm dm w) (ht2 : t.length ≤ 20000) (hr : am = none → cm = 0) (hr' : bm = none → dm = 0) (hlr : longM m = false) (hls : longM n = false) :
    Calls Try.prog 3 #[.string (ofL t), msgV m am nm cm, msgV n bm mm dm] w fun e w' => e = .returned (.bool true) ∧ Below w.heap.size w w' := by
  obtain ⟨a, f, hea, hfa⟩ := encM_pair m
  obtain ⟨b, g, heb, hgb⟩ := encM_pair n
  have hsame : f = 0 → g = 0 → (a == b) = decide (m = n) := fun h1 h2 => by
    rcases hfa with ⟨-, e1⟩ | ⟨hn, -⟩
    · rcases hgb with ⟨-, e2⟩ | ⟨hn, -⟩
      · by_cases hab : a = b
        · subst hab
          have := encM_inj e1 e2
          subst this; simp
        · have hrs : m ≠ n := fun e => by subst e; rw [e1] at e2; injection e2 with e2; exact hab e2
          simp [hab, hrs]
      · exact absurd h2 hn
    · exact absurd h1 hn
  have hown1 := fun W (hW : MsgAt m am nm cm W) => own12_calls m am nm cm W hW hr
  have hown2 := fun W (hW : MsgAt n bm mm dm W) => own12_calls n bm mm dm W hW hr'
  have henc1 := fun a1 c1 W hW => wenc_calls m a1 m.mems.length c1 W hW
  have henc2 := fun a1 c1 W hW => wenc_calls n a1 n.mems.length c1 W hW
  rw [hea] at henc1
  rw [heb] at henc2
  have hsm := fun W (hW : MsgAt m am nm cm W) (hW' : MsgAt n bm mm dm W) => sameM_calls m n am nm cm bm mm dm W hW hW'
  have hat1 := fun a1 c1 (base : Nat) W (ho : OwnMems base W (.slice a1 m.mems.length c1) m.mems) => MsgAt.own h ho
  have hat2 := fun a1 c1 (base : Nat) W (ho : OwnMems base W (.slice a1 n.mems.length c1) n.mems) => MsgAt.own h' ho
  have hdec := fun W => wdecode_calls t ht W
  have hfk : f = 0 → kind a = 3 ∧ a.length ≤ 10000000 := fun h1 => by
    rcases hfa with ⟨-, e1⟩ | ⟨hn, -⟩
    · exact encM_kind e1
    · exact absurd h1 hn
  have hdb := fun (x : Msg) (hx : decM t = some x) => decM_back hx
  have Hdb := hid hdb
  clear hfa hgb hea heb hr hr' hdb
  obtain ⟨k, ⟨c, e, s⟩, aud, l, body, yes, tag⟩ := m
  obtain ⟨k', ⟨c', e', s'⟩, aud', l', body', yes', tag'⟩ := n
  have hB0 := ((Below.refl w.heap.size w).alloc (Nat.le_refl _) (.cells #[.int .u8 k, .int .i64 c, .int .i64 e, .int .i64 s, .int .i64 aud, .slice am nm cm, .string (ofL body), .bool yes, .string (ofL tag)] 26)).alloc (by simp) (.cells #[.int .u8 k', .int .i64 c', .int .i64 e', .int .i64 s', .int .i64 aud', .slice bm mm dm, .string (ofL body'), .bool yes', .string (ofL tag')] 26)
  have hl1 := long12m_calls ⟨k, ⟨c, e, s⟩, aud, l, body, yes, tag⟩ am nm cm _ (h.below hB0)
  have hl2 := fun W (hb : Below w.heap.size w W) => long12m_calls ⟨k', ⟨c', e', s'⟩, aud', l', body', yes', tag'⟩ bm mm dm W (h'.below hb)
  rw [hlr] at hl1
  rw [hls] at hl2
  have HLaw1 : Kp (LawM ⟨k, ⟨c, e, s⟩, aud, l, body, yes, tag⟩ am nm cm w.heap.size ((w.alloc (.cells #[.int .u8 k, .int .i64 c, .int .i64 e, .int .i64 s, .int .i64 aud, .slice am nm cm, .string (ofL body), .bool yes, .string (ofL tag)] 26)).alloc (.cells #[.int .u8 k', .int .i64 c', .int .i64 e', .int .i64 s', .int .i64 aud', .slice bm mm dm, .string (ofL body'), .bool yes', .string (ofL tag')] 26))) := hid ⟨(BlkAt.new w #[.int .u8 k, .int .i64 c, .int .i64 e, .int .i64 s, .int .i64 aud, .slice am nm cm, .string (ofL body), .bool yes, .string (ofL tag)] 26).alloc (.cells #[.int .u8 k', .int .i64 c', .int .i64 e', .int .i64 s', .int .i64 aud', .slice bm mm dm, .string (ofL body'), .bool yes', .string (ofL tag')] 26), h.below hB0⟩
  have HLaw2 : Kp (LawM ⟨k', ⟨c', e', s'⟩, aud', l', body', yes', tag'⟩ bm mm dm (w.heap.size + 1) ((w.alloc (.cells #[.int .u8 k, .int .i64 c, .int .i64 e, .int .i64 s, .int .i64 aud, .slice am nm cm, .string (ofL body), .bool yes, .string (ofL tag)] 26)).alloc (.cells #[.int .u8 k', .int .i64 c', .int .i64 e', .int .i64 s', .int .i64 aud', .slice bm mm dm, .string (ofL body'), .bool yes', .string (ofL tag')] 26))) := hid ⟨BlkAt.new2 w (.cells #[.int .u8 k, .int .i64 c, .int .i64 e, .int .i64 s, .int .i64 aud, .slice am nm cm, .string (ofL body), .bool yes, .string (ofL tag)] 26) #[.int .u8 k', .int .i64 c', .int .i64 e', .int .i64 s', .int .i64 aud', .slice bm mm dm, .string (ofL body'), .bool yes', .string (ofL tag')] 26, h'.below hB0⟩
  simp only [msgV, OwnMPost] at hl1 hl2 hown1 hown2 henc1 henc2 hsm ⊢
  have HB0 := hid hB0
  have Hl1 := hid hl1
  have Hl2 := hid hl2
  have Hown1 := hid hown1
  have Hown2 := hid hown2
  have Henc1 := hid henc1
  have Henc2 := hid henc2
  have Hsm := hid hsm
  have Hat1 := hid hat1
  have Hat2 := hid hat2
  have Hfk := hid hfk
  have Hsame := hid hsame
  have hA' : ¬ (20000 : Int) < t.length := by omega
  clear h h' hB0 hl1 hl2 hown1 hown2 henc1 henc2 hsm hat1 hat2 hfk hsame hlr hls
  cases hX : decM t with
  | some mx =>
    obtain ⟨hxe, hxm⟩ := Hdb.out mx hX
    rw [hX] at hdec
    have hen := fun a1 c1 W hW => wenc_calls mx a1 mx.mems.length c1 W hW
    rw [hxe] at hen
    have hck := fun a1 c1 W hW => wcheck_calls mx a1 mx.mems.length c1 W hW
    rw [hxm] at hck
    have hxat := fun a1 c1 (base : Nat) W (ho : OwnMems base W (.slice a1 mx.mems.length c1) mx.mems) => mayM_at hxm ho
    obtain ⟨xk, ⟨xc, xe, xs⟩, xa, xl, xb, xy, xt⟩ := mx
    simp only [wDecodePost, msgV, encMade] at hdec hen hck
    have Hdec := hid hdec
    have Hen := hid hen
    have Hck := hid hck
    have Hxat := hid hxat
    clear hdec hen hck hxat hxe hxm hX Hdb
    go_enter Try.func3, Try.ntmps3
    go_wp2_with fail
    refine Hl1.out.mono ?_
    rintro e1 w1 ⟨rfl, hb1⟩
    have K1 := hid (HLaw1.out.below hb1)
    have k2 := HLaw2.out.below hb1
    have K2 := hid k2
    have Hb1 := hid (below_then HB0.out HB0.out.size hb1)
    have d0 := k2.blk.val 0 rfl
    have d1 := k2.blk.val 1 rfl
    have d2 := k2.blk.val 2 rfl
    have d3 := k2.blk.val 3 rfl
    have d4 := k2.blk.val 4 rfl
    have d5 := k2.blk.val 5 rfl
    have d6 := k2.blk.val 6 rfl
    have d7 := k2.blk.val 7 rfl
    have d8 := k2.blk.val 8 rfl
    clear hb1 k2 HLaw1 HLaw2
    go_wp2_with fail
    refine (Hl2.out _ Hb1.out).mono ?_
    rintro e2 w2 ⟨rfl, hb2⟩
    have J1 := hid (K1.out.below hb2)
    have J2 := hid (K2.out.below hb2)
    have Hb2 := hid (below_then Hb1.out Hb1.out.size hb2)
    clear hb2 K1 K2 d0 d1 d2 d3 d4 d5 d6 d7 d8 Hl1 Hl2 HB0 Hb1
    go_wp2_with fail
    refine (Hdec.out _).mono ?_
    rintro e3 w3 ⟨⟨xm, xn, rfl, hx3⟩, hb3⟩
    have hx3 := Hxat.out _ _ _ _ hx3
    have ha3 : Below w3.heap.size w3 (w3.alloc (.cells #[.int .u8 xk, .int .i64 xc, .int .i64 xe, .int .i64 xs, .int .i64 xa, .slice xm xl.length xn, .string (ofL xb), .bool xy, .string (ofL xt)] 26)) := (Below.refl _ _).alloc (Nat.le_refl _) _
    have hb3a := bt0 hb3 ha3
    have hx4 := hx3.below ha3
    have I1 := hid (J1.out.below hb3a)
    have I2 := hid (J2.out.below hb3a)
    have Hb3 := hid (below_then Hb2.out Hb2.out.size hb3a)
    have Hbx := hid (BlkAt.new w3 #[.int .u8 xk, .int .i64 xc, .int .i64 xe, .int .i64 xs, .int .i64 xa, .slice xm xl.length xn, .string (ofL xb), .bool xy, .string (ofL xt)] 26)
    have Hx4 := hid hx4
    clear hx3 hb3 ha3 hb3a hx4 J1 J2 Hb2
    go_wp2_with fail
    refine (Hen.out _ _ _ Hx4.out).mono ?_
    rintro e4 w4 ⟨rfl, hb4⟩
    have hbx4 := Hbx.out.below hb4
    have c0 := hbx4.val 0 rfl
    have c1 := hbx4.val 1 rfl
    have c2 := hbx4.val 2 rfl
    have c3 := hbx4.val 3 rfl
    have c4 := hbx4.val 4 rfl
    have c5 := hbx4.val 5 rfl
    have c6 := hbx4.val 6 rfl
    have c7 := hbx4.val 7 rfl
    have c8 := hbx4.val 8 rfl
    have Hx5 := hid (Hx4.out.below hb4)
    have I3 := hid (I1.out.below hb4)
    have I4 := hid (I2.out.below hb4)
    have Hb4 := hid (below_then Hb3.out Hb3.out.size hb4)
    clear hb4 hbx4 I1 I2 Hx4 Hbx Hb3 Hen
    go_wp2_with fail
    refine (Hck.out _ _ _ Hx5.out).mono ?_
    rintro e5 w5 ⟨rfl, hb5⟩
    have J1 := hid (I3.out.below hb5)
    have J2 := hid (I4.out.below hb5)
    have Hb2 := hid (below_then Hb4.out Hb4.out.size hb5)
    clear hb5 I3 I4 Hx5 Hb4 c0 c1 c2 c3 c4 c5 c6 c7 c8 Hck Hdec Hxat
    have d0 := J1.out.blk.val 0 rfl
    have d1 := J1.out.blk.val 1 rfl
    have d2 := J1.out.blk.val 2 rfl
    have d3 := J1.out.blk.val 3 rfl
    have d4 := J1.out.blk.val 4 rfl
    have d5 := J1.out.blk.val 5 rfl
    have d6 := J1.out.blk.val 6 rfl
    have d7 := J1.out.blk.val 7 rfl
    have d8 := J1.out.blk.val 8 rfl
    go_wp2_with fail
    refine (Hown1.out _ J1.out.rc).mono ?_
    rintro ea wa ⟨a1, k1, rfl, hma, hba⟩
    have Hra := hid (Hat1.out _ _ _ _ hma)
    have N1 := hid (J1.out.below hba)
    have N2 := hid (J2.out.below hba)
    have Hba := hid (below_then Hb2.out Hb2.out.size hba)
    clear hma hba d0 d1 d2 d3 d4 d5 d6 d7 d8 J1 J2 Hb2
    go_wp2_with fail
    refine (Henc1.out _ _ _ Hra.out).mono ?_
    rintro eb wb ⟨rfl, hbb⟩
    have N3 := hid (N1.out.below hbb)
    have N4 := hid (N2.out.below hbb)
    have Hbb := hid (below_then Hba.out Hba.out.size hbb)
    have d0 := N4.out.blk.val 0 rfl
    have d1 := N4.out.blk.val 1 rfl
    have d2 := N4.out.blk.val 2 rfl
    have d3 := N4.out.blk.val 3 rfl
    have d4 := N4.out.blk.val 4 rfl
    have d5 := N4.out.blk.val 5 rfl
    have d6 := N4.out.blk.val 6 rfl
    have d7 := N4.out.blk.val 7 rfl
    have d8 := N4.out.blk.val 8 rfl
    clear hbb N1 N2 Hba Hra
    go_wp2_with fail
    refine (Hown2.out _ N4.out.rc).mono ?_
    rintro ec wc ⟨a3, k3, rfl, hmc, hbc⟩
    have Hrc := hid (Hat2.out _ _ _ _ hmc)
    have N5 := hid (N3.out.below hbc)
    have N6 := hid (N4.out.below hbc)
    have Hbc := hid (below_then Hbb.out Hbb.out.size hbc)
    clear hmc hbc d0 d1 d2 d3 d4 d5 d6 d7 d8 N3 N4 Hbb
    go_wp2_with fail
    refine (Henc2.out _ _ _ Hrc.out).mono ?_
    rintro ed wd ⟨rfl, hbd⟩
    have P1 := hid (N5.out.below hbd)
    have P2 := hid (N6.out.below hbd)
    have Hbd := hid (below_then Hbc.out Hbc.out.size hbd)
    clear hbd N5 N6 Hbc Hrc
    by_cases hf : f = 0
    rotate_left
    · have hf1 : (f == 0) = false := by simpa using hf
      have hf2 : (f != 0) = true := by simpa using hf
      clear hf P1 P2
      go_wp2_with fail
      refine (alive12_calls _).mono ?_
      rintro e8 w8 ⟨rfl, hb8⟩
      have Hb8 := hid (below_then Hbd.out Hbd.out.size hb8)
      clear hb8
      go_wp2
      go_ret
      exact ⟨rfl, Hb8.out⟩
    · subst hf
      obtain ⟨hka, hla⟩ := Hfk.out rfl
      have hkc := fun W => kind_calls a (by omega) W
      rw [hka] at hkc
      have Hkc := hid hkc
      clear hka hkc
      by_cases hg : g = 0
      case' pos =>
        subst hg
        have hs := Hsame.out rfl rfl
        have hsm2 := Hsm.out _ P1.out.rc P2.out.rc
        generalize decide ((⟨k, ⟨c, e, s⟩, aud, l, body, yes, tag⟩ : Msg) = ⟨k', ⟨c', e', s'⟩, aud', l', body', yes', tag'⟩) = D at hs hsm2
        have Hs2 := hid hsm2
        have x0 := P1.out.blk.val 0 rfl
        have x1 := P1.out.blk.val 1 rfl
        have x2 := P1.out.blk.val 2 rfl
        have x3 := P1.out.blk.val 3 rfl
        have x4 := P1.out.blk.val 4 rfl
        have x5 := P1.out.blk.val 5 rfl
        have x6 := P1.out.blk.val 6 rfl
        have x7 := P1.out.blk.val 7 rfl
        have x8 := P1.out.blk.val 8 rfl
        have y0 := P2.out.blk.val 0 rfl
        have y1 := P2.out.blk.val 1 rfl
        have y2 := P2.out.blk.val 2 rfl
        have y3 := P2.out.blk.val 3 rfl
        have y4 := P2.out.blk.val 4 rfl
        have y5 := P2.out.blk.val 5 rfl
        have y6 := P2.out.blk.val 6 rfl
        have y7 := P2.out.blk.val 7 rfl
        have y8 := P2.out.blk.val 8 rfl
        have Hs := hid hs
        clear hs hsm2 Hsame Hsm
        go_wp2_with fail
        refine Hs2.out.mono ?_
        rintro ex wx ⟨rfl, hbx⟩
        have Hbe := hid (below_then Hbd.out Hbd.out.size hbx)
        have hs := Hs.out
        clear hbx x0 x1 x2 x3 x4 x5 x6 x7 x8 y0 y1 y2 y3 y4 y5 y6 y7 y8 P1 P2 Hbd
      case' neg =>
        have hg1 : (g == 0) = false := by simpa using hg
        have Hbe := hid Hbd.out
        clear hg P1 P2 Hbd
      all_goals
        go_wp2_with fail
        refine (Hkc.out _).mono ?_
        rintro ey wy ⟨rfl, hby⟩
        have Hby := hid (below_then Hbe.out Hbe.out.size hby)
        clear hby Hbe
        go_wp2_with fail
        refine (alive12_calls _).mono ?_
        rintro e8 w8 ⟨rfl, hb8⟩
        have Hb8 := hid (below_then Hby.out Hby.out.size hb8)
        clear hb8
        go_wp2
        go_ret
        exact ⟨rfl, Hb8.out⟩
  | none =>
    rw [hX] at hdec
    have hz := fun W => sameM_calls zeroM zeroM none 0 0 none 0 0 W (zeroM_at W) (zeroM_at W)
    simp only [wDecodePost, msgV, zeroM, decide_true] at hz hdec
    have Hz := hid hz
    have Hdec := hid hdec
    clear hdec hX hz Hdb
    go_enter Try.func3, Try.ntmps3
    go_wp2_with fail
    refine Hl1.out.mono ?_
    rintro e1 w1 ⟨rfl, hb1⟩
    have K1 := hid (HLaw1.out.below hb1)
    have k2 := HLaw2.out.below hb1
    have K2 := hid k2
    have Hb1 := hid (below_then HB0.out HB0.out.size hb1)
    have d0 := k2.blk.val 0 rfl
    have d1 := k2.blk.val 1 rfl
    have d2 := k2.blk.val 2 rfl
    have d3 := k2.blk.val 3 rfl
    have d4 := k2.blk.val 4 rfl
    have d5 := k2.blk.val 5 rfl
    have d6 := k2.blk.val 6 rfl
    have d7 := k2.blk.val 7 rfl
    have d8 := k2.blk.val 8 rfl
    clear hb1 k2 HLaw1 HLaw2
    go_wp2_with fail
    refine (Hl2.out _ Hb1.out).mono ?_
    rintro e2 w2 ⟨rfl, hb2⟩
    have J1 := hid (K1.out.below hb2)
    have J2 := hid (K2.out.below hb2)
    have Hb2 := hid (below_then Hb1.out Hb1.out.size hb2)
    clear hb2 K1 K2 d0 d1 d2 d3 d4 d5 d6 d7 d8 Hl1 Hl2 HB0 Hb1
    go_wp2_with fail
    refine (Hdec.out _).mono ?_
    rintro e3 w3 ⟨rfl, hb3⟩
    have hb3a := bt0 hb3 ((Below.refl w3.heap.size w3).alloc (Nat.le_refl _) (.cells zeroMB 26))
    have I1 := hid (J1.out.below hb3a)
    have I2 := hid (J2.out.below hb3a)
    have Hb3 := hid (below_then Hb2.out Hb2.out.size hb3a)
    clear hb3 hb3a J1 J2 Hb2
    go_wp2_with fail
    refine (Hz.out _).mono ?_
    rintro e6 w6 ⟨rfl, hb6⟩
    have J1 := hid (I1.out.below hb6)
    have J2 := hid (I2.out.below hb6)
    have Hb2 := hid (below_then Hb3.out Hb3.out.size hb6)
    clear hb6 I1 I2 Hb3 Hz Hdec
    have d0 := J1.out.blk.val 0 rfl
    have d1 := J1.out.blk.val 1 rfl
    have d2 := J1.out.blk.val 2 rfl
    have d3 := J1.out.blk.val 3 rfl
    have d4 := J1.out.blk.val 4 rfl
    have d5 := J1.out.blk.val 5 rfl
    have d6 := J1.out.blk.val 6 rfl
    have d7 := J1.out.blk.val 7 rfl
    have d8 := J1.out.blk.val 8 rfl
    go_wp2_with fail
    refine (Hown1.out _ J1.out.rc).mono ?_
    rintro ea wa ⟨a1, k1, rfl, hma, hba⟩
    have Hra := hid (Hat1.out _ _ _ _ hma)
    have N1 := hid (J1.out.below hba)
    have N2 := hid (J2.out.below hba)
    have Hba := hid (below_then Hb2.out Hb2.out.size hba)
    clear hma hba d0 d1 d2 d3 d4 d5 d6 d7 d8 J1 J2 Hb2
    go_wp2_with fail
    refine (Henc1.out _ _ _ Hra.out).mono ?_
    rintro eb wb ⟨rfl, hbb⟩
    have N3 := hid (N1.out.below hbb)
    have N4 := hid (N2.out.below hbb)
    have Hbb := hid (below_then Hba.out Hba.out.size hbb)
    have d0 := N4.out.blk.val 0 rfl
    have d1 := N4.out.blk.val 1 rfl
    have d2 := N4.out.blk.val 2 rfl
    have d3 := N4.out.blk.val 3 rfl
    have d4 := N4.out.blk.val 4 rfl
    have d5 := N4.out.blk.val 5 rfl
    have d6 := N4.out.blk.val 6 rfl
    have d7 := N4.out.blk.val 7 rfl
    have d8 := N4.out.blk.val 8 rfl
    clear hbb N1 N2 Hba Hra
    go_wp2_with fail
    refine (Hown2.out _ N4.out.rc).mono ?_
    rintro ec wc ⟨a3, k3, rfl, hmc, hbc⟩
    have Hrc := hid (Hat2.out _ _ _ _ hmc)
    have N5 := hid (N3.out.below hbc)
    have N6 := hid (N4.out.below hbc)
    have Hbc := hid (below_then Hbb.out Hbb.out.size hbc)
    clear hmc hbc d0 d1 d2 d3 d4 d5 d6 d7 d8 N3 N4 Hbb
    go_wp2_with fail
    refine (Henc2.out _ _ _ Hrc.out).mono ?_
    rintro ed wd ⟨rfl, hbd⟩
    have P1 := hid (N5.out.below hbd)
    have P2 := hid (N6.out.below hbd)
    have Hbd := hid (below_then Hbc.out Hbc.out.size hbd)
    clear hbd N5 N6 Hbc Hrc
    by_cases hf : f = 0
    rotate_left
    · have hf1 : (f == 0) = false := by simpa using hf
      have hf2 : (f != 0) = true := by simpa using hf
      clear hf P1 P2
      go_wp2_with fail
      refine (alive12_calls _).mono ?_
      rintro e8 w8 ⟨rfl, hb8⟩
      have Hb8 := hid (below_then Hbd.out Hbd.out.size hb8)
      clear hb8
      go_wp2
      go_ret
      exact ⟨rfl, Hb8.out⟩
    · subst hf
      obtain ⟨hka, hla⟩ := Hfk.out rfl
      have hkc := fun W => kind_calls a (by omega) W
      rw [hka] at hkc
      have Hkc := hid hkc
      clear hka hkc
      by_cases hg : g = 0
      case' pos =>
        subst hg
        have hs := Hsame.out rfl rfl
        have hsm2 := Hsm.out _ P1.out.rc P2.out.rc
        generalize decide ((⟨k, ⟨c, e, s⟩, aud, l, body, yes, tag⟩ : Msg) = ⟨k', ⟨c', e', s'⟩, aud', l', body', yes', tag'⟩) = D at hs hsm2
        have Hs2 := hid hsm2
        have x0 := P1.out.blk.val 0 rfl
        have x1 := P1.out.blk.val 1 rfl
        have x2 := P1.out.blk.val 2 rfl
        have x3 := P1.out.blk.val 3 rfl
        have x4 := P1.out.blk.val 4 rfl
        have x5 := P1.out.blk.val 5 rfl
        have x6 := P1.out.blk.val 6 rfl
        have x7 := P1.out.blk.val 7 rfl
        have x8 := P1.out.blk.val 8 rfl
        have y0 := P2.out.blk.val 0 rfl
        have y1 := P2.out.blk.val 1 rfl
        have y2 := P2.out.blk.val 2 rfl
        have y3 := P2.out.blk.val 3 rfl
        have y4 := P2.out.blk.val 4 rfl
        have y5 := P2.out.blk.val 5 rfl
        have y6 := P2.out.blk.val 6 rfl
        have y7 := P2.out.blk.val 7 rfl
        have y8 := P2.out.blk.val 8 rfl
        have Hs := hid hs
        clear hs hsm2 Hsame Hsm
        go_wp2_with fail
        refine Hs2.out.mono ?_
        rintro ex wx ⟨rfl, hbx⟩
        have Hbe := hid (below_then Hbd.out Hbd.out.size hbx)
        have hs := Hs.out
        clear hbx x0 x1 x2 x3 x4 x5 x6 x7 x8 y0 y1 y2 y3 y4 y5 y6 y7 y8 P1 P2 Hbd
      case' neg =>
        have hg1 : (g == 0) = false := by simpa using hg
        have Hbe := hid Hbd.out
        clear hg P1 P2 Hbd
      all_goals
        go_wp2_with fail
        refine (Hkc.out _).mono ?_
        rintro ey wy ⟨rfl, hby⟩
        have Hby := hid (below_then Hbe.out Hbe.out.size hby)
        clear hby Hbe
        go_wp2_with fail
        refine (alive12_calls _).mono ?_
        rintro e8 w8 ⟨rfl, hb8⟩
        have Hb8 := hid (below_then Hby.out Hby.out.size hb8)
        clear hb8
        go_wp2
        go_ret
        exact ⟨rfl, Hb8.out⟩

theorem lawW_calls (t : Bs) (ht : t.length ≤ 10000000) (m n : Msg) (am : Option Addr) (nm cm : Nat) (bm : Option Addr) (mm dm : Nat) (w : World) (h : MsgAt m am nm cm w) (h' : MsgAt n bm mm dm w) (hr : am = none → cm = 0) (hr' : bm = none → dm = 0) :
    Calls Try.prog 3 #[.string (ofL t), msgV m am nm cm, msgV n bm mm dm] w fun e w' => e = .returned (.bool true) ∧ Below w.heap.size w w' := by
  cases hL : backLongM t m n with
  | true => exact lawW_long t ht m n am nm cm bm mm dm w h h' hL
  | false =>
    unfold backLongM at hL
    simp only [Bool.or_eq_false_iff, decide_eq_false_iff_not] at hL
    exact lawW_main t ht m n am nm cm bm mm dm w h h' (by omega) hr hr' hL.1.2 hL.2
end Go.Proofs.Ytohblakhojhklaa
