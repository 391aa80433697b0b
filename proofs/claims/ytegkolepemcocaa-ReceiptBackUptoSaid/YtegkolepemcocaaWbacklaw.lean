import Derived.Test.YtegkolepemcocaaWballaw
/- The walk of the law ReceiptBack. -/
namespace Go.Proofs.Ytegkolepemcocaa
open Go.RowKit Sp

theorem mayR_lim {r : Rcpt} (h : mayR r = true) : r.mems.length ≤ 10000000 ∧ r.tags.length ≤ 10000000 ∧ (∀ x ∈ r.mems, x.dig.length ≤ 10000000) ∧ ∀ s ∈ r.tags, s.length ≤ 10000000 := by
  obtain ⟨-, -, h3, h4, h5⟩ := mayR_is h
  obtain ⟨m1, m2, m3⟩ := mayMembers_is h3
  refine ⟨by omega, by omega, fun x hx => ?_, fun s hs => ?_⟩
  · have := isTerm_len (mayMem_org m1 x hx).2.2.2; omega
  · have := isTerm_len (h5 s hs); omega
def zeroR : Rcpt := ⟨⟨0, 0, 0⟩, 0, [], []⟩
theorem zeroR_at (w : World) : RcptAt zeroR none 0 0 none 0 0 w := ⟨rfl, rfl, by decide, by decide, (fun x hx => by cases hx), (fun x hx => by cases hx), (fun i hi => by simp [zeroR] at hi), (fun i hi => by simp [zeroR] at hi)⟩

/-- One of the ways by which the law says nothing. -/
def backLong (t : Bs) (r s : Rcpt) (more : Bs) : Bool := decide (20000 < t.length) || longR r || longR s || decide (20000 < more.length)

set_option maxRecDepth 20000 in
set_option maxHeartbeats 4000000 in
theorem lawBack_long (t : Bs) (ht : t.length ≤ 10000000) (r s : Rcpt) (am : Option Addr) (nm cm : Nat) (at_ : Option Addr) (nt ct : Nat) (bm : Option Addr) (mm dm : Nat) (bt : Option Addr) (mt dt : Nat) (more : Bs) (hmo : more.length ≤ 10000000) (cu : Nat) (w : World)
    (h : RcptAt r am nm cm at_ nt ct w) (h' : RcptAt s bm mm dm bt mt dt w) (hL : backLong t r s more = true) :
    Calls Try.prog 3 #[.string (ofL t), rcptV r.txn r.aud am nm cm at_ nt ct, rcptV s.txn s.aud bm mm dm bt mt dt, .string (ofL more), .int .u16 cu] w fun e w' => e = .returned (.bool true) ∧ Below w.heap.size w w' := by
  obtain ⟨⟨c, e, s1⟩, aud, l, tg⟩ := r
  obtain ⟨⟨c', e', s'⟩, aud', l', tg'⟩ := s
  have hB0 := ((Below.refl w.heap.size w).alloc (Nat.le_refl _) (.cells #[.int .i64 c, .int .i64 e, .int .i64 s1, .int .i64 aud, .slice am nm cm, .slice at_ nt ct] 27)).alloc (by simp) (.cells #[.int .i64 c', .int .i64 e', .int .i64 s', .int .i64 aud', .slice bm mm dm, .slice bt mt dt] 27)
  have hl1 := long26_calls ⟨⟨c, e, s1⟩, aud, l, tg⟩ am nm cm at_ nt ct _ (h.below hB0)
  have hl2 := fun W (hb : Below w.heap.size w W) => long26_calls ⟨⟨c', e', s'⟩, aud', l', tg'⟩ bm mm dm bt mt dt W (h'.below hb)
  have hbk2 : BlkAt ((w.alloc (.cells #[.int .i64 c, .int .i64 e, .int .i64 s1, .int .i64 aud, .slice am nm cm, .slice at_ nt ct] 27)).alloc (.cells #[.int .i64 c', .int .i64 e', .int .i64 s', .int .i64 aud', .slice bm mm dm, .slice bt mt dt] 27)) (w.heap.size + 1) #[.int .i64 c', .int .i64 e', .int .i64 s', .int .i64 aud', .slice bm mm dm, .slice bt mt dt] 27 := by
    have := BlkAt.new (w.alloc (.cells #[.int .i64 c, .int .i64 e, .int .i64 s1, .int .i64 aud, .slice am nm cm, .slice at_ nt ct] 27)) #[.int .i64 c', .int .i64 e', .int .i64 s', .int .i64 aud', .slice bm mm dm, .slice bt mt dt] 27
    simpa using this
  simp only [rcptV] at hl1 hl2 ⊢
  have HB0 := hid hB0
  have Hbk2 := hid hbk2
  have HL := hid hL
  clear h h' hB0 hbk2 hL
  by_cases hA : 20000 < t.length
  · have hA' : (20000 : Int) < t.length := by omega
    clear hl1 hl2
    go_enter Try.func3, Try.ntmps3
    go_wp2_with fail
    refine (alive26_calls _).mono ?_
    rintro e2 w2 ⟨rfl, hb2⟩
    have Hb2 := hid (below_then HB0.out HB0.out.size hb2)
    clear hb2
    go_wp2
    go_ret
    exact ⟨rfl, Hb2.out⟩
  have hA' : ¬ (20000 : Int) < t.length := by omega
  cases hlr : longR ⟨⟨c, e, s1⟩, aud, l, tg⟩ with
  | true =>
    rw [hlr] at hl1
    have Hl1 := hid hl1
    clear hl1 hl2 hlr
    go_enter Try.func3, Try.ntmps3
    go_wp2_with fail
    refine Hl1.out.mono ?_
    rintro e1 w1 ⟨rfl, hb1⟩
    have Hb1 := hid (below_then HB0.out HB0.out.size hb1)
    clear hb1
    go_wp2_with fail
    refine (alive26_calls _).mono ?_
    rintro e2 w2 ⟨rfl, hb2⟩
    have Hb2 := hid (below_then Hb1.out Hb1.out.size hb2)
    clear hb2
    go_wp2
    go_ret
    exact ⟨rfl, Hb2.out⟩
  | false =>
    rw [hlr] at hl1
    have Hl1 := hid hl1
    cases hls : longR ⟨⟨c', e', s'⟩, aud', l', tg'⟩ with
    | true =>
      rw [hls] at hl2
      have Hl2 := hid hl2
      clear hl1 hl2 hlr hls
      go_enter Try.func3, Try.ntmps3
      go_wp2_with fail
      refine Hl1.out.mono ?_
      rintro e1 w1 ⟨rfl, hb1⟩
      have hk := Hbk2.out.below hb1
      have c0 := hk.val 0 rfl
      have c1 := hk.val 1 rfl
      have c2 := hk.val 2 rfl
      have c3 := hk.val 3 rfl
      have c4 := hk.val 4 rfl
      have c5 := hk.val 5 rfl
      have Hb1 := hid (below_then HB0.out HB0.out.size hb1)
      clear hb1 hk
      go_wp2_with fail
      refine (Hl2.out _ Hb1.out).mono ?_
      rintro e3 w3 ⟨rfl, hb3⟩
      have Hb3 := hid (below_then Hb1.out Hb1.out.size hb3)
      clear hb3 c0 c1 c2 c3 c4 c5
      go_wp2_with fail
      refine (alive26_calls _).mono ?_
      rintro e2 w2 ⟨rfl, hb2⟩
      have Hb2 := hid (below_then Hb3.out Hb3.out.size hb2)
      clear hb2
      go_wp2
      go_ret
      exact ⟨rfl, Hb2.out⟩
    | false =>
      rw [hls] at hl2
      have Hl2 := hid hl2
      have hD : 20000 < more.length := by
        have := HL.out
        unfold backLong at this
        rw [hlr, hls] at this
        simp only [Bool.or_false, Bool.or_eq_true, decide_eq_true_eq] at this
        omega
      have hD' : (20000 : Int) < more.length := by omega
      clear hl1 hl2 hlr hls
      go_enter Try.func3, Try.ntmps3
      go_wp2_with fail
      refine Hl1.out.mono ?_
      rintro e1 w1 ⟨rfl, hb1⟩
      have hk := Hbk2.out.below hb1
      have c0 := hk.val 0 rfl
      have c1 := hk.val 1 rfl
      have c2 := hk.val 2 rfl
      have c3 := hk.val 3 rfl
      have c4 := hk.val 4 rfl
      have c5 := hk.val 5 rfl
      have Hb1 := hid (below_then HB0.out HB0.out.size hb1)
      clear hb1 hk
      go_wp2_with fail
      refine (Hl2.out _ Hb1.out).mono ?_
      rintro e3 w3 ⟨rfl, hb3⟩
      have Hb3 := hid (below_then Hb1.out Hb1.out.size hb3)
      clear hb3 c0 c1 c2 c3 c4 c5
      go_wp2_with fail
      refine (alive26_calls _).mono ?_
      rintro e2 w2 ⟨rfl, hb2⟩
      have Hb2 := hid (below_then Hb3.out Hb3.out.size hb2)
      clear hb2
      go_wp2
      go_ret
      exact ⟨rfl, Hb2.out⟩
end Go.Proofs.Ytegkolepemcocaa
