import Derived.Test.YtegkolepemcocaaWrdec2
/- The walk of receipt's Decode. -/
namespace Go.Proofs.Ytegkolepemcocaa
open Go.RowKit Sp

theorem grown_set {w W : World} {b : Nat} (h : w.grownBy W (some b)) (i : Nat) (v : Value) : w.grownBy (W.setCell ⟨b, i, none⟩ v) (some b) :=
  ⟨h.os, h.tape, h.output, by have := h.size; simp; omega, fun k hk hne => (Below.heap_setCell _ _ _ _ (fun e => hne (by rw [e]))).trans (h.block k hk hne)⟩
theorem grown_of {w W : World} (h : Below w.heap.size w W) (row : Option Nat) : w.grownBy W row := ⟨h.os, h.tape, h.output, h.size, fun k hk _ => h.block k hk⟩
theorem OwnStrs.kept {base : Nat} {w w' : World} {v : Value} {l : List Bs} {b : Nat} (h : OwnStrs base w v l) (hg : w.grownBy w' (some b)) (hb : b < base) : OwnStrs base w' v l := h.grown hg hb
theorem OwnMems.kept {base : Nat} {w w' : World} {v : Value} {l : List Mem} {b : Nat} (h : OwnMems base w v l) (hg : w.grownBy w' (some b)) (hb : b < base) : OwnMems base w' v l :=
  World.ownsRow.kept h hg (by
    cases hv : v.ownBlock with
    | none => exact .inl rfl
    | some k => refine .inr fun e => ?_; injection e with e; have := (World.ownsRow.lt h k hv).1; omega)

/-- What Decode's work leaves. -/
def RGot (B b1 : Nat) (r : Rcpt) (W w' : World) : Prop := ∃ am cm at_ ct, BlkAt w' b1 #[.int .i64 r.txn.c, .int .i64 r.txn.e, .int .i64 r.txn.s, .int .i64 r.aud, .slice am r.mems.length cm, .slice at_ r.tags.length ct] 27 ∧
  OwnMems B w' (.slice am r.mems.length cm) r.mems ∧ OwnStrs B w' (.slice at_ r.tags.length ct) r.tags ∧ W.grownBy w' (some b1)
abbrev zeroRB : Array Value := #[.int .i64 0, .int .i64 0, .int .i64 0, .int .i64 0, .slice none 0 0, .slice none 0 0]

set_option maxRecDepth 20000 in
set_option maxHeartbeats 1000000 in
theorem rdecDo_ok (t : Bs) (hm : t.length ≤ 10000000) (r : Rcpt) (hX : decR t = .ok r) (b0 b1 : Nat) (W : World) (h0 : W.cell? ⟨b0, 0, none⟩ = some (.string (ofL t))) (h1 : BlkAt W b1 zeroRB 27) :
    Calls Try.prog 36 #[.pointer (some ⟨b0, 0, none⟩), .pointer (some ⟨b1, 0, none⟩)] W fun e w' => e = .returned (.tuple #[]) ∧ RGot W.heap.size b1 r W w' := by
  have hd := fun V => rdec_calls t hm V
  rw [hX] at hd
  simp only [rdecPost] at hd
  obtain ⟨⟨c, e, s⟩, aud, l, g⟩ := r
  simp only [rcptV] at hd
  have Hd := hid hd
  have H1 := hid h1
  have hlt := h1.lt
  clear hd hX h1
  go_enter Try.func36, Try.ntmps36
  go_wp2_with fail
  refine (Hd.out _).mono ?_
  rintro e1 w1 ⟨⟨am, cm, at_, ct, rfl, hmm, hst⟩, hb⟩
  have hbk := H1.out.below hb
  have Hbk := hid hbk
  have Hmm := hid hmm
  have Hst := hid hst
  have Hg := hid (grown_of hb (some b1))
  have c0 := hbk.val 0 rfl
  have c1 := hbk.val 1 rfl
  have c2 := hbk.val 2 rfl
  have c3 := hbk.val 3 rfl
  have c4 := hbk.val 4 rfl
  have c5 := hbk.val 5 rfl
  have f0 := hbk.frozen 0
  have f1 := hbk.frozen 1
  have f2 := hbk.frozen 2
  have f3 := hbk.frozen 3
  have f4 := hbk.frozen 4
  have f5 := hbk.frozen 5
  clear hbk hmm hst hb
  go_wp2
  go_end0
  refine ⟨rfl, am, cm, at_, ct, ?_, ?_, ?_, ?_⟩
  · exact (((((Hbk.out.set 0 _).set 1 _).set 2 _).set 3 _).set 4 _).set 5 _
  · show OwnMems _ _ (.slice am l.length cm) l
    repeat refine OwnMems.far ?_ hlt _
    exact Hmm.out
  · show OwnStrs _ _ (.slice at_ g.length ct) g
    repeat refine OwnStrs.far ?_ hlt _
    exact Hst.out
  · repeat refine grown_set ?_ _ _
    exact Hg.out

set_option maxRecDepth 20000 in
theorem rdecDo_no (t : Bs) (hm : t.length ≤ 10000000) (k : Nat) (hX : decR t = .error k) (b0 b1 : Nat) (W : World) (h0 : W.cell? ⟨b0, 0, none⟩ = some (.string (ofL t))) :
    Calls Try.prog 36 #[.pointer (some ⟨b0, 0, none⟩), .pointer (some ⟨b1, 0, none⟩)] W fun e w' => e = .panicked (thrownR k) ∧ Below W.heap.size W w' := by
  have hd := fun V => rdec_calls t hm V
  rw [hX] at hd
  simp only [rdecPost] at hd
  have Hd := hid hd
  clear hd hX
  go_enter Try.func36, Try.ntmps36
  go_wp2_with fail
  refine (Hd.out _).mono ?_
  rintro e1 w1 ⟨rfl, hb⟩
  exact ⟨rfl, rfl, hb⟩

/-- What Decode owes. -/
def rDecodePost (X : Except Nat Rcpt) (w : World) (e : Ending) (w' : World) : Prop :=
  match X with
  | .ok r => (∃ am cm at_ ct, e = .returned (.tuple #[rcptV r.txn r.aud am r.mems.length cm at_ r.tags.length ct, .int .i64 0]) ∧ OwnMems w.heap.size w' (.slice am r.mems.length cm) r.mems ∧ OwnStrs w.heap.size w' (.slice at_ r.tags.length ct) r.tags) ∧ Below w.heap.size w w'
  | .error k => e = .returned (.tuple #[rcptV ⟨0, 0, 0⟩ 0 none 0 0 none 0 0, .int .i64 k]) ∧ Below w.heap.size w w'

theorem decR_err {t : Bs} {k : Nat} (h : decR t = .error k) : k ≠ 0 := by
  unfold decR at h
  repeat' split at h
  all_goals first | (injection h with h; omega) | cases h

set_option maxRecDepth 20000 in
set_option maxHeartbeats 2000000 in
theorem rdecode_calls (t : Bs) (hm : t.length ≤ 10000000) (w : World) : Calls Try.prog 9 #[.string (ofL t)] w fun e w' => rDecodePost (decR t) w e w' := by
  have hmf : ∀ (fn : Fn) (first cap : Array Value) (w : World), (Instr.makeFunc fn first cap).run Try.prog w = .ok (.func fn first cap) w := fun _ _ _ _ => rfl
  obtain ⟨W, hW⟩ : ∃ W, (w.alloc (.cells #[.string (ofL t)] 9)).alloc (.cells zeroRB 27) = W := ⟨_, rfl⟩
  have hWs : W.heap.size = w.heap.size + 2 := by rw [← hW]; simp
  have q0 : W.cell? ⟨w.heap.size, 0, none⟩ = some (.string (ofL t)) := by rw [← hW]; simp [go_sem]
  have q1 : BlkAt W (w.heap.size + 1) zeroRB 27 := by
    rw [← hW]
    have := BlkAt.new (w.alloc (.cells #[.string (ofL t)] 9)) zeroRB 27
    simpa using this
  have hB : Below w.heap.size w W := by rw [← hW]; exact ((Below.refl w.heap.size w).alloc (Nat.le_refl _) _).alloc (by simp) _
  have hA : Below W.heap.size W (W.alloc (.cells #[.int .i64 0] 31)) := (Below.refl _ W).alloc (Nat.le_refl _) _
  cases hX : decR t with
  | error k =>
    simp only [rDecodePost]
    have hk := decR_err hX
    have ht := rtry_no 36 #[.pointer (some ⟨w.heap.size, 0, none⟩), .pointer (some ⟨w.heap.size + 1, 0, none⟩)] (fun w => by kernel_rfl) (fun w' => Below (W.alloc (.cells #[.int .i64 0] 31)).heap.size (W.alloc (.cells #[.int .i64 0] 31)) w') k W
      ((rdecDo_no t hm k hX w.heap.size (w.heap.size + 1) _ (cell_alloc_of _ q0)).mono fun e w' ⟨he, hb⟩ => ⟨he, hb, (hb.cell (p := ⟨_, 0, none⟩) (by simp)).trans (by simp [go_sem]), (hb.frozen (p := ⟨_, 0, none⟩) (by simp)).trans (by simp [go_sem])⟩)
    rw [← hW] at ht
    have Ht := hid ht
    have HW := hid hW
    have HWs := hid hWs
    have Hq1 := hid q1
    have HB := hid hB
    have HA := hid hA
    have hk0 : ((k : Int) != 0) = true := by simpa using hk
    clear ht hX hWs q0 q1 hB hA hk hW
    go_enter Try.func9, Try.ntmps9
    go_wp2_with fail
    refine Ht.out.mono ?_
    rintro e w1 ⟨rfl, w2, hb, hlt, rfl⟩
    rw [HW.out] at hb hlt ⊢
    have hb2 : Below W.heap.size W w2 := bt0 HA.out hb
    have hbk := Hq1.out.below hb2
    have hN : w.heap.size + 1 ≠ W.heap.size := by have := HWs.out; omega
    have hbk2 : BlkAt ((w2.setCell ⟨W.heap.size, 0, none⟩ (.int .i64 k)).alloc (.cells #[.int .i64 k] 125)) (w.heap.size + 1) zeroRB 27 := (hbk.far hN _).alloc _
    have hbl : Below w.heap.size w ((w2.setCell ⟨W.heap.size, 0, none⟩ (.int .i64 k)).alloc (.cells #[.int .i64 k] 125)) :=
      (below_set (below_then HB.out HB.out.size hb2) HB.out.size _).alloc (by have := HB.out.size; have := hb2.size; simp; omega) _
    revert hbk2 hbl
    generalize (w2.setCell ⟨W.heap.size, 0, none⟩ (.int .i64 k)).alloc (.cells #[.int .i64 k] 125) = W9
    intro hbk2 hbl
    have Hbk := hid hbk2
    have Hbl := hid hbl
    have c0 := hbk2.val 0 rfl
    have c1 := hbk2.val 1 rfl
    have c2 := hbk2.val 2 rfl
    have c3 := hbk2.val 3 rfl
    have c4 := hbk2.val 4 rfl
    have c5 := hbk2.val 5 rfl
    have f0 := hbk2.frozen 0
    have f1 := hbk2.frozen 1
    have f2 := hbk2.frozen 2
    have f3 := hbk2.frozen 3
    have f4 := hbk2.frozen 4
    have f5 := hbk2.frozen 5
    clear hb hlt hb2 hbk hbk2 hbl hN Ht HW HWs Hq1 HB HA hmf
    go_wp2
    refine bodyPost_ret (v := .tuple #[rcptV ⟨0, 0, 0⟩ 0 none 0 0 none 0 0, .int .i64 k]) (by simp [results, Try.results9, go_sem, c0, c1, c2, c3, c4, c5, rcptV]) rfl ⟨rfl, ?_⟩
    repeat refine below_set ?_ (Nat.le_succ _) _
    exact Hbl.out
  | ok r =>
    simp only [rDecodePost]
    have ht := rtry_ok 36 #[.pointer (some ⟨w.heap.size, 0, none⟩), .pointer (some ⟨w.heap.size + 1, 0, none⟩)] (fun w => by kernel_rfl) (fun w' => RGot (W.heap.size + 1) (w.heap.size + 1) r (W.alloc (.cells #[.int .i64 0] 31)) w') W
      ((rdecDo_ok t hm r hX w.heap.size (w.heap.size + 1) _ (cell_alloc_of _ q0) (q1.alloc _)).mono fun e w' ⟨he, hg⟩ => by
        obtain ⟨am, cm, at_, ct, g1, g2, g3, g4⟩ := hg
        refine ⟨he, ⟨am, cm, at_, ct, g1, by simpa using g2, by simpa using g3, g4⟩, ?_, ?_⟩
        · exact (g4.cell_far ⟨W.heap.size, 0, none⟩ (by simp) (by simp; omega)).trans (by simp [go_sem])
        · exact (g4.frozen_far ⟨W.heap.size, 0, none⟩ (by simp) (by simp; omega)).trans (by simp [go_sem]))
    rw [← hW] at ht
    have Ht := hid ht
    have HW := hid hW
    have HWs := hid hWs
    have HB := hid hB
    have HA := hid hA
    clear ht hX hWs q0 q1 hB hA hW
    obtain ⟨⟨c, e, s⟩, aud, l, g⟩ := r
    go_enter Try.func9, Try.ntmps9
    go_wp2_with fail
    refine Ht.out.mono ?_
    rintro e w1 ⟨rfl, w2, ⟨am, cm, at_, ct, g1, g2, g3, g4⟩, hlt, rfl⟩
    rw [HW.out] at g2 g3 g4 hlt ⊢
    have hN : w.heap.size + 1 ≠ W.heap.size := by have := HWs.out; omega
    have hbl : Below w.heap.size w w2 := by
      have h1 : Below w.heap.size w (W.alloc (.cells #[.int .i64 0] 31)) := below_then HB.out HB.out.size HA.out
      exact h1.grown g4 h1.size (fun j hj => by injection hj with hj; omega)
    refine gen_world (P := fun V => BlkAt V (w.heap.size + 1) #[.int .i64 c, .int .i64 e, .int .i64 s, .int .i64 aud, .slice am l.length cm, .slice at_ g.length ct] 27 ∧ OwnMems (w.heap.size + 2) V (.slice am l.length cm) l ∧ OwnStrs (w.heap.size + 2) V (.slice at_ g.length ct) g ∧ Below w.heap.size w V) _
      ⟨g1.far hN _, (g2.far (Nat.lt_succ_self _) _).mono (by have := HWs.out; omega), (g3.far (Nat.lt_succ_self _) _).mono (by have := HWs.out; omega), below_set hbl HB.out.size _⟩ ?_
    intro W9 ⟨hbk2, hm9, hs9, hbl9⟩
    have Hbk := hid hbk2
    have Hm := hid hm9
    have Hs := hid hs9
    have Hbl := hid hbl9
    have c0 := hbk2.val 0 rfl
    have c1 := hbk2.val 1 rfl
    have c2 := hbk2.val 2 rfl
    have c3 := hbk2.val 3 rfl
    have c4 := hbk2.val 4 rfl
    have c5 := hbk2.val 5 rfl
    have f0 := hbk2.frozen 0
    have f1 := hbk2.frozen 1
    have f2 := hbk2.frozen 2
    have f3 := hbk2.frozen 3
    have f4 := hbk2.frozen 4
    have f5 := hbk2.frozen 5
    clear hbk2 hm9 hs9 hbl9 hN hbl g1 g2 g3 g4 hlt Ht HW HWs HB HA hmf
    go_wp2
    refine bodyPost_ret (v := .tuple #[rcptV ⟨c, e, s⟩ aud am l.length cm at_ g.length ct, .int .i64 0]) (by simp [results, Try.results9, go_sem, c0, c1, c2, c3, c4, c5, rcptV]) rfl ⟨⟨am, cm, at_, ct, rfl, ?_, ?_⟩, ?_⟩
    · show OwnMems w.heap.size _ (.slice am l.length cm) l
      refine OwnMems.mono (base := w.heap.size + 2) ?_ (by omega)
      repeat refine OwnMems.far ?_ (Nat.lt_succ_self _) _
      exact Hm.out
    · show OwnStrs w.heap.size _ (.slice at_ g.length ct) g
      refine OwnStrs.mono (base := w.heap.size + 2) ?_ (by omega)
      repeat refine OwnStrs.far ?_ (Nat.lt_succ_self _) _
      exact Hs.out
    · repeat refine below_set ?_ (Nat.le_succ _) _
      exact Hbl.out
end Go.Proofs.Ytegkolepemcocaa
