import Derived.Test.YtegkolepemcocaaWrcpt2
/- The walk of receipt's Encode. -/
namespace Go.Proofs.Ytegkolepemcocaa
open Go.RowKit Sp

/-- What a receipt's value stands on. -/
structure RcptAt (r : Rcpt) (am : Option Addr) (nm cm : Nat) (at_ : Option Addr) (nt ct : Nat) (w : World) : Prop where
  nm : nm = r.mems.length
  nt : nt = r.tags.length
  lm : r.mems.length ≤ 10000000
  lt : r.tags.length ≤ 10000000
  dm : ∀ x ∈ r.mems, x.dig.length ≤ 10000000
  dt : ∀ s ∈ r.tags, s.length ≤ 10000000
  mems : MemsAt w am r.mems
  tags : StrsAt w at_ r.tags
theorem RcptAt.below {r : Rcpt} {am : Option Addr} {nm cm : Nat} {at_ : Option Addr} {nt ct : Nat} {w w' : World} (h : RcptAt r am nm cm at_ nt ct w) (hb : Below w.heap.size w w') : RcptAt r am nm cm at_ nt ct w' :=
  ⟨h.nm, h.nt, h.lm, h.lt, h.dm, h.dt, h.mems.below hb, h.tags.below hb⟩

theorem encTry_calls (r : Rcpt) (am : Option Addr) (nm cm : Nat) (at_ : Option Addr) (nt ct : Nat) (b0 b1 : Nat) (W : World) (h : RcptAt r am nm cm at_ nt ct W)
    (q0 : W.cell? ⟨b0, 0, none⟩ = some (.int .i64 r.txn.c)) (q1 : W.cell? ⟨b0, 1, none⟩ = some (.int .i64 r.txn.e)) (q2 : W.cell? ⟨b0, 2, none⟩ = some (.int .i64 r.txn.s)) (q3 : W.cell? ⟨b0, 3, none⟩ = some (.int .i64 r.aud))
    (q4 : W.cell? ⟨b0, 4, none⟩ = some (.slice am nm cm)) (q5 : W.cell? ⟨b0, 5, none⟩ = some (.slice at_ nt ct))
    (p0 : W.cell? ⟨b1, 0, none⟩ = some (.string (ofL []))) (p1 : W.frozen? ⟨b1, 0, none⟩ = false) :
    Calls Try.prog 35 #[.func (.func 38) #[] #[.pointer (some ⟨b0, 0, none⟩), .pointer (some ⟨b1, 0, none⟩)]] W fun e w' => ∃ (s : Bs) (y : Int), e = .returned (.int .i64 y) ∧ encMade (putR r) = .tuple #[.string (ofL s), .int .i64 y] ∧
      w'.cell? ⟨b1, 0, none⟩ = some (.string (ofL s)) ∧ w'.frozen? ⟨b1, 0, none⟩ = false ∧ Below b1 W w' := by
  have hl := World.block_lt_of_cell? _ _ p0
  simp only at hl
  have hA : Below W.heap.size W (W.alloc (.cells #[.int .i64 0] 31)) := (Below.refl _ W).alloc (Nat.le_refl _) _
  have hk := cell_alloc_of (.cells #[.int .i64 0] 31) p0
  have hf : (W.alloc (.cells #[.int .i64 0] 31)).frozen? ⟨b1, 0, none⟩ = false := (hA.frozen (p := ⟨b1, 0, none⟩) hl).trans p1
  have hne : W.heap.size ≠ b1 := by omega
  have hdo := encDo_calls r am nm cm at_ nt ct h.nm h.nt (by have := h.lm; omega) (by have := h.lt; omega) (fun x hx => by have := h.dm x hx; omega) h.dt b0 b1 (W.alloc (.cells #[.int .i64 0] 31)) (h.mems.below hA) (h.tags.below hA)
    (cell_alloc_of _ q0) (cell_alloc_of _ q1) (cell_alloc_of _ q2) (cell_alloc_of _ q3) (cell_alloc_of _ q4) (cell_alloc_of _ q5) hk hf
  cases hp : putR r with
  | error e =>
    obtain rfl := putR_err hp
    rw [hp] at hdo
    simp only [encDoPost] at hdo
    refine (rtry_no 38 _ (fun w => by kernel_rfl) (fun w' => Below (W.alloc (.cells #[.int .i64 0] 31)).heap.size (W.alloc (.cells #[.int .i64 0] 31)) w') 5 W ?_).mono ?_
    · refine hdo.mono ?_
      rintro e w' ⟨rfl, hb⟩
      exact ⟨rfl, hb, (hb.cell (p := ⟨_, 0, none⟩) (by simp)).trans (by simp [go_sem]), (hb.frozen (p := ⟨_, 0, none⟩) (by simp)).trans (by simp [go_sem])⟩
    · rintro e w' ⟨rfl, w1, hb, hlt, rfl⟩
      have hW : Below W.heap.size W w1 := below_then hA (by simp) hb
      have k1 : w1.cell? ⟨b1, 0, none⟩ = some (.string (ofL [])) := (hW.cell (p := ⟨b1, 0, none⟩) hl).trans p0
      have k2 : w1.frozen? ⟨b1, 0, none⟩ = false := (hW.frozen (p := ⟨b1, 0, none⟩) hl).trans p1
      refine ⟨[], 5, rfl, rfl, cell_alloc_of _ ((World.cell?_setCell_far _ _ _ _ hne).trans k1), ?_, ?_⟩
      · have hB2 : Below w1.heap.size (w1.setCell ⟨W.heap.size, 0, none⟩ (.int .i64 5)) ((w1.setCell ⟨W.heap.size, 0, none⟩ (.int .i64 5)).alloc (.cells #[.int .i64 5] 125)) := (Below.refl _ _).alloc (by simp) _
        exact (hB2.frozen (p := ⟨b1, 0, none⟩) (by simp; omega)).trans (by simp [go_sem, k2])
      · exact ((hW.mono (by omega)).setCell (p := ⟨_, 0, none⟩) (by simp; omega) _).alloc (by simp; omega) _
  | ok t =>
    rw [hp] at hdo
    simp only [encDoPost] at hdo
    refine (rtry_ok 38 _ (fun w => by kernel_rfl) (fun w' => ∃ w2, Below (W.alloc (.cells #[.int .i64 0] 31)).heap.size (W.alloc (.cells #[.int .i64 0] 31)) w2 ∧ w' = w2.setCell ⟨b1, 0, none⟩ (.string (ofL t))) W ?_).mono ?_
    · refine hdo.mono ?_
      rintro e w' ⟨rfl, w2, hb, rfl⟩
      have a0 : w2.cell? ⟨W.heap.size, 0, none⟩ = some (.int .i64 0) := (hb.cell (p := ⟨_, 0, none⟩) (by simp)).trans (by simp [go_sem])
      have a1 : w2.frozen? ⟨W.heap.size, 0, none⟩ = false := (hb.frozen (p := ⟨_, 0, none⟩) (by simp)).trans (by simp [go_sem])
      exact ⟨rfl, ⟨_, hb, rfl⟩, (World.cell?_setCell_far _ _ _ _ hne.symm).trans a0, by simp [go_sem, a1]⟩
    · rintro e w' ⟨rfl, w5, ⟨w2, hb, rfl⟩, hlt, rfl⟩
      have hW : Below W.heap.size W w2 := below_then hA (by simp) hb
      have k1 : w2.cell? ⟨b1, 0, none⟩ = some (.string (ofL [])) := (hW.cell (p := ⟨b1, 0, none⟩) hl).trans p0
      have k2 : w2.frozen? ⟨b1, 0, none⟩ = false := (hW.frozen (p := ⟨b1, 0, none⟩) hl).trans p1
      refine ⟨t, 0, rfl, rfl, (World.cell?_setCell_far _ _ _ _ hne).trans (by simp [go_sem, k1]), by simp [go_sem, k2], ?_⟩
      exact ((hW.mono (by omega)).setCell (p := ⟨_, 0, none⟩) (by simp) _).setCell (p := ⟨_, 0, none⟩) (by simp; omega) _

set_option maxRecDepth 20000 in
set_option maxHeartbeats 2000000 in
theorem rencode_calls (r : Rcpt) (am : Option Addr) (nm cm : Nat) (at_ : Option Addr) (nt ct : Nat) (w : World) (h : RcptAt r am nm cm at_ nt ct w) :
    Calls Try.prog 10 #[rcptV r.txn r.aud am nm cm at_ nt ct] w fun e w' => e = .returned (encMade (encR r)) ∧ Below w.heap.size w w' := by
  obtain ⟨⟨c, e, s⟩, aud, l, tg⟩ := r
  have H := hid h
  have hck := fun W (hW : RcptAt ⟨⟨c, e, s⟩, aud, l, tg⟩ am nm cm at_ nt ct W) => rcheck_calls ⟨⟨c, e, s⟩, aud, l, tg⟩ am nm cm at_ nt ct hW.nm hW.nt (by have := hW.lm; omega) (by have := hW.lt; omega) (fun x hx => by have := hW.dm x hx; omega) (fun x hx => by have := hW.dt x hx; omega) W hW.mems hW.tags
  have htr := fun b0 b1 W hW => encTry_calls ⟨⟨c, e, s⟩, aud, l, tg⟩ am nm cm at_ nt ct b0 b1 W hW
  simp only [rcptV] at hck ⊢
  simp only at htr
  have HB0 := hid (((Below.refl w.heap.size w).alloc (Nat.le_refl _) (.cells #[.int .i64 c, .int .i64 e, .int .i64 s, .int .i64 aud, .slice am nm cm, .slice at_ nt ct] 27)).alloc (by simp) (.cells #[.string (ofL [])] 9))
  cases hmay : mayR ⟨⟨c, e, s⟩, aud, l, tg⟩ with
  | false =>
    have hX : encR ⟨⟨c, e, s⟩, aud, l, tg⟩ = .error 2 := by unfold encR; rw [hmay]; rfl
    rw [hX]
    rw [hmay] at hck
    have Hck := hid hck
    clear hck htr hX hmay h
    go_enter Try.func10, Try.ntmps10
    go_wp2_with fail
    refine (Hck.out _ (H.out.below (((Below.refl w.heap.size w).alloc (Nat.le_refl _) _).alloc (by simp) _))).mono ?_
    rintro e1 w1 ⟨rfl, hb⟩
    have k0 : w1.cell? ⟨w.heap.size + 1, 0, none⟩ = some (.string (ofL [])) := (hb.cell (p := ⟨_, 0, none⟩) (by simp)).trans (by simp [go_sem, ofL])
    have g0 : w1.frozen? ⟨w.heap.size + 1, 0, none⟩ = false := (hb.frozen (p := ⟨_, 0, none⟩) (by simp)).trans (by simp [go_sem])
    have HB1 := hid (HB0.out.trans (hb.mono (by simp; omega)))
    clear hb
    go_wp2
    refine bodyPost_ret (v := encMade (.error 2)) (by simp [results, Try.results10, go_sem, k0, encMade, ofL]) rfl ⟨rfl, ?_⟩
    exact HB1.out.setCell (p := ⟨_, 0, none⟩) (by simp) _
  | true =>
    have hX : encR ⟨⟨c, e, s⟩, aud, l, tg⟩ = putR ⟨⟨c, e, s⟩, aud, l, tg⟩ := by unfold encR; rw [hmay]; rfl
    rw [hX]
    rw [hmay] at hck
    have Hck := hid hck
    have Htr := hid htr
    clear hck htr hX hmay h
    go_enter Try.func10, Try.ntmps10
    go_wp2_with fail
    refine (Hck.out _ (H.out.below (((Below.refl w.heap.size w).alloc (Nat.le_refl _) _).alloc (by simp) _))).mono ?_
    rintro e1 w1 ⟨rfl, hb⟩
    have k0 : w1.cell? ⟨w.heap.size + 1, 0, none⟩ = some (.string (ofL [])) := (hb.cell (p := ⟨_, 0, none⟩) (by simp)).trans (by simp [go_sem, ofL])
    have g0 : w1.frozen? ⟨w.heap.size + 1, 0, none⟩ = false := (hb.frozen (p := ⟨_, 0, none⟩) (by simp)).trans (by simp [go_sem])
    have d0 : w1.cell? ⟨w.heap.size, 0, none⟩ = some (.int .i64 c) := (hb.cell (p := ⟨_, 0, none⟩) (by simp; omega)).trans (by simp [go_sem])
    have d1 : w1.cell? ⟨w.heap.size, 1, none⟩ = some (.int .i64 e) := (hb.cell (p := ⟨_, 1, none⟩) (by simp; omega)).trans (by simp [go_sem])
    have d2 : w1.cell? ⟨w.heap.size, 2, none⟩ = some (.int .i64 s) := (hb.cell (p := ⟨_, 2, none⟩) (by simp; omega)).trans (by simp [go_sem])
    have d3 : w1.cell? ⟨w.heap.size, 3, none⟩ = some (.int .i64 aud) := (hb.cell (p := ⟨_, 3, none⟩) (by simp; omega)).trans (by simp [go_sem])
    have d4 : w1.cell? ⟨w.heap.size, 4, none⟩ = some (.slice am nm cm) := (hb.cell (p := ⟨_, 4, none⟩) (by simp; omega)).trans (by simp [go_sem])
    have d5 : w1.cell? ⟨w.heap.size, 5, none⟩ = some (.slice at_ nt ct) := (hb.cell (p := ⟨_, 5, none⟩) (by simp; omega)).trans (by simp [go_sem])
    have HB1 := hid (HB0.out.trans (hb.mono (by simp; omega)))
    have HW := hid (H.out.below HB1.out)
    clear hb
    have hmf : ∀ (fn : Fn) (first cap : Array Value) (w : World), (Instr.makeFunc fn first cap).run Try.prog w = .ok (.func fn first cap) w := fun _ _ _ _ => rfl
    go_wp2_with fail
    refine (Htr.out w.heap.size (w.heap.size + 1) w1 HW.out d0 d1 d2 d3 d4 d5 k0 g0).mono ?_
    rintro e2 w2 ⟨s2, y2, rfl, hx, m0, m1, hb2⟩
    have HX := hid hx
    have HB2 := hid (HB1.out.trans (hb2.mono (by omega)))
    clear hb2 hx
    go_wp2
    refine bodyPost_ret (v := .tuple #[.string (ofL s2), .int .i64 y2]) (by simp [results, Try.results10, go_sem, m0]) rfl ⟨by rw [HX.out], ?_⟩
    exact HB2.out.setCell (p := ⟨_, 0, none⟩) (by simp) _
end Go.Proofs.Ytegkolepemcocaa
