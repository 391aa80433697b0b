import Derived.Test.YtohblakhojhklaaWwdec
import Derived.Test.YtohblakhojhklaaWtry
/- The walk of wire's Decode. -/
namespace Go.Proofs.Ytohblakhojhklaa
open Go.RowKit Go.Maps Sp

theorem grown_set {w W : World} {b : Nat} (h : w.grownBy W (some b)) (i : Nat) (v : Value) : w.grownBy (W.setCell ⟨b, i, none⟩ v) (some b) :=
  ⟨h.os, h.tape, h.output, by have := h.size; simp; omega, fun k hk hne => (Below.heap_setCell _ _ _ _ (fun e => hne (by rw [e]))).trans (h.block k hk hne)⟩
theorem grown_of {w W : World} (h : Below w.heap.size w W) (row : Option Nat) : w.grownBy W row := ⟨h.os, h.tape, h.output, h.size, fun k hk _ => h.block k hk⟩
theorem grown_far9 {b : Nat} {w W : World} {x0 x1 x2 x3 x4 x5 x6 x7 x8 : Value} (h : w.grownBy W (some b)) :
    w.grownBy (((((((((W.setCell ⟨b, 0, none⟩ x0).setCell ⟨b, 1, none⟩ x1).setCell ⟨b, 2, none⟩ x2).setCell ⟨b, 3, none⟩ x3).setCell ⟨b, 4, none⟩ x4).setCell ⟨b, 5, none⟩ x5).setCell ⟨b, 6, none⟩ x6).setCell ⟨b, 7, none⟩ x7).setCell ⟨b, 8, none⟩ x8) (some b) :=
  grown_set (grown_set (grown_set (grown_set (grown_set (grown_set (grown_set (grown_set (grown_set h _ _) _ _) _ _) _ _) _ _) _ _) _ _) _ _) _ _
theorem ownMems_lt9 {B b : Nat} {W : World} {v : Value} {l : List Mem} {x0 x1 x2 x3 x4 x5 x6 x7 x8 : Value} (h : OwnMems B W v l) (hb : b < B) :
    OwnMems B (((((((((W.setCell ⟨b, 0, none⟩ x0).setCell ⟨b, 1, none⟩ x1).setCell ⟨b, 2, none⟩ x2).setCell ⟨b, 3, none⟩ x3).setCell ⟨b, 4, none⟩ x4).setCell ⟨b, 5, none⟩ x5).setCell ⟨b, 6, none⟩ x6).setCell ⟨b, 7, none⟩ x7).setCell ⟨b, 8, none⟩ x8) v l :=
  (((((((((h.far hb _).far hb _).far hb _).far hb _).far hb _).far hb _).far hb _).far hb _).far hb _)
theorem blk_set9 {W : World} {b : Nat} {t : TypeId} {y0 y1 y2 y3 y4 y5 y6 y7 y8 x0 x1 x2 x3 x4 x5 x6 x7 x8 : Value} (h : BlkAt W b #[y0, y1, y2, y3, y4, y5, y6, y7, y8] t) :
    BlkAt (((((((((W.setCell ⟨b, 0, none⟩ x0).setCell ⟨b, 1, none⟩ x1).setCell ⟨b, 2, none⟩ x2).setCell ⟨b, 3, none⟩ x3).setCell ⟨b, 4, none⟩ x4).setCell ⟨b, 5, none⟩ x5).setCell ⟨b, 6, none⟩ x6).setCell ⟨b, 7, none⟩ x7).setCell ⟨b, 8, none⟩ x8) b #[x0, x1, x2, x3, x4, x5, x6, x7, x8] t := by
  have h0 : BlkAt _ b #[x0, y1, y2, y3, y4, y5, y6, y7, y8] t := BlkAt.set h 0 x0
  have h1 : BlkAt _ b #[x0, x1, y2, y3, y4, y5, y6, y7, y8] t := BlkAt.set h0 1 x1
  have h2 : BlkAt _ b #[x0, x1, x2, y3, y4, y5, y6, y7, y8] t := BlkAt.set h1 2 x2
  have h3 : BlkAt _ b #[x0, x1, x2, x3, y4, y5, y6, y7, y8] t := BlkAt.set h2 3 x3
  have h4 : BlkAt _ b #[x0, x1, x2, x3, x4, y5, y6, y7, y8] t := BlkAt.set h3 4 x4
  have h5 : BlkAt _ b #[x0, x1, x2, x3, x4, x5, y6, y7, y8] t := BlkAt.set h4 5 x5
  have h6 : BlkAt _ b #[x0, x1, x2, x3, x4, x5, x6, y7, y8] t := BlkAt.set h5 6 x6
  have h7 : BlkAt _ b #[x0, x1, x2, x3, x4, x5, x6, x7, y8] t := BlkAt.set h6 7 x7
  have h8 : BlkAt _ b #[x0, x1, x2, x3, x4, x5, x6, x7, x8] t := BlkAt.set h7 8 x8
  exact h8

/-- What Decode's work leaves. -/
def WGot (B b1 : Nat) (m : Msg) (W w' : World) : Prop := ∃ am cm, BlkAt w' b1 (msgCells m am m.mems.length cm) 26 ∧ OwnMems B w' (.slice am m.mems.length cm) m.mems ∧ W.grownBy w' (some b1)

set_option maxRecDepth 20000 in
set_option maxHeartbeats 1000000 in
theorem wdecDo_ok (t : Bs) (hm : t.length ≤ 10000000) (m : Msg) (hX : decM t = some m) (b0 b1 : Nat) (W : World) (h0 : W.cell? ⟨b0, 0, none⟩ = some (.string (ofL t))) (h1 : BlkAt W b1 zeroMB 26) :
    Calls Try.prog 25 #[.pointer (some ⟨b0, 0, none⟩), .pointer (some ⟨b1, 0, none⟩)] W fun e w' => e = .returned (.tuple #[]) ∧ WGot W.heap.size b1 m W w' := by
  have hd := fun V => wdec_calls t hm V
  rw [hX] at hd
  obtain ⟨k, ⟨c, e, s⟩, aud, l, body, yes, tag⟩ := m
  simp only [wdecPost, msgV] at hd
  have Hd := hid hd
  have H1 := hid h1
  have hlt := h1.lt
  clear hd hX h1
  go_enter Try.func25, Try.ntmps25
  go_wp2_with fail
  refine (Hd.out _).mono ?_
  rintro e1 w1 ⟨⟨am, cm, rfl, hmm⟩, hb⟩
  have hbk := H1.out.below hb
  have Hbk := hid hbk
  have Hmm := hid hmm
  have Hg := hid (grown_of hb (some b1))
  have c0 := hbk.val 0 rfl
  have c1 := hbk.val 1 rfl
  have c2 := hbk.val 2 rfl
  have c3 := hbk.val 3 rfl
  have c4 := hbk.val 4 rfl
  have c5 := hbk.val 5 rfl
  have c6 := hbk.val 6 rfl
  have c7 := hbk.val 7 rfl
  have c8 := hbk.val 8 rfl
  have f0 := hbk.frozen 0
  have f1 := hbk.frozen 1
  have f2 := hbk.frozen 2
  have f3 := hbk.frozen 3
  have f4 := hbk.frozen 4
  have f5 := hbk.frozen 5
  have f6 := hbk.frozen 6
  have f7 := hbk.frozen 7
  have f8 := hbk.frozen 8
  clear hbk hmm hb
  go_wp2
  go_end0
  exact ⟨rfl, am, cm, blk_set9 Hbk.out, ownMems_lt9 Hmm.out hlt, grown_far9 Hg.out⟩

set_option maxRecDepth 20000 in
theorem wdecDo_no (t : Bs) (hm : t.length ≤ 10000000) (hX : decM t = none) (b0 b1 : Nat) (W : World) (h0 : W.cell? ⟨b0, 0, none⟩ = some (.string (ofL t))) :
    Calls Try.prog 25 #[.pointer (some ⟨b0, 0, none⟩), .pointer (some ⟨b1, 0, none⟩)] W fun e w' => e = .panicked thrownW ∧ Below W.heap.size W w' := by
  have hd := fun V => wdec_calls t hm V
  rw [hX] at hd
  simp only [wdecPost] at hd
  have Hd := hid hd
  clear hd hX
  go_enter Try.func25, Try.ntmps25
  go_wp2_with fail
  refine (Hd.out _).mono ?_
  rintro e1 w1 ⟨rfl, hb⟩
  exact ⟨rfl, rfl, hb⟩

/-- What Decode owes. -/
def wDecodePost (X : Option Msg) (w : World) (e : Ending) (w' : World) : Prop :=
  match X with
  | some m => (∃ am cm, e = .returned (.tuple #[msgV m am m.mems.length cm, .int .i64 0]) ∧ OwnMems w.heap.size w' (.slice am m.mems.length cm) m.mems) ∧ Below w.heap.size w w'
  | none => e = .returned (.tuple #[msgV zeroM none 0 0, .int .i64 7]) ∧ Below w.heap.size w w'

set_option maxRecDepth 20000 in
set_option maxHeartbeats 2000000 in
theorem wdecode_calls (t : Bs) (hm : t.length ≤ 10000000) (w : World) : Calls Try.prog 7 #[.string (ofL t)] w fun e w' => wDecodePost (decM t) w e w' := by
  have hmf : ∀ (fn : Fn) (first cap : Array Value) (w : World), (Instr.makeFunc fn first cap).run Try.prog w = .ok (.func fn first cap) w := fun _ _ _ _ => rfl
  obtain ⟨W, hW⟩ : ∃ W, (w.alloc (.cells #[.string (ofL t)] 9)).alloc (.cells zeroMB 26) = W := ⟨_, rfl⟩
  have hWs : W.heap.size = w.heap.size + 2 := by rw [← hW]; simp
  have q0 : W.cell? ⟨w.heap.size, 0, none⟩ = some (.string (ofL t)) := by rw [← hW]; simp [go_sem]
  have q1 : BlkAt W (w.heap.size + 1) zeroMB 26 := by
    rw [← hW]
    have := BlkAt.new (w.alloc (.cells #[.string (ofL t)] 9)) zeroMB 26
    simpa using this
  have hB : Below w.heap.size w W := by rw [← hW]; exact ((Below.refl w.heap.size w).alloc (Nat.le_refl _) _).alloc (by simp) _
  have hA : Below W.heap.size W (W.alloc (.cells #[.bool false] 4)) := (Below.refl _ W).alloc (Nat.le_refl _) _
  cases hX : decM t with
  | none =>
    simp only [wDecodePost, msgV, zeroM]
    have ht := wtry_no 25 #[.pointer (some ⟨w.heap.size, 0, none⟩), .pointer (some ⟨w.heap.size + 1, 0, none⟩)] (fun w => by kernel_rfl) (fun w' => Below (W.alloc (.cells #[.bool false] 4)).heap.size (W.alloc (.cells #[.bool false] 4)) w') W
      ((wdecDo_no t hm hX w.heap.size (w.heap.size + 1) _ (cell_alloc_of _ q0)).mono fun e w' ⟨he, hb⟩ => ⟨he, hb, (hb.cell (p := ⟨_, 0, none⟩) (by simp)).trans (by simp [go_sem]), (hb.frozen (p := ⟨_, 0, none⟩) (by simp)).trans (by simp [go_sem])⟩)
    rw [← hW] at ht
    have Ht := hid ht
    have HW := hid hW
    have HWs := hid hWs
    have Hq1 := hid q1
    have HB := hid hB
    have HA := hid hA
    clear ht hX hWs q0 q1 hB hA hW
    go_enter Try.func7, Try.ntmps7
    go_wp2_with fail
    refine Ht.out.mono ?_
    rintro e w1 ⟨rfl, w2, hb, hlt, rfl⟩
    rw [HW.out] at hb hlt ⊢
    have hb2 : Below W.heap.size W w2 := bt0 HA.out hb
    have hbk := Hq1.out.below hb2
    have hN : w.heap.size + 1 ≠ W.heap.size := by have := HWs.out; omega
    have hbk2 : BlkAt ((w2.setCell ⟨W.heap.size, 0, none⟩ (.bool false)).alloc (.cells #[] 96)) (w.heap.size + 1) zeroMB 26 := (hbk.far hN _).alloc _
    have hbl : Below w.heap.size w ((w2.setCell ⟨W.heap.size, 0, none⟩ (.bool false)).alloc (.cells #[] 96)) :=
      (below_set (below_then HB.out HB.out.size hb2) HB.out.size _).alloc (by have := HB.out.size; have := hb2.size; simp; omega) _
    revert hbk2 hbl
    generalize (w2.setCell ⟨W.heap.size, 0, none⟩ (.bool false)).alloc (.cells #[] 96) = W9
    intro hbk2 hbl
    have Hbk := hid hbk2
    have Hbl := hid hbl
    have c0 := hbk2.val 0 rfl
    have c1 := hbk2.val 1 rfl
    have c2 := hbk2.val 2 rfl
    have c3 := hbk2.val 3 rfl
    have c4 := hbk2.val 4 rfl
    have c5 := hbk2.val 5 rfl
    have c6 := hbk2.val 6 rfl
    have c7 := hbk2.val 7 rfl
    have c8 := hbk2.val 8 rfl
    have f0 := hbk2.frozen 0
    have f1 := hbk2.frozen 1
    have f2 := hbk2.frozen 2
    have f3 := hbk2.frozen 3
    have f4 := hbk2.frozen 4
    have f5 := hbk2.frozen 5
    have f6 := hbk2.frozen 6
    have f7 := hbk2.frozen 7
    have f8 := hbk2.frozen 8
    clear hb hlt hb2 hbk hbk2 hbl hN Ht HW HWs Hq1 HB HA hmf
    go_wp2
    refine bodyPost_ret (v := .tuple #[.agg #[.int .u8 0, .int .i64 0, .int .i64 0, .int .i64 0, .int .i64 0, .slice none 0 0, .string ⟨#[]⟩, .bool false, .string ⟨#[]⟩], .int .i64 7]) (by simp [results, Try.results7, go_sem, c0, c1, c2, c3, c4, c5, c6, c7, c8]) rfl ⟨rfl, below_far9 Hbl.out (Nat.le_succ _)⟩
  | some m =>
    simp only [wDecodePost, msgV]
    have ht := wtry_ok 25 #[.pointer (some ⟨w.heap.size, 0, none⟩), .pointer (some ⟨w.heap.size + 1, 0, none⟩)] (fun w => by kernel_rfl) (fun w' => WGot (W.heap.size + 1) (w.heap.size + 1) m (W.alloc (.cells #[.bool false] 4)) w') W
      ((wdecDo_ok t hm m hX w.heap.size (w.heap.size + 1) _ (cell_alloc_of _ q0) (q1.alloc _)).mono fun e w' ⟨he, hg⟩ => by
        obtain ⟨am, cm, g1, g2, g4⟩ := hg
        refine ⟨he, ⟨am, cm, g1, by simpa using g2, g4⟩, ?_, ?_⟩
        · exact (g4.cell_far ⟨W.heap.size, 0, none⟩ (by simp) (by simp; omega)).trans (by simp [go_sem])
        · exact (g4.frozen_far ⟨W.heap.size, 0, none⟩ (by simp) (by simp; omega)).trans (by simp [go_sem]))
    rw [← hW] at ht
    have Ht := hid ht
    have HW := hid hW
    have HWs := hid hWs
    have HB := hid hB
    have HA := hid hA
    clear ht hX hWs q0 q1 hB hA hW
    obtain ⟨k, ⟨c, e, s⟩, aud, l, body, yes, tag⟩ := m
    go_enter Try.func7, Try.ntmps7
    go_wp2_with fail
    refine Ht.out.mono ?_
    rintro e w1 ⟨rfl, w2, ⟨am, cm, g1, g2, g4⟩, hlt, rfl⟩
    rw [HW.out] at g2 g4 hlt ⊢
    simp only [msgCells] at g1 g2
    have hN : w.heap.size + 1 ≠ W.heap.size := by have := HWs.out; omega
    have hbl : Below w.heap.size w w2 := by
      have h1 : Below w.heap.size w (W.alloc (.cells #[.bool false] 4)) := below_then HB.out HB.out.size HA.out
      exact h1.grown g4 h1.size (fun j hj => by injection hj with hj; omega)
    refine gen_world (P := fun V => BlkAt V (w.heap.size + 1) #[.int .u8 k, .int .i64 c, .int .i64 e, .int .i64 s, .int .i64 aud, .slice am l.length cm, .string (ofL body), .bool yes, .string (ofL tag)] 26 ∧ OwnMems (w.heap.size + 2) V (.slice am l.length cm) l ∧ Below w.heap.size w V) _
      ⟨g1.far hN _, (g2.far (Nat.lt_succ_self _) _).mono (by have := HWs.out; omega), below_set hbl HB.out.size _⟩ ?_
    intro W9 ⟨hbk2, hm9, hbl9⟩
    have Hbk := hid hbk2
    have Hm := hid hm9
    have Hbl := hid hbl9
    have c0 := hbk2.val 0 rfl
    have c1 := hbk2.val 1 rfl
    have c2 := hbk2.val 2 rfl
    have c3 := hbk2.val 3 rfl
    have c4 := hbk2.val 4 rfl
    have c5 := hbk2.val 5 rfl
    have c6 := hbk2.val 6 rfl
    have c7 := hbk2.val 7 rfl
    have c8 := hbk2.val 8 rfl
    have f0 := hbk2.frozen 0
    have f1 := hbk2.frozen 1
    have f2 := hbk2.frozen 2
    have f3 := hbk2.frozen 3
    have f4 := hbk2.frozen 4
    have f5 := hbk2.frozen 5
    have f6 := hbk2.frozen 6
    have f7 := hbk2.frozen 7
    have f8 := hbk2.frozen 8
    clear hbk2 hm9 hbl9 hN hbl g1 g2 g4 hlt Ht HW HWs HB HA hmf
    go_wp2
    refine bodyPost_ret (v := .tuple #[.agg #[.int .u8 k, .int .i64 c, .int .i64 e, .int .i64 s, .int .i64 aud, .slice am l.length cm, .string (ofL body), .bool yes, .string (ofL tag)], .int .i64 0]) (by simp [results, Try.results7, go_sem, c0, c1, c2, c3, c4, c5, c6, c7, c8]) rfl ⟨⟨am, cm, rfl, ?_⟩, below_far9 Hbl.out (Nat.le_succ _)⟩
    exact (ownMems_lt9 Hm.out (Nat.lt_succ_self _)).mono (by omega)
end Go.Proofs.Ytohblakhojhklaa
