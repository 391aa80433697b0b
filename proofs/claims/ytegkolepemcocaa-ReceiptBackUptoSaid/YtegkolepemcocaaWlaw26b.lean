import Derived.Test.YtegkolepemcocaaWlaw26
/- The walks of the law's own, one. -/
namespace Go.Proofs.Ytegkolepemcocaa
open Go.RowKit Sp

/-- Nil slices have no room. -/
structure Rooms (am : Option Addr) (cm : Nat) (at_ : Option Addr) (ct : Nat) : Prop where
  m : am = none → cm = 0
  t : at_ = none → ct = 0

/-- What own owes: a receipt with rows of its own. -/
def OwnPost (r : Rcpt) (w : World) (e : Ending) (w' : World) : Prop := ∃ am cm at_ ct, e = .returned (rcptV r.txn r.aud am r.mems.length cm at_ r.tags.length ct) ∧ OwnMems w.heap.size w' (.slice am r.mems.length cm) r.mems ∧ OwnStrs w.heap.size w' (.slice at_ r.tags.length ct) r.tags ∧ Below w.heap.size w w'
theorem OwnPost.at_ {r : Rcpt} {w w' : World} {am : Option Addr} {cm : Nat} {at_ : Option Addr} {ct : Nat} {am' : Option Addr} {nm' cm' : Nat} {at' : Option Addr} {nt' ct' : Nat} {w0 : World} (h : RcptAt r am' nm' cm' at' nt' ct' w0)
    (hm : OwnMems w.heap.size w' (.slice am r.mems.length cm) r.mems) (ht : OwnStrs w.heap.size w' (.slice at_ r.tags.length ct) r.tags) : RcptAt r am r.mems.length cm at_ r.tags.length ct w' :=
  ⟨rfl, rfl, h.lm, h.lt, h.dm, h.dt, hm.at_, ht.at_⟩

set_option maxRecDepth 20000 in
set_option maxHeartbeats 4000000 in
theorem own26_calls (r : Rcpt) (am : Option Addr) (nm cm : Nat) (at_ : Option Addr) (nt ct : Nat) (w : World) (h : RcptAt r am nm cm at_ nt ct w) (hr : Rooms am cm at_ ct) :
    Calls Try.prog 14 #[rcptV r.txn r.aud am nm cm at_ nt ct] w fun e w' => OwnPost r w e w' := by
  obtain ⟨i0, hi0, hz0, hz1, hz2⟩ := info_parts info_member
  obtain ⟨i1, hi1, hy0, hy1, hy2⟩ := info_parts info_string
  obtain ⟨⟨c, e, s⟩, aud, l, tg⟩ := r
  have hnm := h.nm
  have hnt := h.nt
  have hlm := h.lm
  have hlt := h.lt
  simp only at hnm hnt hlm hlt
  subst hnm hnt
  have H := hid h
  have HR := hid hr
  have hB0 := ((Below.refl w.heap.size w).alloc (Nat.le_refl _) (.cells #[.int .i64 c, .int .i64 e, .int .i64 s, .int .i64 aud, .slice am l.length cm, .slice at_ tg.length ct] 27)).alloc (by simp) (.cells zeroRB 27)
  have HB0 := hid hB0
  have hbk := (BlkAt.new w #[.int .i64 c, .int .i64 e, .int .i64 s, .int .i64 aud, .slice am l.length cm, .slice at_ tg.length ct] 27).alloc (.cells zeroRB 27)
  have hbz : BlkAt ((w.alloc (.cells #[.int .i64 c, .int .i64 e, .int .i64 s, .int .i64 aud, .slice am l.length cm, .slice at_ tg.length ct] 27)).alloc (.cells zeroRB 27)) (w.heap.size + 1) zeroRB 27 := by
    have := BlkAt.new (w.alloc (.cells #[.int .i64 c, .int .i64 e, .int .i64 s, .int .i64 aud, .slice am l.length cm, .slice at_ tg.length ct] 27)) zeroRB 27
    simpa using this
  have Hbk := hid hbk
  have Hbz := hid hbz
  simp only [rcptV]
  have HM := hid (h.mems.below hB0)
  have hmz : ∀ ad, am = some ad → ∀ j u, (memCells l)[j]? = some u → ((w.alloc (.cells #[.int .i64 c, .int .i64 e, .int .i64 s, .int .i64 aud, .slice am l.length cm, .slice at_ tg.length ct] 27)).alloc (.cells zeroRB 27)).cell? (ad.add j) = some u := fun ad e => memsAt_news (by rw [← e]; exact HM.out)
  have Hmz := hid hmz
  have hm0 : am = none → l.length = 0 ∧ cm = 0 := fun e => ⟨by have := h.mems; rw [e] at this; have e0 : l = [] := memsAt_none this; rw [e0]; rfl, hr.m e⟩
  have ht0 : at_ = none → tg.length = 0 ∧ ct = 0 := fun e => ⟨by have := h.tags; rw [e] at this; have e0 : tg = [] := strsAt_none this; rw [e0]; rfl, hr.t e⟩
  have Hm0 := hid hm0
  have Ht0 := hid ht0
  have HT := hid h.tags
  clear h hr hB0 hbk hbz hmz hm0 ht0
  go_enter Try.func14, Try.ntmps14
  go_wp2_with (first
    | (at_builtin; refine wpList_append_src _ (by rfl) _ _ 24 (by rfl) (w.heap.size + 2) 59 i0 _ 2 24 Try.underlying24 hi0 hz0 hz1 hz2 rfl (by omega) (by rfl) am l.length cm (memCells l) (by rfl) Hm0.out (memCells_length l) Hmz.out (memCells_one l) (by unfold maxLen; omega) (by omega) (by simp) ?_; intro a1 c1 w1 hown1 hgrow1 _; have k1 := Hbk.out.grown hgrow1 (by simp); have z1 := Hbz.out.grown hgrow1 (by simp); have b1 := HB0.out.grown hgrow1 HB0.out.size (fun j hj => by cases hj); have c4 := k1.val 4 rfl; have f4 := k1.frozen 4; have c5 := k1.val 5 rfl; have k2 := k1.set 4 (.slice a1 l.length c1); have z2 := z1.far (a := ⟨w.heap.size, 4, none⟩) (Nat.succ_ne_self _) (.slice a1 l.length c1); have b2 := below_set (i := 4) b1 (Nat.le_refl _) (.slice a1 l.length c1); have Htz : Kp (∀ ad, at_ = some ad → ∀ j u, (tg.map strV)[j]? = some u → (w1.setCell ⟨w.heap.size, 4, none⟩ (.slice a1 l.length c1)).cell? (ad.add j) = some u) := hid (fun ad e => strsAt_news (by rw [← e]; exact HT.out.below b2)); have hs2 : w.heap.size + 2 ≤ w1.heap.size := (by have := hgrow1.size; simp at this; omega); have Hown1 := hid hown1; have Hgrow1 := hid hgrow1; have K2 := hid k2; have Z2 := hid z2; have B2 := hid b2; clear hown1 hgrow1 k1 z1 b1 k2 z2 b2)
    | (at_builtin; refine wpList_append_src _ (by rfl) _ _ 25 (by rfl) (w.heap.size + 2) 9 i1 _ 1 16 Try.underlying25 hi1 hy0 hy1 hy2 rfl (by omega) (by rfl) at_ tg.length ct (tg.map strV) (by rfl) Ht0.out (by simp) Htz.out (strCells_one tg) (by unfold maxLen; omega) (by omega) (by simpa using hs2) ?_; intro a2 c2 w2 hown2 hgrow2 _; have k3 := K2.out.grown hgrow2 (by simp); have z3 := Z2.out.grown hgrow2 (by simp); have d5 := k3.val 5 rfl; have g5 := k3.frozen 5; have K4 := hid (k3.set 5 (.slice a2 tg.length c2)); have Z4 := hid (z3.far (a := ⟨w.heap.size, 5, none⟩) (Nat.succ_ne_self _) (.slice a2 tg.length c2)); have B4 := hid (below_set (i := 5) (B2.out.grown hgrow2 B2.out.size (fun j hj => by cases hj)) (Nat.le_refl _) (.slice a2 tg.length c2)); have Hown2 := hid hown2; have Hgrow2 := hid hgrow2; clear hown2 hgrow2 z3; have x0 := k3.val 0 rfl; have x1 := k3.val 1 rfl; have x2 := k3.val 2 rfl; have x3 := k3.val 3 rfl; have x4 := k3.val 4 rfl; have y0 := Z4.out.val 0 rfl; have y1 := Z4.out.val 1 rfl; have y2 := Z4.out.val 2 rfl; have y3 := Z4.out.val 3 rfl; have y4 := Z4.out.val 4 rfl; have y5 := Z4.out.val 5 rfl; have u0 := Z4.out.frozen 0; have u1 := Z4.out.frozen 1; have u2 := Z4.out.frozen 2; have u3 := Z4.out.frozen 3; have u4 := Z4.out.frozen 4; have u5 := Z4.out.frozen 5)
    | fail)
  have m1 : OwnMems (w.heap.size + 2) w1 (.slice a1 l.length c1) l := Hown1.out
  have m2 := m1.far (a := ⟨w.heap.size, 4, none⟩) (show w.heap.size < w.heap.size + 2 by omega) (.slice a1 l.length c1)
  have m3 : OwnMems (w.heap.size + 2) w2 (.slice a1 l.length c1) l := World.ownsRow.kept m2 Hgrow2.out (by cases (Value.slice a1 l.length c1).ownBlock <;> simp)
  have m4 := m3.far (a := ⟨w.heap.size, 5, none⟩) (show w.heap.size < w.heap.size + 2 by omega) (.slice a2 tg.length c2)
  have n3 : OwnStrs (w.heap.size + 2) w2 (.slice a2 tg.length c2) tg := by
    have := Hown2.out
    unfold OwnStrs
    exact this
  have n4 := n3.far (a := ⟨w.heap.size, 5, none⟩) (show w.heap.size < w.heap.size + 2 by omega) (.slice a2 tg.length c2)
  have Z := Z4.out
  have B := B4.out
  clear y0 y1 y2 y3 y4 y5 u0 u1 u2 u3 u4 u5 x0 x1 x2 x3 x4 d5 g5 k3 K4 Z4 B4 c4 f4 c5 m1 m2 m3 n3 Hown1 Hgrow1 K2 Z2 B2 Htz Hown2 Hgrow2 HM Hmz Hm0 Ht0 HT H HR HB0 Hbk Hbz
  revert Z B m4 n4
  generalize w2.setCell ⟨w.heap.size, 5, none⟩ (.slice a2 tg.length c2) = W4
  intro m4 n4 Z B
  have y0 := Z.val 0 rfl
  have y1 := Z.val 1 rfl
  have y2 := Z.val 2 rfl
  have y3 := Z.val 3 rfl
  have y4 := Z.val 4 rfl
  have y5 := Z.val 5 rfl
  refine bodyPost_ret (v := rcptV ⟨c, e, s⟩ aud a1 l.length c1 a2 tg.length c2) (by simp [results, Try.results14, go_sem, y0, y1, y2, y3, y4, y5, rcptV]) rfl ⟨a1, c1, a2, c2, rfl, ?_, ?_, ?_⟩
  · show OwnMems w.heap.size _ (.slice a1 l.length c1) l
    refine OwnMems.mono (base := w.heap.size + 2) ?_ (by omega)
    iterate 6 refine OwnMems.far ?_ (Nat.lt_succ_self _) _
    exact m4
  · show OwnStrs w.heap.size _ (.slice a2 tg.length c2) tg
    refine OwnStrs.mono (base := w.heap.size + 2) ?_ (by omega)
    iterate 6 refine OwnStrs.far ?_ (Nat.lt_succ_self _) _
    exact n4
  · iterate 6 refine below_set ?_ (Nat.le_succ _) _
    exact B

/-- The chapter's receipt. -/
def oneR : Rcpt := ⟨⟨0, 1, 1⟩, 2, [⟨1, [100, 0]⟩], [[100, 1, 7]]⟩
set_option maxRecDepth 20000 in
set_option maxHeartbeats 4000000 in
theorem one26_calls (w : World) :
    Calls Try.prog 34 #[] w fun e w' => ∃ am cm at_ ct, e = .returned (rcptV ⟨0, 1, 1⟩ 2 am 1 cm at_ 1 ct) ∧ RcptAt oneR am 1 cm at_ 1 ct w' ∧ Below w.heap.size w w' := by
  go_enter Try.func34, Try.ntmps34
  go_wp2
  refine bodyPost_ret (v := rcptV ⟨0, 1, 1⟩ 2 (some ⟨w.heap.size + 1, 0, none⟩) 1 1 (some ⟨w.heap.size + 2, 0, none⟩) 1 1) (by simp [results, Try.results34, go_sem, rcptV]) rfl ⟨_, _, _, _, rfl, ?_, ?_⟩
  · refine ⟨rfl, rfl, by decide, by decide, by decide, by decide, ?_, ?_⟩
    · intro i hi
      have : i = 0 := by simp [oneR] at hi; omega
      subst this
      exact ⟨_, _, rfl, by simp [go_sem, oneR], by simp [go_sem, oneR, ofL]⟩
    · intro i hi
      have : i = 0 := by simp [oneR] at hi; omega
      subst this
      exact ⟨_, _, rfl, by simp [go_sem, oneR, ofL]⟩
  · exact (((Below.refl w.heap.size w).alloc (Nat.le_refl _) _).alloc (by simp) _).alloc (by simp; omega) _
end Go.Proofs.Ytegkolepemcocaa
