import Derived.Test.YtohblakhojhklaaWlong
import Derived.Test.YtohblakhojhklaaWwdecd
import Derived.Test.YtohblakhojhklaaWwencc
/- The walks of the law's long and own over messages, and of the reference's Same. -/
namespace Go.Proofs.Ytohblakhojhklaa
open Go.RowKit Go.Maps Sp

def longM (m : Msg) : Bool := longMems m.mems || decide (20000 < m.body.length) || decide (20000 < m.tag.length)

set_option maxRecDepth 20000 in
set_option maxHeartbeats 2000000 in
theorem long12m_calls (m : Msg) (am : Option Addr) (nm cm : Nat) (w : World) (h : MsgAt m am nm cm w) :
    Calls Try.prog 5 #[msgV m am nm cm] w fun e w' => e = .returned (.bool (longM m)) ∧ Below w.heap.size w w' := by
  obtain ⟨k, ⟨c, e, s⟩, aud, l, body, yes, tag⟩ := m
  have hB0 := (Below.refl w.heap.size w).alloc (Nat.le_refl _) (.cells #[.int .u8 k, .int .i64 c, .int .i64 e, .int .i64 s, .int .i64 aud, .slice am nm cm, .string (ofL body), .bool yes, .string (ofL tag)] 26)
  have HB0 := hid hB0
  have Hbk := hid (BlkAt.new w #[.int .u8 k, .int .i64 c, .int .i64 e, .int .i64 s, .int .i64 aud, .slice am nm cm, .string (ofL body), .bool yes, .string (ofL tag)] 26)
  have hl := long12_calls am nm cm l h.nm h.lm h.dm _ (h.mems.below hB0)
  have lb : body.length ≤ 10000000 := h.lb
  have lt : tag.length ≤ 10000000 := h.lt
  simp only [msgV]
  obtain ⟨D, hD⟩ : ∃ D, longM ⟨k, ⟨c, e, s⟩, aud, l, body, yes, tag⟩ = D := ⟨_, rfl⟩
  rw [hD]
  unfold longM at hD
  simp only at hD
  have HD := hid hD
  cases hlm : longMems l with
  | true =>
    have HF : Kp (D = true) := hid (by rw [← HD.out, hlm]; rfl)
    rw [hlm] at hl
    have Hl := hid hl
    clear hl hlm h hB0 hD HD
    go_enter Try.func5, Try.ntmps5
    go_wp2_with fail
    refine Hl.out.mono ?_
    rintro e1 w1 ⟨rfl, hb⟩
    have Hb := hid (below_then HB0.out HB0.out.size hb)
    clear hb
    go_wp2
    go_ret
    exact ⟨by rw [HF.out]; rfl, Hb.out⟩
  | false =>
    rw [hlm] at hl
    have Hl := hid hl
    have HD2 : Kp ((decide (20000 < body.length) || decide (20000 < tag.length)) = D) := hid (by rw [← HD.out, hlm]; rfl)
    clear hl hlm h hB0 hD HD
    by_cases h1 : 20000 < body.length
    · have h1' : (20000 : Int) < body.length := by omega
      have HF : Kp (D = true) := hid (by rw [← HD2.out]; simp [h1])
      go_enter Try.func5, Try.ntmps5
      go_wp2_with fail
      refine Hl.out.mono ?_
      rintro e1 w1 ⟨rfl, hb⟩
      have c6 := (Hbk.out.below hb).val 6 rfl
      have Hb := hid (below_then HB0.out HB0.out.size hb)
      clear hb
      go_wp2
      go_ret
      exact ⟨by rw [HF.out]; rfl, Hb.out⟩
    have h1' : ¬ (20000 : Int) < body.length := by omega
    have HF : Kp (decide (20000 < tag.length) = D) := hid (by rw [← HD2.out]; simp [h1])
    by_cases h2 : 20000 < tag.length
    · have h2' : (20000 : Int) < tag.length := by omega
      have HF2 : Kp (D = true) := hid (by rw [← HF.out]; simp [h2])
      go_enter Try.func5, Try.ntmps5
      go_wp2_with fail
      refine Hl.out.mono ?_
      rintro e1 w1 ⟨rfl, hb⟩
      have hk := Hbk.out.below hb
      have c6 := hk.val 6 rfl
      have c8 := hk.val 8 rfl
      have Hb := hid (below_then HB0.out HB0.out.size hb)
      clear hb hk
      go_wp2
      go_ret
      exact ⟨by rw [HF2.out]; rfl, Hb.out⟩
    have h2' : ¬ (20000 : Int) < tag.length := by omega
    have HF2 : Kp (D = false) := hid (by rw [← HF.out]; simp [h2])
    go_enter Try.func5, Try.ntmps5
    go_wp2_with fail
    refine Hl.out.mono ?_
    rintro e1 w1 ⟨rfl, hb⟩
    have hk := Hbk.out.below hb
    have c6 := hk.val 6 rfl
    have c8 := hk.val 8 rfl
    have Hb := hid (below_then HB0.out HB0.out.size hb)
    clear hb hk
    go_wp2
    go_ret
    refine ⟨?_, Hb.out⟩
    show Ending.returned (.bool (decide ((20000 : Int) < body.length) || decide ((20000 : Int) < tag.length))) = _
    rw [HF2.out, decide_eq_false (by omega), decide_eq_false (by omega)]
    rfl

set_option maxRecDepth 20000 in
set_option maxHeartbeats 4000000 in
theorem sameM_calls (m n : Msg) (am : Option Addr) (nm cm : Nat) (bm : Option Addr) (mm dm : Nat) (w : World) (h : MsgAt m am nm cm w) (h' : MsgAt n bm mm dm w) :
    Calls Try.prog 10 #[msgV m am nm cm, msgV n bm mm dm] w fun e w' => e = .returned (.bool (decide (m = n))) ∧ Below w.heap.size w w' := by
  obtain ⟨k, t1, aud, l, body, yes, tag⟩ := m
  obtain ⟨k', t2, aud', l', body', yes', tag'⟩ := n
  have heq := fun W => eqlTxn t1 t2 W
  have hB0 := ((Below.refl w.heap.size w).alloc (Nat.le_refl _) (.cells #[.int .u8 k, .int .i64 t1.c, .int .i64 t1.e, .int .i64 t1.s, .int .i64 aud, .slice am nm cm, .string (ofL body), .bool yes, .string (ofL tag)] 26)).alloc (by simp) (.cells #[.int .u8 k', .int .i64 t2.c, .int .i64 t2.e, .int .i64 t2.s, .int .i64 aud', .slice bm mm dm, .string (ofL body'), .bool yes', .string (ofL tag')] 26)
  have hsm := sameMems_calls am bm nm mm cm dm l l' h.nm h'.nm h.lm h'.lm _ (h.mems.below hB0) (h'.mems.below hB0)
  have hbk1 := (BlkAt.new w #[.int .u8 k, .int .i64 t1.c, .int .i64 t1.e, .int .i64 t1.s, .int .i64 aud, .slice am nm cm, .string (ofL body), .bool yes, .string (ofL tag)] 26).alloc (.cells #[.int .u8 k', .int .i64 t2.c, .int .i64 t2.e, .int .i64 t2.s, .int .i64 aud', .slice bm mm dm, .string (ofL body'), .bool yes', .string (ofL tag')] 26)
  have hbk2 := BlkAt.new2 w (.cells #[.int .u8 k, .int .i64 t1.c, .int .i64 t1.e, .int .i64 t1.s, .int .i64 aud, .slice am nm cm, .string (ofL body), .bool yes, .string (ofL tag)] 26) #[.int .u8 k', .int .i64 t2.c, .int .i64 t2.e, .int .i64 t2.s, .int .i64 aud', .slice bm mm dm, .string (ofL body'), .bool yes', .string (ofL tag')] 26
  have HB0 := hid hB0
  have Hsm := hid hsm
  have Hb1 := hid hbk1
  have Hb2 := hid hbk2
  simp only [msgV]
  obtain ⟨D, hD⟩ : ∃ D, decide ((⟨k, t1, aud, l, body, yes, tag⟩ : Msg) = ⟨k', t2, aud', l', body', yes', tag'⟩) = D := ⟨_, rfl⟩
  have hDD : ((k : Int) == (k' : Int) && decide (t1 = t2) && (aud == aud') && decide (l = l') && (body == body') && (yes == yes') && (tag == tag')) = D := by
    rw [← hD, Bool.eq_iff_iff]; simp [and_assoc]; intros; omega
  rw [hD]
  have HD := hid hDD
  clear h h' hB0 hsm hbk1 hbk2 hD hDD
  cases h1 : ((k : Int) == (k' : Int)) with
  | false =>
    have HF : Kp (D = false) := hid (by rw [← HD.out, h1]; rfl)
    clear HD heq
    go_enter Try.func10, Try.ntmps10
    go_wp2
    go_ret
    exact ⟨by rw [HF.out]; rfl, HB0.out⟩
  | true =>
  cases h2 : decide (t1 = t2) with
  | false =>
    have HF : Kp (D = false) := hid (by rw [← HD.out, h1, h2]; rfl)
    rw [h2] at heq
    clear HD h2
    go_enter Try.func10, Try.ntmps10
    go_wp2
    go_ret
    exact ⟨by rw [HF.out]; rfl, HB0.out⟩
  | true =>
  rw [h2] at heq
  cases h3 : (aud == aud') with
  | false =>
    have HF : Kp (D = false) := hid (by rw [← HD.out, h1, h2, h3]; rfl)
    clear HD h2
    go_enter Try.func10, Try.ntmps10
    go_wp2
    go_ret
    exact ⟨by rw [HF.out]; rfl, HB0.out⟩
  | true =>
  cases h4 : decide (l = l') with
  | false =>
    have HF : Kp (D = false) := hid (by rw [← HD.out, h1, h2, h3, h4]; rfl)
    have hs := Hsm.out
    rw [h4] at hs
    have Hs := hid hs
    clear HD h2 hs h4 Hsm
    go_enter Try.func10, Try.ntmps10
    go_wp2_with fail
    refine Hs.out.mono ?_
    rintro e1 w1 ⟨rfl, hb⟩
    have Hb := hid (below_then HB0.out HB0.out.size hb)
    clear hb
    go_wp2
    go_ret
    exact ⟨by rw [HF.out]; rfl, Hb.out⟩
  | true =>
    have HE : Kp (((body == body') && (yes == yes') && (tag == tag')) = D) := hid (by rw [← HD.out, h1, h2, h3, h4]; rfl)
    have hs := Hsm.out
    rw [h4] at hs
    have Hs := hid hs
    clear HD h2 hs h4 Hsm
    go_enter Try.func10, Try.ntmps10
    go_wp2_with fail
    refine Hs.out.mono ?_
    rintro e1 w1 ⟨rfl, hb⟩
    have k1 := Hb1.out.below hb
    have k2 := Hb2.out.below hb
    have c6 := k1.val 6 rfl
    have c7 := k1.val 7 rfl
    have c8 := k1.val 8 rfl
    have d6 := k2.val 6 rfl
    have d7 := k2.val 7 rfl
    have d8 := k2.val 8 rfl
    have Hb := hid (below_then HB0.out HB0.out.size hb)
    clear hb k1 k2 Hb1 Hb2 heq
    rcases h5 : (body == body') with _ | _ <;> rcases h6 : (yes == yes') with _ | _ <;> rcases h7 : (tag == tag') with _ | _
    all_goals
      have HG := HE.out
      rw [h5, h6, h7] at HG
      have HF := hid HG
      clear HE HG
      go_wp2
      go_ret
      exact ⟨by rw [← HF.out]; rfl, Hb.out⟩

/-- What own owes. -/
def OwnMPost (m : Msg) (w : World) (e : Ending) (w' : World) : Prop := ∃ am cm, e = .returned (msgV m am m.mems.length cm) ∧ OwnMems w.heap.size w' (.slice am m.mems.length cm) m.mems ∧ Below w.heap.size w w'

set_option maxRecDepth 20000 in
set_option maxHeartbeats 4000000 in
theorem own12_calls (m : Msg) (am : Option Addr) (nm cm : Nat) (w : World) (h : MsgAt m am nm cm w) (hr : am = none → cm = 0) :
    Calls Try.prog 11 #[msgV m am nm cm] w fun e w' => OwnMPost m w e w' := by
  obtain ⟨i0, hi0, hz0, hz1, hz2⟩ := info_parts info_member
  obtain ⟨k, ⟨c, e, s⟩, aud, l, body, yes, tag⟩ := m
  have hnm := h.nm
  have hlm := h.lm
  simp only at hnm hlm
  subst hnm
  have H := hid h
  have hB0 := ((Below.refl w.heap.size w).alloc (Nat.le_refl _) (.cells #[.int .u8 k, .int .i64 c, .int .i64 e, .int .i64 s, .int .i64 aud, .slice am l.length cm, .string (ofL body), .bool yes, .string (ofL tag)] 26)).alloc (by simp) (.cells zeroMB 26)
  have HB0 := hid hB0
  have Hbk := hid ((BlkAt.new w #[.int .u8 k, .int .i64 c, .int .i64 e, .int .i64 s, .int .i64 aud, .slice am l.length cm, .string (ofL body), .bool yes, .string (ofL tag)] 26).alloc (.cells zeroMB 26))
  have Hbz := hid (BlkAt.new2 w (.cells #[.int .u8 k, .int .i64 c, .int .i64 e, .int .i64 s, .int .i64 aud, .slice am l.length cm, .string (ofL body), .bool yes, .string (ofL tag)] 26) zeroMB 26)
  simp only [msgV]
  have HM := hid (h.mems.below hB0)
  have hmz : ∀ ad, am = some ad → ∀ j u, (memCells l)[j]? = some u → ((w.alloc (.cells #[.int .u8 k, .int .i64 c, .int .i64 e, .int .i64 s, .int .i64 aud, .slice am l.length cm, .string (ofL body), .bool yes, .string (ofL tag)] 26)).alloc (.cells zeroMB 26)).cell? (ad.add j) = some u := fun ad e => memsAt_news (by rw [← e]; exact HM.out)
  have Hmz := hid hmz
  have hm0 : am = none → l.length = 0 ∧ cm = 0 := fun e => ⟨by have := h.mems; rw [e] at this; have e0 : l = [] := memsAt_none this; rw [e0]; rfl, hr e⟩
  have Hm0 := hid hm0
  clear h hr hB0 hmz hm0
  go_enter Try.func11, Try.ntmps11
  go_wp2_with (first
    | (at_builtin; refine wpList_append_src _ (by rfl) _ _ 24 (by rfl) (w.heap.size + 2) 76 i0 _ 2 24 Try.underlying24 hi0 hz0 hz1 hz2 rfl (by omega) (by rfl) am l.length cm (memCells l) (by rfl) Hm0.out (memCells_length l) Hmz.out (memCells_one l) (by unfold maxLen; omega) (by omega) (by simp) ?_; intro a1 c1 w1 hown1 hgrow1 _; have k1 := Hbk.out.grown hgrow1 (by simp); have z1 := Hbz.out.grown hgrow1 (by simp); have b1 := HB0.out.grown hgrow1 HB0.out.size (fun j hj => by cases hj); have c5 := k1.val 5 rfl; have f5 := k1.frozen 5; have K2 := hid (k1.set 5 (.slice a1 l.length c1)); have Z2 := hid (z1.far (a := ⟨w.heap.size, 5, none⟩) (Nat.succ_ne_self _) (.slice a1 l.length c1)); have B2 := hid (below_set (i := 5) b1 (Nat.le_refl _) (.slice a1 l.length c1)); have Hown1 := hid (show OwnMems (w.heap.size + 2) w1 (.slice a1 l.length c1) l from hown1); clear hown1 hgrow1 k1 z1 b1; have x0 := K2.out.val 0 rfl; have y0 := Z2.out.val 0 rfl; have u0 := Z2.out.frozen 0; have x1 := K2.out.val 1 rfl; have y1 := Z2.out.val 1 rfl; have u1 := Z2.out.frozen 1; have x2 := K2.out.val 2 rfl; have y2 := Z2.out.val 2 rfl; have u2 := Z2.out.frozen 2; have x3 := K2.out.val 3 rfl; have y3 := Z2.out.val 3 rfl; have u3 := Z2.out.frozen 3; have x4 := K2.out.val 4 rfl; have y4 := Z2.out.val 4 rfl; have u4 := Z2.out.frozen 4; have x5 := K2.out.val 5 rfl; have y5 := Z2.out.val 5 rfl; have u5 := Z2.out.frozen 5; have x6 := K2.out.val 6 rfl; have y6 := Z2.out.val 6 rfl; have u6 := Z2.out.frozen 6; have x7 := K2.out.val 7 rfl; have y7 := Z2.out.val 7 rfl; have u7 := Z2.out.frozen 7; have x8 := K2.out.val 8 rfl; have y8 := Z2.out.val 8 rfl; have u8 := Z2.out.frozen 8)
    | fail)
  have hm2 := hid (Hown1.out.far (a := ⟨w.heap.size, 5, none⟩) (show w.heap.size < w.heap.size + 2 by omega) (.slice a1 l.length c1))
  refine bodyPost_ret (v := .agg #[.int .u8 k, .int .i64 c, .int .i64 e, .int .i64 s, .int .i64 aud, .slice a1 l.length c1, .string (ofL body), .bool yes, .string (ofL tag)]) (by simp [results, Try.results11, go_sem, y0, y1, y2, y3, y4, y5, y6, y7, y8]) rfl ⟨a1, c1, rfl, ?_, below_far9 B2.out (Nat.le_succ _)⟩
  exact (ownMems_lt9 hm2.out (Nat.lt_succ_self _)).mono (by omega)
end Go.Proofs.Ytohblakhojhklaa
