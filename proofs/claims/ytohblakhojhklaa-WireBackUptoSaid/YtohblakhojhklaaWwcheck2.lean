import Derived.Test.YtohblakhojhklaaWwcheck
/- The walks of wire.Check at each kind (printed by gen_check.py). -/
namespace Go.Proofs.Ytohblakhojhklaa
open Go.RowKit Go.Maps Sp

set_option maxRecDepth 20000 in
set_option maxHeartbeats 8000000 in
theorem wcheck_1 (c e s aud : Int) (l : List Mem) (body tag : Bs) (yes : Bool) (am : Option Addr) (nm cm : Nat) (w : World) (h : MsgAt ⟨1, ⟨c, e, s⟩, aud, l, body, yes, tag⟩ am nm cm w) (I T Y : Bool)
    (hI : idleM ⟨1, ⟨c, e, s⟩, aud, l, body, yes, tag⟩ = I) (hT : mayTxn ⟨c, e, s⟩ = T) (hY : mayK 1 ⟨1, ⟨c, e, s⟩, aud, l, body, yes, tag⟩ = Y) :
    Calls Try.prog 9 #[msgV ⟨1, ⟨c, e, s⟩, aud, l, body, yes, tag⟩ am nm cm] w fun e w' => e = .returned (.int .i64 (if I && (T) && Y then 0 else 2)) ∧ Below w.heap.size w w' := by
  have HB := hid ((Below.refl w.heap.size w).alloc (Nat.le_refl _) (.cells #[.int .u8 1, .int .i64 c, .int .i64 e, .int .i64 s, .int .i64 aud, .slice am nm cm, .string (ofL body), .bool yes, .string (ofL tag)] 26))
  have hbk := BlkAt.new w #[.int .u8 1, .int .i64 c, .int .i64 e, .int .i64 s, .int .i64 aud, .slice am nm cm, .string (ofL body), .bool yes, .string (ofL tag)] 26
  have Hbk := hid hbk
  have c0 := hbk.val 0 rfl
  have Hmsg := hid (fun W (hb : Below w.heap.size w W) => h.below hb)
  have Hid := hid (fun W (hm : MsgAt ⟨1, ⟨c, e, s⟩, aud, l, body, yes, tag⟩ am nm cm W) => by
    have := idle_calls ⟨1, ⟨c, e, s⟩, aud, l, body, yes, tag⟩ am nm cm W hm
    rw [hI] at this
    exact this)
  have Htx := hid (fun W => by
    have := mayTxn_calls ⟨c, e, s⟩ W
    rw [hT] at this
    exact this)
  have Hmy := hid (fun W (hm : MsgAt ⟨1, ⟨c, e, s⟩, aud, l, body, yes, tag⟩ am nm cm W) => by
    have := may1_calls ⟨1, ⟨c, e, s⟩, aud, l, body, yes, tag⟩ am nm cm W hm
    rw [hY] at this
    exact this)
  clear hbk h hI hT hY
  simp only [msgV, txnV] at Hid Htx Hmy ⊢
  have Hlk : Kp (∀ (W : World) (b n : Nat), W.ownsMap Try.prog 5 kR b n kD → (Instr.lookup 65 (.map (some b)) (.int .u8 1) true).run Try.prog W = .ok (.tuple #[.agg #[.string (ofL (wordK 1)), .int .i64 3, .int .i64 3, .func (.func 54) #[] #[], .func (.func 57) #[] #[], .func (.func 60) #[] #[]], .bool true]) W) := hid (fun W b n ho => (kinds_look (k := 1) (by omega) ho).1)
  go_enter Try.func9, Try.ntmps9
  go_wp2_with fail
  have hne1 : w.heap.size + 1 ≠ w.heap.size := by omega
  go_region_held2 (fun w' => w'.cell? ⟨w.heap.size, 0, none⟩ = some (.int .u8 1))
    ((go_split_ands; (with_reducible (repeat (first | refine cell_setF (by assumption) ?_))) <;> (with_reducible first | assumption | exact cell_alloc_of _ (by assumption) | skip) <;> with_reducible first | exact c0 | exact cell_alloc_of _ c0 | exact cell_alloc_drew _ c0 | exact cell_drew c0))
    (first
      | (go_at_call 27; (go_split_ands; refine (kinds_calls _).mono ?_; rintro e9 wn ⟨bm, rfl, hown, -, -, hbn⟩; have hl1 := Hlk.out _ _ _ hown; have hl2 := Hlk.out _ _ _ hown.drew; have hl3 := Hlk.out _ _ _ (hown.kept (World.grownBy_alloc wn (.cells #[.string ⟨#[]⟩, .int .i64 0, .int .i64 0, .nilFunc, .nilFunc, .nilFunc] 64) none) (by simp)); have hl4 := Hlk.out _ _ _ (hown.drew.kept (World.grownBy_alloc wn.drew (.cells #[.string ⟨#[]⟩, .int .i64 0, .int .i64 0, .nilFunc, .nilFunc, .nilFunc] 64) none) (by simp)); have hk0 : Below (w.alloc (.cells #[.int .u8 1, .int .i64 c, .int .i64 e, .int .i64 s, .int .i64 aud, .slice am nm cm, .string (ofL body), .bool yes, .string (ofL tag)] 26)).heap.size (w.alloc (.cells #[.int .u8 1, .int .i64 c, .int .i64 e, .int .i64 s, .int .i64 aud, .slice am nm cm, .string (ofL body), .bool yes, .string (ofL tag)] 26)) wn := (by first | exact hbn | exact btd hbn | exact bt1 (Below.refl _ _) hbn | exact bt0 (((Below.refl _ _).alloc (Nat.le_refl _) _).drew) hbn); have hbk := Hbk.out.below hk0; have u0 := hbk.val 0 rfl; clear hbk; first | (have hbz : BlkAt wn (w.heap.size + 1) #[.string ⟨#[]⟩, .int .i64 0, .int .i64 0, .nilFunc, .nilFunc, .nilFunc] 64 := (BlkAt.new2 w (.cells #[.int .u8 1, .int .i64 c, .int .i64 e, .int .i64 s, .int .i64 aud, .slice am nm cm, .string (ofL body), .bool yes, .string (ofL tag)] 26) _ _).drew.below hbn; have z0 := hbz.val 0 rfl; have z1 := hbz.val 1 rfl; have z2 := hbz.val 2 rfl; have z3 := hbz.val 3 rfl; have z4 := hbz.val 4 rfl; have z5 := hbz.val 5 rfl; have g0 := hbz.frozen 0; have g1 := hbz.frozen 1; have g2 := hbz.frozen 2; have g3 := hbz.frozen 3; have g4 := hbz.frozen 4; have g5 := hbz.frozen 5) | skip)))
  all_goals
    go_split_ands
    refine gen3 (fun b W => BlkAt W b #[.string (ofL (wordK 1)), .int .i64 3, .int .i64 3, .func (.func 54) #[] #[], .func (.func 57) #[] #[], .func (.func 60) #[] #[]] 64 ∧ Below (w.alloc (.cells #[.int .u8 1, .int .i64 c, .int .i64 e, .int .i64 s, .int .i64 aud, .slice am nm cm, .string (ofL body), .bool yes, .string (ofL tag)] 26)).heap.size (w.alloc (.cells #[.int .u8 1, .int .i64 c, .int .i64 e, .int .i64 s, .int .i64 aud, .slice am nm cm, .string (ofL body), .bool yes, .string (ofL tag)] 26)) W) (by first | exact ⟨(((((hbz.set 0 _).set 1 _).set 2 _).set 3 _).set 4 _).set 5 _, below_set (below_set (below_set (below_set (below_set (below_set hk0 (by simp) _) (by simp) _) (by simp) _) (by simp) _) (by simp) _) (by simp) _⟩ | with_reducible exact ⟨BlkAt.new _ _ _, hk0.alloc hk0.size _⟩ | with_reducible exact ⟨BlkAt.new _ _ _, hk0.drew.alloc hk0.size _⟩) ?_
  all_goals
    rintro W9 ⟨hz9, hb9⟩
    have HB9 := hid (below_then HB.out HB.out.size hb9)
    have HBK := hid (Hbk.out.below hb9)
    have HZ9 := hid hz9
    have HM9 := hid (Hmsg.out _ HB9.out)
    with_reducible (try (rename World.cell? (World.setCell _ _ _) _ = _ => hheld; clear hheld))
    clear hz9 hb9 hk0 hbn u0 hl1 hl2 Hbk c0 hne1 Hlk HB
    (try clear hl3 hl4 hown)
    (try clear hbz z0 z1 z2 z3 z4 z5 g0 g1 g2 g3 g4 g5)
    have c0 := HBK.out.val 0 rfl
    have c1 := HBK.out.val 1 rfl
    have c2 := HBK.out.val 2 rfl
    have c3 := HBK.out.val 3 rfl
    have c4 := HBK.out.val 4 rfl
    have c5 := HBK.out.val 5 rfl
    have c6 := HBK.out.val 6 rfl
    have c7 := HBK.out.val 7 rfl
    have c8 := HBK.out.val 8 rfl
    rcases I with _ | _
    case' false =>
      go_wp2_with fail
      refine (Hid.out _ HM9.out).mono ?_
      rintro e10 w10 ⟨rfl, hb10⟩
      have HB10 := hid (below_then HB9.out HB9.out.size hb10)
      clear hb10
      go_wp2
      go_ret
      exact ⟨rfl, HB10.out⟩
    go_wp2_with fail
    refine (Hid.out _ HM9.out).mono ?_
    rintro e10 w10 ⟨rfl, hb10⟩
    have HB10 := hid (below_then HB9.out HB9.out.size hb10)
    have HBK10 := hid (HBK.out.below hb10)
    have HZ10 := hid (HZ9.out.below hb10)
    have HM10 := hid (HM9.out.below hb10)
    clear hb10 c0 c1 c2 c3 c4 c5 c6 c7 c8 HBK HZ9 HM9 HB9
    have c0 := HBK10.out.val 0 rfl
    have c1 := HBK10.out.val 1 rfl
    have c2 := HBK10.out.val 2 rfl
    have c3 := HBK10.out.val 3 rfl
    have c4 := HBK10.out.val 4 rfl
    have c5 := HBK10.out.val 5 rfl
    have c6 := HBK10.out.val 6 rfl
    have c7 := HBK10.out.val 7 rfl
    have c8 := HBK10.out.val 8 rfl
    rcases T with _ | _
    case' false =>
      go_wp2_with fail
      refine (Htx.out _).mono ?_
      rintro e11 w11 ⟨rfl, hb11⟩
      have HB11 := hid (below_then HB10.out HB10.out.size hb11)
      clear hb11
      go_wp2
      go_ret
      exact ⟨rfl, HB11.out⟩
    go_wp2_with fail
    refine (Htx.out _).mono ?_
    rintro e11 w11 ⟨rfl, hb11⟩
    have HB11 := hid (below_then HB10.out HB10.out.size hb11)
    have HBK11 := hid (HBK10.out.below hb11)
    have HZ11 := hid (HZ10.out.below hb11)
    have HM11 := hid (HM10.out.below hb11)
    clear hb11 c0 c1 c2 c3 c4 c5 c6 c7 c8 HBK10 HZ10 HM10 HB10
    have c0 := HBK11.out.val 0 rfl
    have c1 := HBK11.out.val 1 rfl
    have c2 := HBK11.out.val 2 rfl
    have c3 := HBK11.out.val 3 rfl
    have c4 := HBK11.out.val 4 rfl
    have c5 := HBK11.out.val 5 rfl
    have c6 := HBK11.out.val 6 rfl
    have c7 := HBK11.out.val 7 rfl
    have c8 := HBK11.out.val 8 rfl
    have z3 := HZ11.out.val 3 rfl
    go_wp2_with fail
    refine (Hmy.out _ HM11.out).mono ?_
    rintro e12 w12 ⟨rfl, hb12⟩
    have HB12 := hid (below_then HB11.out HB11.out.size hb12)
    clear hb12
    rcases Y with _ | _
    all_goals
      go_wp2
      go_ret
      exact ⟨rfl, HB12.out⟩

set_option maxRecDepth 20000 in
set_option maxHeartbeats 8000000 in
theorem wcheck_2 (c e s aud : Int) (l : List Mem) (body tag : Bs) (yes : Bool) (am : Option Addr) (nm cm : Nat) (w : World) (h : MsgAt ⟨2, ⟨c, e, s⟩, aud, l, body, yes, tag⟩ am nm cm w) (I T Y : Bool)
    (hI : idleM ⟨2, ⟨c, e, s⟩, aud, l, body, yes, tag⟩ = I) (hT : mayTxn ⟨c, e, s⟩ = T) (hY : mayK 2 ⟨2, ⟨c, e, s⟩, aud, l, body, yes, tag⟩ = Y) :
    Calls Try.prog 9 #[msgV ⟨2, ⟨c, e, s⟩, aud, l, body, yes, tag⟩ am nm cm] w fun e w' => e = .returned (.int .i64 (if I && (T) && Y then 0 else 2)) ∧ Below w.heap.size w w' := by
  have HB := hid ((Below.refl w.heap.size w).alloc (Nat.le_refl _) (.cells #[.int .u8 2, .int .i64 c, .int .i64 e, .int .i64 s, .int .i64 aud, .slice am nm cm, .string (ofL body), .bool yes, .string (ofL tag)] 26))
  have hbk := BlkAt.new w #[.int .u8 2, .int .i64 c, .int .i64 e, .int .i64 s, .int .i64 aud, .slice am nm cm, .string (ofL body), .bool yes, .string (ofL tag)] 26
  have Hbk := hid hbk
  have c0 := hbk.val 0 rfl
  have Hmsg := hid (fun W (hb : Below w.heap.size w W) => h.below hb)
  have Hid := hid (fun W (hm : MsgAt ⟨2, ⟨c, e, s⟩, aud, l, body, yes, tag⟩ am nm cm W) => by
    have := idle_calls ⟨2, ⟨c, e, s⟩, aud, l, body, yes, tag⟩ am nm cm W hm
    rw [hI] at this
    exact this)
  have Htx := hid (fun W => by
    have := mayTxn_calls ⟨c, e, s⟩ W
    rw [hT] at this
    exact this)
  have Hmy := hid (fun W (hm : MsgAt ⟨2, ⟨c, e, s⟩, aud, l, body, yes, tag⟩ am nm cm W) => by
    have := may2_calls ⟨2, ⟨c, e, s⟩, aud, l, body, yes, tag⟩ am nm cm W hm
    rw [hY] at this
    exact this)
  clear hbk h hI hT hY
  simp only [msgV, txnV] at Hid Htx Hmy ⊢
  have Hlk : Kp (∀ (W : World) (b n : Nat), W.ownsMap Try.prog 5 kR b n kD → (Instr.lookup 65 (.map (some b)) (.int .u8 2) true).run Try.prog W = .ok (.tuple #[.agg #[.string (ofL (wordK 2)), .int .i64 1, .int .i64 2, .func (.func 63) #[] #[], .func (.func 64) #[] #[], .func (.func 66) #[] #[]], .bool true]) W) := hid (fun W b n ho => (kinds_look (k := 2) (by omega) ho).1)
  go_enter Try.func9, Try.ntmps9
  go_wp2_with fail
  have hne1 : w.heap.size + 1 ≠ w.heap.size := by omega
  go_region_held2 (fun w' => w'.cell? ⟨w.heap.size, 0, none⟩ = some (.int .u8 2))
    ((go_split_ands; (with_reducible (repeat (first | refine cell_setF (by assumption) ?_))) <;> (with_reducible first | assumption | exact cell_alloc_of _ (by assumption) | skip) <;> with_reducible first | exact c0 | exact cell_alloc_of _ c0 | exact cell_alloc_drew _ c0 | exact cell_drew c0))
    (first
      | (go_at_call 27; (go_split_ands; refine (kinds_calls _).mono ?_; rintro e9 wn ⟨bm, rfl, hown, -, -, hbn⟩; have hl1 := Hlk.out _ _ _ hown; have hl2 := Hlk.out _ _ _ hown.drew; have hl3 := Hlk.out _ _ _ (hown.kept (World.grownBy_alloc wn (.cells #[.string ⟨#[]⟩, .int .i64 0, .int .i64 0, .nilFunc, .nilFunc, .nilFunc] 64) none) (by simp)); have hl4 := Hlk.out _ _ _ (hown.drew.kept (World.grownBy_alloc wn.drew (.cells #[.string ⟨#[]⟩, .int .i64 0, .int .i64 0, .nilFunc, .nilFunc, .nilFunc] 64) none) (by simp)); have hk0 : Below (w.alloc (.cells #[.int .u8 2, .int .i64 c, .int .i64 e, .int .i64 s, .int .i64 aud, .slice am nm cm, .string (ofL body), .bool yes, .string (ofL tag)] 26)).heap.size (w.alloc (.cells #[.int .u8 2, .int .i64 c, .int .i64 e, .int .i64 s, .int .i64 aud, .slice am nm cm, .string (ofL body), .bool yes, .string (ofL tag)] 26)) wn := (by first | exact hbn | exact btd hbn | exact bt1 (Below.refl _ _) hbn | exact bt0 (((Below.refl _ _).alloc (Nat.le_refl _) _).drew) hbn); have hbk := Hbk.out.below hk0; have u0 := hbk.val 0 rfl; clear hbk; first | (have hbz : BlkAt wn (w.heap.size + 1) #[.string ⟨#[]⟩, .int .i64 0, .int .i64 0, .nilFunc, .nilFunc, .nilFunc] 64 := (BlkAt.new2 w (.cells #[.int .u8 2, .int .i64 c, .int .i64 e, .int .i64 s, .int .i64 aud, .slice am nm cm, .string (ofL body), .bool yes, .string (ofL tag)] 26) _ _).drew.below hbn; have z0 := hbz.val 0 rfl; have z1 := hbz.val 1 rfl; have z2 := hbz.val 2 rfl; have z3 := hbz.val 3 rfl; have z4 := hbz.val 4 rfl; have z5 := hbz.val 5 rfl; have g0 := hbz.frozen 0; have g1 := hbz.frozen 1; have g2 := hbz.frozen 2; have g3 := hbz.frozen 3; have g4 := hbz.frozen 4; have g5 := hbz.frozen 5) | skip)))
  all_goals
    go_split_ands
    refine gen3 (fun b W => BlkAt W b #[.string (ofL (wordK 2)), .int .i64 1, .int .i64 2, .func (.func 63) #[] #[], .func (.func 64) #[] #[], .func (.func 66) #[] #[]] 64 ∧ Below (w.alloc (.cells #[.int .u8 2, .int .i64 c, .int .i64 e, .int .i64 s, .int .i64 aud, .slice am nm cm, .string (ofL body), .bool yes, .string (ofL tag)] 26)).heap.size (w.alloc (.cells #[.int .u8 2, .int .i64 c, .int .i64 e, .int .i64 s, .int .i64 aud, .slice am nm cm, .string (ofL body), .bool yes, .string (ofL tag)] 26)) W) (by first | exact ⟨(((((hbz.set 0 _).set 1 _).set 2 _).set 3 _).set 4 _).set 5 _, below_set (below_set (below_set (below_set (below_set (below_set hk0 (by simp) _) (by simp) _) (by simp) _) (by simp) _) (by simp) _) (by simp) _⟩ | with_reducible exact ⟨BlkAt.new _ _ _, hk0.alloc hk0.size _⟩ | with_reducible exact ⟨BlkAt.new _ _ _, hk0.drew.alloc hk0.size _⟩) ?_
  all_goals
    rintro W9 ⟨hz9, hb9⟩
    have HB9 := hid (below_then HB.out HB.out.size hb9)
    have HBK := hid (Hbk.out.below hb9)
    have HZ9 := hid hz9
    have HM9 := hid (Hmsg.out _ HB9.out)
    with_reducible (try (rename World.cell? (World.setCell _ _ _) _ = _ => hheld; clear hheld))
    clear hz9 hb9 hk0 hbn u0 hl1 hl2 Hbk c0 hne1 Hlk HB
    (try clear hl3 hl4 hown)
    (try clear hbz z0 z1 z2 z3 z4 z5 g0 g1 g2 g3 g4 g5)
    have c0 := HBK.out.val 0 rfl
    have c1 := HBK.out.val 1 rfl
    have c2 := HBK.out.val 2 rfl
    have c3 := HBK.out.val 3 rfl
    have c4 := HBK.out.val 4 rfl
    have c5 := HBK.out.val 5 rfl
    have c6 := HBK.out.val 6 rfl
    have c7 := HBK.out.val 7 rfl
    have c8 := HBK.out.val 8 rfl
    rcases I with _ | _
    case' false =>
      go_wp2_with fail
      refine (Hid.out _ HM9.out).mono ?_
      rintro e10 w10 ⟨rfl, hb10⟩
      have HB10 := hid (below_then HB9.out HB9.out.size hb10)
      clear hb10
      go_wp2
      go_ret
      exact ⟨rfl, HB10.out⟩
    go_wp2_with fail
    refine (Hid.out _ HM9.out).mono ?_
    rintro e10 w10 ⟨rfl, hb10⟩
    have HB10 := hid (below_then HB9.out HB9.out.size hb10)
    have HBK10 := hid (HBK.out.below hb10)
    have HZ10 := hid (HZ9.out.below hb10)
    have HM10 := hid (HM9.out.below hb10)
    clear hb10 c0 c1 c2 c3 c4 c5 c6 c7 c8 HBK HZ9 HM9 HB9
    have c0 := HBK10.out.val 0 rfl
    have c1 := HBK10.out.val 1 rfl
    have c2 := HBK10.out.val 2 rfl
    have c3 := HBK10.out.val 3 rfl
    have c4 := HBK10.out.val 4 rfl
    have c5 := HBK10.out.val 5 rfl
    have c6 := HBK10.out.val 6 rfl
    have c7 := HBK10.out.val 7 rfl
    have c8 := HBK10.out.val 8 rfl
    rcases T with _ | _
    case' false =>
      go_wp2_with fail
      refine (Htx.out _).mono ?_
      rintro e11 w11 ⟨rfl, hb11⟩
      have HB11 := hid (below_then HB10.out HB10.out.size hb11)
      clear hb11
      go_wp2
      go_ret
      exact ⟨rfl, HB11.out⟩
    go_wp2_with fail
    refine (Htx.out _).mono ?_
    rintro e11 w11 ⟨rfl, hb11⟩
    have HB11 := hid (below_then HB10.out HB10.out.size hb11)
    have HBK11 := hid (HBK10.out.below hb11)
    have HZ11 := hid (HZ10.out.below hb11)
    have HM11 := hid (HM10.out.below hb11)
    clear hb11 c0 c1 c2 c3 c4 c5 c6 c7 c8 HBK10 HZ10 HM10 HB10
    have c0 := HBK11.out.val 0 rfl
    have c1 := HBK11.out.val 1 rfl
    have c2 := HBK11.out.val 2 rfl
    have c3 := HBK11.out.val 3 rfl
    have c4 := HBK11.out.val 4 rfl
    have c5 := HBK11.out.val 5 rfl
    have c6 := HBK11.out.val 6 rfl
    have c7 := HBK11.out.val 7 rfl
    have c8 := HBK11.out.val 8 rfl
    have z3 := HZ11.out.val 3 rfl
    go_wp2_with fail
    refine (Hmy.out _ HM11.out).mono ?_
    rintro e12 w12 ⟨rfl, hb12⟩
    have HB12 := hid (below_then HB11.out HB11.out.size hb12)
    clear hb12
    rcases Y with _ | _
    all_goals
      go_wp2
      go_ret
      exact ⟨rfl, HB12.out⟩

set_option maxRecDepth 20000 in
set_option maxHeartbeats 8000000 in
theorem wcheck_3 (c e s aud : Int) (l : List Mem) (body tag : Bs) (yes : Bool) (am : Option Addr) (nm cm : Nat) (w : World) (h : MsgAt ⟨3, ⟨c, e, s⟩, aud, l, body, yes, tag⟩ am nm cm w) (I T Y : Bool)
    (hI : idleM ⟨3, ⟨c, e, s⟩, aud, l, body, yes, tag⟩ = I) (hT : mayTxn ⟨c, e, s⟩ = T) (hY : mayK 3 ⟨3, ⟨c, e, s⟩, aud, l, body, yes, tag⟩ = Y) :
    Calls Try.prog 9 #[msgV ⟨3, ⟨c, e, s⟩, aud, l, body, yes, tag⟩ am nm cm] w fun e w' => e = .returned (.int .i64 (if I && (T) && Y then 0 else 2)) ∧ Below w.heap.size w w' := by
  have HB := hid ((Below.refl w.heap.size w).alloc (Nat.le_refl _) (.cells #[.int .u8 3, .int .i64 c, .int .i64 e, .int .i64 s, .int .i64 aud, .slice am nm cm, .string (ofL body), .bool yes, .string (ofL tag)] 26))
  have hbk := BlkAt.new w #[.int .u8 3, .int .i64 c, .int .i64 e, .int .i64 s, .int .i64 aud, .slice am nm cm, .string (ofL body), .bool yes, .string (ofL tag)] 26
  have Hbk := hid hbk
  have c0 := hbk.val 0 rfl
  have Hmsg := hid (fun W (hb : Below w.heap.size w W) => h.below hb)
  have Hid := hid (fun W (hm : MsgAt ⟨3, ⟨c, e, s⟩, aud, l, body, yes, tag⟩ am nm cm W) => by
    have := idle_calls ⟨3, ⟨c, e, s⟩, aud, l, body, yes, tag⟩ am nm cm W hm
    rw [hI] at this
    exact this)
  have Htx := hid (fun W => by
    have := mayTxn_calls ⟨c, e, s⟩ W
    rw [hT] at this
    exact this)
  have Hmy := hid (fun W (hm : MsgAt ⟨3, ⟨c, e, s⟩, aud, l, body, yes, tag⟩ am nm cm W) => by
    have := may3_calls ⟨3, ⟨c, e, s⟩, aud, l, body, yes, tag⟩ am nm cm W
    rw [show true = Y from hY] at this
    exact this)
  clear hbk h hI hT hY
  simp only [msgV, txnV] at Hid Htx Hmy ⊢
  have Hlk : Kp (∀ (W : World) (b n : Nat), W.ownsMap Try.prog 5 kR b n kD → (Instr.lookup 65 (.map (some b)) (.int .u8 3) true).run Try.prog W = .ok (.tuple #[.agg #[.string (ofL (wordK 3)), .int .i64 1, .int .i64 1, .func (.func 68) #[] #[], .func (.func 69) #[] #[], .func (.func 70) #[] #[]], .bool true]) W) := hid (fun W b n ho => (kinds_look (k := 3) (by omega) ho).1)
  go_enter Try.func9, Try.ntmps9
  go_wp2_with fail
  have hne1 : w.heap.size + 1 ≠ w.heap.size := by omega
  go_region_held2 (fun w' => w'.cell? ⟨w.heap.size, 0, none⟩ = some (.int .u8 3))
    ((go_split_ands; (with_reducible (repeat (first | refine cell_setF (by assumption) ?_))) <;> (with_reducible first | assumption | exact cell_alloc_of _ (by assumption) | skip) <;> with_reducible first | exact c0 | exact cell_alloc_of _ c0 | exact cell_alloc_drew _ c0 | exact cell_drew c0))
    (first
      | (go_at_call 27; (go_split_ands; refine (kinds_calls _).mono ?_; rintro e9 wn ⟨bm, rfl, hown, -, -, hbn⟩; have hl1 := Hlk.out _ _ _ hown; have hl2 := Hlk.out _ _ _ hown.drew; have hl3 := Hlk.out _ _ _ (hown.kept (World.grownBy_alloc wn (.cells #[.string ⟨#[]⟩, .int .i64 0, .int .i64 0, .nilFunc, .nilFunc, .nilFunc] 64) none) (by simp)); have hl4 := Hlk.out _ _ _ (hown.drew.kept (World.grownBy_alloc wn.drew (.cells #[.string ⟨#[]⟩, .int .i64 0, .int .i64 0, .nilFunc, .nilFunc, .nilFunc] 64) none) (by simp)); have hk0 : Below (w.alloc (.cells #[.int .u8 3, .int .i64 c, .int .i64 e, .int .i64 s, .int .i64 aud, .slice am nm cm, .string (ofL body), .bool yes, .string (ofL tag)] 26)).heap.size (w.alloc (.cells #[.int .u8 3, .int .i64 c, .int .i64 e, .int .i64 s, .int .i64 aud, .slice am nm cm, .string (ofL body), .bool yes, .string (ofL tag)] 26)) wn := (by first | exact hbn | exact btd hbn | exact bt1 (Below.refl _ _) hbn | exact bt0 (((Below.refl _ _).alloc (Nat.le_refl _) _).drew) hbn); have hbk := Hbk.out.below hk0; have u0 := hbk.val 0 rfl; clear hbk; first | (have hbz : BlkAt wn (w.heap.size + 1) #[.string ⟨#[]⟩, .int .i64 0, .int .i64 0, .nilFunc, .nilFunc, .nilFunc] 64 := (BlkAt.new2 w (.cells #[.int .u8 3, .int .i64 c, .int .i64 e, .int .i64 s, .int .i64 aud, .slice am nm cm, .string (ofL body), .bool yes, .string (ofL tag)] 26) _ _).drew.below hbn; have z0 := hbz.val 0 rfl; have z1 := hbz.val 1 rfl; have z2 := hbz.val 2 rfl; have z3 := hbz.val 3 rfl; have z4 := hbz.val 4 rfl; have z5 := hbz.val 5 rfl; have g0 := hbz.frozen 0; have g1 := hbz.frozen 1; have g2 := hbz.frozen 2; have g3 := hbz.frozen 3; have g4 := hbz.frozen 4; have g5 := hbz.frozen 5) | skip)))
  all_goals
    go_split_ands
    refine gen3 (fun b W => BlkAt W b #[.string (ofL (wordK 3)), .int .i64 1, .int .i64 1, .func (.func 68) #[] #[], .func (.func 69) #[] #[], .func (.func 70) #[] #[]] 64 ∧ Below (w.alloc (.cells #[.int .u8 3, .int .i64 c, .int .i64 e, .int .i64 s, .int .i64 aud, .slice am nm cm, .string (ofL body), .bool yes, .string (ofL tag)] 26)).heap.size (w.alloc (.cells #[.int .u8 3, .int .i64 c, .int .i64 e, .int .i64 s, .int .i64 aud, .slice am nm cm, .string (ofL body), .bool yes, .string (ofL tag)] 26)) W) (by first | exact ⟨(((((hbz.set 0 _).set 1 _).set 2 _).set 3 _).set 4 _).set 5 _, below_set (below_set (below_set (below_set (below_set (below_set hk0 (by simp) _) (by simp) _) (by simp) _) (by simp) _) (by simp) _) (by simp) _⟩ | with_reducible exact ⟨BlkAt.new _ _ _, hk0.alloc hk0.size _⟩ | with_reducible exact ⟨BlkAt.new _ _ _, hk0.drew.alloc hk0.size _⟩) ?_
  all_goals
    rintro W9 ⟨hz9, hb9⟩
    have HB9 := hid (below_then HB.out HB.out.size hb9)
    have HBK := hid (Hbk.out.below hb9)
    have HZ9 := hid hz9
    have HM9 := hid (Hmsg.out _ HB9.out)
    with_reducible (try (rename World.cell? (World.setCell _ _ _) _ = _ => hheld; clear hheld))
    clear hz9 hb9 hk0 hbn u0 hl1 hl2 Hbk c0 hne1 Hlk HB
    (try clear hl3 hl4 hown)
    (try clear hbz z0 z1 z2 z3 z4 z5 g0 g1 g2 g3 g4 g5)
    have c0 := HBK.out.val 0 rfl
    have c1 := HBK.out.val 1 rfl
    have c2 := HBK.out.val 2 rfl
    have c3 := HBK.out.val 3 rfl
    have c4 := HBK.out.val 4 rfl
    have c5 := HBK.out.val 5 rfl
    have c6 := HBK.out.val 6 rfl
    have c7 := HBK.out.val 7 rfl
    have c8 := HBK.out.val 8 rfl
    rcases I with _ | _
    case' false =>
      go_wp2_with fail
      refine (Hid.out _ HM9.out).mono ?_
      rintro e10 w10 ⟨rfl, hb10⟩
      have HB10 := hid (below_then HB9.out HB9.out.size hb10)
      clear hb10
      go_wp2
      go_ret
      exact ⟨rfl, HB10.out⟩
    go_wp2_with fail
    refine (Hid.out _ HM9.out).mono ?_
    rintro e10 w10 ⟨rfl, hb10⟩
    have HB10 := hid (below_then HB9.out HB9.out.size hb10)
    have HBK10 := hid (HBK.out.below hb10)
    have HZ10 := hid (HZ9.out.below hb10)
    have HM10 := hid (HM9.out.below hb10)
    clear hb10 c0 c1 c2 c3 c4 c5 c6 c7 c8 HBK HZ9 HM9 HB9
    have c0 := HBK10.out.val 0 rfl
    have c1 := HBK10.out.val 1 rfl
    have c2 := HBK10.out.val 2 rfl
    have c3 := HBK10.out.val 3 rfl
    have c4 := HBK10.out.val 4 rfl
    have c5 := HBK10.out.val 5 rfl
    have c6 := HBK10.out.val 6 rfl
    have c7 := HBK10.out.val 7 rfl
    have c8 := HBK10.out.val 8 rfl
    rcases T with _ | _
    case' false =>
      go_wp2_with fail
      refine (Htx.out _).mono ?_
      rintro e11 w11 ⟨rfl, hb11⟩
      have HB11 := hid (below_then HB10.out HB10.out.size hb11)
      clear hb11
      go_wp2
      go_ret
      exact ⟨rfl, HB11.out⟩
    go_wp2_with fail
    refine (Htx.out _).mono ?_
    rintro e11 w11 ⟨rfl, hb11⟩
    have HB11 := hid (below_then HB10.out HB10.out.size hb11)
    have HBK11 := hid (HBK10.out.below hb11)
    have HZ11 := hid (HZ10.out.below hb11)
    have HM11 := hid (HM10.out.below hb11)
    clear hb11 c0 c1 c2 c3 c4 c5 c6 c7 c8 HBK10 HZ10 HM10 HB10
    have c0 := HBK11.out.val 0 rfl
    have c1 := HBK11.out.val 1 rfl
    have c2 := HBK11.out.val 2 rfl
    have c3 := HBK11.out.val 3 rfl
    have c4 := HBK11.out.val 4 rfl
    have c5 := HBK11.out.val 5 rfl
    have c6 := HBK11.out.val 6 rfl
    have c7 := HBK11.out.val 7 rfl
    have c8 := HBK11.out.val 8 rfl
    have z3 := HZ11.out.val 3 rfl
    go_wp2_with fail
    refine (Hmy.out _ HM11.out).mono ?_
    rintro e12 w12 ⟨rfl, hb12⟩
    have HB12 := hid (below_then HB11.out HB11.out.size hb12)
    clear hb12
    rcases Y with _ | _
    all_goals
      go_wp2
      go_ret
      exact ⟨rfl, HB12.out⟩

set_option maxRecDepth 20000 in
set_option maxHeartbeats 8000000 in
theorem wcheck_4 (c e s aud : Int) (l : List Mem) (body tag : Bs) (yes : Bool) (am : Option Addr) (nm cm : Nat) (w : World) (h : MsgAt ⟨4, ⟨c, e, s⟩, aud, l, body, yes, tag⟩ am nm cm w) (I T Y : Bool)
    (hI : idleM ⟨4, ⟨c, e, s⟩, aud, l, body, yes, tag⟩ = I) (hT : mayTxn ⟨c, e, s⟩ = T) (hY : mayK 4 ⟨4, ⟨c, e, s⟩, aud, l, body, yes, tag⟩ = Y) :
    Calls Try.prog 9 #[msgV ⟨4, ⟨c, e, s⟩, aud, l, body, yes, tag⟩ am nm cm] w fun e w' => e = .returned (.int .i64 (if I && (T) && Y then 0 else 2)) ∧ Below w.heap.size w w' := by
  have HB := hid ((Below.refl w.heap.size w).alloc (Nat.le_refl _) (.cells #[.int .u8 4, .int .i64 c, .int .i64 e, .int .i64 s, .int .i64 aud, .slice am nm cm, .string (ofL body), .bool yes, .string (ofL tag)] 26))
  have hbk := BlkAt.new w #[.int .u8 4, .int .i64 c, .int .i64 e, .int .i64 s, .int .i64 aud, .slice am nm cm, .string (ofL body), .bool yes, .string (ofL tag)] 26
  have Hbk := hid hbk
  have c0 := hbk.val 0 rfl
  have Hmsg := hid (fun W (hb : Below w.heap.size w W) => h.below hb)
  have Hid := hid (fun W (hm : MsgAt ⟨4, ⟨c, e, s⟩, aud, l, body, yes, tag⟩ am nm cm W) => by
    have := idle_calls ⟨4, ⟨c, e, s⟩, aud, l, body, yes, tag⟩ am nm cm W hm
    rw [hI] at this
    exact this)
  have Htx := hid (fun W => by
    have := mayTxn_calls ⟨c, e, s⟩ W
    rw [hT] at this
    exact this)
  have Hmy := hid (fun W (hm : MsgAt ⟨4, ⟨c, e, s⟩, aud, l, body, yes, tag⟩ am nm cm W) => by
    have := may4_calls ⟨4, ⟨c, e, s⟩, aud, l, body, yes, tag⟩ am nm cm W
    rw [show true = Y from hY] at this
    exact this)
  clear hbk h hI hT hY
  simp only [msgV, txnV] at Hid Htx Hmy ⊢
  have Hlk : Kp (∀ (W : World) (b n : Nat), W.ownsMap Try.prog 5 kR b n kD → (Instr.lookup 65 (.map (some b)) (.int .u8 4) true).run Try.prog W = .ok (.tuple #[.agg #[.string (ofL (wordK 4)), .int .i64 0, .int .i64 0, .func (.func 84) #[] #[], .func (.func 85) #[] #[], .func (.func 86) #[] #[]], .bool true]) W) := hid (fun W b n ho => (kinds_look (k := 4) (by omega) ho).1)
  go_enter Try.func9, Try.ntmps9
  go_wp2_with fail
  have hne1 : w.heap.size + 1 ≠ w.heap.size := by omega
  go_region_held2 (fun w' => w'.cell? ⟨w.heap.size, 0, none⟩ = some (.int .u8 4))
    ((go_split_ands; (with_reducible (repeat (first | refine cell_setF (by assumption) ?_))) <;> (with_reducible first | assumption | exact cell_alloc_of _ (by assumption) | skip) <;> with_reducible first | exact c0 | exact cell_alloc_of _ c0 | exact cell_alloc_drew _ c0 | exact cell_drew c0))
    (first
      | (go_at_call 27; (go_split_ands; refine (kinds_calls _).mono ?_; rintro e9 wn ⟨bm, rfl, hown, -, -, hbn⟩; have hl1 := Hlk.out _ _ _ hown; have hl2 := Hlk.out _ _ _ hown.drew; have hl3 := Hlk.out _ _ _ (hown.kept (World.grownBy_alloc wn (.cells #[.string ⟨#[]⟩, .int .i64 0, .int .i64 0, .nilFunc, .nilFunc, .nilFunc] 64) none) (by simp)); have hl4 := Hlk.out _ _ _ (hown.drew.kept (World.grownBy_alloc wn.drew (.cells #[.string ⟨#[]⟩, .int .i64 0, .int .i64 0, .nilFunc, .nilFunc, .nilFunc] 64) none) (by simp)); have hk0 : Below (w.alloc (.cells #[.int .u8 4, .int .i64 c, .int .i64 e, .int .i64 s, .int .i64 aud, .slice am nm cm, .string (ofL body), .bool yes, .string (ofL tag)] 26)).heap.size (w.alloc (.cells #[.int .u8 4, .int .i64 c, .int .i64 e, .int .i64 s, .int .i64 aud, .slice am nm cm, .string (ofL body), .bool yes, .string (ofL tag)] 26)) wn := (by first | exact hbn | exact btd hbn | exact bt1 (Below.refl _ _) hbn | exact bt0 (((Below.refl _ _).alloc (Nat.le_refl _) _).drew) hbn); have hbk := Hbk.out.below hk0; have u0 := hbk.val 0 rfl; clear hbk; first | (have hbz : BlkAt wn (w.heap.size + 1) #[.string ⟨#[]⟩, .int .i64 0, .int .i64 0, .nilFunc, .nilFunc, .nilFunc] 64 := (BlkAt.new2 w (.cells #[.int .u8 4, .int .i64 c, .int .i64 e, .int .i64 s, .int .i64 aud, .slice am nm cm, .string (ofL body), .bool yes, .string (ofL tag)] 26) _ _).drew.below hbn; have z0 := hbz.val 0 rfl; have z1 := hbz.val 1 rfl; have z2 := hbz.val 2 rfl; have z3 := hbz.val 3 rfl; have z4 := hbz.val 4 rfl; have z5 := hbz.val 5 rfl; have g0 := hbz.frozen 0; have g1 := hbz.frozen 1; have g2 := hbz.frozen 2; have g3 := hbz.frozen 3; have g4 := hbz.frozen 4; have g5 := hbz.frozen 5) | skip)))
  all_goals
    go_split_ands
    refine gen3 (fun b W => BlkAt W b #[.string (ofL (wordK 4)), .int .i64 0, .int .i64 0, .func (.func 84) #[] #[], .func (.func 85) #[] #[], .func (.func 86) #[] #[]] 64 ∧ Below (w.alloc (.cells #[.int .u8 4, .int .i64 c, .int .i64 e, .int .i64 s, .int .i64 aud, .slice am nm cm, .string (ofL body), .bool yes, .string (ofL tag)] 26)).heap.size (w.alloc (.cells #[.int .u8 4, .int .i64 c, .int .i64 e, .int .i64 s, .int .i64 aud, .slice am nm cm, .string (ofL body), .bool yes, .string (ofL tag)] 26)) W) (by first | exact ⟨(((((hbz.set 0 _).set 1 _).set 2 _).set 3 _).set 4 _).set 5 _, below_set (below_set (below_set (below_set (below_set (below_set hk0 (by simp) _) (by simp) _) (by simp) _) (by simp) _) (by simp) _) (by simp) _⟩ | with_reducible exact ⟨BlkAt.new _ _ _, hk0.alloc hk0.size _⟩ | with_reducible exact ⟨BlkAt.new _ _ _, hk0.drew.alloc hk0.size _⟩) ?_
  all_goals
    rintro W9 ⟨hz9, hb9⟩
    have HB9 := hid (below_then HB.out HB.out.size hb9)
    have HBK := hid (Hbk.out.below hb9)
    have HZ9 := hid hz9
    have HM9 := hid (Hmsg.out _ HB9.out)
    with_reducible (try (rename World.cell? (World.setCell _ _ _) _ = _ => hheld; clear hheld))
    clear hz9 hb9 hk0 hbn u0 hl1 hl2 Hbk c0 hne1 Hlk HB
    (try clear hl3 hl4 hown)
    (try clear hbz z0 z1 z2 z3 z4 z5 g0 g1 g2 g3 g4 g5)
    have c0 := HBK.out.val 0 rfl
    have c1 := HBK.out.val 1 rfl
    have c2 := HBK.out.val 2 rfl
    have c3 := HBK.out.val 3 rfl
    have c4 := HBK.out.val 4 rfl
    have c5 := HBK.out.val 5 rfl
    have c6 := HBK.out.val 6 rfl
    have c7 := HBK.out.val 7 rfl
    have c8 := HBK.out.val 8 rfl
    rcases I with _ | _
    case' false =>
      go_wp2_with fail
      refine (Hid.out _ HM9.out).mono ?_
      rintro e10 w10 ⟨rfl, hb10⟩
      have HB10 := hid (below_then HB9.out HB9.out.size hb10)
      clear hb10
      go_wp2
      go_ret
      exact ⟨rfl, HB10.out⟩
    go_wp2_with fail
    refine (Hid.out _ HM9.out).mono ?_
    rintro e10 w10 ⟨rfl, hb10⟩
    have HB10 := hid (below_then HB9.out HB9.out.size hb10)
    have HBK10 := hid (HBK.out.below hb10)
    have HZ10 := hid (HZ9.out.below hb10)
    have HM10 := hid (HM9.out.below hb10)
    clear hb10 c0 c1 c2 c3 c4 c5 c6 c7 c8 HBK HZ9 HM9 HB9
    have c0 := HBK10.out.val 0 rfl
    have c1 := HBK10.out.val 1 rfl
    have c2 := HBK10.out.val 2 rfl
    have c3 := HBK10.out.val 3 rfl
    have c4 := HBK10.out.val 4 rfl
    have c5 := HBK10.out.val 5 rfl
    have c6 := HBK10.out.val 6 rfl
    have c7 := HBK10.out.val 7 rfl
    have c8 := HBK10.out.val 8 rfl
    rcases T with _ | _
    case' false =>
      go_wp2_with fail
      refine (Htx.out _).mono ?_
      rintro e11 w11 ⟨rfl, hb11⟩
      have HB11 := hid (below_then HB10.out HB10.out.size hb11)
      clear hb11
      go_wp2
      go_ret
      exact ⟨rfl, HB11.out⟩
    go_wp2_with fail
    refine (Htx.out _).mono ?_
    rintro e11 w11 ⟨rfl, hb11⟩
    have HB11 := hid (below_then HB10.out HB10.out.size hb11)
    have HBK11 := hid (HBK10.out.below hb11)
    have HZ11 := hid (HZ10.out.below hb11)
    have HM11 := hid (HM10.out.below hb11)
    clear hb11 c0 c1 c2 c3 c4 c5 c6 c7 c8 HBK10 HZ10 HM10 HB10
    have c0 := HBK11.out.val 0 rfl
    have c1 := HBK11.out.val 1 rfl
    have c2 := HBK11.out.val 2 rfl
    have c3 := HBK11.out.val 3 rfl
    have c4 := HBK11.out.val 4 rfl
    have c5 := HBK11.out.val 5 rfl
    have c6 := HBK11.out.val 6 rfl
    have c7 := HBK11.out.val 7 rfl
    have c8 := HBK11.out.val 8 rfl
    have z3 := HZ11.out.val 3 rfl
    go_wp2_with fail
    refine (Hmy.out _ HM11.out).mono ?_
    rintro e12 w12 ⟨rfl, hb12⟩
    have HB12 := hid (below_then HB11.out HB11.out.size hb12)
    clear hb12
    rcases Y with _ | _
    all_goals
      go_wp2
      go_ret
      exact ⟨rfl, HB12.out⟩

set_option maxRecDepth 20000 in
set_option maxHeartbeats 8000000 in
theorem wcheck_5 (c e s aud : Int) (l : List Mem) (body tag : Bs) (yes : Bool) (am : Option Addr) (nm cm : Nat) (w : World) (h : MsgAt ⟨5, ⟨c, e, s⟩, aud, l, body, yes, tag⟩ am nm cm w) (I T Y : Bool)
    (hI : idleM ⟨5, ⟨c, e, s⟩, aud, l, body, yes, tag⟩ = I) (hT : mayTxn ⟨c, e, s⟩ = T) (hY : mayK 5 ⟨5, ⟨c, e, s⟩, aud, l, body, yes, tag⟩ = Y) :
    Calls Try.prog 9 #[msgV ⟨5, ⟨c, e, s⟩, aud, l, body, yes, tag⟩ am nm cm] w fun e w' => e = .returned (.int .i64 (if I && (T) && Y then 0 else 2)) ∧ Below w.heap.size w w' := by
  have HB := hid ((Below.refl w.heap.size w).alloc (Nat.le_refl _) (.cells #[.int .u8 5, .int .i64 c, .int .i64 e, .int .i64 s, .int .i64 aud, .slice am nm cm, .string (ofL body), .bool yes, .string (ofL tag)] 26))
  have hbk := BlkAt.new w #[.int .u8 5, .int .i64 c, .int .i64 e, .int .i64 s, .int .i64 aud, .slice am nm cm, .string (ofL body), .bool yes, .string (ofL tag)] 26
  have Hbk := hid hbk
  have c0 := hbk.val 0 rfl
  have Hmsg := hid (fun W (hb : Below w.heap.size w W) => h.below hb)
  have Hid := hid (fun W (hm : MsgAt ⟨5, ⟨c, e, s⟩, aud, l, body, yes, tag⟩ am nm cm W) => by
    have := idle_calls ⟨5, ⟨c, e, s⟩, aud, l, body, yes, tag⟩ am nm cm W hm
    rw [hI] at this
    exact this)
  have Htx := hid (fun W => by
    have := mayTxn_calls ⟨c, e, s⟩ W
    rw [hT] at this
    exact this)
  have Hmy := hid (fun W (hm : MsgAt ⟨5, ⟨c, e, s⟩, aud, l, body, yes, tag⟩ am nm cm W) => by
    have := may4_calls ⟨5, ⟨c, e, s⟩, aud, l, body, yes, tag⟩ am nm cm W
    rw [show true = Y from hY] at this
    exact this)
  clear hbk h hI hT hY
  simp only [msgV, txnV] at Hid Htx Hmy ⊢
  have Hlk : Kp (∀ (W : World) (b n : Nat), W.ownsMap Try.prog 5 kR b n kD → (Instr.lookup 65 (.map (some b)) (.int .u8 5) true).run Try.prog W = .ok (.tuple #[.agg #[.string (ofL (wordK 5)), .int .i64 0, .int .i64 0, .func (.func 84) #[] #[], .func (.func 85) #[] #[], .func (.func 86) #[] #[]], .bool true]) W) := hid (fun W b n ho => (kinds_look (k := 5) (by omega) ho).1)
  go_enter Try.func9, Try.ntmps9
  go_wp2_with fail
  have hne1 : w.heap.size + 1 ≠ w.heap.size := by omega
  go_region_held2 (fun w' => w'.cell? ⟨w.heap.size, 0, none⟩ = some (.int .u8 5))
    ((go_split_ands; (with_reducible (repeat (first | refine cell_setF (by assumption) ?_))) <;> (with_reducible first | assumption | exact cell_alloc_of _ (by assumption) | skip) <;> with_reducible first | exact c0 | exact cell_alloc_of _ c0 | exact cell_alloc_drew _ c0 | exact cell_drew c0))
    (first
      | (go_at_call 27; (go_split_ands; refine (kinds_calls _).mono ?_; rintro e9 wn ⟨bm, rfl, hown, -, -, hbn⟩; have hl1 := Hlk.out _ _ _ hown; have hl2 := Hlk.out _ _ _ hown.drew; have hl3 := Hlk.out _ _ _ (hown.kept (World.grownBy_alloc wn (.cells #[.string ⟨#[]⟩, .int .i64 0, .int .i64 0, .nilFunc, .nilFunc, .nilFunc] 64) none) (by simp)); have hl4 := Hlk.out _ _ _ (hown.drew.kept (World.grownBy_alloc wn.drew (.cells #[.string ⟨#[]⟩, .int .i64 0, .int .i64 0, .nilFunc, .nilFunc, .nilFunc] 64) none) (by simp)); have hk0 : Below (w.alloc (.cells #[.int .u8 5, .int .i64 c, .int .i64 e, .int .i64 s, .int .i64 aud, .slice am nm cm, .string (ofL body), .bool yes, .string (ofL tag)] 26)).heap.size (w.alloc (.cells #[.int .u8 5, .int .i64 c, .int .i64 e, .int .i64 s, .int .i64 aud, .slice am nm cm, .string (ofL body), .bool yes, .string (ofL tag)] 26)) wn := (by first | exact hbn | exact btd hbn | exact bt1 (Below.refl _ _) hbn | exact bt0 (((Below.refl _ _).alloc (Nat.le_refl _) _).drew) hbn); have hbk := Hbk.out.below hk0; have u0 := hbk.val 0 rfl; clear hbk; first | (have hbz : BlkAt wn (w.heap.size + 1) #[.string ⟨#[]⟩, .int .i64 0, .int .i64 0, .nilFunc, .nilFunc, .nilFunc] 64 := (BlkAt.new2 w (.cells #[.int .u8 5, .int .i64 c, .int .i64 e, .int .i64 s, .int .i64 aud, .slice am nm cm, .string (ofL body), .bool yes, .string (ofL tag)] 26) _ _).drew.below hbn; have z0 := hbz.val 0 rfl; have z1 := hbz.val 1 rfl; have z2 := hbz.val 2 rfl; have z3 := hbz.val 3 rfl; have z4 := hbz.val 4 rfl; have z5 := hbz.val 5 rfl; have g0 := hbz.frozen 0; have g1 := hbz.frozen 1; have g2 := hbz.frozen 2; have g3 := hbz.frozen 3; have g4 := hbz.frozen 4; have g5 := hbz.frozen 5) | skip)))
  all_goals
    go_split_ands
    refine gen3 (fun b W => BlkAt W b #[.string (ofL (wordK 5)), .int .i64 0, .int .i64 0, .func (.func 84) #[] #[], .func (.func 85) #[] #[], .func (.func 86) #[] #[]] 64 ∧ Below (w.alloc (.cells #[.int .u8 5, .int .i64 c, .int .i64 e, .int .i64 s, .int .i64 aud, .slice am nm cm, .string (ofL body), .bool yes, .string (ofL tag)] 26)).heap.size (w.alloc (.cells #[.int .u8 5, .int .i64 c, .int .i64 e, .int .i64 s, .int .i64 aud, .slice am nm cm, .string (ofL body), .bool yes, .string (ofL tag)] 26)) W) (by first | exact ⟨(((((hbz.set 0 _).set 1 _).set 2 _).set 3 _).set 4 _).set 5 _, below_set (below_set (below_set (below_set (below_set (below_set hk0 (by simp) _) (by simp) _) (by simp) _) (by simp) _) (by simp) _) (by simp) _⟩ | with_reducible exact ⟨BlkAt.new _ _ _, hk0.alloc hk0.size _⟩ | with_reducible exact ⟨BlkAt.new _ _ _, hk0.drew.alloc hk0.size _⟩) ?_
  all_goals
    rintro W9 ⟨hz9, hb9⟩
    have HB9 := hid (below_then HB.out HB.out.size hb9)
    have HBK := hid (Hbk.out.below hb9)
    have HZ9 := hid hz9
    have HM9 := hid (Hmsg.out _ HB9.out)
    with_reducible (try (rename World.cell? (World.setCell _ _ _) _ = _ => hheld; clear hheld))
    clear hz9 hb9 hk0 hbn u0 hl1 hl2 Hbk c0 hne1 Hlk HB
    (try clear hl3 hl4 hown)
    (try clear hbz z0 z1 z2 z3 z4 z5 g0 g1 g2 g3 g4 g5)
    have c0 := HBK.out.val 0 rfl
    have c1 := HBK.out.val 1 rfl
    have c2 := HBK.out.val 2 rfl
    have c3 := HBK.out.val 3 rfl
    have c4 := HBK.out.val 4 rfl
    have c5 := HBK.out.val 5 rfl
    have c6 := HBK.out.val 6 rfl
    have c7 := HBK.out.val 7 rfl
    have c8 := HBK.out.val 8 rfl
    rcases I with _ | _
    case' false =>
      go_wp2_with fail
      refine (Hid.out _ HM9.out).mono ?_
      rintro e10 w10 ⟨rfl, hb10⟩
      have HB10 := hid (below_then HB9.out HB9.out.size hb10)
      clear hb10
      go_wp2
      go_ret
      exact ⟨rfl, HB10.out⟩
    go_wp2_with fail
    refine (Hid.out _ HM9.out).mono ?_
    rintro e10 w10 ⟨rfl, hb10⟩
    have HB10 := hid (below_then HB9.out HB9.out.size hb10)
    have HBK10 := hid (HBK.out.below hb10)
    have HZ10 := hid (HZ9.out.below hb10)
    have HM10 := hid (HM9.out.below hb10)
    clear hb10 c0 c1 c2 c3 c4 c5 c6 c7 c8 HBK HZ9 HM9 HB9
    have c0 := HBK10.out.val 0 rfl
    have c1 := HBK10.out.val 1 rfl
    have c2 := HBK10.out.val 2 rfl
    have c3 := HBK10.out.val 3 rfl
    have c4 := HBK10.out.val 4 rfl
    have c5 := HBK10.out.val 5 rfl
    have c6 := HBK10.out.val 6 rfl
    have c7 := HBK10.out.val 7 rfl
    have c8 := HBK10.out.val 8 rfl
    rcases T with _ | _
    case' false =>
      go_wp2_with fail
      refine (Htx.out _).mono ?_
      rintro e11 w11 ⟨rfl, hb11⟩
      have HB11 := hid (below_then HB10.out HB10.out.size hb11)
      clear hb11
      go_wp2
      go_ret
      exact ⟨rfl, HB11.out⟩
    go_wp2_with fail
    refine (Htx.out _).mono ?_
    rintro e11 w11 ⟨rfl, hb11⟩
    have HB11 := hid (below_then HB10.out HB10.out.size hb11)
    have HBK11 := hid (HBK10.out.below hb11)
    have HZ11 := hid (HZ10.out.below hb11)
    have HM11 := hid (HM10.out.below hb11)
    clear hb11 c0 c1 c2 c3 c4 c5 c6 c7 c8 HBK10 HZ10 HM10 HB10
    have c0 := HBK11.out.val 0 rfl
    have c1 := HBK11.out.val 1 rfl
    have c2 := HBK11.out.val 2 rfl
    have c3 := HBK11.out.val 3 rfl
    have c4 := HBK11.out.val 4 rfl
    have c5 := HBK11.out.val 5 rfl
    have c6 := HBK11.out.val 6 rfl
    have c7 := HBK11.out.val 7 rfl
    have c8 := HBK11.out.val 8 rfl
    have z3 := HZ11.out.val 3 rfl
    go_wp2_with fail
    refine (Hmy.out _ HM11.out).mono ?_
    rintro e12 w12 ⟨rfl, hb12⟩
    have HB12 := hid (below_then HB11.out HB11.out.size hb12)
    clear hb12
    rcases Y with _ | _
    all_goals
      go_wp2
      go_ret
      exact ⟨rfl, HB12.out⟩

set_option maxRecDepth 20000 in
set_option maxHeartbeats 8000000 in
theorem wcheck_6 (c e s aud : Int) (l : List Mem) (body tag : Bs) (yes : Bool) (am : Option Addr) (nm cm : Nat) (w : World) (h : MsgAt ⟨6, ⟨c, e, s⟩, aud, l, body, yes, tag⟩ am nm cm w) (I T Y : Bool)
    (hI : idleM ⟨6, ⟨c, e, s⟩, aud, l, body, yes, tag⟩ = I) (hT : mayTxn ⟨c, e, s⟩ = T) (hY : mayK 6 ⟨6, ⟨c, e, s⟩, aud, l, body, yes, tag⟩ = Y) :
    Calls Try.prog 9 #[msgV ⟨6, ⟨c, e, s⟩, aud, l, body, yes, tag⟩ am nm cm] w fun e w' => e = .returned (.int .i64 (if I && (true) && Y then 0 else 2)) ∧ Below w.heap.size w w' := by
  have HB := hid ((Below.refl w.heap.size w).alloc (Nat.le_refl _) (.cells #[.int .u8 6, .int .i64 c, .int .i64 e, .int .i64 s, .int .i64 aud, .slice am nm cm, .string (ofL body), .bool yes, .string (ofL tag)] 26))
  have hbk := BlkAt.new w #[.int .u8 6, .int .i64 c, .int .i64 e, .int .i64 s, .int .i64 aud, .slice am nm cm, .string (ofL body), .bool yes, .string (ofL tag)] 26
  have Hbk := hid hbk
  have c0 := hbk.val 0 rfl
  have Hmsg := hid (fun W (hb : Below w.heap.size w W) => h.below hb)
  have Hid := hid (fun W (hm : MsgAt ⟨6, ⟨c, e, s⟩, aud, l, body, yes, tag⟩ am nm cm W) => by
    have := idle_calls ⟨6, ⟨c, e, s⟩, aud, l, body, yes, tag⟩ am nm cm W hm
    rw [hI] at this
    exact this)
  have Htx := hid (fun W => by
    have := mayTxn_calls ⟨c, e, s⟩ W
    rw [hT] at this
    exact this)
  have Hmy := hid (fun W (hm : MsgAt ⟨6, ⟨c, e, s⟩, aud, l, body, yes, tag⟩ am nm cm W) => by
    have := may4_calls ⟨6, ⟨c, e, s⟩, aud, l, body, yes, tag⟩ am nm cm W
    rw [show true = Y from hY] at this
    exact this)
  clear hbk h hI hT hY
  simp only [msgV, txnV] at Hid Htx Hmy ⊢
  have Hlk : Kp (∀ (W : World) (b n : Nat), W.ownsMap Try.prog 5 kR b n kD → (Instr.lookup 65 (.map (some b)) (.int .u8 6) true).run Try.prog W = .ok (.tuple #[.agg #[.string (ofL (wordK 6)), .int .i64 0, .int .i64 0, .func (.func 84) #[] #[], .func (.func 85) #[] #[], .func (.func 86) #[] #[]], .bool true]) W) := hid (fun W b n ho => (kinds_look (k := 6) (by omega) ho).1)
  go_enter Try.func9, Try.ntmps9
  go_wp2_with fail
  have hne1 : w.heap.size + 1 ≠ w.heap.size := by omega
  go_region_held2 (fun w' => w'.cell? ⟨w.heap.size, 0, none⟩ = some (.int .u8 6))
    ((go_split_ands; (with_reducible (repeat (first | refine cell_setF (by assumption) ?_))) <;> (with_reducible first | assumption | exact cell_alloc_of _ (by assumption) | skip) <;> with_reducible first | exact c0 | exact cell_alloc_of _ c0 | exact cell_alloc_drew _ c0 | exact cell_drew c0))
    (first
      | (go_at_call 27; (go_split_ands; refine (kinds_calls _).mono ?_; rintro e9 wn ⟨bm, rfl, hown, -, -, hbn⟩; have hl1 := Hlk.out _ _ _ hown; have hl2 := Hlk.out _ _ _ hown.drew; have hl3 := Hlk.out _ _ _ (hown.kept (World.grownBy_alloc wn (.cells #[.string ⟨#[]⟩, .int .i64 0, .int .i64 0, .nilFunc, .nilFunc, .nilFunc] 64) none) (by simp)); have hl4 := Hlk.out _ _ _ (hown.drew.kept (World.grownBy_alloc wn.drew (.cells #[.string ⟨#[]⟩, .int .i64 0, .int .i64 0, .nilFunc, .nilFunc, .nilFunc] 64) none) (by simp)); have hk0 : Below (w.alloc (.cells #[.int .u8 6, .int .i64 c, .int .i64 e, .int .i64 s, .int .i64 aud, .slice am nm cm, .string (ofL body), .bool yes, .string (ofL tag)] 26)).heap.size (w.alloc (.cells #[.int .u8 6, .int .i64 c, .int .i64 e, .int .i64 s, .int .i64 aud, .slice am nm cm, .string (ofL body), .bool yes, .string (ofL tag)] 26)) wn := (by first | exact hbn | exact btd hbn | exact bt1 (Below.refl _ _) hbn | exact bt0 (((Below.refl _ _).alloc (Nat.le_refl _) _).drew) hbn); have hbk := Hbk.out.below hk0; have u0 := hbk.val 0 rfl; clear hbk; first | (have hbz : BlkAt wn (w.heap.size + 1) #[.string ⟨#[]⟩, .int .i64 0, .int .i64 0, .nilFunc, .nilFunc, .nilFunc] 64 := (BlkAt.new2 w (.cells #[.int .u8 6, .int .i64 c, .int .i64 e, .int .i64 s, .int .i64 aud, .slice am nm cm, .string (ofL body), .bool yes, .string (ofL tag)] 26) _ _).drew.below hbn; have z0 := hbz.val 0 rfl; have z1 := hbz.val 1 rfl; have z2 := hbz.val 2 rfl; have z3 := hbz.val 3 rfl; have z4 := hbz.val 4 rfl; have z5 := hbz.val 5 rfl; have g0 := hbz.frozen 0; have g1 := hbz.frozen 1; have g2 := hbz.frozen 2; have g3 := hbz.frozen 3; have g4 := hbz.frozen 4; have g5 := hbz.frozen 5) | skip)))
  all_goals
    go_split_ands
    refine gen3 (fun b W => BlkAt W b #[.string (ofL (wordK 6)), .int .i64 0, .int .i64 0, .func (.func 84) #[] #[], .func (.func 85) #[] #[], .func (.func 86) #[] #[]] 64 ∧ Below (w.alloc (.cells #[.int .u8 6, .int .i64 c, .int .i64 e, .int .i64 s, .int .i64 aud, .slice am nm cm, .string (ofL body), .bool yes, .string (ofL tag)] 26)).heap.size (w.alloc (.cells #[.int .u8 6, .int .i64 c, .int .i64 e, .int .i64 s, .int .i64 aud, .slice am nm cm, .string (ofL body), .bool yes, .string (ofL tag)] 26)) W) (by first | exact ⟨(((((hbz.set 0 _).set 1 _).set 2 _).set 3 _).set 4 _).set 5 _, below_set (below_set (below_set (below_set (below_set (below_set hk0 (by simp) _) (by simp) _) (by simp) _) (by simp) _) (by simp) _) (by simp) _⟩ | with_reducible exact ⟨BlkAt.new _ _ _, hk0.alloc hk0.size _⟩ | with_reducible exact ⟨BlkAt.new _ _ _, hk0.drew.alloc hk0.size _⟩) ?_
  all_goals
    rintro W9 ⟨hz9, hb9⟩
    have HB9 := hid (below_then HB.out HB.out.size hb9)
    have HBK := hid (Hbk.out.below hb9)
    have HZ9 := hid hz9
    have HM9 := hid (Hmsg.out _ HB9.out)
    with_reducible (try (rename World.cell? (World.setCell _ _ _) _ = _ => hheld; clear hheld))
    clear hz9 hb9 hk0 hbn u0 hl1 hl2 Hbk c0 hne1 Hlk HB
    (try clear hl3 hl4 hown)
    (try clear hbz z0 z1 z2 z3 z4 z5 g0 g1 g2 g3 g4 g5)
    have c0 := HBK.out.val 0 rfl
    have c1 := HBK.out.val 1 rfl
    have c2 := HBK.out.val 2 rfl
    have c3 := HBK.out.val 3 rfl
    have c4 := HBK.out.val 4 rfl
    have c5 := HBK.out.val 5 rfl
    have c6 := HBK.out.val 6 rfl
    have c7 := HBK.out.val 7 rfl
    have c8 := HBK.out.val 8 rfl
    rcases I with _ | _
    case' false =>
      go_wp2_with fail
      refine (Hid.out _ HM9.out).mono ?_
      rintro e10 w10 ⟨rfl, hb10⟩
      have HB10 := hid (below_then HB9.out HB9.out.size hb10)
      clear hb10
      go_wp2
      go_ret
      exact ⟨rfl, HB10.out⟩
    go_wp2_with fail
    refine (Hid.out _ HM9.out).mono ?_
    rintro e10 w10 ⟨rfl, hb10⟩
    have HB10 := hid (below_then HB9.out HB9.out.size hb10)
    have HBK10 := hid (HBK.out.below hb10)
    have HZ10 := hid (HZ9.out.below hb10)
    have HM10 := hid (HM9.out.below hb10)
    clear hb10 c0 c1 c2 c3 c4 c5 c6 c7 c8 HBK HZ9 HM9 HB9
    have c0 := HBK10.out.val 0 rfl
    have c1 := HBK10.out.val 1 rfl
    have c2 := HBK10.out.val 2 rfl
    have c3 := HBK10.out.val 3 rfl
    have c4 := HBK10.out.val 4 rfl
    have c5 := HBK10.out.val 5 rfl
    have c6 := HBK10.out.val 6 rfl
    have c7 := HBK10.out.val 7 rfl
    have c8 := HBK10.out.val 8 rfl
    have z3 := HZ10.out.val 3 rfl
    go_wp2_with fail
    refine (Hmy.out _ HM10.out).mono ?_
    rintro e12 w12 ⟨rfl, hb12⟩
    have HB12 := hid (below_then HB10.out HB10.out.size hb12)
    clear hb12
    rcases Y with _ | _
    all_goals
      go_wp2
      go_ret
      exact ⟨rfl, HB12.out⟩

theorem wcheck_calls (m : Msg) (am : Option Addr) (nm cm : Nat) (w : World) (h : MsgAt m am nm cm w) : Calls Try.prog 9 #[msgV m am nm cm] w fun e w' => e = .returned (.int .i64 (if mayM m then 0 else 2)) ∧ Below w.heap.size w w' := by
  cases hk : isKind m.kind with
  | false =>
    have hm : mayM m = false := by unfold mayM; rw [hk]; rfl
    rw [hm]
    exact wcheck_no m am nm cm w h hk
  | true =>
    obtain ⟨k, ⟨c, e, s⟩, aud, l, body, yes, tag⟩ := m
    have hk2 : 1 ≤ k ∧ k ≤ 6 := by simpa [isKind] using hk
    rcases (by omega : k = 1 ∨ k = 2 ∨ k = 3 ∨ k = 4 ∨ k = 5 ∨ k = 6) with rfl | rfl | rfl | rfl | rfl | rfl
    · exact wcheck_1 c e s aud l body tag yes am nm cm w h _ _ _ rfl rfl rfl
    · exact wcheck_2 c e s aud l body tag yes am nm cm w h _ _ _ rfl rfl rfl
    · exact wcheck_3 c e s aud l body tag yes am nm cm w h _ _ _ rfl rfl rfl
    · exact wcheck_4 c e s aud l body tag yes am nm cm w h _ _ _ rfl rfl rfl
    · exact wcheck_5 c e s aud l body tag yes am nm cm w h _ _ _ rfl rfl rfl
    · exact wcheck_6 c e s aud l body tag yes am nm cm w h _ (mayTxn ⟨c, e, s⟩) _ rfl rfl rfl
end Go.Proofs.Ytohblakhojhklaa
