import Derived.Test.YtohblakhojhklaaWgeta
/- The walk of wire.Check. -/
namespace Go.Proofs.Ytohblakhojhklaa
open Go.RowKit Go.Maps Sp

theorem kinds_look {W : World} {b n k : Nat} (hk : k ≤ 255) (hown : W.ownsMap Try.prog 5 kR b n kD) :
    (Instr.lookup 65 (.map (some b)) (.int .u8 k) true).run Try.prog W = .ok (.tuple #[kindV (kindAt k), .bool (isKind k)]) W ∧
    (Instr.lookup 65 (.map (some b)) (.int .u8 k) false).run Try.prog W = .ok (kindV (kindAt k)) W := by
  have hz0 : kR (kindV 0) = some (.lit (.int .i64 (0 : Nat)), []) := kR_of (by omega)
  have hwf : (Lit.int .u8 (k : Int)).wf = true := by simp [Lit.wf, IntKind.min, IntKind.max, IntKind.signed, IntKind.bits]; omega
  have hval : ∀ {v : Value} {ps : List MemPlace}, kR v = some (kD.atKey (.int .u8 k) (.lit (.int .i64 (0 : Nat))), ps) → v = kindV (kindAt k) := by
    intro v ps hv
    obtain ⟨m, hm, rfl, hx⟩ := kR_inv hv
    have h1 := kD_at k
    have h2 := congrArg Prod.fst hx
    simp only at h2
    rw [show (DataW.lit (.int .i64 ((0 : Nat) : Int)) : DataW Unit) = .lit (.int .i64 0) from rfl, h1] at h2
    injection h2 with h2
    injection h2 with h2
    have : m = kindAt k := by unfold kindAt; omega
    rw [this]
  obtain ⟨v, ps, hrun, hv⟩ := hown.look_ok law_u8 Try.underlying65 (zero_kind W) hz0 (keyOf_int_mk Try.underlying5 hwf)
  obtain ⟨v2, ps2, hrun2, hv2⟩ := hown.lookup law_u8 Try.underlying65 (zero_kind W) hz0 (keyOf_int_mk Try.underlying5 hwf)
  rw [hval hv, kD_has] at hrun
  rw [hval hv2] at hrun2
  exact ⟨hrun, hrun2⟩

theorem cell_drew {W : World} {a : Addr} {v : Value} (h : W.cell? a = some v) : W.drew.cell? a = some v := h
theorem cell_alloc_drew {W : World} {a : Addr} {v : Value} (o : Obj) (h : W.cell? a = some v) : (W.alloc o).drew.cell? a = some v := cell_alloc_of o h
theorem BlkAt.new2 (w : World) (M : Obj) (cs : Array Value) (t : TypeId) : BlkAt ((w.alloc M).alloc (.cells cs t)) (w.heap.size + 1) cs t := by
  have h := BlkAt.new (w.alloc M) cs t
  rwa [show (w.alloc M).heap.size = w.heap.size + 1 by simp] at h
set_option maxRecDepth 20000 in
set_option maxHeartbeats 8000000 in
theorem wcheck_no (m : Msg) (am : Option Addr) (nm cm : Nat) (w : World) (h : MsgAt m am nm cm w) (hno : isKind m.kind = false) : Calls Try.prog 9 #[msgV m am nm cm] w fun e w' => e = .returned (.int .i64 2) ∧ Below w.heap.size w w' := by
  have hkd := h.kd
  obtain ⟨k, ⟨c, e, s⟩, aud, l, body, yes, tag⟩ := m
  have HB := hid ((Below.refl w.heap.size w).alloc (Nat.le_refl _) (.cells #[.int .u8 k, .int .i64 c, .int .i64 e, .int .i64 s, .int .i64 aud, .slice am nm cm, .string (ofL body), .bool yes, .string (ofL tag)] 26))
  have hbk := BlkAt.new w #[.int .u8 k, .int .i64 c, .int .i64 e, .int .i64 s, .int .i64 aud, .slice am nm cm, .string (ofL body), .bool yes, .string (ofL tag)] 26
  have Hbk := hid hbk
  have c0 := hbk.val 0 rfl
  clear hbk h
  simp only at hno hkd
  have Hlk : Kp (∀ (W : World) (b n : Nat), W.ownsMap Try.prog 5 kR b n kD → (Instr.lookup 65 (.map (some b)) (.int .u8 k) true).run Try.prog W = .ok (.tuple #[.agg #[.string (ofL []), .int .i64 0, .int .i64 0, .nilFunc, .nilFunc, .nilFunc], .bool false]) W) := hid (fun W b n ho => by
    have := (kinds_look hkd ho).1
    rw [hno, show kindAt k = 0 by unfold kindAt; rw [hno]; rfl] at this
    exact this)
  simp only [msgV]
  clear hno
  go_enter Try.func9, Try.ntmps9
  go_wp2_with fail
  have hne1 : w.heap.size + 1 ≠ w.heap.size := by omega
  go_region_held2 (fun w' => w'.cell? ⟨w.heap.size, 0, none⟩ = some (.int .u8 k))
    ((go_split_ands; (with_reducible (repeat (first | refine cell_setF (by assumption) ?_))) <;> (with_reducible first | assumption | exact cell_alloc_of _ (by assumption) | skip) <;> with_reducible first | exact c0 | exact cell_alloc_of _ c0 | exact cell_alloc_drew _ c0 | exact cell_drew c0))
    (first
      | (go_at_call 27; (go_split_ands; refine (kinds_calls _).mono ?_; rintro e9 wn ⟨bm, rfl, hown, -, -, hbn⟩; have hl1 := Hlk.out _ _ _ hown; have hl2 := Hlk.out _ _ _ hown.drew; have hl3 := Hlk.out _ _ _ (hown.kept (World.grownBy_alloc wn (.cells #[.string ⟨#[]⟩, .int .i64 0, .int .i64 0, .nilFunc, .nilFunc, .nilFunc] 64) none) (by simp)); have hl4 := Hlk.out _ _ _ (hown.drew.kept (World.grownBy_alloc wn.drew (.cells #[.string ⟨#[]⟩, .int .i64 0, .int .i64 0, .nilFunc, .nilFunc, .nilFunc] 64) none) (by simp)); have hk0 : Below (w.alloc (.cells #[.int .u8 k, .int .i64 c, .int .i64 e, .int .i64 s, .int .i64 aud, .slice am nm cm, .string (ofL body), .bool yes, .string (ofL tag)] 26)).heap.size (w.alloc (.cells #[.int .u8 k, .int .i64 c, .int .i64 e, .int .i64 s, .int .i64 aud, .slice am nm cm, .string (ofL body), .bool yes, .string (ofL tag)] 26)) wn := (by first | exact hbn | exact btd hbn | exact bt1 (Below.refl _ _) hbn | exact bt0 (((Below.refl _ _).alloc (Nat.le_refl _) _).drew) hbn); have hbk := Hbk.out.below hk0; have u0 := hbk.val 0 rfl; clear hbk; first | (have hbz : BlkAt wn (w.heap.size + 1) #[.string ⟨#[]⟩, .int .i64 0, .int .i64 0, .nilFunc, .nilFunc, .nilFunc] 64 := (BlkAt.new2 w (.cells #[.int .u8 k, .int .i64 c, .int .i64 e, .int .i64 s, .int .i64 aud, .slice am nm cm, .string (ofL body), .bool yes, .string (ofL tag)] 26) _ _).drew.below hbn; have z0 := hbz.val 0 rfl; have z1 := hbz.val 1 rfl; have z2 := hbz.val 2 rfl; have z3 := hbz.val 3 rfl; have z4 := hbz.val 4 rfl; have z5 := hbz.val 5 rfl; have g0 := hbz.frozen 0; have g1 := hbz.frozen 1; have g2 := hbz.frozen 2; have g3 := hbz.frozen 3; have g4 := hbz.frozen 4; have g5 := hbz.frozen 5) | skip)))
  all_goals
    go_split_ands
    refine gen3 (fun b W => BlkAt W b #[.string ⟨#[]⟩, .int .i64 0, .int .i64 0, .nilFunc, .nilFunc, .nilFunc] 64 ∧ Below (w.alloc (.cells #[.int .u8 k, .int .i64 c, .int .i64 e, .int .i64 s, .int .i64 aud, .slice am nm cm, .string (ofL body), .bool yes, .string (ofL tag)] 26)).heap.size (w.alloc (.cells #[.int .u8 k, .int .i64 c, .int .i64 e, .int .i64 s, .int .i64 aud, .slice am nm cm, .string (ofL body), .bool yes, .string (ofL tag)] 26)) W) (by first | exact ⟨(((((hbz.set 0 _).set 1 _).set 2 _).set 3 _).set 4 _).set 5 _, below_set (below_set (below_set (below_set (below_set (below_set hk0 (by simp) _) (by simp) _) (by simp) _) (by simp) _) (by simp) _) (by simp) _⟩ | with_reducible exact ⟨BlkAt.new _ _ _, hk0.alloc hk0.size _⟩ | with_reducible exact ⟨BlkAt.new _ _ _, hk0.drew.alloc hk0.size _⟩) ?_
  all_goals
    rintro W9 ⟨hz9, hb9⟩
    have HB9 := hid (below_then HB.out HB.out.size hb9)
    clear hz9 hb9 hk0 hbn u0 hl1 hl2
    clear Hbk c0 hne1 Hlk HB hkd
    go_wp2
    go_ret
    exact ⟨rfl, HB9.out⟩
end Go.Proofs.Ytohblakhojhklaa
