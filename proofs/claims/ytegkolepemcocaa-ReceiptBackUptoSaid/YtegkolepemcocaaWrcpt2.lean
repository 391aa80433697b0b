import Derived.Test.YtegkolepemcocaaWrcpt1
/- The walks of receipt's try, Encode. -/
namespace Go.Proofs.Ytegkolepemcocaa
open Go.RowKit Sp

set_option maxRecDepth 20000 in
set_option maxHeartbeats 1000000 in
theorem rtry_catch (b : Nat) (k : Int) (w : World) (hb : b < w.heap.size) (h1 : w.cell? ⟨b, 0, none⟩ = some (.int .i64 0)) (f1 : w.frozen? ⟨b, 0, none⟩ = false) :
    CallsD Try.prog 74 #[.pointer (some ⟨b, 0, none⟩)] (.panicking (thrownR k)) w fun e u' w' =>
      e = .returned (.tuple #[]) ∧ u' = .panicking [{ v := .iface 125 (.agg #[.int .i64 k]), recovered := true }] ∧ w' = (w.setCell ⟨b, 0, none⟩ (.int .i64 k)).alloc (.cells #[.int .i64 k] 125) := by
  have hta : ∀ W, (Instr.typeAssert (.iface 125 (.agg #[.int .i64 k])) 20 125 true).run Try.prog W = .ok (.tuple #[.agg #[.int .i64 k], .bool true]) W := fun _ => by kernel_rfl
  refine callsD_of_wpS Try.func74 rfl fun c₀ cs hu => ?_
  apply wpS_seq
  apply wpS_region
  simp [wpOpsS, go_sem, recoverD, hu, thrownR, Try.ntmps74, Exit.thenS]
  refine wpS_of_wp ?_
  simp only [Array.replicate_succ, Array.replicate_zero, List.push_toArray, List.append_toArray, List.nil_append, List.cons_append, List.setIfInBounds_toArray, List.set_cons_zero, List.set_cons_succ]
  go_wp2
  exact ⟨rfl, _, rfl, .tuple #[], by simp [results, Try.results74], rfl, rfl, rfl⟩
set_option maxRecDepth 20000 in
theorem rtry_idle (b : Nat) (w : World) :
    CallsD Try.prog 74 #[.pointer (some ⟨b, 0, none⟩)] .returning w fun e u' w' => e = .returned (.tuple #[]) ∧ u' = .returning ∧ w' = w := by
  refine callsD_of_wpS Try.func74 rfl fun c₀ cs hu => ?_
  apply wpS_seq
  apply wpS_region
  simp [wpOpsS, go_sem, recoverD, hu, Try.ntmps74, Exit.thenS]
  refine wpS_of_wp ?_
  simp only [Array.replicate_succ, Array.replicate_zero, List.push_toArray, List.append_toArray, List.nil_append, List.cons_append, List.setIfInBounds_toArray, List.set_cons_zero, List.set_cons_succ]
  go_wp2
  refine ⟨rfl, .returning, ?_, .tuple #[], by simp [results, Try.results74], rfl, rfl, rfl⟩
  rw [← hu]

set_option maxRecDepth 20000 in
set_option maxHeartbeats 1000000 in
theorem rtry_ok (g : FuncId) (lb : Array Value) (hent : ∀ w, (callFunc g lb).run Try.prog w = .ok (.enter g lb) w) (R : World → Prop) (w : World)
    (hdo : Calls Try.prog g lb (w.alloc (.cells #[.int .i64 0] 31)) fun e w' => e = .returned (.tuple #[]) ∧ R w' ∧ w'.cell? ⟨w.heap.size, 0, none⟩ = some (.int .i64 0) ∧ w'.frozen? ⟨w.heap.size, 0, none⟩ = false) :
    Calls Try.prog 35 #[.func (.func g) #[] lb] w fun e w' => e = .returned (.int .i64 0) ∧ ∃ w1, R w1 ∧ w.heap.size < w1.heap.size ∧ w' = w1.setCell ⟨w.heap.size, 0, none⟩ (.int .i64 0) := by
  have hmf : ∀ (fn : Fn) (first cap : Array Value) (w : World), (Instr.makeFunc fn first cap).run Try.prog w = .ok (.func fn first cap) w := fun _ _ _ _ => rfl
  have Hdo := hid hdo
  clear hdo
  go_enter_defers Try.func35, Try.ntmps35
  go_wp2_with fail
  refine Hdo.out.mono ?_
  rintro e w1 ⟨rfl, hR, c1, f1⟩
  have hlt := World.block_lt_of_cell? _ _ c1
  simp only at hlt
  have HR := hid hR
  clear hR
  go_wp2
  refine leaves_cons (f := 74) (args := #[.pointer (some ⟨w.heap.size, 0, none⟩)]) (by simp) (by simp [go_sem]) ?_
  refine (rtry_idle _ _).mono ?_
  rintro e u' w'' ⟨rfl, rfl, rfl⟩
  simp [Leaves, settle, results, Try.results35, go_sem, c1]
  exact ⟨_, HR.out, hlt, rfl⟩
set_option maxRecDepth 20000 in
set_option maxHeartbeats 1000000 in
theorem rtry_no (g : FuncId) (lb : Array Value) (hent : ∀ w, (callFunc g lb).run Try.prog w = .ok (.enter g lb) w) (R : World → Prop) (k : Int) (w : World)
    (hdo : Calls Try.prog g lb (w.alloc (.cells #[.int .i64 0] 31)) fun e w' => e = .panicked (thrownR k) ∧ R w' ∧ w'.cell? ⟨w.heap.size, 0, none⟩ = some (.int .i64 0) ∧ w'.frozen? ⟨w.heap.size, 0, none⟩ = false) :
    Calls Try.prog 35 #[.func (.func g) #[] lb] w fun e w' => e = .returned (.int .i64 k) ∧ ∃ w1, R w1 ∧ w.heap.size < w1.heap.size ∧ w' = (w1.setCell ⟨w.heap.size, 0, none⟩ (.int .i64 k)).alloc (.cells #[.int .i64 k] 125) := by
  have hmf : ∀ (fn : Fn) (first cap : Array Value) (w : World), (Instr.makeFunc fn first cap).run Try.prog w = .ok (.func fn first cap) w := fun _ _ _ _ => rfl
  have Hdo := hid hdo
  clear hdo
  go_enter_defers Try.func35, Try.ntmps35
  go_wp2_with fail
  refine Hdo.out.mono ?_
  rintro e w1 ⟨rfl, hR, c1, f1⟩
  have hlt := World.block_lt_of_cell? _ _ c1
  simp only at hlt
  have HR := hid hR
  clear hR
  go_wp2
  refine leaves_cons (f := 74) (args := #[.pointer (some ⟨w.heap.size, 0, none⟩)]) (by simp) (by simp [go_sem]) ?_
  refine (rtry_catch _ k w1 hlt c1 f1).mono ?_
  rintro e u' w'' ⟨rfl, rfl, rfl⟩
  simp [Leaves, settle, results, Try.results35, go_sem, c1, hlt]
  exact ⟨_, HR.out, hlt, rfl⟩

/-- What a made thing comes to, over one open pair. -/
theorem made_pair {X : Except Nat Bs} (hpos : ∀ e, X = .error e → 0 < e) (hlen : ∀ s, X = .ok s → s.length ≤ 16384) : ∃ s y, encMade X = .tuple #[.string (ofL s), .int .i64 y] ∧ (y = 0 → X = .ok s) ∧ (y ≠ 0 → ∃ e, X = .error e) ∧ s.length ≤ 16384 := by
  cases X with
  | ok s => exact ⟨s, 0, rfl, fun _ => rfl, fun h => absurd rfl h, hlen s rfl⟩
  | error e => exact ⟨[], e, rfl, fun h => by have := hpos e rfl; omega, fun _ => ⟨e, rfl⟩, by simp⟩
theorem txnT_len {t : Txn} {s : Bs} (h : txnT t = .ok s) : s.length ≤ 16384 := by
  unfold txnT at h
  split at h
  · exact term_len (row_len h)
  · cases h
theorem num_len {v : Int} {s : Bs} (h : Sp.num v = .ok s) : s.length ≤ 16384 := by
  unfold Sp.num at h
  split at h
  · cases h
  · have := data_len h; omega
theorem membersT_len {t : Txn} {l : List Mem} {s : Bs} (h : membersT t l = .ok s) : s.length ≤ 16384 := by
  unfold membersT at h
  split at h
  · split at h
    · cases h
    · exact term_len (row_len h)
  · cases h
theorem bt0 {w V W : World} (h : Below w.heap.size w V) (hb : Below V.heap.size V W) : Below w.heap.size w W := below_then h h.size hb
theorem bt1 {w V W : World} {o : Obj} (h : Below w.heap.size w V) (hb : Below (V.alloc o).heap.size (V.alloc o) W) : Below w.heap.size w W := bt0 (h.alloc h.size o) hb
theorem btd {w W : World} (hb : Below w.drew.heap.size w.drew W) : Below w.heap.size w W := bt0 (Below.refl _ w).drew hb
theorem cell_far1 {W : World} {b0 b1 o : Nat} {v x : Value} (hne : b1 ≠ b0) (h : W.cell? ⟨b0, o, none⟩ = some v) : (W.setCell ⟨b1, 0, none⟩ x).cell? ⟨b0, o, none⟩ = some v := (World.cell?_setCell_far _ _ _ _ hne).trans h
set_option maxRecDepth 20000 in
theorem rmade_pair (s : Bs) (y : Int) (w : World) : Calls Try.prog 39 #[.string (ofL s), .int .i64 y] w fun e w' => e = (if y = 0 then .returned (.string (ofL s)) else .panicked (thrownR 5)) ∧ w = w' := by
  by_cases h : y = 0
  · subst h; rw [if_pos rfl]; exact rmade_ok _ w
  · rw [if_neg h]; exact rmade_no _ y h w
theorem txnT_err {t : Txn} {e : Nat} (h : txnT t = .error e) : 0 < e := by
  unfold txnT at h
  split at h
  · exact row_err h
  · injection h with h; omega
theorem data_err {s : Bs} {e : Nat} (h : data s = .error e) : 0 < e := by
  unfold data at h
  split at h
  · injection h with h; omega
  · cases h
theorem num_err {v : Int} {e : Nat} (h : Sp.num v = .error e) : 0 < e := by
  unfold Sp.num at h
  split at h
  · injection h with h; omega
  · exact data_err h
theorem memTs_err {l : List Mem} {e : Nat} (h : memTs l = .error e) : e = 5 := by
  induction l generalizing e with
  | nil => cases h
  | cons x r ih =>
    simp only [memTs] at h
    split at h
    · injection h with h; exact h.symm
    · split at h
      · rename_i e' he; injection h with h; subst h; exact ih he
      · cases h
theorem membersT_err {t : Txn} {l : List Mem} {e : Nat} (h : membersT t l = .error e) : 0 < e := by
  unfold membersT at h
  split at h
  · split at h
    · rename_i e' he
      injection h with h; subst h
      rw [memTs_err he]; omega
    · exact row_err h
  · injection h with h; omega

theorem wordT_ok : data wordR = .ok wordT := by simp [wordT, data, getS, wordR]
theorem strsAt_five (W : World) (a b c d e : Bs) (T : TypeId) : StrsAt (W.alloc (.cells #[.string (ofL a), .string (ofL b), .string (ofL c), .string (ofL d), .string (ofL e)] T)) (some ⟨W.heap.size, 0, none⟩) [a, b, c, d, e] := fun i h => by
  match i, h with
  | 0, _ => exact ⟨_, _, rfl, by simp⟩
  | 1, _ => exact ⟨_, _, rfl, by simp⟩
  | 2, _ => exact ⟨_, _, rfl, by simp⟩
  | 3, _ => exact ⟨_, _, rfl, by simp⟩
  | 4, _ => exact ⟨_, _, rfl, by simp⟩

def encDoPost (b1 : Nat) (X : Except Nat Bs) (w : World) (e : Ending) (w' : World) : Prop :=
  match X with
  | .ok t => e = .returned (.tuple #[]) ∧ ∃ w2, Below w.heap.size w w2 ∧ w' = w2.setCell ⟨b1, 0, none⟩ (.string (ofL t))
  | .error _ => e = .panicked (thrownR 5) ∧ Below w.heap.size w w'

theorem putR_err {r : Rcpt} {e : Nat} (h : putR r = .error e) : e = 5 := by
  unfold putR at h
  split at h
  · split at h
    · cases h
    · injection h with h; exact h.symm
  · injection h with h; exact h.symm

set_option maxRecDepth 20000 in
set_option maxHeartbeats 4000000 in
theorem encDo_calls (r : Rcpt) (am : Option Addr) (nm cm : Nat) (at_ : Option Addr) (nt ct : Nat) (hn : nm = r.mems.length) (hnt : nt = r.tags.length) (hl : r.mems.length ≤ 100000000) (hlt : r.tags.length ≤ 100000000)
    (hm : ∀ x ∈ r.mems, x.dig.length ≤ 100000000) (ht : ∀ s ∈ r.tags, s.length ≤ 10000000) (b0 b1 : Nat) (w : World) (h : MemsAt w am r.mems) (hs : StrsAt w at_ r.tags)
    (q0 : w.cell? ⟨b0, 0, none⟩ = some (.int .i64 r.txn.c)) (q1 : w.cell? ⟨b0, 1, none⟩ = some (.int .i64 r.txn.e)) (q2 : w.cell? ⟨b0, 2, none⟩ = some (.int .i64 r.txn.s)) (q3 : w.cell? ⟨b0, 3, none⟩ = some (.int .i64 r.aud))
    (q4 : w.cell? ⟨b0, 4, none⟩ = some (.slice am nm cm)) (q5 : w.cell? ⟨b0, 5, none⟩ = some (.slice at_ nt ct))
    (p0 : w.cell? ⟨b1, 0, none⟩ = some (.string (ofL []))) (p1 : w.frozen? ⟨b1, 0, none⟩ = false) :
    Calls Try.prog 38 #[.pointer (some ⟨b0, 0, none⟩), .pointer (some ⟨b1, 0, none⟩)] w fun e w' => encDoPost b1 (putR r) w e w' := by
  obtain ⟨t, aud, l, tg⟩ := r
  simp only at hn hnt hl hlt hm ht h hs q0 q1 q2 q3 q4 q5
  have hdt := fun W => data_calls wordR (by decide) W
  rw [wordT_ok] at hdt
  simp only [encMade] at hdt
  have htx := fun W => txn_calls t W
  have hnu := fun W => numT_calls aud W
  have hme := fun W a' (hW : MemsAt W a' l) => members_calls t a' nm cm l hn hl hm W hW
  have hrw := fun W a' (hW : StrsAt W a' tg) => row_calls a' nt ct tg hnt hlt ht W hW
  obtain ⟨sa, ya, ha, ka, ka', la⟩ := made_pair (X := txnT t) (fun e h => txnT_err h) (fun s h => txnT_len h)
  obtain ⟨sb, yb, hb, kb, kb', lb⟩ := made_pair (X := Sp.num aud) (fun e h => num_err h) (fun s h => num_len h)
  obtain ⟨sc, yc, hc, kc, kc', lc⟩ := made_pair (X := membersT t l) (fun e h => membersT_err h) (fun s h => membersT_len h)
  obtain ⟨sd, yd, hd, kd, kd', ld⟩ := made_pair (X := row tg) (fun e h => row_err h) (fun s h => term_len (row_len h))
  obtain ⟨se, ye, he, ke, ke', -⟩ := made_pair (X := row [wordT, sa, sb, sc, sd]) (fun e h => row_err h) (fun s h => term_len (row_len h))
  have hw5 : wordT.length ≤ 20 := by simp [wordT, data, getS, wordR, textOf, numOf]
  have hr5 := fun a' W (hW : StrsAt W a' [wordT, sa, sb, sc, sd]) => row_calls a' 5 5 [wordT, sa, sb, sc, sd] rfl (by simp) (by simp; omega) W hW
  rw [ha] at htx
  rw [hb] at hnu
  rw [hc] at hme
  rw [hd] at hrw
  rw [he] at hr5
  obtain ⟨X, hX⟩ : ∃ X, putR ⟨t, aud, l, tg⟩ = X := ⟨_, rfl⟩
  rw [hX]
  have ea : ya ≠ 0 → X = .error 5 := fun h => by obtain ⟨e, h1⟩ := ka' h; rw [← hX]; unfold putR fiveR; simp [h1]
  have eb : yb ≠ 0 → X = .error 5 := fun h => by obtain ⟨e, h1⟩ := kb' h; rw [← hX]; unfold putR fiveR; cases txnT t <;> simp [h1]
  have ec : yc ≠ 0 → X = .error 5 := fun h => by obtain ⟨e, h1⟩ := kc' h; rw [← hX]; unfold putR fiveR; cases txnT t <;> cases Sp.num aud <;> simp [h1]
  have ed : yd ≠ 0 → X = .error 5 := fun h => by obtain ⟨e, h1⟩ := kd' h; rw [← hX]; unfold putR fiveR; cases txnT t <;> cases Sp.num aud <;> cases membersT t l <;> simp [h1]
  have ee : ya = 0 → yb = 0 → yc = 0 → yd = 0 → X = match row [wordT, sa, sb, sc, sd] with | .ok t => .ok t | .error _ => .error 5 := fun h1 h2 h3 h4 => by
    rw [← hX]; unfold putR fiveR; simp only [ka h1, kb h2, kc h3, kd h4]; cases row [wordT, sa, sb, sc, sd] <;> rfl
  obtain ⟨c, e, s⟩ := t
  simp only [txnV] at htx hme q0 q1 q2
  have Hdt := hid hdt
  have Htx := hid htx
  have Hnu := hid hnu
  have Hme := hid hme
  have Hrw := hid hrw
  have Hr5 := hid hr5
  have H := hid h
  have HS := hid hs
  have Ea := hid ea
  have Eb := hid eb
  have Ec := hid ec
  have Ed := hid ed
  have Ee := hid ee
  have Ke := hid ke
  have Ke' := hid ke'
  have hl0 := World.block_lt_of_cell? _ _ q0
  have hl1 := World.block_lt_of_cell? _ _ p0
  simp only at hl0 hl1
  have hne : b1 ≠ b0 := by rintro rfl; rw [q0] at p0; cases p0
  have hcells : ∀ W, Below w.heap.size w W → (W.cell? ⟨b0, 0, none⟩ = some (.int .i64 c) ∧ W.cell? ⟨b0, 1, none⟩ = some (.int .i64 e) ∧ W.cell? ⟨b0, 2, none⟩ = some (.int .i64 s) ∧ W.cell? ⟨b0, 3, none⟩ = some (.int .i64 aud) ∧ W.cell? ⟨b0, 4, none⟩ = some (.slice am nm cm) ∧ W.cell? ⟨b0, 5, none⟩ = some (.slice at_ nt ct)) ∧ W.cell? ⟨b1, 0, none⟩ = some (.string (ofL [])) ∧ W.frozen? ⟨b1, 0, none⟩ = false := fun W hb =>
    ⟨⟨(hb.cell (p := ⟨b0, 0, none⟩) hl0).trans q0, (hb.cell (p := ⟨b0, 1, none⟩) hl0).trans q1, (hb.cell (p := ⟨b0, 2, none⟩) hl0).trans q2, (hb.cell (p := ⟨b0, 3, none⟩) hl0).trans q3, (hb.cell (p := ⟨b0, 4, none⟩) hl0).trans q4, (hb.cell (p := ⟨b0, 5, none⟩) hl0).trans q5⟩,
      (hb.cell (p := ⟨b1, 0, none⟩) hl1).trans p0, (hb.frozen (p := ⟨b1, 0, none⟩) hl1).trans p1⟩
  have Hcells := hid hcells
  clear hdt htx hnu hme hrw hr5 h hs ea eb ec ed ee ke ke' hX ha hb hc hd he ka ka' kb kb' kc kc' kd kd' la lb lc ld hn hnt hl hlt hm ht hcells hw5
  go_enter Try.func38, Try.ntmps38
  refine wp_region_panicSame w.heap.size w (thrownR 5) (X = .error 5) (fun a w' hd hE h => ?_) ?_
  · refine ⟨hd, ?_⟩
    rw [hE]
    exact ⟨rfl, h⟩
  go_region_held2 (fun w' => w'.cell? ⟨b0, 0, none⟩ = some (.int .i64 c) ∧ w'.cell? ⟨b0, 1, none⟩ = some (.int .i64 e) ∧ w'.cell? ⟨b0, 2, none⟩ = some (.int .i64 s) ∧ w'.cell? ⟨b0, 3, none⟩ = some (.int .i64 aud) ∧ w'.cell? ⟨b0, 4, none⟩ = some (.slice am nm cm) ∧ w'.cell? ⟨b0, 5, none⟩ = some (.slice at_ nt ct))
    ((go_split_ands; refine ⟨?_, ?_, ?_, ?_, ?_, ?_⟩ <;> (with_reducible first | assumption | exact cell_alloc_of _ (by assumption) | exact cell_far1 hne (by assumption) | skip) <;> first | exact q0 | exact q1 | exact q2 | exact q3 | exact q4 | exact q5))
    (first
      | (go_at_call 39; go_split_ands; with_reducible refine (rmade_ok _ _).mono ?_; rintro e9 wn ⟨rfl, rfl⟩)
      | (go_at_call 39; go_split_ands; with_reducible refine (rmade_pair sa ya _).mono ?_; rintro e9 wn ⟨he, rfl⟩; rcases Decidable.em (ya = 0) with za | za; rotate_left; (focus (rw [if_neg za] at he; subst he; exact PanicSame.panic (by assumption) (Ea.out za) (by rfl))); rw [if_pos za] at he; subst he)
      | (go_at_call 39; go_split_ands; with_reducible refine (rmade_pair sb yb _).mono ?_; rintro e9 wn ⟨he, rfl⟩; rcases Decidable.em (yb = 0) with zb | zb; rotate_left; (focus (rw [if_neg zb] at he; subst he; exact PanicSame.panic (by assumption) (Eb.out zb) (by rfl))); rw [if_pos zb] at he; subst he)
      | (go_at_call 39; go_split_ands; with_reducible refine (rmade_pair sc yc _).mono ?_; rintro e9 wn ⟨he, rfl⟩; rcases Decidable.em (yc = 0) with zc | zc; rotate_left; (focus (rw [if_neg zc] at he; subst he; exact PanicSame.panic (by assumption) (Ec.out zc) (by rfl))); rw [if_pos zc] at he; subst he)
      | (go_at_call 39; go_split_ands; with_reducible refine (rmade_pair sd yd _).mono ?_; rintro e9 wn ⟨he, rfl⟩; rcases Decidable.em (yd = 0) with zd | zd; rotate_left; (focus (rw [if_neg zd] at he; subst he; exact PanicSame.panic (by assumption) (Ed.out zd) (by rfl))); rw [if_pos zd] at he; subst he)
      | (go_at_call 39; go_split_ands; with_reducible refine (rmade_pair se ye _).mono ?_; rintro e9 wn ⟨he, rfl⟩; rcases Decidable.em (ye = 0) with ze | ze; rotate_left; (focus (rw [if_neg ze] at he; subst he; exact PanicSame.panic (by assumption) (by have h9 := Ee.out za zb zc zd; obtain ⟨er, h8⟩ := Ke'.out ze; rw [h8] at h9; exact h9) (by rfl))); rw [if_pos ze] at he; subst he)
      | (go_at_call 41; go_split_ands; refine (Hdt.out _).mono ?_; rintro e9 wn ⟨rfl, hbn⟩; have hk0 : Below w.heap.size w wn := (by with_reducible first | exact bt0 (by assumption) hbn | exact bt1 (by assumption) hbn | exact btd hbn); obtain ⟨⟨e0, e1, e2, e3, e4, e5⟩, pp0, pp1⟩ := Hcells.out _ hk0)
      | (go_at_call 42; go_split_ands; refine (Htx.out _).mono ?_; rintro e9 wn ⟨rfl, hbn⟩; have hk0 : Below w.heap.size w wn := (by with_reducible first | exact bt0 (by assumption) hbn | exact bt1 (by assumption) hbn | exact btd hbn); obtain ⟨⟨e0, e1, e2, e3, e4, e5⟩, pp0, pp1⟩ := Hcells.out _ hk0)
      | (go_at_call 43; go_split_ands; refine (Hnu.out _).mono ?_; rintro e9 wn ⟨rfl, hbn⟩; have hk0 : Below w.heap.size w wn := (by with_reducible first | exact bt0 (by assumption) hbn | exact bt1 (by assumption) hbn | exact btd hbn); obtain ⟨⟨e0, e1, e2, e3, e4, e5⟩, pp0, pp1⟩ := Hcells.out _ hk0)
      | (go_at_call 44; go_split_ands; refine (Hme.out _ _ (H.out.below (by assumption))).mono ?_; rintro e9 wn ⟨rfl, hbn⟩; have hk0 : Below w.heap.size w wn := (by with_reducible first | exact bt0 (by assumption) hbn | exact bt1 (by assumption) hbn | exact btd hbn); obtain ⟨⟨e0, e1, e2, e3, e4, e5⟩, pp0, pp1⟩ := Hcells.out _ hk0)
      | (go_at_call 40; go_split_ands; with_reducible refine (Hrw.out _ _ (HS.out.below (by assumption))).mono ?_; rintro e9 wn ⟨rfl, hbn⟩; have hk0 : Below w.heap.size w wn := (by with_reducible first | exact bt0 (by assumption) hbn | exact bt1 (by assumption) hbn | exact btd hbn); obtain ⟨⟨e0, e1, e2, e3, e4, e5⟩, pp0, pp1⟩ := Hcells.out _ hk0)
      | (go_at_call 40; go_split_ands; refine (Hr5.out _ _ (strsAt_five _ _ _ _ _ _ _)).mono ?_; rintro e9 wn ⟨rfl, hbn⟩; have hk0 : Below w.heap.size w wn := (by with_reducible first | exact bt0 (by assumption) hbn | exact bt1 (by assumption) hbn | exact btd hbn); obtain ⟨⟨e0, e1, e2, e3, e4, e5⟩, pp0, pp1⟩ := Hcells.out _ hk0))
  refine PanicSame.normal ?_
  have h9 := Ee.out za zb zc zd
  rw [Ke.out ze] at h9
  simp only at h9
  have H9 := hid h9
  have HK := hid hk0
  clear h9 hk0 Ee Ke Ke' Ea Eb Ec Ed Hcells
  go_wp2
  go_end0
  rw [H9.out]
  exact ⟨rfl, _, HK.out, rfl⟩
end Go.Proofs.Ytegkolepemcocaa
