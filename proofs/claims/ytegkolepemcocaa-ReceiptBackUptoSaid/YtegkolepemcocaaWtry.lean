import Derived.Test.YtegkolepemcocaaWwire2
/- The walk of wire's try, over whatever it is handed. -/
namespace Go.Proofs.Ytegkolepemcocaa
open Go.RowKit Sp

set_option maxRecDepth 20000 in
set_option maxHeartbeats 1000000 in
theorem wtry_catch (b : Nat) (w : World) (hb : b < w.heap.size) (h1 : w.cell? ⟨b, 0, none⟩ = some (.bool false)) (f1 : w.frozen? ⟨b, 0, none⟩ = false) :
    CallsD Try.prog 92 #[.pointer (some ⟨b, 0, none⟩)] (.panicking thrownW) w fun e u' w' =>
      e = .returned (.tuple #[]) ∧ u' = .panicking [{ v := .iface 147 (.agg #[]), recovered := true }] ∧ w' = (w.setCell ⟨b, 0, none⟩ (.bool false)).alloc (.cells #[] 147) := by
  have hta : ∀ W, (Instr.typeAssert (.iface 147 (.agg #[])) 20 147 true).run Try.prog W = .ok (.tuple #[.agg #[], .bool true]) W := fun _ => by kernel_rfl
  refine callsD_of_wpS Try.func92 rfl fun c₀ cs hu => ?_
  apply wpS_seq
  apply wpS_region
  simp [wpOpsS, go_sem, recoverD, hu, thrownW, Try.ntmps92, Exit.thenS]
  refine wpS_of_wp ?_
  simp only [Array.replicate_succ, Array.replicate_zero, List.push_toArray, List.append_toArray, List.nil_append, List.cons_append, List.setIfInBounds_toArray, List.set_cons_zero, List.set_cons_succ]
  go_wp2
  exact ⟨rfl, _, rfl, .tuple #[], by simp [results, Try.results92], rfl, rfl, rfl⟩
set_option maxRecDepth 20000 in
theorem wtry_idle (b : Nat) (w : World) :
    CallsD Try.prog 92 #[.pointer (some ⟨b, 0, none⟩)] .returning w fun e u' w' => e = .returned (.tuple #[]) ∧ u' = .returning ∧ w' = w := by
  refine callsD_of_wpS Try.func92 rfl fun c₀ cs hu => ?_
  apply wpS_seq
  apply wpS_region
  simp [wpOpsS, go_sem, recoverD, hu, Try.ntmps92, Exit.thenS]
  refine wpS_of_wp ?_
  simp only [Array.replicate_succ, Array.replicate_zero, List.push_toArray, List.append_toArray, List.nil_append, List.cons_append, List.setIfInBounds_toArray, List.set_cons_zero, List.set_cons_succ]
  go_wp2
  refine ⟨rfl, .returning, ?_, .tuple #[], by simp [results, Try.results92], rfl, rfl, rfl⟩
  rw [← hu]

set_option maxRecDepth 20000 in
set_option maxHeartbeats 1000000 in
theorem wtry_ok (g : FuncId) (lb : Array Value) (hent : ∀ w, (callFunc g lb).run Try.prog w = .ok (.enter g lb) w) (R : World → Prop) (w : World)
    (hdo : Calls Try.prog g lb (w.alloc (.cells #[.bool false] 4)) fun e w' => e = .returned (.tuple #[]) ∧ R w' ∧ w'.cell? ⟨w.heap.size, 0, none⟩ = some (.bool false) ∧ w'.frozen? ⟨w.heap.size, 0, none⟩ = false) :
    Calls Try.prog 54 #[.func (.func g) #[] lb] w fun e w' => e = .returned (.bool true) ∧ ∃ w1, R w1 ∧ w.heap.size < w1.heap.size ∧ w' = w1.setCell ⟨w.heap.size, 0, none⟩ (.bool true) := by
  have hmf : ∀ (fn : Fn) (first cap : Array Value) (w : World), (Instr.makeFunc fn first cap).run Try.prog w = .ok (.func fn first cap) w := fun _ _ _ _ => rfl
  have Hdo := hid hdo
  clear hdo
  go_enter_defers Try.func54, Try.ntmps54
  go_wp2_with fail
  refine Hdo.out.mono ?_
  rintro e w1 ⟨rfl, hR, c1, f1⟩
  have hlt := World.block_lt_of_cell? _ _ c1
  simp only at hlt
  have HR := hid hR
  clear hR
  go_wp2
  refine leaves_cons (f := 92) (args := #[.pointer (some ⟨w.heap.size, 0, none⟩)]) (by simp) (by simp [go_sem]) ?_
  refine (wtry_idle _ _).mono ?_
  rintro e u' w'' ⟨rfl, rfl, rfl⟩
  simp [Leaves, settle, results, Try.results54, go_sem, c1]
  exact ⟨_, HR.out, hlt, rfl⟩
set_option maxRecDepth 20000 in
set_option maxHeartbeats 1000000 in
theorem wtry_no (g : FuncId) (lb : Array Value) (hent : ∀ w, (callFunc g lb).run Try.prog w = .ok (.enter g lb) w) (R : World → Prop) (w : World)
    (hdo : Calls Try.prog g lb (w.alloc (.cells #[.bool false] 4)) fun e w' => e = .panicked thrownW ∧ R w' ∧ w'.cell? ⟨w.heap.size, 0, none⟩ = some (.bool false) ∧ w'.frozen? ⟨w.heap.size, 0, none⟩ = false) :
    Calls Try.prog 54 #[.func (.func g) #[] lb] w fun e w' => e = .returned (.bool false) ∧ ∃ w1, R w1 ∧ w.heap.size < w1.heap.size ∧ w' = (w1.setCell ⟨w.heap.size, 0, none⟩ (.bool false)).alloc (.cells #[] 147) := by
  have hmf : ∀ (fn : Fn) (first cap : Array Value) (w : World), (Instr.makeFunc fn first cap).run Try.prog w = .ok (.func fn first cap) w := fun _ _ _ _ => rfl
  have Hdo := hid hdo
  clear hdo
  go_enter_defers Try.func54, Try.ntmps54
  go_wp2_with fail
  refine Hdo.out.mono ?_
  rintro e w1 ⟨rfl, hR, c1, f1⟩
  have hlt := World.block_lt_of_cell? _ _ c1
  simp only at hlt
  have HR := hid hR
  clear hR
  go_wp2
  refine leaves_cons (f := 92) (args := #[.pointer (some ⟨w.heap.size, 0, none⟩)]) (by simp) (by simp [go_sem]) ?_
  refine (wtry_catch _ w1 hlt c1 f1).mono ?_
  rintro e u' w'' ⟨rfl, rfl, rfl⟩
  simp [Leaves, settle, results, Try.results54, go_sem, c1, hlt]
  exact ⟨_, HR.out, hlt, rfl⟩

set_option maxRecDepth 20000 in
set_option maxHeartbeats 1000000 in
theorem rdTxn_do_ok (t : Bs) (hm : t.length ≤ 10000000) (x : Txn) (h : untxn t = some x) (b0 b1 : Nat) (w : World) (h0 : w.cell? ⟨b0, 0, none⟩ = some (.string (ofL t)))
    (c0 : w.cell? ⟨b1, 0, none⟩ = some (.int .i64 0)) (c1 : w.cell? ⟨b1, 1, none⟩ = some (.int .i64 0)) (c2 : w.cell? ⟨b1, 2, none⟩ = some (.int .i64 0))
    (f0 : w.frozen? ⟨b1, 0, none⟩ = false) (f1 : w.frozen? ⟨b1, 1, none⟩ = false) (f2 : w.frozen? ⟨b1, 2, none⟩ = false) :
    Calls Try.prog 113 #[.pointer (some ⟨b0, 0, none⟩), .pointer (some ⟨b1, 0, none⟩)] w fun e w' => e = .returned (.tuple #[]) ∧
      ∃ w2, Below w.heap.size w w2 ∧ w' = ((w2.setCell ⟨b1, 0, none⟩ (.int .i64 x.c)).setCell ⟨b1, 1, none⟩ (.int .i64 x.e)).setCell ⟨b1, 2, none⟩ (.int .i64 x.s) := by
  have hu := untxn_calls t hm w
  rw [h] at hu
  obtain ⟨c, e, s⟩ := x
  simp only [txnEnd, txnV] at hu
  have Hu := hid hu
  have hl := World.block_lt_of_cell? _ _ c0
  clear hu h
  go_enter Try.func113, Try.ntmps113
  go_wp2_with fail
  refine Hu.out.mono ?_
  rintro e1 w2 ⟨rfl, hb⟩
  have k0 := (hb.cell (p := ⟨b1, 0, none⟩) hl).trans c0
  have k1 := (hb.cell (p := ⟨b1, 1, none⟩) hl).trans c1
  have k2 := (hb.cell (p := ⟨b1, 2, none⟩) hl).trans c2
  have g0 := (hb.frozen (p := ⟨b1, 0, none⟩) hl).trans f0
  have g1 := (hb.frozen (p := ⟨b1, 1, none⟩) hl).trans f1
  have g2 := (hb.frozen (p := ⟨b1, 2, none⟩) hl).trans f2
  have Hb := hid hb
  clear hb
  go_wp2
  go_end0
  exact ⟨rfl, _, Hb.out, rfl⟩
set_option maxRecDepth 20000 in
set_option maxHeartbeats 1000000 in
theorem rdTxn_do_no (t : Bs) (hm : t.length ≤ 10000000) (h : untxn t = none) (b0 b1 : Nat) (w : World) (h0 : w.cell? ⟨b0, 0, none⟩ = some (.string (ofL t))) :
    Calls Try.prog 113 #[.pointer (some ⟨b0, 0, none⟩), .pointer (some ⟨b1, 0, none⟩)] w fun e w' => e = .panicked thrownW ∧ Below w.heap.size w w' := by
  have hu := untxn_calls t hm w
  rw [h] at hu
  simp only [txnEnd] at hu
  have Hu := hid hu
  clear hu h
  go_enter Try.func113, Try.ntmps113
  go_wp2_with fail
  refine Hu.out.mono ?_
  rintro e1 w2 ⟨rfl, hb⟩
  exact ⟨rfl, rfl, hb⟩

def txnGot (t : Bs) : Txn := (untxn t).getD ⟨0, 0, 0⟩
def CellsTxn (w : World) (b : Nat) (x : Txn) : Prop := (w.cell? ⟨b, 0, none⟩ = some (.int .i64 x.c) ∧ w.cell? ⟨b, 1, none⟩ = some (.int .i64 x.e) ∧ w.cell? ⟨b, 2, none⟩ = some (.int .i64 x.s)) ∧
  w.frozen? ⟨b, 0, none⟩ = false ∧ w.frozen? ⟨b, 1, none⟩ = false ∧ w.frozen? ⟨b, 2, none⟩ = false
theorem CellsTxn.below {w w' : World} {b : Nat} {x : Txn} (h : CellsTxn w b x) (hb : Below w.heap.size w w') : CellsTxn w' b x := by
  obtain ⟨⟨c0, c1, c2⟩, f0, f1, f2⟩ := h
  have hl := World.block_lt_of_cell? _ _ c0
  exact ⟨⟨(hb.cell (p := ⟨b, 0, none⟩) hl).trans c0, (hb.cell (p := ⟨b, 1, none⟩) hl).trans c1, (hb.cell (p := ⟨b, 2, none⟩) hl).trans c2⟩, (hb.frozen (p := ⟨b, 0, none⟩) hl).trans f0, (hb.frozen (p := ⟨b, 1, none⟩) hl).trans f1, (hb.frozen (p := ⟨b, 2, none⟩) hl).trans f2⟩
theorem CellsTxn.set {w : World} {b : Nat} {x : Txn} (h : CellsTxn w b x) (y : Txn) : CellsTxn (((w.setCell ⟨b, 0, none⟩ (.int .i64 y.c)).setCell ⟨b, 1, none⟩ (.int .i64 y.e)).setCell ⟨b, 2, none⟩ (.int .i64 y.s)) b y := by
  obtain ⟨⟨c0, c1, c2⟩, f0, f1, f2⟩ := h
  exact ⟨set3_cells c0 c1 c2, by simp [go_sem, f0], by simp [go_sem, f1], by simp [go_sem, f2]⟩
theorem CellsTxn.far {w : World} {b : Nat} {x : Txn} (h : CellsTxn w b x) {b' : Nat} (hne : b' ≠ b) (v : Value) : CellsTxn (w.setCell ⟨b', 0, none⟩ v) b x := by
  obtain ⟨⟨c0, c1, c2⟩, f0, f1, f2⟩ := h
  refine ⟨⟨?_, ?_, ?_⟩, by simp [go_sem, f0], by simp [go_sem, f1], by simp [go_sem, f2]⟩
  · rw [World.cell?_setCell_far _ _ _ _ hne]; exact c0
  · rw [World.cell?_setCell_far _ _ _ _ hne]; exact c1
  · rw [World.cell?_setCell_far _ _ _ _ hne]; exact c2

theorem rdTxn_try (t : Bs) (hm : t.length ≤ 10000000) (b0 b1 : Nat) (W : World) (h0 : W.cell? ⟨b0, 0, none⟩ = some (.string (ofL t))) (h1 : CellsTxn W b1 ⟨0, 0, 0⟩) :
    Calls Try.prog 54 #[.func (.func 113) #[] #[.pointer (some ⟨b0, 0, none⟩), .pointer (some ⟨b1, 0, none⟩)]] W fun e w' => e = .returned (.bool (untxn t).isSome) ∧ CellsTxn w' b1 (txnGot t) ∧ Below b1 W w' := by
  have hl := World.block_lt_of_cell? _ _ h1.1.1
  have hl0 := World.block_lt_of_cell? _ _ h0
  simp only at hl hl0
  have hA : Below W.heap.size W (W.alloc (.cells #[.bool false] 4)) := (Below.refl _ W).alloc (Nat.le_refl _) _
  have hC : CellsTxn (W.alloc (.cells #[.bool false] 4)) b1 ⟨0, 0, 0⟩ := h1.below hA
  have hD : (W.alloc (.cells #[.bool false] 4)).cell? ⟨b0, 0, none⟩ = some (.string (ofL t)) := cell_alloc_of _ h0
  cases h : untxn t with
  | none =>
    refine (wtry_no 113 _ (fun w => by kernel_rfl) (fun w' => Below (W.alloc (.cells #[.bool false] 4)).heap.size (W.alloc (.cells #[.bool false] 4)) w') W ?_).mono ?_
    · refine (rdTxn_do_no t hm h b0 b1 _ hD).mono ?_
      rintro e w' ⟨rfl, hb⟩
      exact ⟨rfl, hb, (hb.cell (p := ⟨_, 0, none⟩) (by simp)).trans (by simp [go_sem]), (hb.frozen (p := ⟨_, 0, none⟩) (by simp)).trans (by simp [go_sem])⟩
    · rintro e w' ⟨rfl, w1, hb, hlt, rfl⟩
      have hW : Below W.heap.size W w1 := below_then hA (by simp) hb
      refine ⟨rfl, ?_, ?_⟩
      · unfold txnGot; rw [h]
        exact ((hC.below hb).far (by omega) _).below ((Below.refl _ _).alloc (Nat.le_refl _) _)
      · exact ((hW.mono (by omega)).setCell (p := ⟨_, 0, none⟩) (by simp; omega) _).alloc (by simp; omega) _
  | some x =>
    refine (wtry_ok 113 _ (fun w => by kernel_rfl) (fun w' => ∃ w4, Below (W.alloc (.cells #[.bool false] 4)).heap.size (W.alloc (.cells #[.bool false] 4)) w4 ∧ w' = ((w4.setCell ⟨b1, 0, none⟩ (.int .i64 x.c)).setCell ⟨b1, 1, none⟩ (.int .i64 x.e)).setCell ⟨b1, 2, none⟩ (.int .i64 x.s)) W ?_).mono ?_
    · refine (rdTxn_do_ok t hm x h b0 b1 _ hD hC.1.1 hC.1.2.1 hC.1.2.2 hC.2.1 hC.2.2.1 hC.2.2.2).mono ?_
      rintro e w' ⟨rfl, w4, hb, rfl⟩
      have a0 : w4.cell? ⟨W.heap.size, 0, none⟩ = some (.bool false) := (hb.cell (p := ⟨_, 0, none⟩) (by simp)).trans (by simp [go_sem])
      have a1 : w4.frozen? ⟨W.heap.size, 0, none⟩ = false := (hb.frozen (p := ⟨_, 0, none⟩) (by simp)).trans (by simp [go_sem])
      have hne : b1 ≠ W.heap.size := by omega
      refine ⟨rfl, ⟨_, hb, rfl⟩, ?_, by simp [go_sem, a1]⟩
      rw [World.cell?_setCell_far _ _ _ _ hne, World.cell?_setCell_far _ _ _ _ hne, World.cell?_setCell_far _ _ _ _ hne]; exact a0
    · rintro e w' ⟨rfl, w5, ⟨w4, hb, rfl⟩, hlt, rfl⟩
      have hW : Below W.heap.size W w4 := below_then hA (by simp) hb
      refine ⟨rfl, ?_, ?_⟩
      · unfold txnGot; rw [h]
        exact ((hC.below hb).set x).far (by omega) _
      · exact (below_set3 (hW.mono (by omega)) (Nat.le_refl _)).setCell (p := ⟨_, 0, none⟩) (by simp; omega) _

set_option maxRecDepth 20000 in
set_option maxHeartbeats 1000000 in
theorem readTxn_calls (t : Bs) (hm : t.length ≤ 10000000) (w : World) :
    Calls Try.prog 77 #[.string (ofL t)] w fun e w' => e = .returned (.tuple #[txnV (txnGot t), .bool (untxn t).isSome]) ∧ Below w.heap.size w w' := by
  have hmf : ∀ (fn : Fn) (first cap : Array Value) (w : World), (Instr.makeFunc fn first cap).run Try.prog w = .ok (.func fn first cap) w := fun _ _ _ _ => rfl
  have Ht := hid (rdTxn_try t hm w.heap.size (w.heap.size + 1) ((w.alloc (.cells #[.string (ofL t)] 9)).alloc (.cells #[.int .i64 0, .int .i64 0, .int .i64 0] 23)) (by simp [go_sem]) (by simp [CellsTxn, go_sem]))
  have hB : Below w.heap.size w ((w.alloc (.cells #[.string (ofL t)] 9)).alloc (.cells #[.int .i64 0, .int .i64 0, .int .i64 0] 23)) := ((Below.refl w.heap.size w).alloc (Nat.le_refl _) _).alloc (by simp) _
  have HB := hid hB
  clear hB
  revert Ht
  generalize txnGot t = x
  generalize (untxn t).isSome = is
  intro Ht
  go_enter Try.func77, Try.ntmps77
  go_wp2_with fail
  refine Ht.out.mono ?_
  rintro e w1 ⟨rfl, ⟨⟨k0, k1, k2⟩, g0, g1, g2⟩, hb⟩
  have hl1 := World.block_lt_of_cell? _ _ k0
  simp only at hl1
  have HB1 := hid (HB.out.trans (hb.mono (by omega)))
  clear hb Ht HB
  obtain ⟨c, e, s⟩ := x
  simp only at k0 k1 k2
  go_wp2
  refine bodyPost_ret (v := .tuple #[txnV ⟨c, e, s⟩, .bool is]) (by simp [results, Try.results77, go_sem, k0, k1, k2, txnV]) rfl ⟨rfl, ?_⟩
  exact below_set3 HB1.out (by omega)
end Go.Proofs.Ytegkolepemcocaa
