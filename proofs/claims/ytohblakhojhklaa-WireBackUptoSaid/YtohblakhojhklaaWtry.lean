import Derived.Test.YtohblakhojhklaaWwire2
/- The walk of wire's try, over whatever it is handed. -/
namespace Go.Proofs.Ytohblakhojhklaa
open Go.RowKit Sp

set_option maxRecDepth 20000 in
set_option maxHeartbeats 1000000 in
theorem wtry_catch (b : Nat) (w : World) (hb : b < w.heap.size) (h1 : w.cell? ⟨b, 0, none⟩ = some (.bool false)) (f1 : w.frozen? ⟨b, 0, none⟩ = false) :
    CallsD Try.prog 49 #[.pointer (some ⟨b, 0, none⟩)] (.panicking thrownW) w fun e u' w' =>
      e = .returned (.tuple #[]) ∧ u' = .panicking [{ v := .iface 96 (.agg #[]), recovered := true }] ∧ w' = (w.setCell ⟨b, 0, none⟩ (.bool false)).alloc (.cells #[] 96) := by
  have hta : ∀ W, (Instr.typeAssert (.iface 96 (.agg #[])) 20 96 true).run Try.prog W = .ok (.tuple #[.agg #[], .bool true]) W := fun _ => by kernel_rfl
  refine callsD_of_wpS Try.func49 rfl fun c₀ cs hu => ?_
  apply wpS_seq
  apply wpS_region
  simp [wpOpsS, go_sem, recoverD, hu, thrownW, Try.ntmps49, Exit.thenS]
  refine wpS_of_wp ?_
  simp only [Array.replicate_succ, Array.replicate_zero, List.push_toArray, List.append_toArray, List.nil_append, List.cons_append, List.setIfInBounds_toArray, List.set_cons_zero, List.set_cons_succ]
  go_wp2
  exact ⟨rfl, _, rfl, .tuple #[], by simp [results, Try.results49], rfl, rfl, rfl⟩
set_option maxRecDepth 20000 in
theorem wtry_idle (b : Nat) (w : World) :
    CallsD Try.prog 49 #[.pointer (some ⟨b, 0, none⟩)] .returning w fun e u' w' => e = .returned (.tuple #[]) ∧ u' = .returning ∧ w' = w := by
  refine callsD_of_wpS Try.func49 rfl fun c₀ cs hu => ?_
  apply wpS_seq
  apply wpS_region
  simp [wpOpsS, go_sem, recoverD, hu, Try.ntmps49, Exit.thenS]
  refine wpS_of_wp ?_
  simp only [Array.replicate_succ, Array.replicate_zero, List.push_toArray, List.append_toArray, List.nil_append, List.cons_append, List.setIfInBounds_toArray, List.set_cons_zero, List.set_cons_succ]
  go_wp2
  refine ⟨rfl, .returning, ?_, .tuple #[], by simp [results, Try.results49], rfl, rfl, rfl⟩
  rw [← hu]

set_option maxRecDepth 20000 in
set_option maxHeartbeats 1000000 in
theorem wtry_ok (g : FuncId) (lb : Array Value) (hent : ∀ w, (callFunc g lb).run Try.prog w = .ok (.enter g lb) w) (R : World → Prop) (w : World)
    (hdo : Calls Try.prog g lb (w.alloc (.cells #[.bool false] 4)) fun e w' => e = .returned (.tuple #[]) ∧ R w' ∧ w'.cell? ⟨w.heap.size, 0, none⟩ = some (.bool false) ∧ w'.frozen? ⟨w.heap.size, 0, none⟩ = false) :
    Calls Try.prog 24 #[.func (.func g) #[] lb] w fun e w' => e = .returned (.bool true) ∧ ∃ w1, R w1 ∧ w.heap.size < w1.heap.size ∧ w' = w1.setCell ⟨w.heap.size, 0, none⟩ (.bool true) := by
  have hmf : ∀ (fn : Fn) (first cap : Array Value) (w : World), (Instr.makeFunc fn first cap).run Try.prog w = .ok (.func fn first cap) w := fun _ _ _ _ => rfl
  have Hdo := hid hdo
  clear hdo
  go_enter_defers Try.func24, Try.ntmps24
  go_wp2_with fail
  refine Hdo.out.mono ?_
  rintro e w1 ⟨rfl, hR, c1, f1⟩
  have hlt := World.block_lt_of_cell? _ _ c1
  simp only at hlt
  have HR := hid hR
  clear hR
  go_wp2
  refine leaves_cons (f := 49) (args := #[.pointer (some ⟨w.heap.size, 0, none⟩)]) (by simp) (by simp [go_sem]) ?_
  refine (wtry_idle _ _).mono ?_
  rintro e u' w'' ⟨rfl, rfl, rfl⟩
  simp [Leaves, settle, results, Try.results24, go_sem, c1]
  exact ⟨_, HR.out, hlt, rfl⟩
set_option maxRecDepth 20000 in
set_option maxHeartbeats 1000000 in
theorem wtry_no (g : FuncId) (lb : Array Value) (hent : ∀ w, (callFunc g lb).run Try.prog w = .ok (.enter g lb) w) (R : World → Prop) (w : World)
    (hdo : Calls Try.prog g lb (w.alloc (.cells #[.bool false] 4)) fun e w' => e = .panicked thrownW ∧ R w' ∧ w'.cell? ⟨w.heap.size, 0, none⟩ = some (.bool false) ∧ w'.frozen? ⟨w.heap.size, 0, none⟩ = false) :
    Calls Try.prog 24 #[.func (.func g) #[] lb] w fun e w' => e = .returned (.bool false) ∧ ∃ w1, R w1 ∧ w.heap.size < w1.heap.size ∧ w' = (w1.setCell ⟨w.heap.size, 0, none⟩ (.bool false)).alloc (.cells #[] 96) := by
  have hmf : ∀ (fn : Fn) (first cap : Array Value) (w : World), (Instr.makeFunc fn first cap).run Try.prog w = .ok (.func fn first cap) w := fun _ _ _ _ => rfl
  have Hdo := hid hdo
  clear hdo
  go_enter_defers Try.func24, Try.ntmps24
  go_wp2_with fail
  refine Hdo.out.mono ?_
  rintro e w1 ⟨rfl, hR, c1, f1⟩
  have hlt := World.block_lt_of_cell? _ _ c1
  simp only at hlt
  have HR := hid hR
  clear hR
  go_wp2
  refine leaves_cons (f := 49) (args := #[.pointer (some ⟨w.heap.size, 0, none⟩)]) (by simp) (by simp [go_sem]) ?_
  refine (wtry_catch _ w1 hlt c1 f1).mono ?_
  rintro e u' w'' ⟨rfl, rfl, rfl⟩
  simp [Leaves, settle, results, Try.results24, go_sem, c1, hlt]
  exact ⟨_, HR.out, hlt, rfl⟩

end Go.Proofs.Ytohblakhojhklaa
