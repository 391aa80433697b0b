import Derived.Test.YtohblakhojhklaaWwalk
/- The walks of term's caught, Read, Check. -/
namespace Go.Proofs.Ytohblakhojhklaa
open Go.RowKit Sp

set_option maxRecDepth 20000 in
theorem caught_calls (c : Nat) (w : World) : Calls Try.prog 92 #[.iface 146 (.agg #[.int .i64 c])] w fun e w' => e = .returned (.int .i64 c) ∧ w' = w.alloc (.cells #[.int .i64 c] 146) := by
  have hta : ∀ W, (Instr.typeAssert (.iface 146 (.agg #[.int .i64 c])) 20 146 true).run Try.prog W = .ok (.tuple #[.agg #[.int .i64 c], .bool true]) W := fun _ => by kernel_rfl
  go_enter Try.func92, Try.ntmps92
  go_wp2
  go_ret
  exact ⟨rfl, rfl⟩

set_option maxRecDepth 20000 in
set_option maxHeartbeats 1000000 in
theorem read_catch (b1 b2 : Nat) (x y : Int) (c : Nat) (w : World) (hb1 : b1 < w.heap.size) (hb2 : b2 < w.heap.size) (h1 : w.cell? ⟨b1, 0, none⟩ = some (.int .i64 x)) (h2 : w.cell? ⟨b2, 0, none⟩ = some (.int .i64 y)) (hne : b1 ≠ b2)
    (f1 : w.frozen? ⟨b1, 0, none⟩ = false) (f2 : w.frozen? ⟨b2, 0, none⟩ = false) :
    CallsD Try.prog 91 #[.pointer (some ⟨b1, 0, none⟩), .pointer (some ⟨b2, 0, none⟩)] (.panicking (thrown c)) w fun e u' w' =>
      e = .returned (.tuple #[]) ∧ u' = .panicking [{ v := .iface 146 (.agg #[.int .i64 c]), recovered := true }] ∧ w' = ((w.setCell ⟨b1, 0, none⟩ (.int .i64 0)).setCell ⟨b2, 0, none⟩ (.int .i64 c)).alloc (.cells #[.int .i64 c] 146) := by
  refine callsD_of_wpS Try.func91 rfl fun c₀ cs hu => ?_
  apply wpS_seq
  apply wpS_region
  simp [wpOpsS, go_sem, recoverD, hu, thrown, Try.ntmps91, Exit.thenS]
  refine wpS_of_wp ?_
  simp only [Array.replicate_succ, Array.replicate_zero, List.push_toArray, List.append_toArray, List.nil_append, List.cons_append, List.setIfInBounds_toArray, List.set_cons_zero, List.set_cons_succ]
  go_wp2_with fail
  refine (caught_calls c w).mono ?_
  rintro e w1 ⟨rfl, rfl⟩
  go_wp2
  exact ⟨rfl, _, rfl, .tuple #[], by simp [results, Try.results91], rfl, rfl, rfl⟩

set_option maxRecDepth 20000 in
theorem read_idle (b1 b2 : Nat) (w : World) :
    CallsD Try.prog 91 #[.pointer (some ⟨b1, 0, none⟩), .pointer (some ⟨b2, 0, none⟩)] .returning w fun e u' w' => e = .returned (.tuple #[]) ∧ u' = .returning ∧ w' = w := by
  refine callsD_of_wpS Try.func91 rfl fun c₀ cs hu => ?_
  apply wpS_seq
  apply wpS_region
  simp [wpOpsS, go_sem, recoverD, hu, Try.ntmps91, Exit.thenS]
  refine wpS_of_wp ?_
  simp only [Array.replicate_succ, Array.replicate_zero, List.push_toArray, List.append_toArray, List.nil_append, List.cons_append, List.setIfInBounds_toArray, List.set_cons_zero, List.set_cons_succ]
  go_wp2
  refine ⟨rfl, .returning, ?_, .tuple #[], by simp [results, Try.results91], rfl, rfl, rfl⟩
  rw [← hu]

theorem read_tells (L B : Nat) (w0 : World) : Tells L 93 #[] (fun _ W => Below B w0 W ∧ B ≤ W.heap.size) where
  enters := fun args w => by kernel_rfl
  step := fun pre a b d w hI hab hb _ => by
    refine Calls.mono (R := fun e w' => e = .returned (.tuple #[]) ∧ w = w') ?_ ?_
    · go_enter Try.func93, Try.ntmps93
      go_wp2
      go_end0
      exact ⟨rfl, rfl⟩
    · rintro e w' ⟨rfl, rfl⟩
      exact ⟨rfl, hI⟩
  grows := fun pre w w' ⟨h1, h2⟩ hb => ⟨below_then h1 h2 hb, Nat.le_trans h2 hb.size⟩

def readEnd : Except Nat Nat → Value
  | .ok n => .tuple #[.int .i64 n, .int .i64 0]
  | .error e => .tuple #[.int .i64 0, .int .i64 e]

set_option maxRecDepth 20000 in
set_option maxHeartbeats 1000000 in
theorem read_calls (s : Bs) (hm : s.length ≤ 100000000) (w : World) : Calls Try.prog 77 #[.string (ofL s)] w fun e w' => e = .returned (readEnd (Sp.read s)) ∧ Below w.heap.size w w' := by
  have hmf : ∀ (fn : Fn) (first cap : Array Value) (w : World), (Instr.makeFunc fn first cap).run Try.prog w = .ok (.func fn first cap) w := fun _ _ _ _ => rfl
  have hw := fun W => walk_calls s hm 93 #[] _ (read_tells s.length (w.heap.size + 2) W) 16 (by omega) 0 (by omega) [] W (by simp)
  have hB : ∀ w1, Below ((w.alloc (.cells #[.int .i64 0] 3)).alloc (.cells #[.int .i64 0] 29)).heap.size ((w.alloc (.cells #[.int .i64 0] 3)).alloc (.cells #[.int .i64 0] 29)) w1 → Below w.heap.size w w1 :=
    fun w1 h => (((Below.refl w.heap.size w).alloc (Nat.le_refl _) _).alloc (by simp) _).trans (h.mono (by simp <;> omega))
  have HB := hid hB
  clear hB
  cases hrd : readD 16 s with
  | error c =>
    have hfin : readEnd (Sp.read s) = .tuple #[.int .i64 0, .int .i64 c] := by unfold Sp.read; rw [hrd]; rfl
    have hp : ∀ W, w.heap.size + 2 = W.heap.size → Calls Try.prog 47 #[.string (ofL s), .int .i64 0, .int .i64 1, .func (.func 93) #[] #[]] W fun e w' => e = .panicked (thrown c) ∧ Below W.heap.size W w' := by
      intro W hW
      refine (hw W ⟨Below.refl _ _, by omega⟩).mono ?_
      intro e w' h
      simp only [walkPost, List.drop_zero, hrd] at h
      obtain ⟨h1, _, h2⟩ := h
      exact ⟨h1, hW ▸ h2.1⟩
    have Hp := hid hp
    have Hf := hid hfin
    clear hw hp hfin hrd
    go_enter_defers Try.func77, Try.ntmps77
    go_wp2_with fail
    refine (Hp.out _ (by simp)).mono ?_
    rintro e w1 ⟨rfl, hb⟩
    have c1 : w1.cell? ⟨w.heap.size, 0, none⟩ = some (.int .i64 0) := (hb.cell (p := ⟨_, 0, none⟩) (by simp <;> omega)).trans (by simp [go_sem])
    have c2 : w1.cell? ⟨w.heap.size + 1, 0, none⟩ = some (.int .i64 0) := (hb.cell (p := ⟨_, 0, none⟩) (by simp <;> omega)).trans (by simp [go_sem])
    have f1 : w1.frozen? ⟨w.heap.size, 0, none⟩ = false := (hb.frozen (p := ⟨_, 0, none⟩) (by simp <;> omega)).trans (by simp [go_sem])
    have f2 : w1.frozen? ⟨w.heap.size + 1, 0, none⟩ = false := (hb.frozen (p := ⟨_, 0, none⟩) (by simp <;> omega)).trans (by simp [go_sem])
    have hlt1 : w.heap.size < w1.heap.size := by have := hb.size; simp at this; omega
    have hlt2 : w.heap.size + 1 < w1.heap.size := by have := hb.size; simp at this; omega
    have hB2 := HB.out _ hb
    have HB2 := hid hB2
    clear hb hB2
    go_wp2
    refine leaves_cons (f := 91) (args := #[.pointer (some ⟨w.heap.size, 0, none⟩), .pointer (some ⟨w.heap.size + 1, 0, none⟩)]) (by simp) (by simp [go_sem]) ?_
    refine (read_catch _ _ 0 0 c w1 hlt1 hlt2 c1 c2 (by omega) f1 f2).mono ?_
    rintro e u' w'' ⟨rfl, rfl, rfl⟩
    simp [Leaves, settle, results, Try.results77, go_sem, c1, c2, hlt1, hlt2]
    refine ⟨by rw [Hf.out], ?_⟩
    exact ((HB2.out.setCell (p := ⟨_, 0, none⟩) (Nat.le_refl _) _).setCell (p := ⟨_, 0, none⟩) (by simp) _).alloc (by simp; omega) _
  | ok n =>
    have hfin : readEnd (Sp.read s) = if n > 16384 then .tuple #[.int .i64 0, .int .i64 5] else .tuple #[.int .i64 n, .int .i64 0] := by
      unfold Sp.read; rw [hrd]; simp only; split <;> rfl
    have hp : ∀ W, w.heap.size + 2 = W.heap.size → Calls Try.prog 47 #[.string (ofL s), .int .i64 0, .int .i64 1, .func (.func 93) #[] #[]] W fun e w' => e = .returned (.int .i64 n) ∧ Below W.heap.size W w' := by
      intro W hW
      refine (hw W ⟨Below.refl _ _, by omega⟩).mono ?_
      intro e w' h
      simp only [walkPost, List.drop_zero, hrd, Nat.zero_add] at h
      exact ⟨h.1, hW ▸ h.2.1⟩
    have Hp := hid hp
    have Hf := hid hfin
    have hn := (readD_good 16).le hrd
    have H5 := hid (must_err 5 (by omega))
    clear hw hp hfin hrd
    by_cases hg : n > 16384
    · go_enter_defers Try.func77, Try.ntmps77
      go_wp2_with fail
      refine (Hp.out _ (by simp)).mono ?_
      rintro e w1 ⟨rfl, hb⟩
      have c1 : w1.cell? ⟨w.heap.size, 0, none⟩ = some (.int .i64 0) := (hb.cell (p := ⟨_, 0, none⟩) (by simp <;> omega)).trans (by simp [go_sem])
      have c2 : w1.cell? ⟨w.heap.size + 1, 0, none⟩ = some (.int .i64 0) := (hb.cell (p := ⟨_, 0, none⟩) (by simp <;> omega)).trans (by simp [go_sem])
      have f1 : w1.frozen? ⟨w.heap.size, 0, none⟩ = false := (hb.frozen (p := ⟨_, 0, none⟩) (by simp <;> omega)).trans (by simp [go_sem])
      have f2 : w1.frozen? ⟨w.heap.size + 1, 0, none⟩ = false := (hb.frozen (p := ⟨_, 0, none⟩) (by simp <;> omega)).trans (by simp [go_sem])
      have hlt1 : w.heap.size < w1.heap.size := by have := hb.size; simp at this; omega
      have hlt2 : w.heap.size + 1 < w1.heap.size := by have := hb.size; simp at this; omega
      have hB2 := HB.out _ hb
      have HB2 := hid hB2
      clear hb hB2
      go_wp2_with fail
      refine (H5.out _).mono ?_
      rintro e w2 ⟨rfl, rfl⟩
      go_wp2
      refine leaves_cons (f := 91) (args := #[.pointer (some ⟨w.heap.size, 0, none⟩), .pointer (some ⟨w.heap.size + 1, 0, none⟩)]) (by simp) (by simp [go_sem]) ?_
      refine (read_catch _ _ n 0 5 _ (by simpa using hlt1) (by simpa using hlt2) (by simp [go_sem, c1]) (by simp [go_sem, c2]) (by omega) (by simp [go_sem, f1]) (by simp [go_sem, f2])).mono ?_
      rintro e u' w'' ⟨rfl, rfl, rfl⟩
      simp [Leaves, settle, results, Try.results77, go_sem, c1, c2, hlt1, hlt2]
      refine ⟨by rw [Hf.out, if_pos hg], ?_⟩
      exact (((HB2.out.setCell (p := ⟨_, 0, none⟩) (Nat.le_refl _) _).setCell (p := ⟨_, 0, none⟩) (by simp) _).setCell (p := ⟨_, 0, none⟩) (by simp) _).alloc (by simp; omega) _
    · go_enter_defers Try.func77, Try.ntmps77
      go_wp2_with fail
      refine (Hp.out _ (by simp)).mono ?_
      rintro e w1 ⟨rfl, hb⟩
      have c1 : w1.cell? ⟨w.heap.size, 0, none⟩ = some (.int .i64 0) := (hb.cell (p := ⟨_, 0, none⟩) (by simp <;> omega)).trans (by simp [go_sem])
      have c2 : w1.cell? ⟨w.heap.size + 1, 0, none⟩ = some (.int .i64 0) := (hb.cell (p := ⟨_, 0, none⟩) (by simp <;> omega)).trans (by simp [go_sem])
      have f1 : w1.frozen? ⟨w.heap.size, 0, none⟩ = false := (hb.frozen (p := ⟨_, 0, none⟩) (by simp <;> omega)).trans (by simp [go_sem])
      have f2 : w1.frozen? ⟨w.heap.size + 1, 0, none⟩ = false := (hb.frozen (p := ⟨_, 0, none⟩) (by simp <;> omega)).trans (by simp [go_sem])
      have hB2 := HB.out _ hb
      have HB2 := hid hB2
      clear hb hB2
      go_wp2
      refine leaves_cons (f := 91) (args := #[.pointer (some ⟨w.heap.size, 0, none⟩), .pointer (some ⟨w.heap.size + 1, 0, none⟩)]) (by simp) (by simp [go_sem]) ?_
      refine (read_idle _ _ _).mono ?_
      rintro e u' w'' ⟨rfl, rfl, rfl⟩
      simp [Leaves, settle, results, Try.results77, go_sem, c1, c2]
      refine ⟨by rw [Hf.out, if_neg hg], ?_⟩
      exact ((HB2.out.setCell (p := ⟨_, 0, none⟩) (Nat.le_refl _) _).setCell (p := ⟨_, 0, none⟩) (by simp) _).setCell (p := ⟨_, 0, none⟩) (by simp) _
end Go.Proofs.Ytohblakhojhklaa
