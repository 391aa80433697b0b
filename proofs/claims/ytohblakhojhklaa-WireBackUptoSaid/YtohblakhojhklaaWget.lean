import Derived.Test.YtohblakhojhklaaWput
/- The walks of the kinds' get. -/
namespace Go.Proofs.Ytohblakhojhklaa
open Go.RowKit Go.Maps Sp

/-- A message's cells. -/
def msgCells (m : Msg) (am : Option Addr) (nm cm : Nat) : Array Value := #[.int .u8 m.kind, .int .i64 m.txn.c, .int .i64 m.txn.e, .int .i64 m.txn.s, .int .i64 m.aud, .slice am nm cm, .string (ofL m.body), .bool m.yes, .string (ofL m.tag)]
/-- What get owes: over a message without members. -/
def GetPost (b : Nat) (r : Option Msg) (w : World) (e : Ending) (w' : World) : Prop :=
  match r with
  | some m => e = .returned (.tuple #[]) ∧ (∃ am cm, BlkAt w' b (msgCells m am m.mems.length cm) 26 ∧ OwnMems (b + 1) w' (.slice am m.mems.length cm) m.mems) ∧ Below b w w'
  | none => e = .panicked thrownW ∧ Below b w w'
theorem memsAt_nil (w : World) (a : Option Addr) : MemsAt w a [] := fun i h => by simp at h
theorem ownMems_nil (base : Nat) (w : World) : OwnMems base w (.slice none ([] : List Mem).length 0) [] := ⟨rfl, .inl ⟨rfl, rfl⟩⟩
theorem cell_setO {W : World} {b i j : Nat} {v x : Value} (hij : j ≠ i) (h : W.cell? ⟨b, i, none⟩ = some v) : (W.setCell ⟨b, j, none⟩ x).cell? ⟨b, i, none⟩ = some v :=
  (World.cell?_setCell_other _ _ _ _ (fun e => hij (by injection e))).trans h

theorem cell_setF {W : World} {b g i o : Nat} {v x : Value} (hne : b ≠ g) (h : W.cell? ⟨g, o, none⟩ = some v) : (W.setCell ⟨b, i, none⟩ x).cell? ⟨g, o, none⟩ = some v := (World.cell?_setCell_far _ _ _ _ hne).trans h
def boolEnd : Option Bool → Ending
  | some v => .returned (.bool v)
  | none => .panicked thrownW
set_option maxRecDepth 20000 in
set_option maxHeartbeats 1000000 in
theorem unyes_calls (t : Bs) (hm : t.length ≤ 10000000) (w : World) : Calls Try.prog 67 #[.string (ofL t)] w fun e w' => e = boolEnd (unyesT t) ∧ Below w.heap.size w w' := by
  have hu := fun W => unnum_calls t (by omega) W
  unfold unyesT
  cases h : readNumT t with
  | none =>
    rw [h] at hu
    simp only [unEnd] at hu
    have Hu := hid hu
    clear hu h
    go_enter Try.func67, Try.ntmps67
    go_wp2_with fail
    refine (Hu.out _).mono ?_
    rintro e w1 ⟨rfl, hb⟩
    exact ⟨rfl, rfl, hb⟩
  | some v =>
    rw [h] at hu
    simp only [unEnd] at hu
    have Hu := hid hu
    clear hu h
    rcases (by omega : v = 0 ∨ v = 1 ∨ 2 ≤ v) with rfl | rfl | hv
    case' inr.inr =>
      have hv2 : ¬ ((v : Int) < 2) := by omega
      have hv3 : ¬ v < 2 := by omega
      simp only [hv3, if_false]
      go_enter Try.func67, Try.ntmps67
      go_wp2_with fail
      refine (Hu.out _).mono ?_
      rintro e w1 ⟨rfl, hb⟩
      have Hb := hid hb
      clear hb
      go_wp2_with fail
      rw [decide_eq_false (by omega)]
      refine (wmust_no _).mono ?_
      rintro e w2 ⟨rfl, rfl⟩
      exact ⟨rfl, rfl, Hb.out⟩
    all_goals
      go_enter Try.func67, Try.ntmps67
      go_wp2_with fail
      refine (Hu.out _).mono ?_
      rintro e w1 ⟨rfl, hb⟩
      have Hb := hid hb
      clear hb
      go_wp2_with fail
      refine (wmust_ok _).mono ?_
      rintro e w2 ⟨rfl, rfl⟩
      go_wp2
      go_ret
      exact ⟨rfl, Hb.out⟩

set_option maxRecDepth 20000 in
theorem get4_calls (m : Msg) (hm0 : m.mems = []) (b : Nat) (v : Value) (w : World) (h : BlkAt w b (msgCells m none 0 0) 26) :
    Calls Try.prog 86 #[.pointer (some ⟨b, 0, none⟩), v] w fun e w' => GetPost b (some m) w e w' := by
  go_enter Try.func86, Try.ntmps86
  go_wp2
  go_end0
  refine ⟨rfl, ⟨none, 0, ?_, by rw [hm0]; exact ownMems_nil _ _⟩, Below.refl _ _⟩
  rw [hm0]; exact h

set_option maxRecDepth 20000 in
set_option maxHeartbeats 1000000 in
theorem get3_calls (m : Msg) (hm0 : m.mems = []) (b g cap : Nat) (x : Bs) (w : World) (h : BlkAt w b (msgCells m none 0 0) 26) (hc : w.cell? ⟨g, 2, none⟩ = some (.string (ofL x))) (hx : x.length ≤ 10000000) :
    Calls Try.prog 70 #[.pointer (some ⟨b, 0, none⟩), .slice (some ⟨g, 2, none⟩) 1 cap] w fun e w' => GetPost b (getK 3 m [x]) w e w' := by
  obtain ⟨k, ⟨c, e, s⟩, aud, l, body, yes, tag⟩ := m
  simp only at hm0
  subst hm0
  simp only [msgCells] at h
  have hu := fun W => unyes_calls x hx W
  have Hbk := hid h
  have hlt := h.lt
  clear h
  cases hy : unyesT x with
  | none =>
    rw [hy] at hu
    simp only [boolEnd] at hu
    simp only [getK, hy]
    have Hu := hid hu
    clear hu hy
    go_enter Try.func70, Try.ntmps70
    go_wp2_with fail
    refine (Hu.out _).mono ?_
    rintro e1 w1 ⟨rfl, hb⟩
    exact ⟨rfl, rfl, hb.mono (Nat.le_of_lt hlt)⟩
  | some y =>
    rw [hy] at hu
    simp only [boolEnd] at hu
    simp only [getK, hy]
    have Hu := hid hu
    clear hu hy
    go_enter Try.func70, Try.ntmps70
    go_wp2_with fail
    refine (Hu.out _).mono ?_
    rintro e1 w1 ⟨rfl, hb⟩
    have hbk := Hbk.out.below hb
    have Hbk1 := hid (hbk.set 7 (.bool y))
    have c7 := hbk.val 7 rfl
    have f7 := hbk.frozen 7
    have Hb := hid hb
    clear hb hbk
    go_wp2
    go_end0
    exact ⟨rfl, ⟨none, 0, Hbk1.out, ownMems_nil _ _⟩, (Hb.out.mono (Nat.le_of_lt hlt)).setCell (p := ⟨b, 7, none⟩) (Nat.le_refl _) _⟩

set_option maxRecDepth 20000 in
set_option maxHeartbeats 1000000 in
theorem get2_one (m : Msg) (hm0 : m.mems = []) (b g cap : Nat) (x : Bs) (w : World) (h : BlkAt w b (msgCells m none 0 0) 26) (hc : w.cell? ⟨g, 2, none⟩ = some (.string (ofL x))) (hx : x.length ≤ 10000000) :
    Calls Try.prog 66 #[.pointer (some ⟨b, 0, none⟩), .slice (some ⟨g, 2, none⟩) 1 cap] w fun e w' => GetPost b (getK 2 m [x]) w e w' := by
  obtain ⟨k, ⟨c, e, s⟩, aud, l, body, yes, tag⟩ := m
  simp only at hm0
  subst hm0
  simp only [msgCells] at h
  have hu := fun W => unyes_calls x hx W
  have Hbk := hid h
  have hlt := h.lt
  clear h
  rcases hy : unyesT x with _ | _ | _
  all_goals
    rw [hy] at hu
    simp only [boolEnd] at hu
    simp only [getK, hy]
    have Hu := hid hu
    clear hu hy
    go_enter Try.func66, Try.ntmps66
    go_wp2_with fail
    refine (Hu.out _).mono ?_
    rintro e1 w1 ⟨rfl, hb⟩
  · exact ⟨rfl, rfl, hb.mono (Nat.le_of_lt hlt)⟩
  · have hbk := Hbk.out.below hb
    have Hbk1 := hid (hbk.set 7 (.bool false))
    have c7 := hbk.val 7 rfl
    have f7 := hbk.frozen 7
    have Hb := hid hb
    clear hb hbk
    go_wp2_with fail
    refine (wmust_ok _).mono ?_
    rintro e w2 ⟨rfl, rfl⟩
    go_wp2
    go_end0
    exact ⟨rfl, ⟨none, 0, Hbk1.out, ownMems_nil _ _⟩, (Hb.out.mono (Nat.le_of_lt hlt)).setCell (p := ⟨b, 7, none⟩) (Nat.le_refl _) _⟩
  · have hbk := Hbk.out.below hb
    have c7 := hbk.val 7 rfl
    have f7 := hbk.frozen 7
    have Hb := hid hb
    clear hb hbk
    go_wp2_with fail
    refine (wmust_no _).mono ?_
    rintro e w2 ⟨rfl, rfl⟩
    exact ⟨rfl, rfl, (Hb.out.mono (Nat.le_of_lt hlt)).setCell (p := ⟨b, 7, none⟩) (Nat.le_refl _) _⟩

set_option maxRecDepth 20000 in
set_option maxHeartbeats 1000000 in
theorem get2_two (m : Msg) (hm0 : m.mems = []) (b g cap : Nat) (x z : Bs) (w : World) (h : BlkAt w b (msgCells m none 0 0) 26) (hne : b ≠ g) (hc : w.cell? ⟨g, 2, none⟩ = some (.string (ofL x))) (hc3 : w.cell? ⟨g, 3, none⟩ = some (.string (ofL z))) (hx : x.length ≤ 10000000) :
    Calls Try.prog 66 #[.pointer (some ⟨b, 0, none⟩), .slice (some ⟨g, 2, none⟩) 2 cap] w fun e w' => GetPost b (getK 2 m [x, z]) w e w' := by
  obtain ⟨k, ⟨c, e, s⟩, aud, l, body, yes, tag⟩ := m
  simp only at hm0
  subst hm0
  simp only [msgCells] at h
  have hu := fun W => unyes_calls x hx W
  have Hbk := hid h
  have hlt := h.lt
  have hgl := World.block_lt_of_cell? _ _ hc3
  simp only at hgl
  clear h
  rcases hy : unyesT x with _ | _ | _
  all_goals
    rw [hy] at hu
    simp only [boolEnd] at hu
    simp only [getK, hy]
    have Hu := hid hu
    clear hu hy
    go_enter Try.func66, Try.ntmps66
    go_wp2_with fail
    refine (Hu.out _).mono ?_
    rintro e1 w1 ⟨rfl, hb⟩
  · exact ⟨rfl, rfl, hb.mono (Nat.le_of_lt hlt)⟩
  · have hbk := Hbk.out.below hb
    have c7 := hbk.val 7 rfl
    have f7 := hbk.frozen 7
    have Hb := hid hb
    clear hb hbk
    go_wp2_with fail
    refine (wmust_no _).mono ?_
    rintro e w2 ⟨rfl, rfl⟩
    exact ⟨rfl, rfl, (Hb.out.mono (Nat.le_of_lt hlt)).setCell (p := ⟨b, 7, none⟩) (Nat.le_refl _) _⟩
  · have hbk := Hbk.out.below hb
    have Hbk1 := hid ((hbk.set 7 (.bool true)).set 8 (.string (ofL z)))
    have c7 := hbk.val 7 rfl
    have f7 := hbk.frozen 7
    have c8 := hbk.val 8 rfl
    have f8 := hbk.frozen 8
    have k3 := (hb.cell (p := ⟨g, 3, none⟩) hgl).trans hc3
    have k3 := cell_setF (i := 7) (x := .bool true) hne k3
    have Hb := hid hb
    clear hb hbk
    go_wp2_with fail
    refine (wmust_ok _).mono ?_
    rintro e w2 ⟨rfl, rfl⟩
    go_wp2
    go_end0
    exact ⟨rfl, ⟨none, 0, Hbk1.out, ownMems_nil _ _⟩, ((Hb.out.mono (Nat.le_of_lt hlt)).setCell (p := ⟨b, 7, none⟩) (Nat.le_refl _) _).setCell (p := ⟨b, 8, none⟩) (Nat.le_refl _) _⟩
end Go.Proofs.Ytohblakhojhklaa
