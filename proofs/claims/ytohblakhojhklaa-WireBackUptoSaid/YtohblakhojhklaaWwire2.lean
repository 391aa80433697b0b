import Derived.Test.YtohblakhojhklaaWwire1
import Derived.Deep.Onto
import Derived.Deep.RegionHeld2
/- The walks of wire's row, unnum, untxn, unmembers, Members. -/
namespace Go.Proofs.Ytohblakhojhklaa
open Go.RowKit Sp

set_option maxRecDepth 20000 in
set_option maxHeartbeats 1000000 in
theorem unnum_ok (t : Bs) (hm : t.length ≤ 100000000) (v : Nat) (h : readNumT t = some v) (w : World) : Calls Try.prog 61 #[.string (ofL t)] w fun e w' => e = .returned (.int .i64 v) ∧ Below w.heap.size w w' := by
  have hr := readNumT_calls t hm w
  rw [h] at hr
  simp only [encNumT] at hr
  have Hr := hid hr
  clear hr h
  go_enter Try.func61, Try.ntmps61
  go_wp2_with fail
  refine Hr.out.mono ?_
  rintro e w1 ⟨rfl, hb⟩
  have Hb := hid hb
  clear hb
  go_wp2_with fail
  refine (wmust_ok _).mono ?_
  rintro e w2 ⟨rfl, rfl⟩
  go_wp2
  go_ret
  exact ⟨rfl, Hb.out⟩
set_option maxRecDepth 20000 in
set_option maxHeartbeats 1000000 in
theorem unnum_no (t : Bs) (hm : t.length ≤ 100000000) (h : readNumT t = none) (w : World) : Calls Try.prog 61 #[.string (ofL t)] w fun e w' => e = .panicked thrownW ∧ Below w.heap.size w w' := by
  have hr := readNumT_calls t hm w
  rw [h] at hr
  simp only [encNumT] at hr
  have Hr := hid hr
  clear hr h
  go_enter Try.func61, Try.ntmps61
  go_wp2_with fail
  refine Hr.out.mono ?_
  rintro e w1 ⟨rfl, hb⟩
  have Hb := hid hb
  clear hb
  go_wp2_with fail
  refine (wmust_no _).mono ?_
  rintro e w2 ⟨rfl, rfl⟩
  exact ⟨rfl, rfl, Hb.out⟩

theorem kind3_term {t : Bs} (h : kind t = 3) : isTerm t = true := by
  cases ht : isTerm t with
  | true => rfl
  | false => rw [kind_zero ht] at h; cases h

theorem OwnStrs.mono {base base' : Nat} {w : World} {v : Value} {l : List Bs} (h : OwnStrs base w v l) (hb : base' ≤ base) : OwnStrs base' w v l := World.ownsRow.mono h hb

set_option maxRecDepth 20000 in
set_option maxHeartbeats 2000000 in
theorem wrow_ok (t : Bs) (hm : t.length ≤ 10000000) (lo hi : Int) (hk : kind t = 3) (hlo : lo ≤ (cut t).length) (hhi : ((cut t).length : Int) ≤ hi) (w : World) :
    Calls Try.prog 50 #[.string (ofL t), .int .i64 lo, .int .i64 hi] w fun e w' => ∃ v, e = .returned v ∧ OwnStrs w.heap.size w' v (cut t) ∧ Below w.heap.size w w' := by
  have hk1 := fun W => kind_calls t (by omega) W
  rw [hk] at hk1
  have Hk := hid hk1
  have Hp := hid (fun W => parts_some t hm W (kind3_term hk))
  clear hk hk1
  go_enter Try.func50, Try.ntmps50
  go_wp2_with fail
  refine (Hk.out _).mono ?_
  rintro e w1 ⟨rfl, hb1⟩
  have Hb1 := hid hb1
  clear hb1
  go_wp2_with fail
  refine (wmust_ok _).mono ?_
  rintro e w2 ⟨rfl, rfl⟩
  go_wp2_with fail
  refine (Hp.out _).mono ?_
  rintro e w2 ⟨v, rfl, hown, hb2⟩
  obtain ⟨a, cap, rfl, hs⟩ := hown.read
  have Ho : OwnStrs w.heap.size w2 _ (cut t) := hown.mono (by have := Hb1.out.size; omega)
  have Ho := hid Ho
  have Hb := hid (below_then Hb1.out Hb1.out.size hb2)
  clear hown hs hb2
  go_wp2_with fail
  refine (wmust_ok _).mono ?_
  rintro e w3 ⟨rfl, rfl⟩
  go_wp2
  go_ret
  exact ⟨_, rfl, Ho.out, Hb.out⟩

set_option maxRecDepth 20000 in
set_option maxHeartbeats 2000000 in
theorem wrow_kind (t : Bs) (hm : t.length ≤ 10000000) (lo hi : Int) (hk : ¬ kind t = 3) (w : World) :
    Calls Try.prog 50 #[.string (ofL t), .int .i64 lo, .int .i64 hi] w fun e w' => e = .panicked thrownW ∧ Below w.heap.size w w' := by
  have hk1 := fun W => kind_calls t (by omega) W
  have hle := kind_le t
  have hb : ((kind t : Nat) : Int) ≠ 3 := by omega
  have Hk := hid hk1
  clear hk hk1
  go_enter Try.func50, Try.ntmps50
  go_wp2_with fail
  refine (Hk.out _).mono ?_
  rintro e w1 ⟨rfl, hb1⟩
  have Hb1 := hid hb1
  clear hb1
  have hbf : (((kind t : Nat) : Int) == 3) = false := by simpa using hb
  go_wp2_with fail
  refine (wmust_no _).mono ?_
  rintro e w2 ⟨rfl, rfl⟩
  exact ⟨rfl, rfl, Hb1.out⟩

set_option maxRecDepth 20000 in
set_option maxHeartbeats 2000000 in
theorem wrow_len (t : Bs) (hm : t.length ≤ 10000000) (lo hi : Int) (hk : kind t = 3) (hno : ¬ (lo ≤ (cut t).length ∧ ((cut t).length : Int) ≤ hi)) (w : World) :
    Calls Try.prog 50 #[.string (ofL t), .int .i64 lo, .int .i64 hi] w fun e w' => e = .panicked thrownW ∧ Below w.heap.size w w' := by
  have hk1 := fun W => kind_calls t (by omega) W
  rw [hk] at hk1
  have Hk := hid hk1
  have Hp := hid (fun W => parts_some t hm W (kind3_term hk))
  clear hk hk1
  go_enter Try.func50, Try.ntmps50
  go_wp2_with fail
  refine (Hk.out _).mono ?_
  rintro e w1 ⟨rfl, hb1⟩
  have Hb1 := hid hb1
  clear hb1
  go_wp2_with fail
  refine (wmust_ok _).mono ?_
  rintro e w2 ⟨rfl, rfl⟩
  go_wp2_with fail
  refine (Hp.out _).mono ?_
  rintro e w2 ⟨v, rfl, hown, hb2⟩
  obtain ⟨a, cap, rfl, hs⟩ := hown.read
  have Hb := hid (below_then Hb1.out Hb1.out.size hb2)
  clear hown hs hb2
  by_cases hlo : lo ≤ (cut t).length
  · have hhi : ¬ (((cut t).length : Int) ≤ hi) := fun h => hno ⟨hlo, h⟩
    clear hno
    go_wp2_with fail
    rw [decide_eq_false (by omega)]
    refine (wmust_no _).mono ?_
    rintro e w3 ⟨rfl, rfl⟩
    exact ⟨rfl, rfl, Hb.out⟩
  · clear hno
    go_wp2_with fail
    refine (wmust_no _).mono ?_
    rintro e w3 ⟨rfl, rfl⟩
    exact ⟨rfl, rfl, Hb.out⟩

theorem wrow_no (t : Bs) (hm : t.length ≤ 10000000) (lo hi : Int) (h : ¬ (kind t = 3 ∧ lo ≤ (cut t).length ∧ ((cut t).length : Int) ≤ hi)) (w : World) :
    Calls Try.prog 50 #[.string (ofL t), .int .i64 lo, .int .i64 hi] w fun e w' => e = .panicked thrownW ∧ Below w.heap.size w w' := by
  by_cases hk : kind t = 3
  · exact wrow_len t hm lo hi hk (fun h' => h ⟨hk, h'⟩) w
  · exact wrow_kind t hm lo hi hk w

theorem OwnStrs.cells3 {base : Nat} {w : World} {v : Value} {x y z : Bs} (h : OwnStrs base w v [x, y, z]) :
    ∃ g cap, v = .slice (some ⟨g, 0, none⟩) 3 cap ∧ w.cell? ⟨g, 0, none⟩ = some (.string (ofL x)) ∧ w.cell? ⟨g, 1, none⟩ = some (.string (ofL y)) ∧ w.cell? ⟨g, 2, none⟩ = some (.string (ofL z)) := by
  obtain ⟨a, cap, rfl, hs⟩ := h.read
  obtain ⟨g, o, rfl, h0⟩ := hs 0 (by simp)
  obtain ⟨g1, o1, e1, h1⟩ := hs 1 (by simp)
  obtain ⟨g2, o2, e2, h2⟩ := hs 2 (by simp)
  cases e1; cases e2
  rcases h.2 with ⟨e, -⟩ | ⟨g', cap', cur, e, -⟩
  · cases e
  · cases e
    exact ⟨g, cap, rfl, by simpa using h0, by simpa using h1, by simpa using h2⟩
theorem OwnStrs.cells2 {base : Nat} {w : World} {v : Value} {x y : Bs} (h : OwnStrs base w v [x, y]) :
    ∃ g cap, v = .slice (some ⟨g, 0, none⟩) 2 cap ∧ w.cell? ⟨g, 0, none⟩ = some (.string (ofL x)) ∧ w.cell? ⟨g, 1, none⟩ = some (.string (ofL y)) := by
  obtain ⟨a, cap, rfl, hs⟩ := h.read
  obtain ⟨g, o, rfl, h0⟩ := hs 0 (by simp)
  obtain ⟨g1, o1, e1, h1⟩ := hs 1 (by simp)
  cases e1
  rcases h.2 with ⟨e, -⟩ | ⟨g', cap', cur, e, -⟩
  · cases e
  · cases e
    exact ⟨g, cap, rfl, by simpa using h0, by simpa using h1⟩

/-- Of a region that may panic with one chain alone. -/
def PanicSame (B : Nat) (w0 : World) (c : List PanicEntry) (E : Prop) (Q : Exit → Act → World → Prop) : Exit → Act → World → Prop
  | .panic ch, a, w => a.defers = [] ∧ ch = c ∧ E ∧ Below B w0 w
  | e, a, w => Q e a w
theorem PanicSame.normal {B : Nat} {w0 : World} {c : List PanicEntry} {E : Prop} {Q : Exit → Act → World → Prop} {a : Act} {w : World} (h : Q .normal a w) : PanicSame B w0 c E Q .normal a w := h
theorem PanicSame.panic {B : Nat} {w0 : World} {c : List PanicEntry} {E : Prop} {Q : Exit → Act → World → Prop} {a : Act} {w : World} (h : Below B w0 w) (hE : E) (hd : a.defers = []) : PanicSame B w0 c E Q (.panic c) a w := ⟨hd, rfl, hE, h⟩
theorem wp_region_panicSame {P : Program} {id : Nat} {ops : Array Oper} {b : Bool} {Q : Exit → Act → World → Prop} {a : Act} {w : World} (B : Nat) (w0 : World) (c : List PanicEntry) (E : Prop) (hq : ∀ a w, a.defers = [] → E → Below B w0 w → Q (.panic c) a w)
    (h : (Code.region id ops b).wp P (PanicSame B w0 c E Q) a w) : (Code.region id ops b).wp P Q a w :=
  Code.wp_mono (fun e a w h => by
    cases e <;> first | exact h | (obtain ⟨hd, rfl, hE, hb⟩ := (h : _ ∧ _); exact hq _ _ hd hE hb)) h

def unEnd : Option Nat → Ending
  | some v => .returned (.int .i64 v)
  | none => .panicked thrownW
theorem unnum_calls (t : Bs) (hm : t.length ≤ 100000000) (w : World) : Calls Try.prog 61 #[.string (ofL t)] w fun e w' => e = unEnd (readNumT t) ∧ Below w.heap.size w w' := by
  cases h : readNumT t with
  | none => exact unnum_no t hm h w
  | some v => exact unnum_ok t hm v h w

def txnEnd : Option Txn → Ending
  | some t => .returned (txnV t)
  | none => .panicked thrownW

theorem cell_alloc_of {W : World} {a : Addr} {v : Value} (o : Obj) (h : W.cell? a = some v) : (W.alloc o).cell? a = some v := (World.cell?_alloc_some W a o (by rw [h]; rfl)).trans h
abbrev zer3 : Obj := .cells #[.int .i64 0, .int .i64 0, .int .i64 0] 23
theorem new_step {V wn : World} {g : Nat} {s : ByteArray} (h0 : (V.alloc zer3).cell? ⟨g, 0, none⟩ = some (.string s)) (hb : Below (V.alloc zer3).heap.size (V.alloc zer3) wn) :
    g < V.heap.size ∧ wn.cell? ⟨V.heap.size, 0, none⟩ = some (.int .i64 0) ∧ wn.cell? ⟨V.heap.size, 1, none⟩ = some (.int .i64 0) ∧ wn.cell? ⟨V.heap.size, 2, none⟩ = some (.int .i64 0) ∧
      wn.frozen? ⟨V.heap.size, 0, none⟩ = false ∧ wn.frozen? ⟨V.heap.size, 1, none⟩ = false ∧ wn.frozen? ⟨V.heap.size, 2, none⟩ = false := by
  have hl := World.block_lt_of_cell? _ _ h0
  simp at hl
  refine ⟨?_, (hb.cell (p := ⟨_, 0, none⟩) (by simp)).trans (by simp [go_sem]), (hb.cell (p := ⟨_, 1, none⟩) (by simp)).trans (by simp [go_sem]), (hb.cell (p := ⟨_, 2, none⟩) (by simp)).trans (by simp [go_sem]),
    (hb.frozen (p := ⟨_, 0, none⟩) (by simp)).trans (by simp [go_sem]), (hb.frozen (p := ⟨_, 1, none⟩) (by simp)).trans (by simp [go_sem]), (hb.frozen (p := ⟨_, 2, none⟩) (by simp)).trans (by simp [go_sem])⟩
  rcases Nat.lt_or_eq_of_le (Nat.le_of_lt_succ hl) with h | h
  · exact h
  · subst h; simp [go_sem] at h0
theorem new_stepD {V wn : World} {g : Nat} {s : ByteArray} (h0 : V.cell? ⟨g, 0, none⟩ = some (.string s)) (hb : Below (V.alloc zer3).drew.heap.size (V.alloc zer3).drew wn) :
    g < V.heap.size ∧ wn.cell? ⟨V.heap.size, 0, none⟩ = some (.int .i64 0) ∧ wn.cell? ⟨V.heap.size, 1, none⟩ = some (.int .i64 0) ∧ wn.cell? ⟨V.heap.size, 2, none⟩ = some (.int .i64 0) ∧
      wn.frozen? ⟨V.heap.size, 0, none⟩ = false ∧ wn.frozen? ⟨V.heap.size, 1, none⟩ = false ∧ wn.frozen? ⟨V.heap.size, 2, none⟩ = false :=
  new_step (V := V.drew) (g := g) (s := s) (cell_alloc_of _ h0) hb
theorem new_move {W wn : World} {b : Nat} (h0 : W.cell? ⟨b, 0, none⟩ = some (.int .i64 0)) (h1 : W.cell? ⟨b, 1, none⟩ = some (.int .i64 0)) (h2 : W.cell? ⟨b, 2, none⟩ = some (.int .i64 0))
    (f0 : W.frozen? ⟨b, 0, none⟩ = false) (f1 : W.frozen? ⟨b, 1, none⟩ = false) (f2 : W.frozen? ⟨b, 2, none⟩ = false) (hb : Below W.heap.size W wn) :
    wn.cell? ⟨b, 0, none⟩ = some (.int .i64 0) ∧ wn.cell? ⟨b, 1, none⟩ = some (.int .i64 0) ∧ wn.cell? ⟨b, 2, none⟩ = some (.int .i64 0) ∧
      wn.frozen? ⟨b, 0, none⟩ = false ∧ wn.frozen? ⟨b, 1, none⟩ = false ∧ wn.frozen? ⟨b, 2, none⟩ = false := by
  have hl := World.block_lt_of_cell? _ _ h0
  exact ⟨(hb.cell hl).trans h0, (hb.cell (p := ⟨b, 1, none⟩) hl).trans h1, (hb.cell (p := ⟨b, 2, none⟩) hl).trans h2, (hb.frozen (p := ⟨b, 0, none⟩) hl).trans f0, (hb.frozen (p := ⟨b, 1, none⟩) hl).trans f1, (hb.frozen (p := ⟨b, 2, none⟩) hl).trans f2⟩

theorem cell_far3 {W : World} {g b o : Nat} {v x y z : Value} (hg : g < b) (h : W.cell? ⟨g, o, none⟩ = some v) : (((W.setCell ⟨b, 0, none⟩ x).setCell ⟨b, 1, none⟩ y).setCell ⟨b, 2, none⟩ z).cell? ⟨g, o, none⟩ = some v := by
  rw [World.cell?_setCell_far _ _ _ _ (by simp; omega), World.cell?_setCell_far _ _ _ _ (by simp; omega), World.cell?_setCell_far _ _ _ _ (by simp; omega)]; exact h
theorem below_set3 {B b : Nat} {w W : World} {x y z : Value} (h : Below B w W) (hb : B ≤ b) : Below B w (((W.setCell ⟨b, 0, none⟩ x).setCell ⟨b, 1, none⟩ y).setCell ⟨b, 2, none⟩ z) :=
  ((h.setCell (p := ⟨b, 0, none⟩) hb _).setCell (p := ⟨b, 1, none⟩) hb _).setCell (p := ⟨b, 2, none⟩) hb _

theorem gen3 {b : Nat} {a : Act} {wE : World} {G : Act → World → Prop} (F : Nat → World → Prop) (h : F b wE) (hk : ∀ W, F b W → G a W) : G a wE := hk wE h
theorem alloc3_cells (W : World) (x y z : Value) (T : TypeId) : (W.alloc (.cells #[x, y, z] T)).cell? ⟨W.heap.size, 0, none⟩ = some x ∧ (W.alloc (.cells #[x, y, z] T)).cell? ⟨W.heap.size, 1, none⟩ = some y ∧ (W.alloc (.cells #[x, y, z] T)).cell? ⟨W.heap.size, 2, none⟩ = some z := by simp [go_sem]
theorem set3_cells {W : World} {b : Nat} {x y z u0 u1 u2 : Value} (h0 : W.cell? ⟨b, 0, none⟩ = some u0) (h1 : W.cell? ⟨b, 1, none⟩ = some u1) (h2 : W.cell? ⟨b, 2, none⟩ = some u2) :
    (((W.setCell ⟨b, 0, none⟩ x).setCell ⟨b, 1, none⟩ y).setCell ⟨b, 2, none⟩ z).cell? ⟨b, 0, none⟩ = some x ∧ (((W.setCell ⟨b, 0, none⟩ x).setCell ⟨b, 1, none⟩ y).setCell ⟨b, 2, none⟩ z).cell? ⟨b, 1, none⟩ = some y ∧ (((W.setCell ⟨b, 0, none⟩ x).setCell ⟨b, 1, none⟩ y).setCell ⟨b, 2, none⟩ z).cell? ⟨b, 2, none⟩ = some z := by
  simp [go_sem, h0, h1, h2]

set_option maxRecDepth 20000 in
set_option maxHeartbeats 4000000 in
theorem untxn_go (t x y z : Bs) (hm : t.length ≤ 10000000) (hk : kind t = 3) (hc : cut t = [x, y, z]) (lx : x.length ≤ 100000000) (ly : y.length ≤ 100000000) (lz : z.length ≤ 100000000) (w : World) :
    Calls Try.prog 53 #[.string (ofL t)] w fun e w' => e = txnEnd (untxn t) ∧ Below w.heap.size w w' := by
  have hrow := fun W => wrow_ok t hm 3 3 hk (by rw [hc]; simp) (by rw [hc]; simp) W
  rw [hc] at hrow
  have Hrow := hid hrow
  obtain ⟨R, hR⟩ : ∃ R, txnEnd (untxn t) = R := ⟨_, rfl⟩
  have HR : Kp (txnEnd (match readNumT x, readNumT y, readNumT z with | some x, some y, some z => if mayTxn ⟨x, y, z⟩ then some ⟨x, y, z⟩ else none | _, _, _ => none) = R) := hid (by rw [← hR]; unfold untxn rowP; rw [hc, hk]; rfl)
  rw [hR]
  clear hR hk hc hrow
  go_enter Try.func53, Try.ntmps53
  go_wp2_with fail
  refine (Hrow.out _).mono ?_
  rintro e w1 ⟨v, rfl, hown, hb⟩
  obtain ⟨g, cap, rfl, h0, h1, h2⟩ := hown.cells3
  have hB0 := hb
  have hB1 : Below w.heap.size w w1 := ((Below.refl w.heap.size w).alloc (Nat.le_refl _) _).trans (hb.mono (by simp))
  clear hown hb
  go_wp2_with fail
  refine wp_region_panicSame w.heap.size w thrownW (Ending.panicked thrownW = R) (fun a w' hd hE h => ?_) ?_
  · exact ⟨hd, hE, h⟩
  go_region_held2 (fun w' => w'.cell? ⟨g, 0, none⟩ = some (.string (ofL x)) ∧ w'.cell? ⟨g, 1, none⟩ = some (.string (ofL y)) ∧ w'.cell? ⟨g, 2, none⟩ = some (.string (ofL z)) ∧ Below (w.alloc (.cells #[.int .i64 0, .int .i64 0, .int .i64 0] 23)).heap.size (w.alloc (.cells #[.int .i64 0, .int .i64 0, .int .i64 0] 23)) w' ∧ Below w.heap.size w w')
    ((go_split_ands; refine ⟨?_, ?_, ?_, ?_, ?_⟩ <;> (with_reducible first | assumption | exact cell_alloc_of _ (by assumption) | exact cell_far3 hgl (by assumption) | exact Below.drew (by assumption) | exact Below.drew (Below.alloc (by assumption) (Below.size (by assumption)) _) | exact Below.alloc (by assumption) (Below.size (by assumption)) _ | exact below_set3 (by assumption) (by first | exact Below.size (by assumption) | exact hB0.size | exact hB1.size) | skip) <;> first | exact h0 | exact h1 | exact h2 | exact cell_alloc_of _ h0 | exact cell_alloc_of _ h1 | exact cell_alloc_of _ h2))
    ((go_at_call 61; go_split_ands; (first | (with_reducible refine (unnum_calls x lx _).mono ?_; rintro e9 wn ⟨he, hbn⟩; generalize kx : readNumT x = ov at he; rcases ov with _ | vx) | (with_reducible refine (unnum_calls y ly _).mono ?_; rintro e9 wn ⟨he, hbn⟩; generalize ky : readNumT y = ov at he; rcases ov with _ | vy) | (with_reducible refine (unnum_calls z lz _).mono ?_; rintro e9 wn ⟨he, hbn⟩; generalize kz : readNumT z = ov at he; rcases ov with _ | vz)); (focus (subst he; refine PanicSame.panic (below_then (by assumption) (Below.size (by assumption)) hbn) ?_ (by rfl); have h9 := HR.out; first | (rw [kx, ky, kz] at h9; exact h9) | (rw [kx, ky] at h9; exact h9) | (rw [kx] at h9; exact h9))); simp only [unEnd] at he; subst he;
      have hk0 : Below (w.alloc (.cells #[.int .i64 0, .int .i64 0, .int .i64 0] 23)).heap.size (w.alloc (.cells #[.int .i64 0, .int .i64 0, .int .i64 0] 23)) wn := below_then (by assumption) (Below.size (by assumption)) hbn; have hk1 : Below w.heap.size w wn := below_then (by assumption) (Below.size (by assumption)) hbn;
      have e0 : wn.cell? ⟨g, 0, none⟩ = some (.string (ofL x)) := (hbn.cell (p := ⟨g, 0, none⟩) (World.block_lt_of_cell? _ ⟨g, 0, none⟩ (by assumption))).trans (by assumption); have e1 : wn.cell? ⟨g, 1, none⟩ = some (.string (ofL y)) := (hbn.cell (p := ⟨g, 1, none⟩) (World.block_lt_of_cell? _ ⟨g, 1, none⟩ (by assumption))).trans (by assumption); have e2 : wn.cell? ⟨g, 2, none⟩ = some (.string (ofL z)) := (hbn.cell (p := ⟨g, 2, none⟩) (World.block_lt_of_cell? _ ⟨g, 2, none⟩ (by assumption))).trans (by assumption);
      first | (with_reducible have hq := new_step (g := g) (s := ofL x) (by assumption) hbn; obtain ⟨hgl, n0, n1, n2, n3, n4, n5⟩ := hq) | (with_reducible have hq := new_stepD (g := g) (s := ofL x) (by assumption) hbn; obtain ⟨hgl, n0, n1, n2, n3, n4, n5⟩ := hq) | (with_reducible have hq := new_move (by assumption) (by assumption) (by assumption) (by assumption) (by assumption) (by assumption) hbn; obtain ⟨n0, n1, n2, n3, n4, n5⟩ := hq) | skip))
  all_goals
    go_split_ands
    refine gen3 (fun b W => (W.cell? ⟨b, 0, none⟩ = some (.int .i64 vx) ∧ W.cell? ⟨b, 1, none⟩ = some (.int .i64 vy) ∧ W.cell? ⟨b, 2, none⟩ = some (.int .i64 vz)) ∧
      Below (w.alloc zer3).heap.size (w.alloc zer3) W ∧ Below w.heap.size w W) (by with_reducible first | exact ⟨alloc3_cells _ _ _ _ _, by assumption, by assumption⟩ | exact ⟨set3_cells (by assumption) (by assumption) (by assumption), by assumption, by assumption⟩) ?_
  all_goals
    rintro wE ⟨⟨d0, d1, d2⟩, hE0, hE1⟩
    refine PanicSame.normal ?_
    have HR2 := HR.out
    rw [kx, ky, kz] at HR2
    simp only at HR2
    clear HR
    clear h0 h1 h2 hB0 hB1 Hrow kx ky kz
    have HE0 := hid hE0
    have HE1 := hid hE1
    clear hE0 hE1
    go_wp2_with fail
    refine (mayTxn_calls ⟨vx, vy, vz⟩ _).mono ?_
    rintro e3 w3 ⟨rfl, hb3⟩
    have f0 := (hb3.cell (p := ⟨_, 0, none⟩) (World.block_lt_of_cell? _ _ d0)).trans d0
    have f1 := (hb3.cell (p := ⟨_, 1, none⟩) (World.block_lt_of_cell? _ _ d1)).trans d1
    have f2 := (hb3.cell (p := ⟨_, 2, none⟩) (World.block_lt_of_cell? _ _ d2)).trans d2
    have hF0 := below_then HE0.out HE0.out.size hb3
    have hF1 := below_then HE1.out HE1.out.size hb3
    have r0 : w3.cell? ⟨w.heap.size, 0, none⟩ = some (.int .i64 0) := (hF0.cell (p := ⟨_, 0, none⟩) (by simp)).trans (by simp [go_sem])
    have r1 : w3.cell? ⟨w.heap.size, 1, none⟩ = some (.int .i64 0) := (hF0.cell (p := ⟨_, 1, none⟩) (by simp)).trans (by simp [go_sem])
    have r2 : w3.cell? ⟨w.heap.size, 2, none⟩ = some (.int .i64 0) := (hF0.cell (p := ⟨_, 2, none⟩) (by simp)).trans (by simp [go_sem])
    have s0 : w3.frozen? ⟨w.heap.size, 0, none⟩ = false := (hF0.frozen (p := ⟨_, 0, none⟩) (by simp)).trans (by simp [go_sem])
    have s1 : w3.frozen? ⟨w.heap.size, 1, none⟩ = false := (hF0.frozen (p := ⟨_, 1, none⟩) (by simp)).trans (by simp [go_sem])
    have s2 : w3.frozen? ⟨w.heap.size, 2, none⟩ = false := (hF0.frozen (p := ⟨_, 2, none⟩) (by simp)).trans (by simp [go_sem])
    have HF := hid hF1
    clear hb3 hF0 hF1 HE0 HE1 d0 d1 d2
    cases hmay : mayTxn ⟨vx, vy, vz⟩ with
    | false =>
      rw [hmay] at HR2
      have HR := hid HR2
      clear HR2 hmay
      go_wp2_with fail
      refine (wmust_no _).mono ?_
      rintro e w2 ⟨rfl, rfl⟩
      exact ⟨rfl, HR.out, HF.out⟩
    | true =>
      rw [hmay] at HR2
      have HR := hid HR2
      clear HR2 hmay
      go_wp2_with fail
      refine (wmust_ok _).mono ?_
      rintro e w2 ⟨rfl, rfl⟩
      go_wp2
      refine bodyPost_ret (v := txnV ⟨vx, vy, vz⟩) (by simp [results, Try.results53, go_sem, r0, r1, r2, txnV]) rfl ⟨HR.out, ?_⟩
      exact below_set3 HF.out (Nat.le_refl _)

theorem kind3_head {t : Bs} (h : kind t = 3) : t.headD 0 = 114 := by
  have ht := kind3_term h
  rw [kind_of ht] at h
  obtain ⟨c, r, rfl, hc⟩ := term_head ht
  simp only [List.headD_cons] at h ⊢
  rcases hc with rfl | rfl | rfl | rfl | rfl | rfl <;> first | rfl | (revert h; decide)
theorem term_len {t : Bs} (h : isTerm t = true) : t.length ≤ 16384 := ((isTerm_iff t).1 h).2
theorem kind3_back {t : Bs} (h : kind t = 3) : t = rowB (cut t) ∧ (∀ p ∈ cut t, isTerm p = true) ∧ (cut t).length ≤ 32 := row_back (kind3_term h) (kind3_head h)

theorem rowP_none {t : Bs} {lo hi : Nat} (h : rowP t lo hi = none) : ¬ (kind t = 3 ∧ (lo : Int) ≤ (cut t).length ∧ ((cut t).length : Int) ≤ (hi : Int)) := by
  intro ⟨h1, h2, h3⟩
  unfold rowP at h
  rw [if_pos ⟨h1, by omega, by omega⟩] at h
  cases h
theorem rowP_some {t : Bs} {lo hi : Nat} {p : List Bs} (h : rowP t lo hi = some p) : kind t = 3 ∧ lo ≤ (cut t).length ∧ (cut t).length ≤ hi ∧ p = cut t := by
  unfold rowP at h
  split at h
  · rename_i h1; injection h with h; exact ⟨h1.1, h1.2.1, h1.2.2, h.symm⟩
  · cases h

set_option maxRecDepth 20000 in
set_option maxHeartbeats 1000000 in
theorem untxn_calls (t : Bs) (hm : t.length ≤ 10000000) (w : World) :
    Calls Try.prog 53 #[.string (ofL t)] w fun e w' => e = txnEnd (untxn t) ∧ Below w.heap.size w w' := by
  cases hr : rowP t 3 3 with
  | none =>
    have hrow := fun W => wrow_no t hm 3 3 (rowP_none hr) W
    have hf : untxn t = none := by unfold untxn; rw [hr]
    rw [hf]
    have Hrow := hid hrow
    clear hr hrow hf
    go_enter Try.func53, Try.ntmps53
    go_wp2_with fail
    refine (Hrow.out _).mono ?_
    rintro e w1 ⟨rfl, hb⟩
    exact ⟨rfl, rfl, below_then ((Below.refl w.heap.size w).alloc (Nat.le_refl _) _) (by simp) hb⟩
  | some p =>
    obtain ⟨hk, h1, h2, rfl⟩ := rowP_some hr
    obtain ⟨-, hp, -⟩ := kind3_back hk
    have h3 : (cut t).length = 3 := by omega
    match hc : cut t, h3 with
    | [x, y, z], _ =>
      rw [hc] at hp
      have lx := term_len (hp x (by simp))
      have ly := term_len (hp y (by simp))
      have lz := term_len (hp z (by simp))
      exact untxn_go t x y z hm hk hc (by omega) (by omega) (by omega) w
end Go.Proofs.Ytohblakhojhklaa
