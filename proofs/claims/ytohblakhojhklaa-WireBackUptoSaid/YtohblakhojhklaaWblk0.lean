import Derived.Test.YtohblakhojhklaaWmemr
import Derived.Maps.OwnOps
import Derived.Maps.RangeWalk
import Derived.Laws.OwnMore
/- Whole blocks of memory, kept; lengths and mistakes of terms that were made. -/
namespace Go.Proofs.Ytohblakhojhklaa
open Go.RowKit Sp

/-- What a made thing comes to, over one open pair. -/
theorem made_pair {X : Except Nat Bs} (hpos : ∀ e, X = .error e → 0 < e) (hlen : ∀ s, X = .ok s → s.length ≤ 16384) : ∃ s y, encMade X = .tuple #[.string (ofL s), .int .i64 y] ∧ (y = 0 → X = .ok s) ∧ (y ≠ 0 → ∃ e, X = .error e) ∧ s.length ≤ 16384 := by
  cases X with
  | ok s => exact ⟨s, 0, rfl, fun _ => rfl, fun h => absurd rfl h, hlen s rfl⟩
  | error e => exact ⟨[], e, rfl, fun h => by have := hpos e rfl; omega, fun _ => ⟨e, rfl⟩, by simp⟩
theorem txnT_len {t : Txn} {s : Bs} (h : txnT t = .ok s) : s.length ≤ 16384 := by
  unfold txnT at h
  split at h
  · exact term_len (row_len h)
  · cases h
theorem num_len {v : Int} {s : Bs} (h : Sp.num v = .ok s) : s.length ≤ 16384 := by
  unfold Sp.num at h
  split at h
  · cases h
  · have := data_len h; omega
theorem membersT_len {t : Txn} {l : List Mem} {s : Bs} (h : membersT t l = .ok s) : s.length ≤ 16384 := by
  unfold membersT at h
  split at h
  · split at h
    · cases h
    · exact term_len (row_len h)
  · cases h
theorem bt0 {w V W : World} (h : Below w.heap.size w V) (hb : Below V.heap.size V W) : Below w.heap.size w W := below_then h h.size hb
theorem bt1 {w V W : World} {o : Obj} (h : Below w.heap.size w V) (hb : Below (V.alloc o).heap.size (V.alloc o) W) : Below w.heap.size w W := bt0 (h.alloc h.size o) hb
theorem btd {w W : World} (hb : Below w.drew.heap.size w.drew W) : Below w.heap.size w W := bt0 (Below.refl _ w).drew hb
theorem cell_far1 {W : World} {b0 b1 o : Nat} {v x : Value} (hne : b1 ≠ b0) (h : W.cell? ⟨b0, o, none⟩ = some v) : (W.setCell ⟨b1, 0, none⟩ x).cell? ⟨b0, o, none⟩ = some v := (World.cell?_setCell_far _ _ _ _ hne).trans h
theorem txnT_err {t : Txn} {e : Nat} (h : txnT t = .error e) : 0 < e := by
  unfold txnT at h
  split at h
  · exact row_err h
  · injection h with h; omega
theorem data_err {s : Bs} {e : Nat} (h : data s = .error e) : 0 < e := by
  unfold data at h
  split at h
  · injection h with h; omega
  · cases h
theorem num_err {v : Int} {e : Nat} (h : Sp.num v = .error e) : 0 < e := by
  unfold Sp.num at h
  split at h
  · injection h with h; omega
  · exact data_err h
theorem memTs_err {l : List Mem} {e : Nat} (h : memTs l = .error e) : e = 5 := by
  induction l generalizing e with
  | nil => cases h
  | cons x r ih =>
    simp only [memTs] at h
    split at h
    · injection h with h; exact h.symm
    · split at h
      · rename_i e' he; injection h with h; subst h; exact ih he
      · cases h
theorem membersT_err {t : Txn} {l : List Mem} {e : Nat} (h : membersT t l = .error e) : 0 < e := by
  unfold membersT at h
  split at h
  · split at h
    · rename_i e' he
      injection h with h; subst h
      rw [memTs_err he]; omega
    · exact row_err h
  · injection h with h; omega

/-- A block of memory, known whole. -/
def BlkAt (W : World) (b : Nat) (cs : Array Value) (t : TypeId) : Prop := W.heap[b]? = some (.cells cs t (0, 0))
theorem BlkAt.lt {W : World} {b : Nat} {cs : Array Value} {t : TypeId} (h : BlkAt W b cs t) : b < W.heap.size := (Array.getElem?_eq_some_iff.1 h).1
theorem BlkAt.cell {W : World} {b : Nat} {cs : Array Value} {t : TypeId} (h : BlkAt W b cs t) (i : Nat) : W.cell? ⟨b, i, none⟩ = cs[i]? := by
  simp [World.cell?, show W.heap[b]? = _ from h]
theorem BlkAt.val {W : World} {b : Nat} {cs : Array Value} {t : TypeId} (h : BlkAt W b cs t) (i : Nat) {v : Value} (hv : cs.toList[i]? = some v) : W.cell? ⟨b, i, none⟩ = some v := by
  rw [h.cell, ← Array.getElem?_toList]; exact hv
theorem BlkAt.frozen {W : World} {b : Nat} {cs : Array Value} {t : TypeId} (h : BlkAt W b cs t) (i : Nat) : W.frozen? ⟨b, i, none⟩ = false := by
  simp [World.frozen?, show W.heap[b]? = _ from h]
theorem BlkAt.keep {W W' : World} {b B : Nat} {cs : Array Value} {t : TypeId} (h : BlkAt W b cs t) (hb : Below B W W') (hlt : b < B) : BlkAt W' b cs t := (hb.block b hlt).trans h
theorem BlkAt.below {W W' : World} {b : Nat} {cs : Array Value} {t : TypeId} (h : BlkAt W b cs t) (hb : Below W.heap.size W W') : BlkAt W' b cs t := h.keep hb h.lt
theorem BlkAt.grown {W W' : World} {b : Nat} {cs : Array Value} {t : TypeId} {row : Option Nat} (h : BlkAt W b cs t) (hg : W.grownBy W' row) (hne : some b ≠ row) : BlkAt W' b cs t := (hg.block b h.lt hne).trans h
theorem BlkAt.far {W : World} {b : Nat} {cs : Array Value} {t : TypeId} {a : Addr} (h : BlkAt W b cs t) (hne : b ≠ a.block) (v : Value) : BlkAt (W.setCell a v) b cs t :=
  (Below.heap_setCell _ _ _ _ hne).trans h
theorem BlkAt.set {W : World} {b : Nat} {cs : Array Value} {t : TypeId} (h : BlkAt W b cs t) (i : Nat) (v : Value) : BlkAt (W.setCell ⟨b, i, none⟩ v) b (cs.setIfInBounds i v) t := by
  unfold BlkAt at h ⊢
  simp [World.setCell, Array.getElem?_modify, h]
theorem BlkAt.new (W : World) (cs : Array Value) (t : TypeId) : BlkAt (W.alloc (.cells cs t)) W.heap.size cs t := heap_alloc_new W _
theorem BlkAt.alloc {W : World} {b : Nat} {cs : Array Value} {t : TypeId} (h : BlkAt W b cs t) (o : Obj) : BlkAt (W.alloc o) b cs t := h.grown (World.grownBy_alloc W o none) (by simp)
theorem BlkAt.drew {W : World} {b : Nat} {cs : Array Value} {t : TypeId} (h : BlkAt W b cs t) : BlkAt W.drew b cs t := h
theorem OwnStrs.far {base : Nat} {w : World} {v : Value} {l : List Bs} {a : Addr} (h : OwnStrs base w v l) (ha : a.block < base) (x : Value) : OwnStrs base (w.setCell a x) v l := ownsRow_setCell_below h ha x
theorem OwnMems.far {base : Nat} {w : World} {v : Value} {l : List Mem} {a : Addr} (h : OwnMems base w v l) (ha : a.block < base) (x : Value) : OwnMems base (w.setCell a x) v l := ownsRow_setCell_below h ha x
theorem OwnStrs.grown {base : Nat} {w w' : World} {v : Value} {l : List Bs} {b : Nat} (h : OwnStrs base w v l) (hg : w.grownBy w' (some b)) (hb : b < base) : OwnStrs base w' v l :=
  World.ownsRow.kept h hg (by
    cases hv : v.ownBlock with
    | none => exact .inl rfl
    | some k => refine .inr fun e => ?_; injection e with e; have := (World.ownsRow.lt h k hv).1; omega)
theorem OwnStrs.at_ {base : Nat} {w : World} {a : Option Addr} {n cap : Nat} {l : List Bs} (h : OwnStrs base w (.slice a n cap) l) : StrsAt w a l := by
  obtain ⟨a', c', e, h'⟩ := h.read
  injection e with e1; subst e1; exact h'
theorem OwnMems.at_ {base : Nat} {w : World} {a : Option Addr} {n cap : Nat} {l : List Mem} (h : OwnMems base w (.slice a n cap) l) : MemsAt w a l := by
  obtain ⟨a', c', e, h'⟩ := h.read
  injection e with e1; subst e1; exact h'
/-- The world, forgotten but for what is known of it. -/
theorem gen_world {P Q : World → Prop} (W : World) (h : P W) (k : ∀ W', P W' → Q W') : Q W := k W h
theorem below_set {B : Nat} {w W : World} (h : Below B w W) {b i : Nat} (hb : B ≤ b) (v : Value) : Below B w (W.setCell ⟨b, i, none⟩ v) := h.setCell (p := ⟨b, i, none⟩) hb v

theorem sameKey_int (a b : Int) : (Lit.int .i64 a).sameKey (.int .i64 b) = decide (a = b) := by simp [Lit.sameKey]
theorem memsAt_news {w : World} {ad : Addr} {l : List Mem} (h : MemsAt w (some ad) l) : ∀ j u, (memCells l)[j]? = some u → w.cell? (ad.add j) = some u := by
  intro j u hu
  have hj : j < l.length * 2 := by
    have := (List.getElem?_eq_some_iff.1 hu).1
    rwa [memCells_length] at this
  have hi : j / 2 < l.length := by omega
  obtain ⟨b, off, e, h1, h2⟩ := h (j / 2) hi
  injection e with e
  subst e
  obtain ⟨g1, g2⟩ := memCells_get hi
  rw [add_at]
  rcases Nat.mod_two_eq_zero_or_one j with hm | hm
  · have ej : j = j / 2 * 2 := by omega
    rw [ej, g1] at hu
    injection hu with hu
    subst hu
    rw [show off + j = off + j / 2 * 2 by omega]
    exact h1
  · have ej : j = j / 2 * 2 + 1 := by omega
    rw [ej, g2] at hu
    injection hu with hu
    subst hu
    rw [show off + j = off + j / 2 * 2 + 1 by omega]
    exact h2
theorem strsAt_news {w : World} {ad : Addr} {l : List Bs} (h : StrsAt w (some ad) l) : ∀ j u, (l.map strV)[j]? = some u → w.cell? (ad.add j) = some u := by
  intro j u hu
  have hi : j < l.length := by
    have := (List.getElem?_eq_some_iff.1 hu).1
    simpa using this
  obtain ⟨b, off, e, h1⟩ := h j hi
  injection e with e
  subst e
  rw [add_at]
  rw [List.getElem?_map, List.getElem?_eq_getElem hi] at hu
  simp only [Option.map_some] at hu
  injection hu with hu
  subst hu
  exact h1
theorem memCells_one (l : List Mem) : ∀ u ∈ memCells l, u.oneCell' = true := by
  intro u hu
  unfold memCells at hu
  obtain ⟨x, -, hx⟩ := List.mem_flatMap.1 hu
  simp at hx
  rcases hx with rfl | rfl <;> rfl
theorem strCells_one (l : List Bs) : ∀ u ∈ l.map strV, u.oneCell' = true := by
  intro u hu
  obtain ⟨x, -, rfl⟩ := List.mem_map.1 hu
  rfl
theorem memsAt_none {w : World} {l : List Mem} (h : MemsAt w none l) : l = [] := by
  cases l with
  | nil => rfl
  | cons x r => obtain ⟨b, off, e, -⟩ := h 0 (by simp); cases e
theorem strsAt_none {w : World} {l : List Bs} (h : StrsAt w none l) : l = [] := by
  cases l with
  | nil => rfl
  | cons x r => obtain ⟨b, off, e, -⟩ := h 0 (by simp); cases e

end Go.Proofs.Ytohblakhojhklaa
