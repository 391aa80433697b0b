import Derived.Test.YtegkolepemcocaaWrdec
import Derived.Test.YtegkolepemcocaaPback
import Derived.Maps.OwnOps
import Derived.Maps.RangeWalk
/- Whole blocks of memory, kept. -/
namespace Go.Proofs.Ytegkolepemcocaa
open Go.RowKit Sp

/-- A block of memory, known whole. -/
def BlkAt (W : World) (b : Nat) (cs : Array Value) (t : TypeId) : Prop := W.heap[b]? = some (.cells cs t (0, 0))
theorem BlkAt.lt {W : World} {b : Nat} {cs : Array Value} {t : TypeId} (h : BlkAt W b cs t) : b < W.heap.size := (Array.getElem?_eq_some_iff.1 h).1
theorem BlkAt.cell {W : World} {b : Nat} {cs : Array Value} {t : TypeId} (h : BlkAt W b cs t) (i : Nat) : W.cell? ⟨b, i, none⟩ = cs[i]? := by
  simp [World.cell?, show W.heap[b]? = _ from h]
theorem BlkAt.val {W : World} {b : Nat} {cs : Array Value} {t : TypeId} (h : BlkAt W b cs t) (i : Nat) {v : Value} (hv : cs.toList[i]? = some v) : W.cell? ⟨b, i, none⟩ = some v := by
  rw [h.cell, ← Array.getElem?_toList]; exact hv
theorem BlkAt.frozen {W : World} {b : Nat} {cs : Array Value} {t : TypeId} (h : BlkAt W b cs t) (i : Nat) : W.frozen? ⟨b, i, none⟩ = false := by
  simp [World.frozen?, show W.heap[b]? = _ from h]
theorem BlkAt.keep {W W' : World} {b B : Nat} {cs : Array Value} {t : TypeId} (h : BlkAt W b cs t) (hb : Below B W W') (hlt : b < B) : BlkAt W' b cs t := (hb.block b hlt).trans h
theorem BlkAt.below {W W' : World} {b : Nat} {cs : Array Value} {t : TypeId} (h : BlkAt W b cs t) (hb : Below W.heap.size W W') : BlkAt W' b cs t := h.keep hb h.lt
theorem BlkAt.grown {W W' : World} {b : Nat} {cs : Array Value} {t : TypeId} {row : Option Nat} (h : BlkAt W b cs t) (hg : W.grownBy W' row) (hne : some b ≠ row) : BlkAt W' b cs t := (hg.block b h.lt hne).trans h
theorem BlkAt.far {W : World} {b : Nat} {cs : Array Value} {t : TypeId} {a : Addr} (h : BlkAt W b cs t) (hne : b ≠ a.block) (v : Value) : BlkAt (W.setCell a v) b cs t :=
  (Below.heap_setCell _ _ _ _ hne).trans h
theorem BlkAt.set {W : World} {b : Nat} {cs : Array Value} {t : TypeId} (h : BlkAt W b cs t) (i : Nat) (v : Value) : BlkAt (W.setCell ⟨b, i, none⟩ v) b (cs.setIfInBounds i v) t := by
  unfold BlkAt at h ⊢
  simp [World.setCell, Array.getElem?_modify, h]
theorem BlkAt.new (W : World) (cs : Array Value) (t : TypeId) : BlkAt (W.alloc (.cells cs t)) W.heap.size cs t := heap_alloc_new W _
theorem BlkAt.alloc {W : World} {b : Nat} {cs : Array Value} {t : TypeId} (h : BlkAt W b cs t) (o : Obj) : BlkAt (W.alloc o) b cs t := h.grown (World.grownBy_alloc W o none) (by simp)
theorem BlkAt.drew {W : World} {b : Nat} {cs : Array Value} {t : TypeId} (h : BlkAt W b cs t) : BlkAt W.drew b cs t := h
theorem OwnStrs.far {base : Nat} {w : World} {v : Value} {l : List Bs} {a : Addr} (h : OwnStrs base w v l) (ha : a.block < base) (x : Value) : OwnStrs base (w.setCell a x) v l := ownsRow_setCell_below h ha x
theorem OwnMems.far {base : Nat} {w : World} {v : Value} {l : List Mem} {a : Addr} (h : OwnMems base w v l) (ha : a.block < base) (x : Value) : OwnMems base (w.setCell a x) v l := ownsRow_setCell_below h ha x
theorem OwnStrs.grown {base : Nat} {w w' : World} {v : Value} {l : List Bs} {b : Nat} (h : OwnStrs base w v l) (hg : w.grownBy w' (some b)) (hb : b < base) : OwnStrs base w' v l :=
  World.ownsRow.kept h hg (by
    cases hv : v.ownBlock with
    | none => exact .inl rfl
    | some k => refine .inr fun e => ?_; injection e with e; have := (World.ownsRow.lt h k hv).1; omega)
theorem OwnStrs.at_ {base : Nat} {w : World} {a : Option Addr} {n cap : Nat} {l : List Bs} (h : OwnStrs base w (.slice a n cap) l) : StrsAt w a l := by
  obtain ⟨a', c', e, h'⟩ := h.read
  injection e with e1; subst e1; exact h'
theorem OwnMems.at_ {base : Nat} {w : World} {a : Option Addr} {n cap : Nat} {l : List Mem} (h : OwnMems base w (.slice a n cap) l) : MemsAt w a l := by
  obtain ⟨a', c', e, h'⟩ := h.read
  injection e with e1; subst e1; exact h'
/-- The world, forgotten but for what is known of it. -/
theorem gen_world {P Q : World → Prop} (W : World) (h : P W) (k : ∀ W', P W' → Q W') : Q W := k W h
theorem below_set {B : Nat} {w W : World} (h : Below B w W) {b i : Nat} (hb : B ≤ b) (v : Value) : Below B w (W.setCell ⟨b, i, none⟩ v) := h.setCell (p := ⟨b, i, none⟩) hb v

/-- Where decode stands behind its fourth row. -/
structure DecSt (w : World) (g T : Nat) (c e s kk : Int) (v4 : Value) (x3 : Bs) (l4 : List Bs) (W : World) : Prop where
  blk : BlkAt W w.heap.size #[.int .i64 c, .int .i64 e, .int .i64 s, .int .i64 kk, .slice none 0 0, v4] 27
  tx : BlkAt W T #[.int .i64 c, .int .i64 e, .int .i64 s] 23
  x3 : W.cell? ⟨g, 3, none⟩ = some (.string (ofL x3))
  tags : OwnStrs (w.heap.size + 1) W v4 l4
  bl : Below w.heap.size w W
theorem DecSt.keep {w : World} {g T : Nat} {c e s kk : Int} {v4 : Value} {x3 : Bs} {l4 : List Bs} {W W' : World} (h : DecSt w g T c e s kk v4 x3 l4 W) (hb : Below W.heap.size W W') : DecSt w g T c e s kk v4 x3 l4 W' :=
  ⟨h.blk.below hb, h.tx.below hb, (hb.cell (p := ⟨g, 3, none⟩) (World.block_lt_of_cell? _ _ h.x3)).trans h.x3, h.tags.below hb, below_then h.bl h.bl.size hb⟩
theorem DecSt.drew {w : World} {g T : Nat} {c e s kk : Int} {v4 : Value} {x3 : Bs} {l4 : List Bs} {W : World} (h : DecSt w g T c e s kk v4 x3 l4 W) : DecSt w g T c e s kk v4 x3 l4 W.drew :=
  ⟨h.blk, h.tx, h.x3, World.ownsRow.drew h.tags, h.bl.drew⟩

/-- row with two parts: both ways. -/
theorem rrow_two (t : Bs) (hm : t.length ≤ 10000000) (w : World) : Calls Try.prog 76 #[.string (ofL t), .int .i64 2] w fun e w' =>
    ((∃ a b v, rowP t 2 2 = some [a, b] ∧ e = .returned v ∧ OwnStrs w.heap.size w' v [a, b] ∧ isTerm a = true) ∨ (rowP t 2 2 = none ∧ e = .panicked (thrownR 7))) ∧ Below w.heap.size w w' := by
  by_cases hk : kind t = 3
  · by_cases hc : (cut t).length = 2
    · obtain ⟨a, b, hab⟩ : ∃ a b, cut t = [a, b] := by
        match h : cut t, hc with
        | [a, b], _ => exact ⟨a, b, rfl⟩
      have ht := (kind3_back hk).2.1 a (by rw [hab]; simp)
      refine (rrow_ok t hm 2 hk (by omega) w).mono ?_
      rintro e w' ⟨v, rfl, ho, hb⟩
      rw [hab] at ho
      refine ⟨.inl ⟨a, b, v, ?_, rfl, ho, ht⟩, hb⟩
      unfold rowP; rw [hab]; simp [hk]
    · refine (rrow_len t hm 2 hk (by omega) (by omega) w).mono ?_
      rintro e w' ⟨rfl, hb⟩
      refine ⟨.inr ⟨?_, rfl⟩, hb⟩
      unfold rowP; rw [if_neg (by omega)]
  · refine (rrow_kind t hm 2 hk w).mono ?_
    rintro e w' ⟨rfl, hb⟩
    refine ⟨.inr ⟨?_, rfl⟩, hb⟩
    unfold rowP; rw [if_neg (fun h => hk h.1)]
theorem orgsOf_snoc {l : List Bs} {s : Bs} {p : List Int} (h : orgsOf l = some p) : orgsOf (l ++ [s]) = match orgsOf [s] with
    | some q => some (p ++ q)
    | none => none := by
  induction l generalizing p with
  | nil =>
    simp only [orgsOf] at h
    injection h with h; subst h
    simp only [List.nil_append]
    cases orgsOf [s] <;> rfl
  | cons y r ih =>
    simp only [List.cons_append]
    rw [orgsOf] at h ⊢
    cases hy : rowP y 2 2 with
    | none => rw [hy] at h; cases h
    | some z =>
      rw [hy] at h
      match z, h with
      | [a, b], h =>
        try simp only at h ⊢
        cases hn : readNumT a with
        | none => rw [hn] at h; cases h
        | some k =>
          rw [hn] at h
          try simp only at h ⊢
          cases hr : orgsOf r with
          | none => rw [hr] at h; cases h
          | some q =>
            rw [hr] at h
            simp only at h
            injection h with h; subst h
            rw [ih hr]
            cases orgsOf [s] <;> rfl
theorem orgsOf_fail {l : List Bs} {s : Bs} (hs : s ∈ l) (h : orgsOf [s] = none) : orgsOf l = none := by
  induction l with
  | nil => cases hs
  | cons y r ih =>
    rcases List.mem_cons.1 hs with rfl | hs
    · rw [orgsOf] at h ⊢
      cases hy : rowP s 2 2 with
      | none => rfl
      | some z =>
        rw [hy] at h
        match z, h with
        | [a, b], h =>
          try simp only at h ⊢
          cases hn : readNumT a with
          | none => rfl
          | some k => rw [hn] at h; simp [orgsOf] at h
        | [], _ => rfl
        | [_], _ => rfl
        | _ :: _ :: _ :: _, _ => rfl
    · have e := ih hs
      rw [orgsOf]
      rw [e]
      cases rowP y 2 2 with
      | none => rfl
      | some z =>
        match z with
        | [a, b] => simp only; cases readNumT a <;> rfl
        | [] => rfl
        | [_] => rfl
        | _ :: _ :: _ :: _ => rfl
theorem orgsOf_one_no {s : Bs} (h : rowP s 2 2 = none) : orgsOf [s] = none := by rw [orgsOf, h]
theorem orgsOf_one {s a b : Bs} (h : rowP s 2 2 = some [a, b]) : orgsOf [s] = match readNumT a with | some k => some [(k : Int)] | none => none := by
  rw [orgsOf, h]; simp only [orgsOf]; cases readNumT a <;> rfl
theorem cnt_has {D : DataW Unit} {l : List Int} (h : CntOf D l) {k : Int} (hk : k ∈ l) : Go.Maps.has D (.int .i64 k) = true := Go.Maps.has_true_of_atKey (fun z => (h.2 k).1 hk z)
theorem cnt_get {D : DataW Unit} {l : List Int} (h : CntOf D l) {x c : Int} (hat : ∀ z, D.atKey (.int .i64 x) z = .lit (.int .i64 c)) : x ∈ l ∧ c = (l.count x : Nat) := by
  by_cases hx : x ∈ l
  · refine ⟨hx, ?_⟩
    have := (hat .nil).symm.trans ((h.2 x).1 hx .nil)
    injection this with this
    injection this
  · have := (hat .nil).symm.trans ((h.2 x).2 hx .nil)
    cases this
theorem cnt_val {D : DataW Unit} {l : List Int} (h : CntOf D l) {x c : Int} (hat : D.atKey (.int .i64 x) (.lit (.int .i64 0)) = .lit (.int .i64 c)) : c = (l.count x : Nat) := by
  have := hat.symm.trans (cnt_at h x)
  injection this with this
  injection this
theorem orgsOf_length {l : List Bs} {p : List Int} (h : orgsOf l = some p) : p.length = l.length := by
  induction l generalizing p with
  | nil => simp only [orgsOf] at h; injection h with h; subst h; rfl
  | cons y r ih =>
    rw [orgsOf] at h
    split at h
    · split at h
      · rename_i hq; injection h with h; subst h; simp [ih hq]
      · cases h
    · cases h
theorem sameKey_int (a b : Int) : (Lit.int .i64 a).sameKey (.int .i64 b) = decide (a = b) := by simp [Lit.sameKey]
theorem rcheck_at (r : Rcpt) (am : Option Addr) (nm cm : Nat) (at_ : Option Addr) (nt ct : Nat) (w : World) (h : RcptAt r am nm cm at_ nt ct w) :
    Calls Try.prog 11 #[rcptV r.txn r.aud am nm cm at_ nt ct] w fun e w' => e = .returned (.int .i64 (if mayR r then 0 else 2)) ∧ Below w.heap.size w w' :=
  rcheck_calls r am nm cm at_ nt ct h.nm h.nt (by have := h.lm; omega) (by have := h.lt; omega) (fun x hx => by have := h.dm x hx; omega) (fun x hx => by have := h.dt x hx; omega) w h.mems h.tags
theorem law_int : Go.Maps.Keyed Try.prog 3 := Go.Maps.int_keyed Try.underlying3
theorem zero_int (w : World) : (zeroValue 3).run Try.prog w = .ok (.int .i64 0) w := by kernel_rfl
end Go.Proofs.Ytegkolepemcocaa
