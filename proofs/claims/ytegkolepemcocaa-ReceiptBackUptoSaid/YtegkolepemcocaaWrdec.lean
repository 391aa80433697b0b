import Derived.Test.YtegkolepemcocaaWrrow
import Derived.Test.YtegkolepemcocaaPcnt
/- The walk of receipt's decode. -/
namespace Go.Proofs.Ytegkolepemcocaa
open Go.RowKit Sp

theorem OwnStrs.cells5 {base : Nat} {w : World} {v : Value} {x0 x1 x2 x3 x4 : Bs} (h : OwnStrs base w v [x0, x1, x2, x3, x4]) :
    ∃ g cap, v = .slice (some ⟨g, 0, none⟩) 5 cap ∧ (w.cell? ⟨g, 0, none⟩ = some (.string (ofL x0)) ∧ w.cell? ⟨g, 1, none⟩ = some (.string (ofL x1)) ∧ w.cell? ⟨g, 2, none⟩ = some (.string (ofL x2)) ∧ w.cell? ⟨g, 3, none⟩ = some (.string (ofL x3)) ∧ w.cell? ⟨g, 4, none⟩ = some (.string (ofL x4))) := by
  obtain ⟨a, cap, rfl, hs⟩ := h.read
  obtain ⟨g, o, rfl, h0⟩ := hs 0 (by simp)
  obtain ⟨g1, o1, e1, h1⟩ := hs 1 (by simp)
  obtain ⟨g2, o2, e2, h2⟩ := hs 2 (by simp)
  obtain ⟨g3, o3, e3, h3⟩ := hs 3 (by simp)
  obtain ⟨g4, o4, e4, h4⟩ := hs 4 (by simp)
  cases e1; cases e2; cases e3; cases e4
  rcases h.2 with ⟨e, -⟩ | ⟨g', cap', cur, e, -⟩
  · cases e
  · cases e
    exact ⟨g, cap, rfl, by simpa using h0, by simpa using h1, by simpa using h2, by simpa using h3, by simpa using h4⟩

/-- What decode owes. -/
def rdecPost (X : Except Nat Rcpt) (w : World) (e : Ending) (w' : World) : Prop :=
  match X with
  | .ok r => (∃ am cm at_ ct, e = .returned (rcptV r.txn r.aud am r.mems.length cm at_ r.tags.length ct) ∧ OwnMems w.heap.size w' (.slice am r.mems.length cm) r.mems ∧ OwnStrs w.heap.size w' (.slice at_ r.tags.length ct) r.tags) ∧ Below w.heap.size w w'
  | .error k => e = .panicked (thrownR k) ∧ Below w.heap.size w w'

set_option maxRecDepth 20000 in
set_option maxHeartbeats 1000000 in
theorem rdec_long (t : Bs) (hm : t.length ≤ 10000000) (hl : 16384 < t.length) (w : World) :
    Calls Try.prog 37 #[.string (ofL t)] w fun e w' => rdecPost (decR t) w e w' := by
  have hX : decR t = .error 5 := by unfold decR; rw [if_pos hl]
  rw [hX]
  have hd : ¬ ((t.length : Int) ≤ 16384) := by omega
  clear hX
  go_enter Try.func37, Try.ntmps37
  go_wp2_with fail
  refine (rmust_no _ _).mono ?_
  rintro e w1 ⟨rfl, rfl⟩
  exact ⟨rfl, rfl, (Below.refl _ w).alloc (Nat.le_refl _) _⟩

theorem rowP5_none {t : Bs} (h : rowP t 5 5 = none) : ¬ (kind t = 3 ∧ (cut t).length = 5) := by
  intro ⟨h1, h2⟩
  unfold rowP at h
  rw [if_pos ⟨h1, by omega, by omega⟩] at h
  cases h

set_option maxRecDepth 20000 in
set_option maxHeartbeats 1000000 in
theorem rdec_norow (t : Bs) (hl : t.length ≤ 16384) (hr : rowP t 5 5 = none) (w : World) :
    Calls Try.prog 37 #[.string (ofL t)] w fun e w' => rdecPost (decR t) w e w' := by
  have hX : decR t = .error 7 := by unfold decR; rw [if_neg (by omega), hr]
  rw [hX]
  have hd : ((t.length : Int) ≤ 16384) := by omega
  have hrow : ∀ W, Calls Try.prog 76 #[.string (ofL t), .int .i64 5] W fun e w' => e = .panicked (thrownR 7) ∧ Below W.heap.size W w' := fun W => by
    by_cases hk : kind t = 3
    · exact rrow_len t (by omega) 5 hk (by omega) (fun h => rowP5_none hr ⟨hk, by omega⟩) W
    · exact rrow_kind t (by omega) 5 hk W
  have Hrow := hid hrow
  clear hX hr hrow
  go_enter Try.func37, Try.ntmps37
  go_wp2_with fail
  refine (rmust_ok _ _).mono ?_
  rintro e w1 ⟨rfl, rfl⟩
  go_wp2_with fail
  refine (Hrow.out _).mono ?_
  rintro e w1 ⟨rfl, hb⟩
  exact ⟨rfl, rfl, below_then ((Below.refl _ w).alloc (Nat.le_refl _) _) (by simp) hb⟩
end Go.Proofs.Ytegkolepemcocaa
