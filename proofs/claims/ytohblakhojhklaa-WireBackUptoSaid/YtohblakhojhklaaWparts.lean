import Derived.Test.YtohblakhojhklaaWmade
import Derived.Deep.RegionHeld3
import Derived.Deep.AppendLies
/- The walks of term's Parts, and of the function that it hands to walk. -/
namespace Go.Proofs.Ytohblakhojhklaa
open Go.RowKit Sp

def strV (s : Bs) : Value := .string (ofL s)

theorem info_string : (Try.prog.info? 9).map (fun i => (i.zero, i.size, i.bytes)) = some (some (.string ⟨#[]⟩), 1, 16) := by kernel_rfl

set_option maxRecDepth 20000 in
set_option maxHeartbeats 4000000 in
theorem parts_tell (N base : Nat) (t : Bs) (a b : Nat) (hab : a ≤ b) (hbt : b ≤ t.length) (ov : Value) (n : Nat) (xs : List Value) (w : World)
    (hN : w.cell? ⟨N, 0, none⟩ = some (.string (ofL t))) (hL : w.cell? ⟨N + 1, 0, none⟩ = some ov) (hF : w.frozen? ⟨N + 1, 0, none⟩ = false)
    (hown : w.ownsRow base 9 1 ov n xs) (hbase : base ≤ w.heap.size) (hNb : N + 2 ≤ base) (hn : n ≤ 100000000) :
    Calls Try.prog 48 #[.int .i64 a, .int .i64 b, .int .i64 2, .pointer (some ⟨N + 1, 0, none⟩), .pointer (some ⟨N, 0, none⟩)] w fun e w' => e = .returned (.tuple #[]) ∧
      ∃ ov', w'.cell? ⟨N, 0, none⟩ = some (.string (ofL t)) ∧ w'.cell? ⟨N + 1, 0, none⟩ = some ov' ∧ w'.frozen? ⟨N + 1, 0, none⟩ = false ∧
        w'.ownsRow base 9 1 ov' (n + 1) (xs ++ [strV ((t.drop a).take (b - a))]) ∧ Below (N + 1) w w' ∧ w.heap.size ≤ w'.heap.size := by
  obtain ⟨i0, hi0, hz0, hz1, hz2⟩ := info_parts info_string
  have ag : ov.ownBlock ≠ some (N + 1) := by
    intro h; have := (hown.lt _ h).1; omega
  have ak : ov.ownBlock ≠ some N := by
    intro h; have := (hown.lt _ h).1; omega
  have hl1 : N + 1 < w.heap.size := World.block_lt_of_cell? w _ hL
  have hl0 : N < w.heap.size := by omega
  have ha0 : (0 : Int) ≤ (a : Int) := Int.natCast_nonneg _
  have ha1 : (a : Int) ≤ (b : Int) := by omega
  have hb1 : (b : Int) ≤ (t.length : Int) := by omega
  go_enter Try.func48, Try.ntmps48
  go_wp2_with fail
  go_region_law ((refine step_append_lies _ (by rfl) _ _ _ (by rfl) base 9 i0 _ 1 16 Try.underlying55 hi0 hz0 hz1 hz2 rfl (by omega) ov n xs (by rfl) ((hown.alloc _).drew) ⟨w.heap.size, 0, none⟩ 1 1 [strV ((t.drop a).take (b - a))] (by rfl) (by rfl) (World.news_of_block (cs := #[strV ((t.drop a).take (b - a))]) (t := 9) (fr := (0, 0)) (heap_alloc_new w _)) (by simp [Value.oneCell', strV]) (by omega) (by unfold maxLen; omega) (by omega) (by simp; omega) (w.heap.size + 1) (by simp) ?_; intro gg cap w1 hown1 hgrow hat hlt; have k0 : w1.cell? ⟨N + 1, 0, none⟩ = some ov := (hgrow.cell_far _ (by simp; omega) (Ne.symm ag)).trans (by simp [go_sem, *]); have k1 : w1.frozen? ⟨N + 1, 0, none⟩ = false := (hgrow.frozen_far _ (by simp; omega) (Ne.symm ag)).trans (by rw [World.frozen?_drew, frozen?_alloc_cells]; exact hF)))
  all_goals
    go_wp2
    go_end0
    have hB1 : Below (N + 1) w w1 := (((Below.refl (N + 1) w).alloc (by omega) _).drew).grown hgrow (by simp; omega) (fun k hk => by have := (hown.lt k hk).1; omega)
    have hsz : w.heap.size ≤ w1.heap.size := hB1.size
    refine ⟨rfl, .slice (some ⟨gg, 0, none⟩) (n + 1) cap, ?_, ?_, ?_, ?_, hB1.setCell (p := ⟨N + 1, 0, none⟩) (Nat.le_refl _) _, by simpa [World.setCell] using hsz⟩
    · have h0 : w1.cell? ⟨N, 0, none⟩ = some (.string (ofL t)) := (hB1.cell (p := ⟨N, 0, none⟩) (by simp)).trans hN
      simp [go_sem, h0]
    · simp [go_sem, k0]
    · simp [go_sem, k1]
    · exact ownsRow_setCell_below hown1 (by show N + 1 < base; omega) _

theorem piecesAt_snoc (t : Bs) (pre : List Ev) (a b d : Nat) : piecesAt 2 t (pre ++ [(a, b, d)]) = piecesAt 2 t pre ++ (if d = 2 then [(t.drop a).take (b - a)] else []) := by
  rw [piecesAt_append]
  congr 1
  unfold piecesAt
  by_cases h : d = 2
  · subst h; simp
  · have h' : (d == 2) = false := by simpa using h
    simp [h, h']

def PartsInv (t : Bs) (N : Nat) (w0 : World) (pre : List Ev) (W : World) : Prop :=
  W.cell? ⟨N, 0, none⟩ = some (.string (ofL t)) ∧ ∃ ov, W.cell? ⟨N + 1, 0, none⟩ = some ov ∧ W.frozen? ⟨N + 1, 0, none⟩ = false ∧
    W.ownsRow (N + 2) 9 1 ov (piecesAt 2 t pre).length ((piecesAt 2 t pre).map strV) ∧ Below N w0 W ∧ N + 2 ≤ W.heap.size ∧ N ≤ w0.heap.size

theorem parts_tells (t : Bs) (htm : t.length ≤ 100000000) (N : Nat) (w0 : World) : Tells t.length 48 #[.pointer (some ⟨N + 1, 0, none⟩), .pointer (some ⟨N, 0, none⟩)] (fun pre W => PartsInv t N w0 pre W) where
  enters := fun args w => by kernel_rfl
  step := fun pre a b d w hI hab hb hpre => by
    obtain ⟨h1, ov, h2, h3, h4, h5, h6, h7⟩ := hI
    have hlen : (piecesAt 2 t pre).length ≤ pre.length := by unfold piecesAt; rw [List.length_map]; exact List.length_filter_le _ _
    by_cases hd : d = 2
    · subst hd
      refine (parts_tell N (N + 2) t a b hab hb ov _ _ w h1 h2 h3 h4 h6 (by omega) (by omega)).mono ?_
      rintro e w' ⟨rfl, ov', k1, k2, k3, k4, k5, k6⟩
      refine ⟨rfl, k1, ov', k2, k3, ?_, h5.trans (k5.mono (by omega)), by omega, h7⟩
      rw [piecesAt_snoc]
      simpa using k4
    · refine Calls.mono (R := fun e w' => e = .returned (.tuple #[]) ∧ w = w') ?_ ?_
      · have hd2 : ((d : Int) == 2) = false := by simp; omega
        clear hd h4 h5
        show Calls Try.prog 48 #[.int .i64 a, .int .i64 b, .int .i64 d, .pointer (some ⟨N + 1, 0, none⟩), .pointer (some ⟨N, 0, none⟩)] w _
        go_enter Try.func48, Try.ntmps48
        go_wp2
        go_end0
        exact ⟨rfl, rfl⟩
      · rintro e w' ⟨rfl, rfl⟩
        refine ⟨rfl, h1, ov, h2, h3, ?_, h5, h6, h7⟩
        rw [piecesAt_snoc, if_neg hd, List.append_nil]
        exact h4
  grows := fun pre w w' ⟨h1, ov, h2, h3, h4, h5, h6, h7⟩ hb => by
    have l0 := World.block_lt_of_cell? w _ h1
    have l1 := World.block_lt_of_cell? w _ h2
    exact ⟨(hb.cell l0).trans h1, ov, (hb.cell l1).trans h2, (hb.frozen (p := ⟨N + 1, 0, none⟩) l1).trans h3,
      h4.kept (row := none) ⟨hb.os, hb.tape, hb.output, hb.size, fun k hk _ => hb.block k hk⟩ (by cases ov.ownBlock <;> simp), h5.trans (hb.mono (by omega)), Nat.le_trans h6 hb.size, h7⟩

theorem add_at (g o j : Nat) : (⟨g, o, none⟩ : Addr).add j = ⟨g, o + j, none⟩ := by unfold Addr.add; split <;> simp_all
/-- A slice of strings of the call's own. -/
def OwnStrs (base : Nat) (w : World) (v : Value) (l : List Bs) : Prop := w.ownsRow base 9 1 v l.length (l.map strV)
theorem OwnStrs.below {base : Nat} {w w' : World} {v : Value} {l : List Bs} (h : OwnStrs base w v l) (hb : Below w.heap.size w w') : OwnStrs base w' v l :=
  h.kept (row := none) ⟨hb.os, hb.tape, hb.output, hb.size, fun k hk _ => hb.block k hk⟩ (by cases v.ownBlock <;> simp)
theorem OwnStrs.read {base : Nat} {w : World} {v : Value} {l : List Bs} (h : OwnStrs base w v l) : ∃ a cap, v = .slice a l.length cap ∧ StrsAt w a l := by
  rcases h.2 with ⟨rfl, h0⟩ | ⟨g, cap, cur, rfl, _⟩
  · refine ⟨none, 0, by rw [h0], fun i hi => ?_⟩
    omega
  · refine ⟨_, cap, rfl, fun i hi => ⟨g, 0, rfl, ?_⟩⟩
    have := h.cells rfl i (strV (l[i]'hi)) (by simp [strV, hi])
    rw [add_at] at this
    exact this

set_option maxRecDepth 20000 in
set_option maxHeartbeats 1000000 in
theorem parts_none (t : Bs) (hm : t.length ≤ 10000000) (w : World) (h : isTerm t = false) : Calls Try.prog 22 #[.string (ofL t)] w fun e w' => e = .returned (.tuple #[.slice none 0 0, .bool false]) ∧ Below w.heap.size w w' := by
  have his := fun W (hW : StrsAt W (some ⟨w.heap.size + 2, 0, none⟩) [t]) => is_calls (some ⟨w.heap.size + 2, 0, none⟩) 1 1 [t] rfl (by simp) (by simp; omega) W hW
  have e1 : [t].all isTerm = false := by simp [h]
  rw [e1] at his
  have His := hid his
  clear his e1 h
  go_enter Try.func22, Try.ntmps22
  go_wp2_with fail
  refine (His.out _ ?_).mono ?_
  · intro i hi
    obtain rfl : i = 0 := by simp at hi; omega
    exact ⟨_, _, rfl, by simp [go_sem]⟩
  rintro e w1 ⟨rfl, hb⟩
  have c1 : w1.cell? ⟨w.heap.size + 1, 0, none⟩ = some (.slice none 0 0) := (hb.cell (p := ⟨_, 0, none⟩) (by simp <;> omega)).trans (by simp [go_sem])
  have f1 : w1.frozen? ⟨w.heap.size + 1, 0, none⟩ = false := (hb.frozen (p := ⟨_, 0, none⟩) (by simp <;> omega)).trans (by simp [go_sem])
  have hb2 : Below w.heap.size w w1 := ((((Below.refl w.heap.size w).alloc (Nat.le_refl _) _).alloc (by simp) _).alloc (by simp; omega) _).trans (hb.mono (by simp; omega))
  have Hb2 := hid hb2
  clear hb hb2
  go_wp2
  refine bodyPost_ret (v := .tuple #[.slice none 0 0, .bool false]) (by simp [results, Try.results22, go_sem, c1]) rfl ⟨rfl, ?_⟩
  exact Hb2.out.setCell (p := ⟨_, 0, none⟩) (by simp) _

set_option maxRecDepth 20000 in
set_option maxHeartbeats 2000000 in
theorem parts_some (t : Bs) (hm : t.length ≤ 10000000) (w : World) (h : isTerm t = true) : Calls Try.prog 22 #[.string (ofL t)] w fun e w' => ∃ v, e = .returned (.tuple #[v, .bool true]) ∧ OwnStrs (w.heap.size + 2) w' v (cut t) ∧ Below w.heap.size w w' := by
  have hmf : ∀ (fn : Fn) (first cap : Array Value) (w : World), (Instr.makeFunc fn first cap).run Try.prog w = .ok (.func fn first cap) w := fun _ _ _ _ => rfl
  have his := fun W (hW : StrsAt W (some ⟨w.heap.size + 2, 0, none⟩) [t]) => is_calls (some ⟨w.heap.size + 2, 0, none⟩) 1 1 [t] rfl (by simp) (by simp; omega) W hW
  have e1 : [t].all isTerm = true := by simp [h]
  rw [e1] at his
  have His := hid his
  have hr := ((isTerm_iff t).1 h).1
  have hwk : ∀ W, PartsInv t w.heap.size w [] W → Calls Try.prog 47 #[.string (ofL t), .int .i64 0, .int .i64 1, .func (.func 48) #[] #[.pointer (some ⟨w.heap.size + 1, 0, none⟩), .pointer (some ⟨w.heap.size, 0, none⟩)]] W fun e w' => e = .returned (.int .i64 (t.length : Nat)) ∧ PartsInv t w.heap.size w (evD 16 t 0 1) w' := by
    intro W hW
    refine (walk_calls t (by omega) 48 _ _ (parts_tells t (by omega) w.heap.size w) 16 (by omega) 0 (by omega) [] W (by simp) hW).mono ?_
    intro e w' hp
    simp only [walkPost, List.drop_zero, hr, Nat.zero_add, List.nil_append] at hp
    exact hp
  have Hwk := hid hwk
  have Hr := hid hr
  clear his e1 h hr hwk
  go_enter Try.func22, Try.ntmps22
  go_wp2_with fail
  refine (His.out _ ?_).mono ?_
  · intro i hi
    obtain rfl : i = 0 := by simp at hi; omega
    exact ⟨_, _, rfl, by simp [go_sem]⟩
  rintro e w1 ⟨rfl, hb⟩
  have c0 : w1.cell? ⟨w.heap.size, 0, none⟩ = some (.string (ofL t)) := (hb.cell (p := ⟨_, 0, none⟩) (by simp <;> omega)).trans (by simp [go_sem])
  have c1 : w1.cell? ⟨w.heap.size + 1, 0, none⟩ = some (.slice none 0 0) := (hb.cell (p := ⟨_, 0, none⟩) (by simp <;> omega)).trans (by simp [go_sem])
  have f1 : w1.frozen? ⟨w.heap.size + 1, 0, none⟩ = false := (hb.frozen (p := ⟨_, 0, none⟩) (by simp <;> omega)).trans (by simp [go_sem])
  have hsz : w.heap.size + 2 ≤ w1.heap.size := by have := hb.size; simp at this; omega
  have hb2 : Below w.heap.size w w1 := ((((Below.refl w.heap.size w).alloc (Nat.le_refl _) _).alloc (by simp) _).alloc (by simp; omega) _).trans (hb.mono (by simp; omega))
  have hI : PartsInv t w.heap.size w [] w1 := ⟨c0, .slice none 0 0, c1, f1, by simpa [piecesAt] using World.ownsRow_nil w1 (w.heap.size + 2) 9 1, hb2, hsz, Nat.le_refl _⟩
  have HI := hid hI
  clear hb hb2 hI
  go_wp2_with fail
  refine (Hwk.out _ HI.out).mono ?_
  rintro e w2 ⟨rfl, k0, ov, k1, k2, k3, k4, k5, -⟩
  have K3 := hid k3
  have K4 := hid k4
  clear k3 k4 c0 c1 f1
  obtain ⟨a, n, cap, rfl⟩ : ∃ a n cap, ov = .slice a n cap := by
    rcases K3.out.2 with ⟨hv, _⟩ | ⟨g, cap, cur, hv, _⟩
    · exact ⟨_, _, _, hv⟩
    · exact ⟨_, _, _, hv⟩
  go_wp2
  have K3' := K3.out
  rw [pieces_cut t _ Hr.out] at K3'
  refine bodyPost_ret (v := .tuple #[.slice a n cap, .bool true]) (by simp [results, Try.results22, go_sem, k1]) rfl ⟨_, rfl, ?_, ?_⟩
  · exact ownsRow_setCell_below K3' (by show w.heap.size + 1 < w.heap.size + 2; omega) _
  · exact K4.out.setCell (p := ⟨_, 0, none⟩) (by simp) _
end Go.Proofs.Ytohblakhojhklaa
