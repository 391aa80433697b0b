import Derived.Test.YtegkolepemcocaaWnames
/- The walk of receipt's Ballots. -/
namespace Go.Proofs.Ytegkolepemcocaa
open Go.RowKit Sp

theorem own_ne {w : World} {b b' : Nat} {e e' : TypeId} {s s' n n' : Nat} {v v' : Value} {xs xs' : List Value} (h : w.ownsRow b e s v n xs) (h' : w.ownsRow b' e' s' v' n' xs') (hne : e ≠ e') : v.ownBlock = none ∨ v.ownBlock ≠ v'.ownBlock := by
  rcases h.2 with ⟨rfl, _⟩ | ⟨g, cap, cur, rfl, _, hh, _⟩
  · exact .inl rfl
  · refine .inr fun hk => ?_
    rcases h'.2 with ⟨rfl, _⟩ | ⟨g', cap', cur', rfl, _, hh', _⟩
    · simp [Value.ownBlock] at hk
    · have : g = g' := by simpa [Value.ownBlock] using hk
      subst this
      rw [hh] at hh'
      injection hh' with hh'
      injection hh' with _ ht
      exact hne ht

/-- The cells of a ballot: its members lie at p. -/
def balCells (t : Txn) (aud : Int) (n : Nat) (x : (Option Addr × Nat) × Int) : List Value := [.int .i64 t.c, .int .i64 t.e, .int .i64 t.s, .int .i64 aud, .slice x.1.1 n x.1.2, .int .i64 x.2]
def balsCells (t : Txn) (aud : Int) (n : Nat) (L : List ((Option Addr × Nat) × Int)) : List Value := L.flatMap (balCells t aud n)
theorem balsCells_length (t : Txn) (aud : Int) (n : Nat) (L : List ((Option Addr × Nat) × Int)) : (balsCells t aud n L).length = L.length * 6 := by
  unfold balsCells
  induction L with
  | nil => rfl
  | cons x r ih => rw [List.flatMap_cons, List.length_append, ih]; simp [balCells]; omega
theorem balsCells_snoc (t : Txn) (aud : Int) (n : Nat) (L : List ((Option Addr × Nat) × Int)) (x : (Option Addr × Nat) × Int) : balsCells t aud n (L ++ [x]) = balsCells t aud n L ++ balCells t aud n x := by
  unfold balsCells; rw [List.flatMap_append]; simp
theorem balsCells_get (t : Txn) (aud : Int) (n : Nat) {L : List ((Option Addr × Nat) × Int)} {i : Nat} (h : i < L.length) (j : Nat) (hj : j < 6) : (balsCells t aud n L)[i * 6 + j]? = (balCells t aud n (L[i]'h))[j]? := by
  induction L generalizing i with
  | nil => simp at h
  | cons x r ih =>
    have e : balsCells t aud n (x :: r) = balCells t aud n x ++ balsCells t aud n r := rfl
    have el : (balCells t aud n x).length = 6 := rfl
    rw [e]
    cases i with
    | zero =>
      rw [Nat.zero_mul, Nat.zero_add, List.getElem?_append_left (by rw [el]; omega)]
      rfl
    | succ k =>
      rw [List.getElem?_append_right (by rw [el]; omega), el, show (k + 1) * 6 + j - 6 = k * 6 + j by omega]
      exact ih (by simpa using h)
/-- A slice of ballots of the call's own. -/
structure OwnBals (base : Nat) (w : World) (v : Value) (t : Txn) (aud : Int) (l : List Mem) (os : List Int) (L : List ((Option Addr × Nat) × Int)) : Prop where
  row : w.ownsRow base 57 6 v L.length (balsCells t aud l.length L)
  orgs : L.map (·.2) = os
  mems : ∀ x ∈ L, OwnMems base w (.slice x.1.1 l.length x.1.2) l
theorem OwnBals.below {base : Nat} {w w' : World} {v : Value} {t : Txn} {aud : Int} {l : List Mem} {os : List Int} {L : List ((Option Addr × Nat) × Int)} (h : OwnBals base w v t aud l os L) (hb : Below w.heap.size w w') : OwnBals base w' v t aud l os L :=
  ⟨World.ownsRow.kept (row := none) h.row ⟨hb.os, hb.tape, hb.output, hb.size, fun k hk _ => hb.block k hk⟩ (by cases v.ownBlock <;> simp), h.orgs, fun x hx => (h.mems x hx).below hb⟩
theorem info_ballot : (Try.prog.info? 57).map (fun i => (i.zero, i.size, i.bytes)) = some (some (.agg #[.int .i64 0, .int .i64 0, .int .i64 0, .int .i64 0, .slice none 0 0, .int .i64 0]), 6, 64) := by kernel_rfl

set_option maxRecDepth 20000 in
set_option maxHeartbeats 4000000 in
theorem ballots_no (r : Rcpt) (am : Option Addr) (nm cm : Nat) (at_ : Option Addr) (nt ct : Nat) (w : World) (h : RcptAt r am nm cm at_ nt ct w) (hmay : mayR r = false) :
    Calls Try.prog 23 #[rcptV r.txn r.aud am nm cm at_ nt ct] w fun e w' => e = .returned (.slice none 0 0) ∧ Below w.heap.size w w' := by
  obtain ⟨⟨c, e, s⟩, aud, l, tg⟩ := r
  have hB0 := (Below.refl w.heap.size w).alloc (Nat.le_refl _) (.cells #[.int .i64 c, .int .i64 e, .int .i64 s, .int .i64 aud, .slice am nm cm, .slice at_ nt ct] 27)
  have hck := rcheck_at ⟨⟨c, e, s⟩, aud, l, tg⟩ am nm cm at_ nt ct _ (h.below hB0)
  rw [hmay] at hck
  simp only [rcptV] at hck ⊢
  have Hck := hid hck
  have HB0 := hid hB0
  clear hck hB0 h hmay
  go_enter Try.func23, Try.ntmps23
  go_wp2_with fail
  refine Hck.out.mono ?_
  rintro e2 w2 ⟨rfl, hb2⟩
  have Hb2 := hid (below_then HB0.out (by simp) hb2)
  clear hb2
  go_wp2
  go_ret
  exact ⟨rfl, Hb2.out⟩

/-- What Ballots owes of a right receipt. -/
def BalPost (r : Rcpt) (w : World) (e : Ending) (w' : World) : Prop := ∃ v L, e = .returned v ∧ OwnBals w.heap.size w' v r.txn r.aud r.mems (r.mems.map (·.org)) L ∧ Below w.heap.size w w'
set_option maxRecDepth 20000 in
set_option maxHeartbeats 4000000 in
theorem ballots_yes (r : Rcpt) (am : Option Addr) (nm cm : Nat) (at_ : Option Addr) (nt ct : Nat) (w : World) (h : RcptAt r am nm cm at_ nt ct w) (hmay : mayR r = true) :
    Calls Try.prog 23 #[rcptV r.txn r.aud am nm cm at_ nt ct] w fun e w' => BalPost r w e w' := by
  obtain ⟨i0, hi0, hz0, hz1, hz2⟩ := info_parts info_ballot
  obtain ⟨⟨c, e, s⟩, aud, l, tg⟩ := r
  have hB0 := (Below.refl w.heap.size w).alloc (Nat.le_refl _) (.cells #[.int .i64 c, .int .i64 e, .int .i64 s, .int .i64 aud, .slice am nm cm, .slice at_ nt ct] 27)
  have hck := rcheck_at ⟨⟨c, e, s⟩, aud, l, tg⟩ am nm cm at_ nt ct _ (h.below hB0)
  rw [hmay] at hck
  have hmm := mayMembers_is (mayR_is hmay).2.2.1
  have hnm := h.nm
  simp only [rcptV] at hck hmm hnm ⊢
  have hl6 : nm ≤ 6 := by omega
  have Hck := hid hck
  have HB0 := hid hB0
  have H := hid h
  have Hn := hid hnm
  have hclone := fun W (hW : MemsAt W am l) => clone_calls am nm cm l hnm (by omega) W hW
  have Hcl := hid hclone
  have hbk0 := BlkAt.new w #[.int .i64 c, .int .i64 e, .int .i64 s, .int .i64 aud, .slice am nm cm, .slice at_ nt ct] 27
  have Hbk0 := hid hbk0
  clear hck hB0 h hmay hmm hnm hclone hbk0
  go_enter Try.func23, Try.ntmps23
  go_wp2_with fail
  refine Hck.out.mono ?_
  rintro e2 w2 ⟨rfl, hb2⟩
  have hbk := Hbk0.out.below hb2
  have hb2' := below_then HB0.out (by simp) hb2
  have Hb2 := hid hb2'
  have Hbk := hid hbk
  have HM2 := hid (H.out.mems.below hb2')
  have c4 := hbk.val 4 rfl
  have hsz2 : w.heap.size < w2.heap.size := hbk.lt
  clear hb2 hb2' hbk Hck HB0 Hbk0
  go_wp2
  go_loopw [2, 10] (fun v i wr => ∃ (k : Nat) (L : List ((Option Addr × Nat) × Int)), k ≤ nm ∧ i = .int .i64 k ∧ L.length = k ∧ OwnBals w2.heap.size wr v ⟨c, e, s⟩ aud l ((l.take k).map (·.org)) L ∧ Below w2.heap.size w2 wr) (fun _ i _ => nm - (intOf i).toNat)
  case atStart => exact ⟨0, [], by omega, rfl, rfl, ⟨World.ownsRow_nil _ _ _ _, rfl, fun x hx => by cases hx⟩, Below.refl _ _⟩
  case round =>
    obtain ⟨k, L, hk, rfl, hL, hob, hb⟩ := hrel
    have HL := hid hL
    have Hob := hid hob
    have Hb := hid hb
    clear hL hob hb
    by_cases hlt : k < nm
    · have hkl : k < l.length := by have := Hn.out; omega
      have hbk := Hbk.out.keep Hb.out hsz2
      obtain ⟨b, off, rfl, hc1, hc2⟩ := (HM2.out.below Hb.out) k hkl
      have hlt' : (k : Int) < nm := by omega
      have hos : (l.take (k + 1)).map (·.org) = (l.take k).map (·.org) ++ [(l[k]'hkl).org] := by rw [List.take_succ_eq_append_getElem hkl, List.map_append]; rfl
      generalize (l[k]'hkl).org = og at hc1 hos
      have Hos := hid hos
      have HM := hid (HM2.out.below Hb.out)
      have c0 := hbk.val 0 rfl
      have c1 := hbk.val 1 rfl
      have c2 := hbk.val 2 rfl
      have c3 := hbk.val 3 rfl
      have c4 := hbk.val 4 rfl
      have hwr := Hb.out.size
      have HbkR := hid hbk
      have hb2lt : b < w2.heap.size := by
        obtain ⟨b', off', e', h1, -⟩ := HM2.out k hkl
        injection e' with e'
        injection e' with e1 e2
        subst e1
        exact World.block_lt_of_cell? _ _ h1
      have hne1 : u2.ownBlock ≠ some w.heap.size := fun hj => by have := (World.ownsRow.lt Hob.out.row _ hj).1; omega
      have hne2 : u2.ownBlock ≠ some b := fun hj => by have := (World.ownsRow.lt Hob.out.row _ hj).1; omega
      have hLk : L.length ≤ 6 := by have := HL.out; omega
      clear hos hc2 hbk
      go_wp2_with fail
      go_region_held2 (fun w' => w'.cell? ⟨w.heap.size, 0, none⟩ = some (.int .i64 c) ∧ w'.cell? ⟨w.heap.size, 1, none⟩ = some (.int .i64 e) ∧ w'.cell? ⟨w.heap.size, 2, none⟩ = some (.int .i64 s) ∧ w'.cell? ⟨w.heap.size, 3, none⟩ = some (.int .i64 aud) ∧ w'.cell? ⟨w.heap.size, 4, none⟩ = some (.slice (some ⟨b, off, none⟩) nm cm) ∧ w'.cell? ⟨b, off + k * 2, none⟩ = some (.int .i64 og))
        ((go_split_ands; refine ⟨?_, ?_, ?_, ?_, ?_, ?_⟩ <;> (with_reducible first | assumption | exact cell_alloc_of _ (by assumption) | skip) <;> first | exact c0 | exact c1 | exact c2 | exact c3 | exact c4 | exact hc1))
        (first
          | (go_at_call 61; (go_split_ands; refine (Hcl.out _ (by exact HM.out)).mono ?_; rintro e9 wn ⟨⟨a9, c9, rfl, ho9⟩, hbn⟩; have hbn : Below wr.heap.size wr wn := (by first | exact hbn | exact btd hbn); have hk9 : Below w2.heap.size w2 wn := Hb.out.trans (hbn.mono hwr); have hb9 : BlkAt wn w.heap.size #[.int .i64 c, .int .i64 e, .int .i64 s, .int .i64 aud, .slice (some ⟨b, off, none⟩) nm cm, .slice at_ nt ct] 27 := Hbk.out.keep hk9 hsz2; have d0 := hb9.val 0 rfl; have d1 := hb9.val 1 rfl; have d2 := hb9.val 2 rfl; have d3 := hb9.val 3 rfl; have d4 := hb9.val 4 rfl; have m9 : wn.cell? ⟨b, off + k * 2, none⟩ = some (.int .i64 og) := (hbn.cell (p := ⟨b, off + k * 2, none⟩) (World.block_lt_of_cell? _ ⟨b, off + k * 2, none⟩ (by assumption))).trans (by assumption); have hob9 := (show OwnBals w2.heap.size wn u2 ⟨c, e, s⟩ aud l ((l.take k).map (·.org)) L from Hob.out.below hbn); have ho9 : OwnMems w2.heap.size wn (.slice a9 nm c9) l := ho9.mono hwr))
          | ((refine step_append_lies _ (by rfl) _ _ _ (by rfl) w2.heap.size 57 i0 _ 6 64 Try.underlying52 hi0 hz0 hz1 hz2 rfl (by omega) u2 L.length (balsCells ⟨c, e, s⟩ aud l.length L) (by rfl) (World.ownsRow.alloc hob9.row _) ⟨wn.heap.size, 0, none⟩ 1 1 [.int .i64 c, .int .i64 e, .int .i64 s, .int .i64 aud, .slice a9 nm c9, .int .i64 og] (by rfl) (by rfl) (World.news_of_block (cs := #[.int .i64 c, .int .i64 e, .int .i64 s, .int .i64 aud, .slice a9 nm c9, .int .i64 og]) (t := 57) (fr := (0, 0)) (heap_alloc_new wn _)) (by simp [Value.oneCell']) (by omega) (by unfold maxLen; omega) (by omega) (by have := hk9.size; simp; omega) (wn.heap.size + 1) (by simp) ?_; intro gg cap2 w3 hown3 hgrow hat hlt2; have hsw : w.heap.size < (wn.alloc (.cells #[.int .i64 c, .int .i64 e, .int .i64 s, .int .i64 aud, .slice a9 nm c9, .int .i64 og] 57)).heap.size := (by have := hk9.size; simp; omega); have hsb : b < (wn.alloc (.cells #[.int .i64 c, .int .i64 e, .int .i64 s, .int .i64 aud, .slice a9 nm c9, .int .i64 og] 57)).heap.size := (by have := hk9.size; simp; omega); have e0 := (hgrow.cell_far ⟨w.heap.size, 0, none⟩ hsw (Ne.symm hne1)).trans (cell_alloc_of _ d0); have e1 := (hgrow.cell_far ⟨w.heap.size, 1, none⟩ hsw (Ne.symm hne1)).trans (cell_alloc_of _ d1); have e2 := (hgrow.cell_far ⟨w.heap.size, 2, none⟩ hsw (Ne.symm hne1)).trans (cell_alloc_of _ d2); have e3 := (hgrow.cell_far ⟨w.heap.size, 3, none⟩ hsw (Ne.symm hne1)).trans (cell_alloc_of _ d3); have e4 := (hgrow.cell_far ⟨w.heap.size, 4, none⟩ hsw (Ne.symm hne1)).trans (cell_alloc_of _ d4); have e5 := (hgrow.cell_far ⟨b, off + k * 2, none⟩ hsb (Ne.symm hne2)).trans (cell_alloc_of _ m9))))
      have hal := World.ownsRow.alloc hob9.row (.cells #[.int .i64 c, .int .i64 e, .int .i64 s, .int .i64 aud, .slice a9 nm c9, .int .i64 og] 57)
      have hkeep : ∀ (p : Option Addr) (q : Nat), OwnMems w2.heap.size wn (.slice p l.length q) l → OwnMems w2.heap.size w3 (.slice p l.length q) l := fun p q hpq =>
        World.ownsRow.kept (World.ownsRow.alloc hpq _) hgrow (own_ne (World.ownsRow.alloc hpq _) hal (by decide))
      have hob3 : OwnBals w2.heap.size w3 (.slice (some ⟨gg, 0, none⟩) (L.length + 1) cap2) ⟨c, e, s⟩ aud l ((l.take (k + 1)).map (·.org)) (L ++ [((a9, c9), og)]) := by
        refine ⟨?_, ?_, fun x hx => ?_⟩
        · rw [balsCells_snoc, List.length_append]
          have h1 := hown3
          rw [Hn.out] at h1
          exact h1
        · rw [List.map_append, hob9.orgs, Hos.out]; rfl
        · rcases List.mem_append.1 hx with hx | hx
          · exact hkeep _ _ (hob9.mems x hx)
          · rw [List.mem_singleton] at hx
            subst hx
            have h1 := ho9
            rw [Hn.out] at h1
            exact hkeep _ _ h1
      have hb3 : Below w2.heap.size w2 w3 := (hk9.alloc hk9.size _).grown hgrow (by have := hk9.size; simp; omega) (fun j hj => (World.ownsRow.lt Hob.out.row j hj).1)
      have Hob3 := hid hob3
      have Hb3 := hid hb3
      clear hob3 hb3 hkeep hal hown3 hgrow hob9 ho9 hat hlt2 hb9 hk9 hbn d0 d1 d2 d3 d4 m9 e0 e1 e2 e3 e4 e5 hsw hsb c0 c1 c2 c3 c4 hc1
      go_wp2
      go_roundw
      case rel => exact ⟨k + 1, L ++ [((a9, c9), og)], by omega, by go_num, by simp [HL.out], Hob3.out, Hb3.out⟩
      case measure => simp [intOf]; omega
    · have hlt' : ¬ (k : Int) < nm := by omega
      obtain rfl : k = nm := by omega
      have ho := Hob.out
      rw [List.take_of_length_le (by have := Hn.out; omega)] at ho
      have hbl : Below w.heap.size w wr := Hb2.out.trans (Hb.out.mono (by omega))
      have Hbl := hid hbl
      have Ho := hid ho
      clear ho hbl
      go_wp2
      go_ret
      refine ⟨_, L, rfl, ⟨World.ownsRow.mono Ho.out.row (by omega), Ho.out.orgs, fun x hx => (Ho.out.mems x hx).mono (by omega)⟩, Hbl.out⟩
end Go.Proofs.Ytegkolepemcocaa
