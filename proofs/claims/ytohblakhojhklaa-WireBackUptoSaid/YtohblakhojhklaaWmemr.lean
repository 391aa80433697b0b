import Derived.Test.YtohblakhojhklaaWmems
import Derived.Laws.OwnMore
/- The walks of wire's unmembers, ReadMembers. -/
namespace Go.Proofs.Ytohblakhojhklaa
open Go.RowKit Sp

def memCells (l : List Mem) : List Value := l.flatMap fun x => [.int .i64 x.org, .string (ofL x.dig)]
theorem memCells_length (l : List Mem) : (memCells l).length = l.length * 2 := by
  unfold memCells
  induction l with
  | nil => rfl
  | cons x r ih => rw [List.flatMap_cons, List.length_append, ih]; simp; omega
theorem memCells_snoc (l : List Mem) (x : Mem) : memCells (l ++ [x]) = memCells l ++ [.int .i64 x.org, .string (ofL x.dig)] := by
  unfold memCells; rw [List.flatMap_append]; rfl
theorem memCells_get {l : List Mem} {i : Nat} (h : i < l.length) : (memCells l)[i * 2]? = some (.int .i64 (l[i]'h).org) ∧ (memCells l)[i * 2 + 1]? = some (.string (ofL (l[i]'h).dig)) := by
  induction l generalizing i with
  | nil => simp at h
  | cons x r ih =>
    cases i with
    | zero => exact ⟨rfl, rfl⟩
    | succ j =>
      have := ih (i := j) (by simpa using h)
      have e : memCells (x :: r) = .int .i64 x.org :: .string (ofL x.dig) :: memCells r := rfl
      rw [e, show (j + 1) * 2 = j * 2 + 1 + 1 by omega]
      simpa using this
theorem info_member : (Try.prog.info? 76).map (fun i => (i.zero, i.size, i.bytes)) = some (some (.agg #[.int .i64 0, .string ⟨#[]⟩]), 2, 24) := by kernel_rfl
/-- A slice of members of the call's own. -/
def OwnMems (base : Nat) (w : World) (v : Value) (l : List Mem) : Prop := w.ownsRow base 76 2 v l.length (memCells l)
theorem OwnMems.below {base : Nat} {w w' : World} {v : Value} {l : List Mem} (h : OwnMems base w v l) (hb : Below w.heap.size w w') : OwnMems base w' v l :=
  World.ownsRow.kept (row := none) h ⟨hb.os, hb.tape, hb.output, hb.size, fun k hk _ => hb.block k hk⟩ (by cases v.ownBlock <;> simp)
theorem OwnMems.mono {base base' : Nat} {w : World} {v : Value} {l : List Mem} (h : OwnMems base w v l) (hb : base' ≤ base) : OwnMems base' w v l := World.ownsRow.mono h hb
theorem OwnMems.read {base : Nat} {w : World} {v : Value} {l : List Mem} (h : OwnMems base w v l) : ∃ a cap, v = .slice a l.length cap ∧ MemsAt w a l := by
  rcases h.2 with ⟨rfl, h0⟩ | ⟨g, cap, cur, rfl, _⟩
  · refine ⟨none, 0, by rw [h0], fun i hi => ?_⟩
    omega
  · refine ⟨_, cap, rfl, fun i hi => ⟨g, 0, rfl, ?_⟩⟩
    obtain ⟨e1, e2⟩ := memCells_get hi
    have k1 := World.ownsRow.cells h rfl _ _ e1
    have k2 := World.ownsRow.cells h rfl _ _ e2
    rw [add_at] at k1 k2
    exact ⟨k1, k2⟩
theorem unmems_snoc {l : List Bs} {s : Bs} {p : List Mem} (h : unmems l = some p) : unmems (l ++ [s]) = match unmem s with
    | some x => some (p ++ [x])
    | none => none := by
  induction l generalizing p with
  | nil =>
    simp only [unmems] at h
    injection h with h; subst h
    simp only [List.nil_append, unmems]
    cases unmem s <;> rfl
  | cons y r ih =>
    simp only [unmems, List.cons_append] at h ⊢
    cases hy : unmem y with
    | none => rw [hy] at h; cases h
    | some x =>
      rw [hy] at h
      cases hr : unmems r with
      | none => rw [hr] at h; cases h
      | some q =>
        rw [hr] at h
        simp only at h
        injection h with h; subst h
        rw [ih hr]
        cases unmem s <;> rfl
theorem unmems_fail {l : List Bs} {s : Bs} (hs : s ∈ l) (h : unmem s = none) : unmems l = none := by
  induction l with
  | nil => cases hs
  | cons y r ih =>
    simp only [unmems]
    rcases List.mem_cons.1 hs with rfl | hs
    · rw [h]
    · rw [ih hs]; cases unmem y <;> rfl
theorem unmems_length {l : List Bs} {p : List Mem} (h : unmems l = some p) : p.length = l.length := by
  induction l generalizing p with
  | nil => simp only [unmems] at h; injection h with h; subst h; rfl
  | cons y r ih =>
    simp only [unmems] at h
    split at h
    · rename_i x q hx hq; injection h with h; subst h; simp [ih hq]
    · cases h
theorem unmem_some {s : Bs} {x : Mem} (h : unmem s = some x) : ∃ a k, kind s = 3 ∧ cut s = [a, x.dig] ∧ readNumT a = some k ∧ x.org = k := by
  unfold unmem at h
  cases hr : rowP s 2 2 with
  | none => rw [hr] at h; cases h
  | some p =>
    obtain ⟨hk, h1, h2, rfl⟩ := rowP_some hr
    rw [hr] at h
    match hc : cut s, h with
    | [a, b], h =>
      simp only at h
      cases hn : readNumT a with
      | none => rw [hn] at h; cases h
      | some k =>
        rw [hn] at h
        simp only at h
        injection h with h; subst h
        exact ⟨a, k, hk, rfl, hn, rfl⟩

theorem unmems_mem {l : List Bs} {p : List Mem} (h : unmems l = some p) : ∀ x ∈ p, ∃ s ∈ l, unmem s = some x := by
  induction l generalizing p with
  | nil => simp only [unmems] at h; injection h with h; subst h; intro x hx; cases hx
  | cons y r ih =>
    simp only [unmems] at h
    split at h
    · rename_i x q hx hq
      injection h with h; subst h
      intro z hz
      rcases List.mem_cons.1 hz with rfl | hz
      · exact ⟨y, by simp, hx⟩
      · obtain ⟨s, hs, e⟩ := ih hq z hz
        exact ⟨s, List.mem_cons_of_mem _ hs, e⟩
    · cases h
theorem unmem_dig {s : Bs} {x : Mem} (h : unmem s = some x) : isTerm x.dig = true := by
  obtain ⟨a, k, h1, h2, -, -⟩ := unmem_some h
  exact (kind3_back h1).2.1 x.dig (by rw [h2]; simp)
theorem unmems_dig {l : List Bs} {p : List Mem} (h : unmems l = some p) : ∀ x ∈ p, isTerm x.dig = true := fun x hx => by
  obtain ⟨s, -, e⟩ := unmems_mem h x hx
  exact unmem_dig e

def memsPost (r : Option (List Mem)) (B : Nat) (w : World) (e : Ending) (w' : World) : Prop :=
  match r with
  | some l => (∃ v, e = .returned v ∧ OwnMems B w' v l) ∧ Below w.heap.size w w'
  | none => e = .panicked thrownW ∧ Below w.heap.size w w'

set_option maxRecDepth 20000 in
set_option maxHeartbeats 4000000 in
theorem unmembers_core (t : Txn) (s : Bs) (hm : s.length ≤ 10000000) (hk : kind s = 3) (h1 : 1 ≤ (cut s).length) (h6 : (cut s).length ≤ 6) (X : Option (List Mem)) (hX : unmembers t s = X) (w : World) :
    Calls Try.prog 62 #[txnV t, .string (ofL s)] w fun e w' => memsPost X w.heap.size w e w' := by
  obtain ⟨i0, hi0, hz0, hz1, hz2⟩ := info_parts info_member
  have hrow := fun W => wrow_ok s hm 1 6 hk (by omega) (by omega) W
  have hX2 : (match unmems (cut s) with | some l => if mayMembers t l then some l else none | none => none) = X := by
    rw [← hX]; unfold unmembers rowP; rw [if_pos ⟨hk, h1, h6⟩]; rfl
  have hparts := (kind3_back hk).2.1
  obtain ⟨p, hp⟩ : ∃ p, cut s = p := ⟨_, rfl⟩
  rw [hp] at hrow hX2 hparts h6
  obtain ⟨c, e, q⟩ := t
  simp only [txnV]
  have Hrow := hid hrow
  have HX := hid hX2
  have Hparts := hid hparts
  have hn6 : p.length ≤ 6 := h6
  clear hrow hX hX2 hparts h6 h1 hk hp
  go_enter Try.func62, Try.ntmps62
  go_wp2_with fail
  refine (Hrow.out _).mono ?_
  rintro e1 w0 ⟨v, rfl, hown, hb0⟩
  have hBw := below_then ((Below.refl w.heap.size w).alloc (Nat.le_refl _) _) (by simp) hb0
  have hc0 : w0.cell? ⟨w.heap.size, 0, none⟩ = some (.int .i64 c) := (hb0.cell (p := ⟨_, 0, none⟩) (by simp)).trans (by simp [go_sem])
  have hc1 : w0.cell? ⟨w.heap.size, 1, none⟩ = some (.int .i64 e) := (hb0.cell (p := ⟨_, 1, none⟩) (by simp)).trans (by simp [go_sem])
  have hc2 : w0.cell? ⟨w.heap.size, 2, none⟩ = some (.int .i64 q) := (hb0.cell (p := ⟨_, 2, none⟩) (by simp)).trans (by simp [go_sem])
  have hsz0 : w.heap.size < w0.heap.size := by have := hb0.size; simp at this; omega
  obtain ⟨a, cap, rfl, hS⟩ := hown.read
  have HBw := hid hBw
  have HS := hid hS
  clear hb0 hown hBw hS
  obtain ⟨n, hn⟩ : ∃ n, p.length = n := ⟨_, rfl⟩
  rw [hn] at hn6 ⊢
  have Hn := hid hn
  clear hn
  go_wp2
  go_loopw [4, 11] (fun ov i wr => ∃ (k : Nat) (ms : List Mem), k ≤ n ∧ i = .int .i64 k ∧ unmems (p.take k) = some ms ∧ ms.length = k ∧ OwnMems w0.heap.size wr ov ms ∧ Below w0.heap.size w0 wr) (fun _ i _ => n - (intOf i).toNat)
  case atStart => exact ⟨0, [], by omega, rfl, rfl, rfl, World.ownsRow_nil _ _ _ _, Below.refl _ _⟩
  case round =>
    obtain ⟨k, ms, hk, rfl, hts, hsl, hown, hb⟩ := hrel
    have Hts := hid hts
    have Hown := hid hown
    have Hb := hid hb
    have Hsl := hid hsl
    clear hts hown hb hsl
    by_cases hlt : k < n
    · have hkl : k < p.length := by have := Hn.out; omega
      obtain ⟨b, off, rfl, hc⟩ := (HS.out.below Hb.out) k hkl
      have hlt' : (k : Int) < n := by omega
      have hterm := Hparts.out _ (List.getElem_mem hkl)
      have hsn := unmems_snoc (s := p[k]'hkl) Hts.out
      rw [← List.take_succ_eq_append_getElem hkl] at hsn
      have hmem : p[k]'hkl ∈ p := List.getElem_mem hkl
      obtain ⟨y, hy⟩ : ∃ y, p[k]'hkl = y := ⟨_, rfl⟩
      rw [hy] at hc hterm hsn hmem
      have hylen := term_len hterm
      cases hrp : rowP y 2 2 with
      | none =>
        have hno : unmem y = none := by unfold unmem; rw [hrp]
        have hF : X = none := by rw [← HX.out, unmems_fail hmem hno]
        have hr2 := fun W => wrow_no y (by omega) 2 2 (rowP_none hrp) W
        have HF := hid hF
        have Hr2 := hid hr2
        clear hno hF hrp hr2 hy hsn hmem hterm
        go_wp2_with fail
        refine (Hr2.out _).mono ?_
        rintro e1 w1 ⟨rfl, hb1⟩
        refine ⟨rfl, ?_⟩
        rw [HF.out]
        exact ⟨rfl, below_then (below_then HBw.out HBw.out.size Hb.out) (Nat.le_trans HBw.out.size Hb.out.size) hb1⟩
      | some pp =>
        obtain ⟨hk3, g1, g2, rfl⟩ := rowP_some hrp
        have hyp := (kind3_back hk3).2.1
        have h2 : (cut y).length = 2 := by omega
        match hc2 : cut y, h2 with
        | [u, d], _ =>
          rw [hc2] at hyp hrp
          have lu := term_len (hyp u (by simp))
          have ld := term_len (hyp d (by simp))
          have hr2 := fun W => wrow_ok y (by omega) 2 2 hk3 (by rw [hc2]; simp) (by rw [hc2]; simp) W
          rw [hc2] at hr2
          have hum : unmem y = match readNumT u with | some k => some ⟨k, d⟩ | none => none := by unfold unmem; rw [hrp]; rfl
          have Hr2 := hid hr2
          have Hum := hid hum
          have Hsn := hid hsn
          have Hmem := hid hmem
          clear hr2 hum hsn hmem hyp hrp hy hk3 g1 g2 hterm
          go_wp2_with fail
          refine (Hr2.out _).mono ?_
          rintro e1 w1 ⟨v, rfl, hown1, hb1⟩
          obtain ⟨g, cap1, rfl, d0, d1⟩ := hown1.cells2
          have hB1 := below_then Hb.out Hb.out.size hb1
          have ho0 := Hown.out.below hb1
          have hgw := hown1
          have hg1 : wr.heap.size ≤ g := by
            rcases hown1.2 with ⟨e, -⟩ | ⟨g', cap', cur, e, hge, -⟩
            · cases e
            · cases e; exact hge
          have hne : u4.ownBlock ≠ some g := fun hj => by have := (World.ownsRow.lt Hown.out g hj).2; omega
          have hge := HBw.out.size
          have hBs := Hb.out.size
          have hms := Hsl.out
          clear hown1 hb1 Hown hgw
          go_wp2_with fail
          refine wp_region_panicSame w0.heap.size w0 thrownW (X = none) (fun a w' hd hE h => ?_) ?_
          · refine ⟨hd, ?_⟩
            rw [hE]
            exact ⟨rfl, below_then HBw.out HBw.out.size h⟩
          go_region_held2 (fun w' => w'.cell? ⟨g, 0, none⟩ = some (.string (ofL u)) ∧ w'.cell? ⟨g, 1, none⟩ = some (.string (ofL d)) ∧ Below w0.heap.size w0 w')
            ((go_split_ands; refine ⟨?_, ?_, ?_⟩ <;> (with_reducible first | assumption | exact cell_alloc_of _ (by assumption) | exact Below.drew (by assumption) | exact Below.alloc (by assumption) (Below.size (by assumption)) _ | skip) <;> first | exact d0 | exact d1))
            (first
              | (go_at_call 61; refine (unnum_calls u (by omega) _).mono ?_; rintro e9 wn ⟨he, hbn⟩; go_split_ands; generalize ku : readNumT u = ov at he; rcases ov with _ | vu; (focus (subst he; refine PanicSame.panic (below_then (by assumption) (Below.size (by assumption)) hbn) ?_ (by rfl); have h9 := Hum.out; rw [ku] at h9; rw [← HX.out, unmems_fail Hmem.out h9])); simp only [unEnd] at he; subst he;
                  have hk0 : Below w0.heap.size w0 wn := below_then (by assumption) (Below.size (by assumption)) hbn;
                  have e0 : wn.cell? ⟨g, 0, none⟩ = some (.string (ofL u)) := (hbn.cell (p := ⟨g, 0, none⟩) (World.block_lt_of_cell? _ ⟨g, 0, none⟩ (by assumption))).trans (by assumption); have e1 : wn.cell? ⟨g, 1, none⟩ = some (.string (ofL d)) := (hbn.cell (p := ⟨g, 1, none⟩) (World.block_lt_of_cell? _ ⟨g, 1, none⟩ (by assumption))).trans (by assumption);
                  have ho2 : OwnMems w0.heap.size wn u4 ms := OwnMems.below (World.ownsRow.drew ho0) hbn)
              | (refine step_append_lies _ (by rfl) _ _ _ (by rfl) w0.heap.size 76 i0 _ 2 24 Try.underlying24 hi0 hz0 hz1 hz2 rfl (by omega) u4 ms.length (memCells ms) (by rfl) (World.ownsRow.alloc ho2 _) ⟨wn.heap.size, 0, none⟩ 1 1 [.int .i64 vu, .string (ofL d)] (by rfl) (by rfl) (World.news_of_block (cs := #[.int .i64 vu, .string (ofL d)]) (t := 76) (fr := (0, 0)) (heap_alloc_new wn _)) (by simp [Value.oneCell']) (by omega) (by unfold maxLen; omega) (by omega) (by have := hk0.size; simp; omega) (wn.heap.size + 1) (by simp) ?_; intro gg cap2 w2 hown2 hgrow hat hlt2; have hlg := World.block_lt_of_cell? _ _ e0; have hk1 : Below w0.heap.size w0 w2 := (hk0.alloc hk0.size _).grown hgrow (by have := hk0.size; simp; omega) (fun j hj => (World.ownsRow.lt ho2 j hj).1); have f0 : w2.cell? ⟨g, 0, none⟩ = some (.string (ofL u)) := (hgrow.cell_far _ (by simp at hlg ⊢; omega) (Ne.symm hne)).trans (cell_alloc_of _ e0); have f1 : w2.cell? ⟨g, 1, none⟩ = some (.string (ofL d)) := (hgrow.cell_far _ (by simp at hlg ⊢; omega) (Ne.symm hne)).trans (cell_alloc_of _ e1)))
          refine PanicSame.normal ?_
          have hT : unmems (p.take (k + 1)) = some (ms ++ [⟨vu, d⟩]) := by
            rw [Hsn.out, Hum.out, ku]
          have HT := hid hT
          have hown3 : OwnMems w0.heap.size w2 (.slice (some ⟨gg, 0, none⟩) (k + 1) cap2) (ms ++ [⟨vu, d⟩]) := by
            unfold OwnMems
            rw [memCells_snoc]
            have h1 := hown2
            rw [hms] at h1
            simpa [hms] using h1
          have HO3 := hid hown3
          have HK1 := hid hk1
          clear hT hown3 hk1 Hsn Hum hown2 hgrow ho2 ho0 hB1
          go_split_ands
          go_wp2
          go_roundw
          case rel => exact ⟨k + 1, ms ++ [⟨vu, d⟩], by omega, by go_num, HT.out, by simp [hms], HO3.out, HK1.out⟩
          case measure => simp [intOf]; omega
    · have hlt' : ¬ (k : Int) < n := by omega
      obtain rfl : k = n := by omega
      have hall : unmems p = some ms := by
        have h1 := Hts.out
        rwa [List.take_of_length_le (by have := Hn.out; omega)] at h1
      have hX3 : (if mayMembers ⟨c, e, q⟩ ms then some ms else none) = X := by rw [← HX.out, hall]
      have hms := Hsl.out
      have e0 : wr.cell? ⟨w.heap.size, 0, none⟩ = some (.int .i64 c) := (Hb.out.cell (p := ⟨_, 0, none⟩) hsz0).trans hc0
      have e1 : wr.cell? ⟨w.heap.size, 1, none⟩ = some (.int .i64 e) := (Hb.out.cell (p := ⟨_, 1, none⟩) hsz0).trans hc1
      have e2 : wr.cell? ⟨w.heap.size, 2, none⟩ = some (.int .i64 q) := (Hb.out.cell (p := ⟨_, 2, none⟩) hsz0).trans hc2
      obtain ⟨a2, cap2, hv, hM⟩ := Hown.out.read
      have hdl : ∀ x ∈ ms, x.dig.length ≤ 100000000 := by
        intro x hx
        have := term_len (unmems_dig hall x hx)
        omega
      have hmt := mayMembers_calls ⟨c, e, q⟩ a2 ms.length cap2 ms rfl (by omega) hdl wr hM
      rw [hms] at hmt hv
      simp only [txnV] at hmt
      have HO := Hown
      subst hv
      have Hmt := hid hmt
      clear hmt hM Hown Hts HX hall
      have HX3 := hid hX3
      clear hX3
      cases hmay : mayMembers ⟨c, e, q⟩ ms with
      | false =>
        rw [hmay] at Hmt HX3
        clear hmay
        go_wp2_with fail
        refine Hmt.out.mono ?_
        rintro e9 wn ⟨rfl, hbn⟩
        have HE := hid (below_then (below_then HBw.out HBw.out.size Hb.out) (Nat.le_trans HBw.out.size Hb.out.size) hbn)
        clear hbn
        go_wp2_with fail
        refine (wmust_no _).mono ?_
        rintro e9 w9 ⟨rfl, rfl⟩
        refine ⟨rfl, ?_⟩
        rw [← HX3.out]
        exact ⟨rfl, HE.out⟩
      | true =>
        rw [hmay] at Hmt HX3
        clear hmay
        go_wp2_with fail
        refine Hmt.out.mono ?_
        rintro e9 wn ⟨rfl, hbn⟩
        have HE := hid (below_then (below_then HBw.out HBw.out.size Hb.out) (Nat.le_trans HBw.out.size Hb.out.size) hbn)
        have HO2 := hid (OwnMems.mono (HO.out.below hbn) HBw.out.size)
        clear hbn HO
        go_wp2_with fail
        refine (wmust_ok _).mono ?_
        rintro e9 w9 ⟨rfl, rfl⟩
        go_wp2
        go_ret
        rw [← HX3.out]
        exact ⟨⟨_, rfl, HO2.out⟩, HE.out⟩

set_option maxRecDepth 20000 in
set_option maxHeartbeats 1000000 in
theorem unmembers_calls (t : Txn) (s : Bs) (hm : s.length ≤ 10000000) (w : World) :
    Calls Try.prog 62 #[txnV t, .string (ofL s)] w fun e w' => memsPost (unmembers t s) w.heap.size w e w' := by
  cases hr : rowP s 1 6 with
  | some p =>
    obtain ⟨hk, h1, h6, rfl⟩ := rowP_some hr
    exact unmembers_core t s hm hk h1 h6 _ rfl w
  | none =>
    have hrow := fun W => wrow_no s hm 1 6 (rowP_none hr) W
    have hf : unmembers t s = none := by unfold unmembers; rw [hr]
    rw [hf]
    obtain ⟨c, e, q⟩ := t
    simp only [txnV]
    have Hrow := hid hrow
    clear hr hrow hf
    go_enter Try.func62, Try.ntmps62
    go_wp2_with fail
    refine (Hrow.out _).mono ?_
    rintro e w1 ⟨rfl, hb⟩
    exact ⟨rfl, rfl, below_then ((Below.refl w.heap.size w).alloc (Nat.le_refl _) _) (by simp) hb⟩

end Go.Proofs.Ytohblakhojhklaa
