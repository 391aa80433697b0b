import Derived.Test.YtegkolepemcocaaWblk
import Derived.Laws.OwnMore
/- The walks of slices.Clone and slices.IndexFunc over members. -/
namespace Go.Proofs.Ytegkolepemcocaa
open Go.RowKit Sp

theorem memsAt_news {w : World} {ad : Addr} {l : List Mem} (h : MemsAt w (some ad) l) : ∀ j u, (memCells l)[j]? = some u → w.cell? (ad.add j) = some u := by
  intro j u hu
  have hj : j < l.length * 2 := by
    have := (List.getElem?_eq_some_iff.1 hu).1
    rwa [memCells_length] at this
  have hi : j / 2 < l.length := by omega
  obtain ⟨b, off, e, h1, h2⟩ := h (j / 2) hi
  injection e with e
  subst e
  obtain ⟨g1, g2⟩ := memCells_get hi
  rw [add_at]
  rcases Nat.mod_two_eq_zero_or_one j with hm | hm
  · have ej : j = j / 2 * 2 := by omega
    rw [ej, g1] at hu
    injection hu with hu
    subst hu
    rw [show off + j = off + j / 2 * 2 by omega]
    exact h1
  · have ej : j = j / 2 * 2 + 1 := by omega
    rw [ej, g2] at hu
    injection hu with hu
    subst hu
    rw [show off + j = off + j / 2 * 2 + 1 by omega]
    exact h2
theorem strsAt_news {w : World} {ad : Addr} {l : List Bs} (h : StrsAt w (some ad) l) : ∀ j u, (l.map strV)[j]? = some u → w.cell? (ad.add j) = some u := by
  intro j u hu
  have hi : j < l.length := by
    have := (List.getElem?_eq_some_iff.1 hu).1
    simpa using this
  obtain ⟨b, off, e, h1⟩ := h j hi
  injection e with e
  subst e
  rw [add_at]
  rw [List.getElem?_map, List.getElem?_eq_getElem hi] at hu
  simp only [Option.map_some] at hu
  injection hu with hu
  subst hu
  exact h1
theorem memCells_one (l : List Mem) : ∀ u ∈ memCells l, u.oneCell' = true := by
  intro u hu
  unfold memCells at hu
  obtain ⟨x, -, hx⟩ := List.mem_flatMap.1 hu
  simp at hx
  rcases hx with rfl | rfl <;> rfl
theorem strCells_one (l : List Bs) : ∀ u ∈ l.map strV, u.oneCell' = true := by
  intro u hu
  obtain ⟨x, -, rfl⟩ := List.mem_map.1 hu
  rfl
theorem memsAt_none {w : World} {l : List Mem} (h : MemsAt w none l) : l = [] := by
  cases l with
  | nil => rfl
  | cons x r => obtain ⟨b, off, e, -⟩ := h 0 (by simp); cases e
theorem strsAt_none {w : World} {l : List Bs} (h : StrsAt w none l) : l = [] := by
  cases l with
  | nil => rfl
  | cons x r => obtain ⟨b, off, e, -⟩ := h 0 (by simp); cases e

set_option maxRecDepth 20000 in
set_option maxHeartbeats 1000000 in
theorem clone_calls (a : Option Addr) (n cap : Nat) (l : List Mem) (hn : n = l.length) (hl : l.length ≤ 10000000) (w : World) (h : MemsAt w a l) :
    Calls Try.prog 61 #[.slice a n cap] w fun e w' => (∃ a' c', e = .returned (.slice a' n c') ∧ OwnMems w.heap.size w' (.slice a' n c') l) ∧ Below w.heap.size w w' := by
  obtain ⟨i0, hi0, hz0, hz1, hz2⟩ := info_parts info_member
  subst hn
  cases a with
  | none =>
    have hl0 := memsAt_none h
    subst hl0
    have hq := fun (a : Option Addr) (n c : Nat) (w : World) => Lib.run_eql_slice_nil (P := Try.prog) w 24 59 a n c 0 0 Try.underlying24
    clear h
    go_enter Try.func61, Try.ntmps61
    go_wp2
    go_ret
    exact ⟨⟨none, 0, rfl, World.ownsRow_nil _ _ _ _⟩, Below.refl _ _⟩
  | some ad =>
    have H := hid h
    have hq := fun (a : Option Addr) (n c : Nat) (w : World) => Lib.run_eql_slice_nil (P := Try.prog) w 24 59 a n c 0 0 Try.underlying24
    clear h
    go_enter Try.func61, Try.ntmps61
    have hmade : World.ownsRow (w.alloc (.cells #[] 59)) w.heap.size 59 2 (.slice (some ⟨w.heap.size, 0, none⟩) 0 0) 0 [] := World.ownsRow_made w #[] 0 (Nat.le_refl _) (by unfold maxLen; omega) (by rfl)
    have hnews := memsAt_news (H.out.below ((Below.refl w.heap.size w).alloc (Nat.le_refl _) (.cells #[] 59)))
    have Hmade := hid hmade
    have Hnews := hid hnews
    clear hmade hnews
    go_wp2_with (first
      | (at_builtin; refine wpList_append_own _ (by rfl) _ _ 24 (by rfl) w.heap.size 59 i0 _ 2 24 Try.underlying24 hi0 hz0 hz1 hz2 rfl (by omega) _ 0 [] (by rfl) Hmade.out ad l.length cap (memCells l) (by rfl) (memCells_length l) Hnews.out (memCells_one l) (by unfold maxLen; omega) (by omega) (by simp) ?_; intro v' w1 hown hgrow hnil)
      | fail)
    have hown2 : OwnMems w.heap.size w1 v' l := by simpa [OwnMems] using hown
    have hbl : Below w.heap.size w w1 := ((Below.refl w.heap.size w).alloc (Nat.le_refl _) _).grown hgrow (by simp) (fun j hj => Nat.le_of_eq (by simpa [Value.ownBlock] using hj))
    obtain ⟨a', c', rfl, -⟩ := hown2.read
    have Ho := hid hown2
    have Hb := hid hbl
    clear hown hown2 hgrow hnil hbl
    go_wp2
    go_ret
    exact ⟨⟨a', c', rfl, Ho.out⟩, Hb.out⟩

/-- The first member of an organisation. -/
def placeOf (o : Int) (l : List Mem) : Option Nat := l.findIdx? (fun x => x.org == o)
def placeV : Option Nat → Int
  | some k => k
  | none => -1
theorem place_none {o : Int} {l : List Mem} (h : l.all (fun x => !(x.org == o)) = true) : placeOf o l = none := by
  unfold placeOf
  rw [List.findIdx?_eq_none_iff]
  intro x hx
  have := List.all_eq_true.1 h x hx
  simpa using this
theorem place_some {o : Int} {l : List Mem} {k : Nat} (hk : k < l.length) (h : (l.take k).all (fun x => !(x.org == o)) = true) (he : (l[k]'hk).org = o) : placeOf o l = some k := by
  unfold placeOf
  rw [List.findIdx?_eq_some_iff_getElem]
  refine ⟨hk, by simpa using he, fun j hj => ?_⟩
  have hm : l[j]'(by omega) ∈ l.take k := by
    have e : (l.take k)[j]'(by simp; omega) = l[j]'(by omega) := by simp
    rw [← e]; exact List.getElem_mem _
  have := List.all_eq_true.1 h _ hm
  simpa using this

set_option maxRecDepth 20000 in
theorem nameIs_calls (x : Mem) (o : Int) (b : Nat) (w : World) (h : w.cell? ⟨b, 0, none⟩ = some (.int .i64 o)) :
    Calls Try.prog 63 #[.agg #[.int .i64 x.org, .string (ofL x.dig)], .pointer (some ⟨b, 0, none⟩)] w fun e w' => e = .returned (.bool (x.org == o)) ∧ Below w.heap.size w w' := by
  obtain ⟨k, s⟩ := x
  simp only
  have h2 := cell_alloc_of (.cells #[.int .i64 k, .string (ofL s)] 59) h
  have hlt := World.block_lt_of_cell? _ _ h
  simp only at hlt
  obtain ⟨r, hr⟩ : ∃ r, (k == o) = r := ⟨_, rfl⟩
  go_enter Try.func63, Try.ntmps63
  go_wp2
  go_ret
  exact ⟨by rw [hr]; rfl, (Below.refl w.heap.size w).alloc (Nat.le_refl _) _⟩

set_option maxRecDepth 20000 in
set_option maxHeartbeats 2000000 in
theorem place_calls (a : Option Addr) (n cap : Nat) (l : List Mem) (hn : n = l.length) (hl : l.length ≤ 10000000) (o : Int) (bo : Nat) (w : World) (h : MemsAt w a l) (ho : w.cell? ⟨bo, 0, none⟩ = some (.int .i64 o)) :
    Calls Try.prog 62 #[.slice a n cap, .func (.func 63) #[] #[.pointer (some ⟨bo, 0, none⟩)]] w fun e w' => e = .returned (.int .i64 (placeV (placeOf o l))) ∧ Below w.heap.size w w' := by
  have H := hid h
  have Ho := hid ho
  have Hn := hid hn
  have hlo := World.block_lt_of_cell? _ _ ho
  simp only at hlo
  have hent : ∀ (args : Array Value) w, (callFunc 63 args).run Try.prog w = .ok (.enter 63 args) w := fun args w => by kernel_rfl
  have hnl : n ≤ 10000000 := by omega
  obtain ⟨R, hR⟩ : ∃ R, placeV (placeOf o l) = R := ⟨_, rfl⟩
  rw [hR]
  have HR := hid hR
  clear h ho hn hl hR
  go_enter Try.func62, Try.ntmps62
  go_wp2
  go_loopw [4, 8] (fun r i wr => r = .int .i64 0 ∧ ∃ (k : Nat), k ≤ n ∧ i = .int .i64 k ∧ (l.take k).all (fun x => !(x.org == o)) = true ∧ Below w.heap.size w wr) (fun _ i _ => n - (intOf i).toNat)
  case atStart => exact ⟨rfl, 0, by omega, rfl, rfl, Below.refl _ _⟩
  case round =>
    obtain ⟨rfl, k, hk, rfl, hall, hb⟩ := hrel
    have Hall := hid hall
    have Hb := hid hb
    clear hall hb
    by_cases hlt : k < n
    · have hkl : k < l.length := by have := Hn.out; omega
      obtain ⟨b, off, rfl, hc1, hc2⟩ := (H.out.below Hb.out) k hkl
      have hlt' : (k : Int) < n := by omega
      have hst : (l[k]'hkl).org ≠ o → (l.take (k + 1)).all (fun x => !(x.org == o)) = true := fun hne => by
        rw [List.take_succ_eq_append_getElem hkl, List.all_append, Hall.out]
        simpa using hne
      have hpl : (l[k]'hkl).org = o → placeOf o l = some k := fun he => place_some hkl Hall.out he
      generalize l[k]'hkl = y at hc1 hc2 hst hpl
      have hc := fun W h => nameIs_calls y o bo W h
      have hoc : wr.cell? ⟨bo, 0, none⟩ = some (.int .i64 o) := (Hb.out.cell (p := ⟨bo, 0, none⟩) hlo).trans Ho.out
      obtain ⟨y1, y2⟩ := y
      simp only at hc1 hc2 hst hpl hc
      by_cases hyo : y1 = o
      · have hq : (y1 == o) = true := by simpa using hyo
        rw [hq] at hc
        have Hc := hid (hc wr hoc)
        have Hp := hid (hpl hyo)
        clear hc hst hpl hyo hq hoc
        go_wp2_with fail
        refine Hc.out.mono ?_
        rintro e w1 ⟨rfl, hb1⟩
        have Hb1 := hid (below_then Hb.out Hb.out.size hb1)
        clear hb1
        go_wp2
        go_ret
        exact ⟨by rw [← HR.out, Hp.out]; rfl, Hb1.out⟩
      · have hq : (y1 == o) = false := by simpa using hyo
        rw [hq] at hc
        have Hc := hid (hc wr hoc)
        have Hst := hid (hst hyo)
        clear hc hst hpl hyo hq hoc
        go_wp2_with fail
        refine Hc.out.mono ?_
        rintro e w1 ⟨rfl, hb1⟩
        have Hb1 := hid (below_then Hb.out Hb.out.size hb1)
        clear hb1
        go_wp2
        go_roundw
        case rel => exact ⟨rfl, k + 1, by omega, by go_num, Hst.out, Hb1.out⟩
        case measure => simp [intOf]; omega
    · have hlt' : ¬ (k : Int) < n := by omega
      obtain rfl : k = n := by omega
      have hf : placeOf o l = none := by
        have h1 := Hall.out
        rw [List.take_of_length_le (by have := Hn.out; omega)] at h1
        exact place_none h1
      have Hf := hid hf
      clear hf
      go_wp2
      go_ret
      exact ⟨by rw [← HR.out, Hf.out]; rfl, Hb.out⟩
end Go.Proofs.Ytegkolepemcocaa
