import Derived.Test.YtohblakhojhklaaBulk
import Derived.Test.YtohblakhojhklaaWmemr
import Derived.Deep.Slices
import Derived.SliceStrings
import Derived.OpenShut
/- Arguments laid open: members, texts, transactions. -/
namespace Go.Proofs.Ytohblakhojhklaa
open Go.RowKit Go.ChangeShapes Go.WideShapes Go.Deep Sp

theorem list_of {α : Type} {P : Nat → α → Prop} : ∀ n, (∀ i, i < n → ∃ y, P i y) → ∃ l : List α, l.length = n ∧ ∀ i (h : i < l.length), P i (l[i]'h)
  | 0, _ => ⟨[], rfl, fun i h => by simp at h⟩
  | n + 1, h => by
    obtain ⟨l, hl, hp⟩ := list_of n (fun i hi => h i (by omega))
    obtain ⟨y, hy⟩ := h n (by omega)
    refine ⟨l ++ [y], by simp [hl], fun i hi => ?_⟩
    by_cases hlt : i < l.length
    · rw [List.getElem_append_left hlt]; exact hp i hlt
    · have e : i = l.length := by simp at hi; omega
      subst e
      rw [List.getElem_append_right (by omega)]
      simp only [Nat.sub_self, List.getElem_cons_zero]
      rw [hl]; exact hy
theorem cell_spot {w : World} {a : Addr} {v : Value} (h : w.cell? a = some v) : a.spot = none := by
  unfold World.cell? at h
  split at h
  · split at h
    · cases h
    · rename_i hs; simpa using hs
  · cases h
theorem add_plain {a : Addr} (h : a.spot = none) (j : Nat) : a.add j = ⟨a.block, a.off + j, none⟩ := by
  obtain ⟨b, o, s⟩ := a
  simp only at h; subst h
  unfold Addr.add
  split <;> simp_all
theorem bulk_mem {H : Type} {d : DataW H} {l : List (DataW H)} (h : d ∈ l) : Rows.uptoBulk d ≤ Rows.uptoBulkAll l := bulks.part_le h

section
variable {H : Type} {enc : TypeId × Value → H} {w : World} {base : Nat} {spare : Nat → Bool} {held : Bool}

set_option maxRecDepth 20000 in
theorem open_mems {fuel : Nat} {cs : List Value} {x : DataW H × List MemPlace} (h : DataW.trod enc Try.prog w base spare held fuel 24 cs = some x) (hb : Rows.uptoBulk x.1 ≤ 1048576) :
    ∃ (a : Option Addr) (n cap : Nat) (l : List Mem), cs = [.slice a n cap] ∧ n = l.length ∧ l.length ≤ 10000000 ∧ (∀ y ∈ l, y.dig.length ≤ 10000000) ∧ MemsAt w a l ∧ (a = none → cap = 0) := by
  rcases open_slice Try.underlying24 h with ⟨rfl, -⟩ | ⟨a, len, cap, m, n, D, Pl, rfl, -, hlc, hcm, hm, hx, hi⟩
  · exact ⟨none, 0, 0, [], rfl, rfl, by decide, (fun y hy => by cases hy), (fun i hi => by simp at hi), fun _ => rfl⟩
  have hlm : len ≤ m := by rw [hm]; split <;> omega
  have hcells : Try.prog.cellsOf 76 = 2 := by kernel_rfl
  have hbs : len + 1 ≤ 1048576 := by
    rw [hx] at hb
    simp only at hb
    have := bulks.slice_le ((List.range len).map D) ((List.range (m - len)).map fun j => D (len + j))
    simp only [List.length_map, List.length_range] at this
    omega
  have key : ∀ i, i < len → ∃ y : Mem, a.spot = none ∧ w.cell? ⟨a.block, a.off + i * 2, none⟩ = some (.int .i64 y.org) ∧ w.cell? ⟨a.block, a.off + i * 2 + 1, none⟩ = some (.string (ofL y.dig)) ∧ y.dig.length ≤ 10000000 := by
    intro i hil
    obtain ⟨cs', hc, ht⟩ := hi i (by omega)
    rw [hcells] at hc
    obtain ⟨xs, n', -, hxx, hlen, hxl, hf⟩ := DataW.trod_struct Try.underlying76 ht
    obtain ⟨-, hcl, hat⟩ := World.cells?_some hc
    match cs', hcl, hf, hat with
    | [c0, c1], _, hf, hat =>
      have f0 : DataW.trod enc Try.prog w base spare held n' 3 (([c0, c1].drop 0).take (Try.prog.cellsOf 3)) = xs[0]? := hf 0 _ rfl
      have f1 : DataW.trod enc Try.prog w base spare held n' 9 (([c0, c1].drop 1).take (Try.prog.cellsOf 9)) = xs[1]? := hf 1 _ rfl
      have hx0 : xs[0]? = some (xs[0]'(by rw [hxl]; decide)) := List.getElem?_eq_getElem _
      have hx1 : xs[1]? = some (xs[1]'(by rw [hxl]; decide)) := List.getElem?_eq_getElem _
      have e0 : Try.prog.cellsOf 3 = 1 := by kernel_rfl
      have e1 : Try.prog.cellsOf 9 = 1 := by kernel_rfl
      simp only [e0, e1, List.drop_zero, List.take_succ_cons, List.take_zero, List.drop_succ_cons] at f0 f1
      rw [hx0] at f0
      rw [hx1] at f1
      obtain ⟨k, hk, -, -⟩ := DataW.trod_int Try.underlying3 f0
      obtain ⟨s, hs, hxs, -⟩ := DataW.trod_string Try.underlying9 f1
      injection hk with hk _
      injection hs with hs _
      subst hk hs
      have h0 := hat 0 (by omega)
      have h1 := hat 1 (by omega)
      simp only [List.getElem?_cons_zero, List.getElem?_cons_succ] at h0 h1
      have hsp : a.spot = none := by
        by_cases hi0 : i = 0
        · subst hi0
          have e : (a.add (0 * 2)).add 0 = a := by simp [Addr.add]
          rw [e] at h0
          exact cell_spot h0
        · obtain ⟨cs0, hc0, ht0⟩ := hi 0 (by omega)
          rw [hcells] at hc0
          obtain ⟨-, hcl0, hat0⟩ := World.cells?_some hc0
          have h00 := hat0 0 (by omega)
          have e : (a.add (0 * 2)).add 0 = a := by simp [Addr.add]
          rw [e, List.getElem?_eq_getElem (by omega)] at h00
          exact cell_spot h00
      rw [add_plain hsp, add_at] at h0 h1
      refine ⟨⟨k, s.data.toList⟩, hsp, h0, h1, ?_⟩
      -- the text's size
      have hD : D i = .agg (xs.map (·.1)) := by injection hxx
      have hmem : D i ∈ (List.range len).map D := List.mem_map.2 ⟨i, by simpa using hil, rfl⟩
      have q1 := bulk_mem hmem
      have q2 := bulks.slice_elems ((List.range len).map D) ((List.range (m - len)).map fun j => D (len + j))
      rw [hx] at hb
      simp only at hb
      have q3 : xs[1]'(by rw [hxl]; decide) ∈ xs := List.getElem_mem _
      have q4 : (xs[1]'(by rw [hxl]; decide)).1 ∈ xs.map (·.1) := List.mem_map.2 ⟨_, q3, rfl⟩
      have q5 := bulk_mem q4
      rw [hxs] at q5
      simp only at q5
      rw [bulks.string_eq] at q5
      have q6 : Rows.uptoBulkAll (xs.map (·.1)) + 1 = Rows.uptoBulk (D i) := by rw [hD]; simp [Rows.uptoBulk]
      show s.data.toList.length ≤ 10000000
      omega
  obtain ⟨l, hl, hp⟩ := list_of len key
  refine ⟨some a, len, cap, l, rfl, hl.symm, by omega, fun y hy => ?_, fun i hi' => ?_, fun e => by cases e⟩
  · obtain ⟨i, hi', rfl⟩ := List.getElem_of_mem hy
    exact (hp i hi').2.2.2
  · obtain ⟨h0, h1, h2, -⟩ := hp i hi'
    refine ⟨a.block, a.off, ?_, h1, h2⟩
    obtain ⟨b, o, sp⟩ := a
    simp only at h0; subst h0; rfl

set_option maxRecDepth 20000 in
theorem open_texts {fuel : Nat} {cs : List Value} {x : DataW H × List MemPlace} (h : DataW.trod enc Try.prog w base spare held fuel 55 cs = some x) (hb : Rows.uptoBulk x.1 ≤ 1048576) :
    ∃ (a : Option Addr) (n cap : Nat) (l : List Bs), cs = [.slice a n cap] ∧ n = l.length ∧ l.length ≤ 10000000 ∧ (∀ s ∈ l, s.length ≤ 10000000) ∧ StrsAt w a l ∧ (a = none → cap = 0) := by
  rcases open_strings Try.underlying55 Try.underlying9 (by kernel_rfl) h with ⟨rfl, -⟩ | ⟨a, len, cap, ss, rfl, -, hlc, hcm, hss, hx, hc, -⟩
  · exact ⟨none, 0, 0, [], rfl, rfl, by decide, (fun y hy => by cases hy), (fun i hi => by simp at hi), fun _ => rfl⟩
  have hlm : len ≤ ss.length := by rw [hss]; split <;> omega
  rw [hx] at hb
  simp only at hb
  have q2 := bulks.slice_elems (H := H) (strs (ss.take len)) (strs (ss.drop len))
  have q1 := bulks.length_le (H := H) (strs (ss.take len))
  have q0 : (strs (H := H) (ss.take len)).length = len := by simp [strs]; omega
  refine ⟨some a, len, cap, (ss.take len).map (fun s => s.data.toList), rfl, by simp; omega, by simp; omega, fun s hs => ?_, fun i hi => ?_, fun e => by cases e⟩
  · obtain ⟨t, ht, rfl⟩ := List.mem_map.1 hs
    have hm : DataW.lit (H := H) (.string t.data.toList) ∈ strs (ss.take len) := List.mem_map.2 ⟨t, ht, rfl⟩
    have q5 := bulk_mem hm
    rw [bulks.string_eq] at q5
    omega
  · have hil : i < len := by simp at hi; omega
    have h0 := hc 0 (by omega)
    have e0 : a.add 0 = a := by simp [Addr.add]
    rw [e0] at h0
    have hsp := cell_spot h0
    have h1 := hc i (by omega)
    rw [add_plain hsp] at h1
    refine ⟨a.block, a.off, ?_, ?_⟩
    · obtain ⟨b, o, sp⟩ := a
      simp only at hsp; subst hsp; rfl
    · rw [h1]
      simp [List.getD_eq_getElem?_getD, List.getElem?_eq_getElem (show i < ss.length by omega), ofL_data]

set_option maxRecDepth 20000 in
/-- The cells of a transaction. -/
theorem open_txn {fuel : Nat} {cs : List Value} {x : DataW H × List MemPlace} (h : DataW.trod enc Try.prog w base spare held fuel 23 cs = some x) : ∃ c e s : Int, cs = [.int .i64 c, .int .i64 e, .int .i64 s] := by
  have h3 : Try.prog.cellsOf 23 = 3 := by kernel_rfl
  have e0 : Try.prog.cellsOf 3 = 1 := by kernel_rfl
  obtain ⟨xs, n', -, hxx, hlen, hxl, hf⟩ := DataW.trod_struct Try.underlying23 h
  rw [h3] at hlen
  match cs, hlen, hf with
  | [c0, c1, c2], _, hf =>
    have f0 : DataW.trod enc Try.prog w base spare held n' 3 (([c0, c1, c2].drop 0).take (Try.prog.cellsOf 3)) = xs[0]? := hf 0 _ rfl
    have f1 : DataW.trod enc Try.prog w base spare held n' 3 (([c0, c1, c2].drop 1).take (Try.prog.cellsOf 3)) = xs[1]? := hf 1 _ rfl
    have f2 : DataW.trod enc Try.prog w base spare held n' 3 (([c0, c1, c2].drop 2).take (Try.prog.cellsOf 3)) = xs[2]? := hf 2 _ rfl
    simp only [e0, List.drop_zero, List.take_succ_cons, List.take_zero, List.drop_succ_cons] at f0 f1 f2
    rw [List.getElem?_eq_getElem (by rw [hxl]; decide)] at f0 f1 f2
    obtain ⟨k0, hk0, -, -⟩ := DataW.trod_int Try.underlying3 f0
    obtain ⟨k1, hk1, -, -⟩ := DataW.trod_int Try.underlying3 f1
    obtain ⟨k2, hk2, -, -⟩ := DataW.trod_int Try.underlying3 f2
    injection hk0 with hk0 _
    injection hk1 with hk1 _
    injection hk2 with hk2 _
    exact ⟨k0, k1, k2, by rw [hk0, hk1, hk2]⟩

end
end Go.Proofs.Ytohblakhojhklaa
