import Derived.Test.YtohblakhojhklaaWref
import Derived.Laws.AppendOwnNone
/- The walk of the law's Long over members; an append onto nothing. -/
namespace Go.Proofs.Ytohblakhojhklaa
open Go.RowKit Sp

theorem wpList_append_src {P : Program} (w : World) {ops : Array Oper} {rest : List Oper} {o : Oper} {a : Act} {Q : Exit → Act → World → Prop} (hgd : o.guard = none) (s x : Operand) (t : TypeId)
    (ho : o.op = .call { callee := .builtin .append, args := #[s, x], argTypes := #[t, t] })
    (base : Nat) (e : TypeId) (i : TypeInfo) (z : Value) (size bytes : Nat) (ht : P.underlying t = some (.slice e)) (hi : P.info? e = some i) (hz : i.zero = some z)
    (hsize : i.size = size) (hby : i.bytes = bytes) (hzs : z.cells.size = size) (hsz : 0 < size) (hs : a.eval s = .slice none 0 0)
    (src : Option Addr) (m c : Nat) (news : List Value) (hx : a.eval x = .slice src m c) (hnone : src = none → m = 0 ∧ c = 0) (hl : news.length = m * size)
    (hnews : ∀ ad, src = some ad → ∀ j u, news[j]? = some u → w.cell? (ad.add j) = some u) (h1 : ∀ u ∈ news, u.oneCell' = true)
    (h63 : m ≤ maxLen) (hbytes : m * bytes ≤ 140737488355328) (hbase : base ≤ w.heap.size)
    (h : ∀ a' c' w', w'.ownsRow base e size (.slice a' m c') m news → w.grownBy w' none → (a' = none → c' = 0) → wpList P ops Q rest (a.put o.dst (.slice a' m c')) w') : wpList P ops Q (o :: rest) a w := by
  cases src with
  | none =>
    obtain ⟨rfl, rfl⟩ := hnone rfl
    have hn : news = [] := by
      apply List.eq_nil_of_length_eq_zero; rw [hl]; simp
    subst hn
    exact wpList_append_own_none hgd s x t ho base e i size ht hi (.slice none 0 0) 0 [] hs (World.ownsRow_nil _ _ _ _) hx (h none 0 w (World.ownsRow_nil _ _ _ _) (World.grownBy.refl _ _) (fun _ => rfl))
  | some ad =>
    refine wpList_append_own w hgd s x t ho base e i z size bytes ht hi hz hsize hby hzs hsz (.slice none 0 0) 0 [] hs (World.ownsRow_nil _ _ _ _) ad m c news hx hl (hnews ad rfl) h1 (by omega) (by rw [Nat.zero_add]; exact hbytes) hbase ?_
    intro v' w' hown hg _
    rw [Nat.zero_add, List.nil_append] at hown
    rcases hown.2 with ⟨rfl, h0⟩ | ⟨g, cap, cur, rfl, hr⟩
    · subst h0; exact h none 0 w' hown hg (fun _ => rfl)
    · exact h (some ⟨g, 0, none⟩) cap w' hown hg (fun e => by cases e)

/-- Members, a receipt, of which the statements tell nothing. -/
def longMems (l : List Mem) : Bool := decide (20 < l.length) || l.any fun x => decide (20000 < x.dig.length)
theorem any_take_snoc {α : Type} {p : α → Bool} {l : List α} {k : Nat} (h : k < l.length) : (l.take (k + 1)).any p = ((l.take k).any p || p (l[k]'h)) := by
  rw [List.take_succ_eq_append_getElem h, List.any_append]; simp
theorem any_at {α : Type} {p : α → Bool} {l : List α} {k : Nat} (h : k < l.length) (hp : p (l[k]'h) = true) : l.any p = true := List.any_eq_true.2 ⟨_, List.getElem_mem h, hp⟩

set_option maxRecDepth 20000 in
set_option maxHeartbeats 2000000 in
theorem long12_calls (a : Option Addr) (n cap : Nat) (l : List Mem) (hn : n = l.length) (hl : l.length ≤ 10000000) (hd : ∀ x ∈ l, x.dig.length ≤ 10000000) (w : World) (h : MemsAt w a l) :
    Calls Try.prog 13 #[.slice a n cap] w fun e w' => e = .returned (.bool (longMems l)) ∧ Below w.heap.size w w' := by
  have H := hid h
  have Hn := hid hn
  have Hd := hid hd
  have hnl : n ≤ 10000000 := by omega
  obtain ⟨D, hD⟩ : ∃ D, longMems l = D := ⟨_, rfl⟩
  rw [hD]
  unfold longMems at hD
  rw [← hn] at hD
  have HD := hid hD
  clear h hn hl hD hd
  by_cases h20 : 20 < n
  · have HF : Kp (D = true) := hid (by rw [← HD.out]; simp [h20])
    have h20' : (20 : Int) < n := by omega
    go_enter Try.func13, Try.ntmps13
    go_wp2
    go_ret
    exact ⟨by rw [HF.out]; rfl, Below.refl _ _⟩
  have h20' : ¬ (20 : Int) < n := by omega
  have HD2 : Kp ((l.any fun x => decide (20000 < x.dig.length)) = D) := hid (by rw [← HD.out]; simp [h20])
  clear HD
  go_enter Try.func13, Try.ntmps13
  go_wp2
  go_loopw [3] (fun i wr => ∃ (k : Nat), k ≤ n ∧ i = .int .i64 k ∧ (l.take k).any (fun x => decide (20000 < x.dig.length)) = false ∧ Below w.heap.size w wr) (fun i _ => n - (intOf i).toNat)
  case atStart => exact ⟨0, by omega, rfl, rfl, Below.refl _ _⟩
  case round =>
    obtain ⟨k, hk, rfl, hall, hb⟩ := hrel
    have Hall := hid hall
    have Hb := hid hb
    clear hall hb
    by_cases hlt : k < n
    · have hkl : k < l.length := by have := Hn.out; omega
      obtain ⟨b, off, rfl, hc1, hc2⟩ := (H.out.below Hb.out) k hkl
      have hlt' : (k : Int) < n := by omega
      have hst := any_take_snoc (p := fun x : Mem => decide (20000 < x.dig.length)) hkl
      have hat := any_at (p := fun x : Mem => decide (20000 < x.dig.length)) hkl
      have hdl := Hd.out _ (List.getElem_mem hkl)
      rw [Hall.out] at hst
      generalize l[k]'hkl = y at hc1 hc2 hst hat hdl
      obtain ⟨y1, y2⟩ := y
      simp only at hc1 hc2 hst hat hdl
      by_cases hy : 20000 < y2.length
      · have hy' : (20000 : Int) < y2.length := by omega
        have HF : Kp (D = true) := hid (by rw [← HD2.out]; exact hat (by simpa using hy))
        clear hst hat
        go_wp2
        go_ret
        exact ⟨by rw [HF.out]; rfl, Hb.out⟩
      · have hy' : ¬ (20000 : Int) < y2.length := by omega
        have Hst := hid hst
        have hdf : decide (20000 < y2.length) = false := by simpa using hy
        have Hdf := hid hdf
        clear hst hat hdf
        go_wp2
        go_roundw
        case rel => exact ⟨k + 1, by omega, by go_num, by rw [Hst.out, Hdf.out]; rfl, Hb.out⟩
        case measure => simp [intOf]; omega
    · have hlt' : ¬ (k : Int) < n := by omega
      obtain rfl : k = n := by omega
      have HF : Kp (D = false) := hid (by
        rw [← HD2.out]
        have h1 := Hall.out
        rwa [List.take_of_length_le (by have := Hn.out; omega)] at h1)
      go_wp2
      go_ret
      exact ⟨by rw [HF.out]; rfl, Hb.out⟩
end Go.Proofs.Ytohblakhojhklaa
