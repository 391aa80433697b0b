import Derived.Test.YtegkolepemcocaaPrcpt
import Derived.Maps.Views
/- Plain: a map that counts. -/
namespace Go.Proofs.Ytegkolepemcocaa
open Go.Maps Sp

/-- A map's datum counts the numbers of a list. -/
def CntOf (D : DataW Unit) (l : List Int) : Prop := IsMap D ∧ ∀ k : Int, (k ∈ l → ∀ z, D.atKey (.int .i64 k) z = .lit (.int .i64 (l.count k : Nat))) ∧ (k ∉ l → ∀ z, D.atKey (.int .i64 k) z = z)

theorem cnt_nil : CntOf (.map []) [] := ⟨by simp [IsMap], fun k => ⟨fun h => by simp at h, fun _ z => rfl⟩⟩
theorem cnt_at {D : DataW Unit} {l : List Int} (h : CntOf D l) (k : Int) : D.atKey (.int .i64 k) (.lit (.int .i64 0)) = .lit (.int .i64 (l.count k : Nat)) := by
  by_cases hk : k ∈ l
  · exact (h.2 k).1 hk _
  · rw [(h.2 k).2 hk, List.count_eq_zero_of_not_mem hk]; rfl
theorem cnt_step {D : DataW Unit} {l : List Int} (h : CntOf D l) (k : Int) : CntOf (D.put (.int .i64 k) (.lit (.int .i64 ((l.count k : Nat) + 1)))) (l ++ [k]) := by
  refine ⟨?_, fun x => ?_⟩
  · obtain ⟨hm, -⟩ := h
    exact hm.put _ _
  · by_cases hx : x = k
    · subst hx
      refine ⟨fun _ z => ?_, fun hn => absurd (by simp) hn⟩
      rw [atKey_put_same h.1 (by simp [WideAt.IsKeyLit])]
      simp
    · have hne : Lit.int .i64 x ≠ Lit.int .i64 k := fun e => hx (by injection e)
      refine ⟨fun hm z => ?_, fun hn z => ?_⟩
      · rw [atKey_put_other hne]
        have hl : x ∈ l := by simpa [hx] using hm
        rw [(h.2 x).1 hl]
        have : [k].count x = 0 := List.count_eq_zero_of_not_mem (by simpa using hx)
        rw [List.count_append, this]; simp
      · rw [atKey_put_other hne]
        exact (h.2 x).2 (fun hl => hn (by simp [hl])) z

theorem noTwice_iff (l : List Int) : noTwice l = true ↔ ∀ k ∈ l, l.count k = 1 := by
  induction l with
  | nil => simp [noTwice]
  | cons x r ih =>
    simp only [noTwice, Bool.and_eq_true, Bool.not_eq_true', ih]
    constructor
    · rintro ⟨h1, h2⟩ k hk
      have hx : x ∉ r := by simpa using h1
      rcases List.mem_cons.1 hk with rfl | hk
      · rw [List.count_cons_self, List.count_eq_zero_of_not_mem hx]
      · have hne : k ≠ x := fun e => hx (e ▸ hk)
        rw [List.count_cons_of_ne (Ne.symm hne)]; exact h2 k hk
    · intro h
      have hx : x ∉ r := by
        have := h x (by simp)
        rw [List.count_cons_self] at this
        intro hm
        have := List.count_pos_iff.2 hm
        omega
      refine ⟨by simpa using hx, fun k hk => ?_⟩
      have hne : k ≠ x := fun e => hx (e ▸ hk)
      have := h k (by simp [hk])
      rwa [List.count_cons_of_ne (Ne.symm hne)] at this
end Go.Proofs.Ytegkolepemcocaa
