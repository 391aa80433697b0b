import Derived.Test.YtohblakhojhklaaPterm
/- Plain: what term's walk tells on its way (each place: from, to, how deep), and that the places at depth 2 are the parts. -/
namespace Go.Proofs.Ytohblakhojhklaa
namespace Sp

abbrev Ev := Nat × Nat × Nat

def evK (rd : Bs → Except Nat Nat) (ev : Nat → List Ev) (s : Bs) : Nat → Nat → List Ev × Nat
  | 0, a => ([], a)
  | k + 1, a => match rd (s.drop a) with
    | .error _ => ([], a)
    | .ok m => (ev a ++ (evK rd ev s k (a + m)).1, (evK rd ev s k (a + m)).2)

def evD : Nat → Bs → Nat → Nat → List Ev
  | 0, _, _, _ => []
  | f + 1, s, a, d => match front (s.drop a) with
    | .error _ => []
    | .ok (n, k) => (evK (readD f) (fun b => evD f s b (d + 1)) s k (a + n)).1 ++ [(a, (evK (readD f) (fun b => evD f s b (d + 1)) s k (a + n)).2, d)]

theorem evK_end (rd : Bs → Except Nat Nat) (ev : Nat → List Ev) (s : Bs) : ∀ (k a q : Nat), kids rd k (s.drop a) = .ok q → (evK rd ev s k a).2 = a + q
  | 0, a, q, h => by simp only [kids] at h; injection h with h; subst h; rfl
  | k + 1, a, q, h => by
    simp only [kids] at h
    split at h
    · cases h
    · rename_i m hm
      split at h
      · cases h
      · rename_i r hr
        injection h with h; subst h
        rw [List.drop_drop] at hr
        simp only [evK, hm, evK_end rd ev s k (a + m) r hr]
        omega

theorem evK_deep (rd : Bs → Except Nat Nat) (ev : Nat → List Ev) (s : Bs) (d : Nat) (h : ∀ a, ∀ x ∈ ev a, d ≤ x.2.2) : ∀ (k a : Nat), ∀ x ∈ (evK rd ev s k a).1, d ≤ x.2.2
  | 0, a, x, hx => by simp [evK] at hx
  | k + 1, a, x, hx => by
    simp only [evK] at hx
    split at hx
    · simp at hx
    · rename_i m hm
      rcases List.mem_append.1 hx with hx | hx
      · exact h a x hx
      · exact evK_deep rd ev s d h k _ x hx
theorem evD_deep : ∀ (f : Nat) (s : Bs) (a d : Nat), ∀ x ∈ evD f s a d, d ≤ x.2.2
  | 0, s, a, d, x, hx => by simp [evD] at hx
  | f + 1, s, a, d, x, hx => by
    simp only [evD] at hx
    split at hx
    · simp at hx
    · rename_i n k hf
      rcases List.mem_append.1 hx with hx | hx
      · have := evK_deep (readD f) _ s (d + 1) (fun b => evD_deep f s b (d + 1)) k _ x hx
        omega
      · simp at hx; subst hx; exact Nat.le_refl _

/-- The pieces that stand at one depth. -/
def piecesAt (d : Nat) (s : Bs) (l : List Ev) : List Bs := (l.filter fun x => x.2.2 == d).map fun x => (s.drop x.1).take (x.2.1 - x.1)
theorem piecesAt_append (d : Nat) (s : Bs) (l m : List Ev) : piecesAt d s (l ++ m) = piecesAt d s l ++ piecesAt d s m := by simp [piecesAt]
theorem piecesAt_deep (d : Nat) (s : Bs) (l : List Ev) (h : ∀ x ∈ l, d + 1 ≤ x.2.2) : piecesAt d s l = [] := by
  unfold piecesAt
  rw [List.filter_eq_nil_iff.2 (fun x hx => by have := h x hx; simp; omega)]
  rfl
/-- At its own depth a reading tells itself, once. -/
theorem piecesAt_own (f : Nat) (s : Bs) (a d m : Nat) (h : readD f (s.drop a) = .ok m) : piecesAt d s (evD f s a d) = [(s.drop a).take m] := by
  cases f with
  | zero => simp [readD] at h
  | succ f =>
    simp only [readD] at h
    split at h
    · cases h
    · rename_i n k hf
      split at h
      · cases h
      · rename_i q hq
        injection h with h; subst h
        rw [List.drop_drop] at hq
        simp only [evD, hf, piecesAt_append]
        rw [piecesAt_deep d s _ (evK_deep _ _ s (d + 1) (fun b => evD_deep f s b (d + 1)) k _), evK_end _ _ s k _ q hq]
        simp only [piecesAt, List.nil_append, List.filter_cons, beq_self_eq_true, if_true, List.filter_nil, List.map_cons, List.map_nil]
        congr 2; omega
theorem pieces_kids (f : Nat) (s : Bs) (d : Nat) : ∀ (k a q : Nat), kids (readD f) k (s.drop a) = .ok q → piecesAt d s (evK (readD f) (fun b => evD f s b d) s k a).1 = cuts (readD f) k (s.drop a)
  | 0, a, q, h => by simp [evK, cuts, piecesAt]
  | k + 1, a, q, h => by
    simp only [kids] at h
    split at h
    · cases h
    · rename_i m hm
      split at h
      · cases h
      · rename_i r hr
        have hr' := hr
        rw [List.drop_drop] at hr'
        simp only [evK, hm, piecesAt_append, cuts, List.drop_drop]
        rw [piecesAt_own f s a d m hm, pieces_kids f s d k (a + m) r hr']
        rfl
theorem pieces_cutF (f : Nat) (t : Bs) (m : Nat) (h : readD (f + 1) t = .ok m) : piecesAt 2 t (evD (f + 1) t 0 1) = match front t with | .error _ => [] | .ok (n, k) => cuts (readD f) k (t.drop n) := by
  simp only [readD] at h
  simp only [evD, List.drop_zero]
  split at h
  · cases h
  · rename_i n k hf
    split at h
    · cases h
    · rename_i q hq
      simp only [hf, piecesAt_append, Nat.zero_add]
      rw [pieces_kids f t 2 k n q hq]
      have : piecesAt 2 t [(0, (evK (readD f) (fun b => evD f t b (1 + 1)) t k n).2, 1)] = [] := by
        unfold piecesAt
        rw [List.filter_eq_nil_iff.2 (by simp)]
        rfl
      rw [this, List.append_nil]
/-- The places at depth 2 of a term are its parts. -/
theorem pieces_cut (t : Bs) (m : Nat) (h : readD 16 t = .ok m) : piecesAt 2 t (evD 16 t 0 1) = cut t := pieces_cutF 15 t m h

theorem evK_length (rd : Bs → Except Nat Nat) (ev : Nat → List Ev) (s : Bs) (h : ∀ a m, rd (s.drop a) = .ok m → (ev a).length ≤ m) : ∀ (k a q : Nat), kids rd k (s.drop a) = .ok q → (evK rd ev s k a).1.length ≤ q
  | 0, a, q, _ => by simp [evK]
  | k + 1, a, q, hq => by
    simp only [kids] at hq
    split at hq
    · cases hq
    · rename_i m hm
      split at hq
      · cases hq
      · rename_i r hr
        injection hq with hq; subst hq
        rw [List.drop_drop] at hr
        have h1 := h a m hm
        have h2 := evK_length rd ev s h k (a + m) r hr
        simp only [evK, hm, List.length_append]
        omega
theorem evD_length : ∀ (f : Nat) (s : Bs) (d a m : Nat), readD f (s.drop a) = .ok m → (evD f s a d).length ≤ m
  | 0, s, d, a, m, h => by simp [readD] at h
  | f + 1, s, d, a, m, h => by
    simp only [readD] at h
    split at h
    · cases h
    · rename_i n k hf
      split at h
      · cases h
      · rename_i q hq
        injection h with h; subst h
        rw [List.drop_drop] at hq
        have h1 := (front_ok hf).1
        have h2 := evK_length (readD f) (fun b => evD f s b (d + 1)) s (fun b m hm => evD_length f s (d + 1) b m hm) k (a + n) q hq
        simp only [evD, hf, List.length_append, List.length_singleton]
        omega

/-- How far a walk through k parts has come: j of them, up to z, having told done. -/
structure Inv (f : Nat) (s : Bs) (d k b0 j z : Nat) (done : List Ev) : Prop where
  le : j ≤ k
  from_ : b0 ≤ z
  inn : z ≤ s.length
  cnt : done.length ≤ z - b0
  ok : ∀ m, kids (readD f) (k - j) (s.drop z) = .ok m → kids (readD f) k (s.drop b0) = .ok (z - b0 + m)
  err : ∀ e, kids (readD f) (k - j) (s.drop z) = .error e → kids (readD f) k (s.drop b0) = .error e
  ev : (evK (readD f) (fun b => evD f s b d) s k b0).1 = done ++ (evK (readD f) (fun b => evD f s b d) s (k - j) z).1
theorem Inv.start {f : Nat} {s : Bs} {d k b0 : Nat} (h : b0 ≤ s.length) : Inv f s d k b0 0 b0 [] := ⟨by omega, by omega, h, by simp, fun m hm => by simpa using hm, fun e he => by simpa using he, by simp⟩
theorem Inv.step {f : Nat} {s : Bs} {d k b0 j z m : Nat} {done : List Ev} (h : Inv f s d k b0 j z done) (hj : j < k) (hm : readD f (s.drop z) = .ok m) : Inv f s d k b0 (j + 1) (z + m) (done ++ evD f s z d) := by
  obtain ⟨h1, h2, h3, h7, h4, h5, h6⟩ := h
  have hc := evD_length f s d z m hm
  have hl := (readD_good f).le hm
  simp only [List.length_drop] at hl
  obtain ⟨r, hr⟩ : ∃ r, k - j = r + 1 := ⟨k - j - 1, by omega⟩
  have hr' : k - (j + 1) = r := by omega
  rw [hr] at h4 h5 h6
  refine ⟨by omega, by omega, by omega, by rw [List.length_append]; omega, fun q hq => ?_, fun e he => ?_, ?_⟩
  · rw [hr', ← List.drop_drop] at hq
    rw [h4 (m + q) (by simp only [kids, hm, hq])]
    congr 1; omega
  · rw [hr', ← List.drop_drop] at he
    exact h5 e (by simp only [kids, hm, he])
  · rw [h6, hr']; simp only [evK, hm, List.append_assoc]
theorem Inv.fails {f : Nat} {s : Bs} {d k b0 j z e : Nat} {done : List Ev} (h : Inv f s d k b0 j z done) (hj : j < k) (he : readD f (s.drop z) = .error e) : kids (readD f) k (s.drop b0) = .error e := by
  obtain ⟨r, hr⟩ : ∃ r, k - j = r + 1 := ⟨k - j - 1, by omega⟩
  apply h.err
  rw [hr]; simp only [kids, he]
theorem Inv.done {f : Nat} {s : Bs} {d k b0 z : Nat} {done : List Ev} (h : Inv f s d k b0 k z done) : kids (readD f) k (s.drop b0) = .ok (z - b0) ∧ evK (readD f) (fun b => evD f s b d) s k b0 = (done, z) := by
  have h1 := h.ok 0 (by simp [kids])
  have h2 := h.ev
  refine ⟨by simpa using h1, ?_⟩
  have h3 := evK_end (readD f) (fun b => evD f s b d) s k b0 _ h1
  have h4 := h.from_
  refine Prod.ext ?_ ?_
  · rw [h2]; simp [evK]
  · rw [h3]; simp; omega

end Sp
end Go.Proofs.Ytohblakhojhklaa
