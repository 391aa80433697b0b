import Derived.Test.YtohblakhojhklaaPnum
/- Plain: terms as bytes (what package term computes), with no program in sight. -/
namespace Go.Proofs.Ytohblakhojhklaa
namespace Sp

def inName (b : UInt8) : Bool := (97 ≤ b && b ≤ 122) || (48 ≤ b && b ≤ 57) || b == 47 || b == 46 || b == 45
def named (t : Bs) : Bool := !t.isEmpty && t.all inName

def front : Bs → Except Nat (Nat × Nat)
  | [] => .error 6
  | c :: r =>
    if c = 100 then (match readText 1024 r with | .error e => .error e | .ok (_, k) => .ok (1 + k, 0))
    else if c = 97 then (match readText 32 r with | .error e => .error e | .ok (t, k) => if named t then .ok (1 + k, 0) else .error 7)
    else if c = 114 then (match readNum r with | .error e => .error e | .ok (v, k) => if v > 32 then .error 5 else .ok (1 + k, v))
    else if c = 104 then .ok (1, 1)
    else if c = 109 then .ok (1, 2)
    else if c = 115 then .ok (1, 3)
    else .error 7

def kids (rd : Bs → Except Nat Nat) : Nat → Bs → Except Nat Nat
  | 0, _ => .ok 0
  | k + 1, s => match rd s with
    | .error e => .error e
    | .ok m => match kids rd k (s.drop m) with
      | .error e => .error e
      | .ok q => .ok (m + q)

def readD : Nat → Bs → Except Nat Nat
  | 0, _ => .error 60
  | f + 1, s => match front s with
    | .error e => .error e
    | .ok (n, k) => match kids (readD f) k (s.drop n) with
      | .error e => .error e
      | .ok m => .ok (n + m)

def read (s : Bs) : Except Nat Nat := match readD 16 s with
  | .error e => .error e
  | .ok n => if n > 16384 then .error 5 else .ok n

def check (t : Bs) : Nat := match read t with
  | .error e => e
  | .ok n => if n = t.length then 0 else 7

def isTerm (t : Bs) : Bool := check t == 0

def kindNo (c : UInt8) : Nat := if c = 100 then 1 else if c = 97 then 2 else if c = 114 then 3 else if c = 104 then 4 else if c = 109 then 5 else 6
def kind (t : Bs) : Nat := if isTerm t then kindNo (t.headD 0) else 0

def text (t : Bs) : Option Bs := if kind t = 1 ∨ kind t = 2 then (match readText 1024 (t.drop 1) with | .ok (s, _) => some s | .error _ => some []) else none

def cuts (rd : Bs → Except Nat Nat) : Nat → Bs → List Bs
  | 0, _ => []
  | k + 1, s => match rd s with
    | .error _ => []
    | .ok m => s.take m :: cuts rd k (s.drop m)

/-- The parts of what reads. -/
def cut (t : Bs) : List Bs := match front t with
  | .error _ => []
  | .ok (n, k) => cuts (readD 15) k (t.drop n)
def parts (t : Bs) : Option (List Bs) := if isTerm t then some (cut t) else none

def readNumT (t : Bs) : Option Nat :=
  match text t with
  | none => none
  | some s => if t.headD 0 = 100 then (match readNum s with | .ok (v, n) => if n = s.length ∧ v ≤ 2147483647 then some v else none | .error _ => none) else none

/-- What is made: an error's number, or a term. -/
def made (letters : Bs) (l : List Bs) : Except Nat Bs :=
  if l.all isTerm then (if isTerm (letters ++ l.flatten) then .ok (letters ++ l.flatten) else .error 5) else .error 2
def data (s : Bs) : Except Nat Bs := if s.length > 1024 then .error 5 else .ok (100 :: textOf s)
def row (l : List Bs) : Except Nat Bs := made (114 :: numOf l.length) l
def rowB (l : List Bs) : Bs := 114 :: numOf l.length ++ l.flatten
def numB (v : Nat) : Bs := 100 :: textOf (numOf v)

/-! ### What a front tells -/
theorem front_ok {s : Bs} {n k : Nat} (h : front s = .ok (n, k)) : 1 ≤ n ∧ n ≤ s.length ∧ k ≤ 32 ∧ ∀ u : Bs, u.take n = s.take n → front u = .ok (n, k) := by
  cases s with
  | nil => simp [front] at h
  | cons c r =>
    have hext : ∀ (u : Bs) (m : Nat), u.take (1 + m) = (c :: r).take (1 + m) → ∃ q, u = c :: q ∧ q.take m = r.take m := by
      intro u m hu
      rw [Nat.add_comm] at hu
      cases u with
      | nil => simp at hu
      | cons d q => simp at hu; exact ⟨q, by rw [hu.1], hu.2⟩
    unfold front at h
    simp only at h
    split at h
    · rename_i hc
      split at h
      · cases h
      · rename_i t m hm
        injection h with h; injection h with h1 h2; subst h1; subst h2
        obtain ⟨a1, a2, a3, a4, a5⟩ := readText_ok hm
        refine ⟨by omega, by simp; omega, by omega, fun u hu => ?_⟩
        obtain ⟨q, rfl, hq⟩ := hext u m hu
        simp only [front, hc, if_true, readText_ext hm q hq]
    · rename_i c1
      split at h
      · rename_i hc
        split at h
        · cases h
        · rename_i t m hm
          split at h
          · rename_i hn
            injection h with h; injection h with h1 h2; subst h1; subst h2
            obtain ⟨a1, a2, a3, a4, a5⟩ := readText_ok hm
            refine ⟨by omega, by simp; omega, by omega, fun u hu => ?_⟩
            obtain ⟨q, rfl, hq⟩ := hext u m hu
            simp only [front, hc, if_true, readText_ext hm q hq, hn]
            rw [if_neg (by decide)]
          · cases h
      · rename_i c2
        split at h
        · rename_i hc
          split at h
          · cases h
          · rename_i v m hm
            split at h
            · cases h
            · rename_i hv
              injection h with h; injection h with h1 h2; subst h1; subst h2
              obtain ⟨a1, a2, a3, a4⟩ := readNum_ok hm
              refine ⟨by omega, by simp; omega, by omega, fun u hu => ?_⟩
              obtain ⟨q, rfl, hq⟩ := hext u m hu
              simp only [front, hc, if_true, readNum_ext hm q hq, if_neg hv]
              rw [if_neg (by decide), if_neg (by decide)]
        · rename_i c3
          have one : ∀ k : Nat, k ≤ 32 → front (c :: r) = .ok (1, k) → (∀ q, front (c :: q) = front (c :: r)) → 1 ≤ 1 ∧ 1 ≤ (c :: r).length ∧ k ≤ 32 ∧ ∀ u : Bs, u.take 1 = (c :: r).take 1 → front u = .ok (1, k) := by
            intro k hk hf hq
            refine ⟨by omega, by simp, hk, fun u hu => ?_⟩
            cases u with
            | nil => simp at hu
            | cons d q => simp at hu; subst hu; rw [hq, hf]
          have e0 : ∀ q, front (c :: q) = if c = 104 then .ok (1, 1) else if c = 109 then .ok (1, 2) else if c = 115 then .ok (1, 3) else .error 7 := by
            intro q
            simp only [front, if_neg c1, if_neg c2, if_neg c3]
          have hh : front (c :: r) = .ok (n, k) := by rw [e0]; exact h
          split at h
          · injection h with h; injection h with h1 h2; subst h1; subst h2
            exact one 1 (by omega) hh fun q => by rw [e0, e0]
          · split at h
            · injection h with h; injection h with h1 h2; subst h1; subst h2
              exact one 2 (by omega) hh fun q => by rw [e0, e0]
            · split at h
              · injection h with h; injection h with h1 h2; subst h1; subst h2
                exact one 3 (by omega) hh fun q => by rw [e0, e0]
              · cases h

/-! ### What a reading tells -/
structure Good (rd : Bs → Except Nat Nat) : Prop where
  pos : ∀ {s n}, rd s = .ok n → 1 ≤ n
  le : ∀ {s n}, rd s = .ok n → n ≤ s.length
  ext : ∀ {s n}, rd s = .ok n → ∀ u : Bs, u.take n = s.take n → rd u = .ok n

theorem take_sub {s u : Bs} {a b : Nat} (h : u.take (a + b) = s.take (a + b)) : u.take a = s.take a ∧ (u.drop a).take b = (s.drop a).take b := by
  constructor
  · have := congrArg (List.take a) h
    simpa [List.take_take, Nat.min_eq_left (Nat.le_add_right a b)] using this
  · have := congrArg (List.drop a) h
    simpa [List.drop_take] using this

theorem kids_good {rd : Bs → Except Nat Nat} (hr : Good rd) : ∀ (k : Nat) {s : Bs} {n : Nat}, kids rd k s = .ok n → n ≤ s.length ∧ ∀ u : Bs, u.take n = s.take n → kids rd k u = .ok n
  | 0, s, n, h => by
    simp only [kids] at h; injection h with h; subst h
    exact ⟨by omega, fun u _ => rfl⟩
  | k + 1, s, n, h => by
    simp only [kids] at h
    split at h
    · cases h
    · rename_i m hm
      split at h
      · cases h
      · rename_i q hq
        injection h with h; subst h
        obtain ⟨a1, a2⟩ := kids_good hr k hq
        have b1 := hr.le hm
        refine ⟨by simp at a1; omega, fun u hu => ?_⟩
        obtain ⟨e1, e2⟩ := take_sub hu
        simp only [kids, hr.ext hm u e1, a2 _ e2]

theorem readD_good : ∀ f, Good (readD f)
  | 0 => ⟨fun h => by simp [readD] at h, fun h => by simp [readD] at h, fun h => by simp [readD] at h⟩
  | f + 1 => by
    have core : ∀ {s : Bs} {n : Nat}, readD (f + 1) s = .ok n → 1 ≤ n ∧ n ≤ s.length ∧ ∀ u : Bs, u.take n = s.take n → readD (f + 1) u = .ok n := by
      intro s n h
      simp only [readD] at h
      split at h
      · cases h
      · rename_i m k hf
        split at h
        · cases h
        · rename_i q hq
          injection h with h; subst h
          obtain ⟨a1, a2, a3, a4⟩ := front_ok hf
          obtain ⟨b1, b2⟩ := kids_good (readD_good f) k hq
          refine ⟨by omega, by simp at b1; omega, fun u hu => ?_⟩
          obtain ⟨e1, e2⟩ := take_sub hu
          simp only [readD, a4 u e1, b2 _ e2]
    exact ⟨fun h => (core h).1, fun h => (core h).2.1, fun h => (core h).2.2⟩

theorem kids_mono {rd rd' : Bs → Except Nat Nat} (h : ∀ s n, rd s = .ok n → rd' s = .ok n) : ∀ (k : Nat) {s : Bs} {n : Nat}, kids rd k s = .ok n → kids rd' k s = .ok n
  | 0, s, n, e => e
  | k + 1, s, n, e => by
    simp only [kids] at e ⊢
    split at e
    · cases e
    · rename_i m hm
      rw [h _ _ hm]
      split at e
      · cases e
      · rename_i q hq
        simp only [kids_mono h k hq]
        exact e

theorem readD_mono1 : ∀ (f : Nat) (s : Bs) (n : Nat), readD f s = .ok n → readD (f + 1) s = .ok n
  | 0, s, n, h => by simp [readD] at h
  | f + 1, s, n, h => by
    rw [readD] at h ⊢
    split at h
    · cases h
    · rename_i m k hf
      split at h
      · cases h
      · rename_i q hq
        simp only [kids_mono (readD_mono1 f) k hq]
        exact h

theorem readD_mono {f g : Nat} (hfg : f ≤ g) {s : Bs} {n : Nat} (h : readD f s = .ok n) : readD g s = .ok n := by
  induction g with
  | zero => have : f = 0 := by omega
            subst this; exact h
  | succ g ih =>
    by_cases e : f = g + 1
    · subst e; exact h
    · exact readD_mono1 g s n (ih (by omega))

theorem readD_app {f : Nat} {p : Bs} (h : readD f p = .ok p.length) (r : Bs) : readD f (p ++ r) = .ok p.length := (readD_good f).ext h _ (by simp)

/-! ### Errors are no zero -/
theorem readNum_err {s : Bs} {e : Nat} (h : readNum s = .error e) : e = 6 ∨ e = 7 := by
  cases s with
  | nil => simp [readNum] at h; omega
  | cons b r =>
    simp only [readNum] at h
    split at h
    · cases h
    · split at h
      · injection h with h; omega
      · split at h
        · injection h with h; omega
        · cases h
theorem readText_err {m : Nat} {s : Bs} {e : Nat} (h : readText m s = .error e) : e = 5 ∨ e = 6 ∨ e = 7 := by
  unfold readText at h
  split at h
  · rename_i e' he
    injection h with h; subst h
    have := readNum_err he
    omega
  · split at h
    · injection h with h; omega
    · split at h
      · injection h with h; omega
      · cases h
theorem front_err {s : Bs} {e : Nat} (h : front s = .error e) : e = 5 ∨ e = 6 ∨ e = 7 := by
  cases s with
  | nil => simp [front] at h; omega
  | cons c r =>
    simp only [front] at h
    split at h
    · split at h
      · rename_i e' he
        injection h with h; subst h; exact readText_err he
      · cases h
    · split at h
      · split at h
        · rename_i e' he
          injection h with h; subst h; exact readText_err he
        · split at h
          · cases h
          · injection h with h; omega
      · split at h
        · split at h
          · rename_i e' he
            injection h with h; subst h; have := readNum_err he; omega
          · split at h
            · injection h with h; omega
            · cases h
        · split at h
          · cases h
          · split at h
            · cases h
            · split at h
              · cases h
              · injection h with h; omega
theorem kids_err {rd : Bs → Except Nat Nat} {Q : Nat → Prop} (hr : ∀ s e, rd s = .error e → Q e) : ∀ (k : Nat) (s : Bs) (e : Nat), kids rd k s = .error e → Q e
  | 0, s, e, h => by simp [kids] at h
  | k + 1, s, e, h => by
    simp only [kids] at h
    split at h
    · rename_i e' he
      injection h with h; subst h; exact hr _ _ he
    · split at h
      · rename_i e' he
        injection h with h; subst h; exact kids_err hr k _ _ he
      · cases h
theorem readD_err : ∀ (f : Nat) (s : Bs) (e : Nat), readD f s = .error e → e = 5 ∨ e = 6 ∨ e = 7 ∨ e = 60
  | 0, s, e, h => by simp [readD] at h; omega
  | f + 1, s, e, h => by
    simp only [readD] at h
    split at h
    · rename_i e' he
      injection h with h; subst h; have := front_err he; omega
    · split at h
      · rename_i e' he
        injection h with h; subst h; exact kids_err (readD_err f) _ _ _ he
      · cases h
theorem read_err {s : Bs} {e : Nat} (h : read s = .error e) : e = 5 ∨ e = 6 ∨ e = 7 ∨ e = 60 := by
  unfold read at h
  split at h
  · rename_i e' he
    injection h with h; subst h; exact readD_err _ _ _ he
  · split at h
    · injection h with h; omega
    · cases h
theorem check_lt (t : Bs) : check t ≤ 60 := by
  unfold check
  split
  · rename_i e he
    have := read_err he; omega
  · split <;> omega

/-! ### Terms -/
theorem isTerm_iff (t : Bs) : isTerm t = true ↔ readD 16 t = .ok t.length ∧ t.length ≤ 16384 := by
  unfold isTerm check
  constructor
  · intro h
    split at h
    · rename_i e he
      have := read_err he
      simp at h; omega
    · rename_i n hn
      unfold read at hn
      split at hn
      · cases hn
      · rename_i m hm
        split at hn
        · cases hn
        · injection hn with hn; subst hn
          split at h
          · rename_i e; exact ⟨by rw [← e]; exact hm, by omega⟩
          · simp at h
  · rintro ⟨h1, h2⟩
    unfold read
    rw [h1]
    simp [Nat.not_lt.2 h2]
theorem isTerm_ne {t : Bs} (h : isTerm t = true) : t ≠ [] := by
  intro e; subst e
  have := (readD_good 16).pos ((isTerm_iff _).1 h).1
  simp at this
theorem isTerm_len {t : Bs} (h : isTerm t = true) : t.length ≤ 16384 := ((isTerm_iff _).1 h).2
theorem isTerm_check {t : Bs} : isTerm t = true ↔ check t = 0 := by simp [isTerm]
theorem not_isTerm_check {t : Bs} : isTerm t = false ↔ check t ≠ 0 := by simp [isTerm]

/-! ### Rows of readings -/
theorem kids_flatten {rd : Bs → Except Nat Nat} (hr : Good rd) : ∀ (l : List Bs) (r : Bs), (∀ p ∈ l, rd p = .ok p.length) → kids rd l.length (l.flatten ++ r) = .ok l.flatten.length
  | [], r, _ => rfl
  | p :: l, r, h => by
    have hp : rd (p ++ (l.flatten ++ r)) = .ok p.length := hr.ext (h p (by simp)) _ (by simp)
    simp only [List.length_cons, List.flatten_cons, List.append_assoc, kids, hp]
    rw [List.drop_left, kids_flatten hr l r (fun q hq => h q (by simp [hq]))]
    simp
theorem cuts_flatten {rd : Bs → Except Nat Nat} (hr : Good rd) : ∀ (l : List Bs) (r : Bs), (∀ p ∈ l, rd p = .ok p.length) → cuts rd l.length (l.flatten ++ r) = l
  | [], r, _ => rfl
  | p :: l, r, h => by
    have hp : rd (p ++ (l.flatten ++ r)) = .ok p.length := hr.ext (h p (by simp)) _ (by simp)
    simp only [List.length_cons, List.flatten_cons, List.append_assoc, cuts, hp]
    rw [List.take_left, List.drop_left, cuts_flatten hr l r (fun q hq => h q (by simp [hq]))]
/-- What kids read is what cuts cut. -/
theorem kids_cuts {rd : Bs → Except Nat Nat} (hr : Good rd) : ∀ (k : Nat) (s : Bs) (n : Nat), kids rd k s = .ok n → (cuts rd k s).length = k ∧ (cuts rd k s).flatten = s.take n ∧ ∀ p ∈ cuts rd k s, rd p = .ok p.length
  | 0, s, n, h => by
    simp only [kids] at h; injection h with h; subst h
    simp [cuts]
  | k + 1, s, n, h => by
    simp only [kids] at h
    split at h
    · cases h
    · rename_i m hm
      split at h
      · cases h
      · rename_i q hq
        injection h with h; subst h
        obtain ⟨a1, a2, a3⟩ := kids_cuts hr k _ _ hq
        have hl := hr.le hm
        have hml : (s.take m).length = m := by simp; omega
        simp only [cuts, hm]
        refine ⟨by simp [a1], ?_, ?_⟩
        · rw [List.flatten_cons, a2]
          rw [List.take_add]
        · intro p hp
          rcases List.mem_cons.1 hp with rfl | hp
          · rw [hml]; exact hr.ext hm _ (by simp [List.take_take])
          · exact a3 p hp
/-- Readings that end where their parts do are the parts' own. -/
theorem kids_flatten_back {rd rd' : Bs → Except Nat Nat} (hr : Good rd) (hr' : Good rd') (hm : ∀ s n, rd s = .ok n → rd' s = .ok n) : ∀ (l : List Bs) (r : Bs) (n : Nat), (∀ p ∈ l, rd' p = .ok p.length) → kids rd l.length (l.flatten ++ r) = .ok n → ∀ p ∈ l, rd p = .ok p.length
  | [], r, n, _, _ => by simp
  | p :: l, r, n, h, hk => by
    have hp : rd' (p ++ (l.flatten ++ r)) = .ok p.length := hr'.ext (h p (by simp)) _ (by simp)
    simp only [List.length_cons, List.flatten_cons, List.append_assoc, kids] at hk
    split at hk
    · cases hk
    · rename_i m hm'
      have e := hm _ _ hm'
      rw [hp] at e
      injection e with e; subst e
      split at hk
      · cases hk
      · rename_i q hq
        rw [List.drop_left] at hq
        intro x hx
        rcases List.mem_cons.1 hx with rfl | hx
        · exact hr.ext hm' _ (by simp)
        · exact kids_flatten_back hr hr' hm l r q (fun y hy => h y (by simp [hy])) hq x hx

theorem front_row (k : Nat) (hk : k ≤ 32) (r : Bs) : front (114 :: numOf k ++ r) = .ok (1 + (numOf k).length, k) := by
  simp only [List.cons_append, front, readNum_numOf k (by omega) r]
  rw [if_neg (by decide), if_neg (by decide), if_pos trivial, if_neg (by omega)]
theorem front_rowB {l : List Bs} (hk : l.length ≤ 32) : front (rowB l) = .ok (1 + (numOf l.length).length, l.length) := by
  unfold rowB; exact front_row _ hk _
theorem rowB_drop (l : List Bs) : (rowB l).drop (1 + (numOf l.length).length) = l.flatten := by
  unfold rowB; rw [Nat.add_comm]; simp
theorem rowB_length (l : List Bs) : (rowB l).length = 1 + (numOf l.length).length + l.flatten.length := by unfold rowB; simp; omega
theorem readD_rowB {f : Nat} {l : List Bs} (hk : l.length ≤ 32) (h : ∀ p ∈ l, readD f p = .ok p.length) : readD (f + 1) (rowB l) = .ok (rowB l).length := by
  have := kids_flatten (readD_good f) l [] h
  rw [List.append_nil] at this
  simp only [readD, front_rowB hk, rowB_drop, this, rowB_length]
theorem rowB_long {l : List Bs} (hk : 32 < l.length) (hl : l.length < 18446744073709551616) : isTerm (rowB l) = false := by
  rw [Bool.eq_false_iff]
  intro h
  have h1 := ((isTerm_iff _).1 h).1
  have : front (rowB l) = .error 5 := by
    unfold rowB
    simp only [List.cons_append, front, readNum_numOf _ hl l.flatten]
    rw [if_neg (by decide), if_neg (by decide), if_pos trivial, if_pos hk]
  simp [readD, this] at h1
theorem rowB_parts {l : List Bs} (ht : ∀ p ∈ l, isTerm p = true) (h : isTerm (rowB l) = true) (hl : l.length < 18446744073709551616) : l.length ≤ 32 ∧ ∀ p ∈ l, readD 15 p = .ok p.length := by
  have hk : l.length ≤ 32 := by
    rcases Nat.lt_or_ge 32 l.length with hg | hg
    · rw [rowB_long hg hl] at h; cases h
    · exact hg
  refine ⟨hk, ?_⟩
  have h1 := ((isTerm_iff _).1 h).1
  rw [readD, front_rowB hk] at h1
  simp only [rowB_drop] at h1
  split at h1
  · cases h1
  · rename_i m hm
    have hm' : kids (readD 15) l.length (l.flatten ++ []) = .ok m := by rw [List.append_nil]; exact hm
    exact kids_flatten_back (readD_good 15) (readD_good 16) (readD_mono1 15) l [] m (fun p hp => ((isTerm_iff _).1 (ht p hp)).1) hm'
theorem cut_rowB {l : List Bs} (hk : l.length ≤ 32) (h : ∀ p ∈ l, readD 15 p = .ok p.length) : cut (rowB l) = l := by
  unfold cut
  rw [front_rowB hk]
  simp only [rowB_drop]
  have := cuts_flatten (readD_good 15) l [] h
  rwa [List.append_nil] at this
/-- What made a row is its parts. -/
theorem parts_rowB {l : List Bs} (ht : ∀ p ∈ l, isTerm p = true) (h : isTerm (rowB l) = true) (hl : l.length < 18446744073709551616) : cut (rowB l) = l := by
  obtain ⟨h1, h2⟩ := rowB_parts ht h hl
  exact cut_rowB h1 h2
theorem readD15_isTerm {p : Bs} (h : readD 15 p = .ok p.length) (hl : p.length ≤ 16384) : isTerm p = true := (isTerm_iff _).2 ⟨readD_mono1 15 _ _ h, hl⟩
theorem len_le_sum : ∀ {l : List Bs} {p : Bs}, p ∈ l → p.length ≤ (l.map List.length).sum
  | [], p, h => by simp at h
  | q :: l, p, h => by
    simp only [List.map_cons, List.sum_cons]
    rcases List.mem_cons.1 h with rfl | h
    · omega
    · have := len_le_sum h; omega
/-- A term that is a row is that of its parts. -/
theorem row_back {t : Bs} (h : isTerm t = true) (hc : t.headD 0 = 114) : t = rowB (cut t) ∧ (∀ p ∈ cut t, isTerm p = true) ∧ (cut t).length ≤ 32 := by
  obtain ⟨h1, h2⟩ := (isTerm_iff t).1 h
  cases t with
  | nil => simp at hc
  | cons c r =>
    simp only [List.headD_cons] at hc; subst hc
    rw [readD] at h1
    split at h1
    · cases h1
    · rename_i n k hf
      split at h1
      · cases h1
      · rename_i m hm
        injection h1 with h1
        have hcut : cut (114 :: r) = cuts (readD 15) k ((114 :: r).drop n) := by unfold cut; rw [hf]
        obtain ⟨a1, a2, a3⟩ := kids_cuts (readD_good 15) k _ _ hm
        rw [← hcut] at a1 a2 a3
        have hlen : ∀ p ∈ cut (114 :: r), p.length ≤ 16384 := by
          intro p hp
          have h4 : p.length ≤ (cut (114 :: r)).flatten.length := by
            rw [List.length_flatten]
            exact len_le_sum hp
          have h5 : (cut (114 :: r)).flatten.length ≤ (114 :: r).length := by
            rw [a2]; simp; omega
          omega
        obtain ⟨f1, f2, f3, f4⟩ := front_ok hf
        refine ⟨?_, fun p hp => readD15_isTerm (a3 p hp) (hlen p hp), by omega⟩
        have hall : ((114 :: r).drop n).take m = (114 :: r).drop n := by
          apply List.take_of_length_le
          simp only [List.length_drop]; omega
        unfold rowB
        rw [a1, a2, hall]
        -- the front
        have hf' := hf
        simp only [front] at hf'
        rw [if_neg (by decide), if_neg (by decide), if_pos trivial] at hf'
        split at hf'
        · cases hf'
        · rename_i v j hv
          split at hf'
          · cases hf'
          · injection hf' with hf'; injection hf' with e1 e2; subst e1; subst e2
            obtain ⟨b1, b2, b3, b4⟩ := readNum_ok hv
            rw [Nat.add_comm 1 j, List.drop_succ_cons]
            simp only [List.cons_append]
            rw [← b1]

end Sp
end Go.Proofs.Ytohblakhojhklaa
