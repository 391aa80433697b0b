import Derived.Test.YtohblakhojhklaaWread
/- The walks of term's Check, is, Kind, Text, ReadNum. -/
namespace Go.Proofs.Ytohblakhojhklaa
open Go.RowKit Sp

set_option maxRecDepth 20000 in
set_option maxHeartbeats 1000000 in
theorem check_calls (s : Bs) (hm : s.length ≤ 100000000) (w : World) : Calls Try.prog 44 #[.string (ofL s)] w fun e w' => e = .returned (.int .i64 (check s : Nat)) ∧ Below w.heap.size w w' := by
  have c := read_calls s hm w
  cases hr : Sp.read s with
  | error x =>
    have he := read_err hr
    have hf : check s = x := by unfold check; rw [hr]
    rw [hf]
    rw [hr] at c
    simp only [readEnd] at c
    have C := hid c
    have h0 : ((x : Int) == 0) = false := by simp; omega
    clear c hr he hf
    go_enter Try.func44, Try.ntmps44
    go_wp2_with fail
    refine C.out.mono ?_
    rintro e w1 ⟨rfl, hb⟩
    go_wp2
    go_ret
    exact ⟨rfl, hb⟩
  | ok n =>
    rw [hr] at c
    simp only [readEnd] at c
    have C := hid c
    by_cases hn : n = s.length
    · have hf : check s = 0 := by unfold check; rw [hr]; simp [hn]
      rw [hf]
      subst hn
      clear c hr hf
      go_enter Try.func44, Try.ntmps44
      go_wp2_with fail
      refine C.out.mono ?_
      rintro e w1 ⟨rfl, hb⟩
      go_wp2
      go_ret
      exact ⟨rfl, hb⟩
    · have hf : check s = 7 := by unfold check; rw [hr]; simp [hn]
      rw [hf]
      have h1 : ((n : Int) != (s.length : Int)) = true := by simp; omega
      clear c hr hf hn
      go_enter Try.func44, Try.ntmps44
      go_wp2_with fail
      refine C.out.mono ?_
      rintro e w1 ⟨rfl, hb⟩
      go_wp2
      go_ret
      exact ⟨rfl, hb⟩

/-- The strings that a slice's cells hold. -/
def StrsAt (w : World) (a : Option Addr) (l : List Bs) : Prop := ∀ i (h : i < l.length), ∃ b off, a = some ⟨b, off, none⟩ ∧ w.cell? ⟨b, off + i, none⟩ = some (.string (ofL (l[i]'h)))
theorem StrsAt.below {w w1 : World} {a : Option Addr} {l : List Bs} (h : StrsAt w a l) (hb : Below w.heap.size w w1) : StrsAt w1 a l := fun i hi => by
  obtain ⟨b, off, e, hc⟩ := h i hi
  exact ⟨b, off, e, (hb.cell (World.block_lt_of_cell? w _ hc)).trans hc⟩
theorem StrsAt.nil (w : World) (a : Option Addr) : StrsAt w a [] := fun i h => by simp at h

theorem all_take_snoc {p : Bs → Bool} {l : List Bs} {k : Nat} (h : k < l.length) : (l.take (k + 1)).all p = ((l.take k).all p && p (l[k]'h)) := by
  rw [List.take_succ_eq_append_getElem h, List.all_append]; simp
theorem all_false {p : Bs → Bool} {l : List Bs} {k : Nat} (h : k < l.length) (hf : p (l[k]'h) = false) : l.all p = false := by
  rw [Bool.eq_false_iff]
  intro ha
  have := List.all_eq_true.1 ha _ (List.getElem_mem h)
  rw [hf] at this; cases this

set_option maxRecDepth 20000 in
set_option maxHeartbeats 1000000 in
theorem is_calls (a : Option Addr) (n cap : Nat) (l : List Bs) (hn : n = l.length) (hl : l.length ≤ 100000000) (hm : ∀ s ∈ l, s.length ≤ 100000000) (w : World) (h : StrsAt w a l) :
    Calls Try.prog 34 #[.slice a n cap] w fun e w' => e = .returned (.bool (l.all isTerm)) ∧ Below w.heap.size w w' := by
  have Hm := hid hm
  have H := hid h
  have Hn := hid hn
  have hnl : n ≤ 100000000 := by omega
  clear hm h hn hl
  go_enter Try.func34, Try.ntmps34
  go_wp2
  go_loopw [4, 7] (fun _ i wr => ∃ k : Nat, k ≤ n ∧ i = .int .i64 k ∧ (l.take k).all isTerm = true ∧ Below w.heap.size w wr) (fun _ i _ => n - (intOf i).toNat)
  case atStart => exact ⟨0, by omega, rfl, rfl, Below.refl _ _⟩
  case round =>
    obtain ⟨k, hk, rfl, hall, hb⟩ := hrel
    have Hall := hid hall
    have Hb := hid hb
    clear hall hb
    by_cases hlt : k < n
    · have hkl : k < l.length := by have := Hn.out; omega
      obtain ⟨b, off, rfl, hc⟩ := (H.out.below Hb.out) k hkl
      have hcc := check_calls (l[k]'hkl) (Hm.out _ (List.getElem_mem hkl)) wr
      have hlt' : (k : Int) < n := by omega
      cases ht : isTerm (l[k]'hkl) with
      | true =>
        rw [isTerm_check.1 ht] at hcc
        have Hc := hid hcc
        have Ht := hid ht
        clear hcc ht
        go_wp2_with fail
        refine Hc.out.mono ?_
        rintro e w1 ⟨rfl, hb1⟩
        have Hb1 := hid hb1
        clear hb1
        go_wp2
        go_roundw
        case rel => exact ⟨k + 1, by omega, by go_num, by rw [all_take_snoc hkl, Hall.out, Ht.out]; rfl, below_then Hb.out Hb.out.size Hb1.out⟩
        case measure => simp [intOf]; omega
      | false =>
        have hne := not_isTerm_check.1 ht
        obtain ⟨x, hx⟩ : ∃ x, check (l[k]'hkl) = x := ⟨_, rfl⟩
        rw [hx] at hcc hne
        have h0 : ((x : Int) != 0) = true := by simp; omega
        have Hc := hid hcc
        have Ht := hid ht
        clear hcc ht hne hx
        go_wp2_with fail
        refine Hc.out.mono ?_
        rintro e w1 ⟨rfl, hb1⟩
        have Hb1 := hid hb1
        clear hb1
        go_wp2
        go_ret
        exact ⟨by rw [all_false hkl Ht.out]; rfl, below_then Hb.out Hb.out.size Hb1.out⟩
    · have hlt' : ¬ (k : Int) < n := by omega
      have hfin : l.all isTerm = true := by have := Hall.out; rwa [List.take_of_length_le (by have := Hn.out; omega)] at this
      have Hfin := hid hfin
      clear hfin
      go_wp2
      go_ret
      exact ⟨by rw [Hfin.out]; rfl, Hb.out⟩

theorem front_head {c : UInt8} {r : Bs} {x : Nat × Nat} (h : front (c :: r) = .ok x) : c = 100 ∨ c = 97 ∨ c = 114 ∨ c = 104 ∨ c = 109 ∨ c = 115 := by
  by_cases h1 : c = 100
  · exact .inl h1
  by_cases h2 : c = 97
  · exact .inr (.inl h2)
  by_cases h3 : c = 114
  · exact .inr (.inr (.inl h3))
  by_cases h4 : c = 104
  · exact .inr (.inr (.inr (.inl h4)))
  by_cases h5 : c = 109
  · exact .inr (.inr (.inr (.inr (.inl h5))))
  by_cases h6 : c = 115
  · exact .inr (.inr (.inr (.inr (.inr h6))))
  simp only [front, if_neg h1, if_neg h2, if_neg h3, if_neg h4, if_neg h5, if_neg h6] at h
  cases h
theorem term_head {t : Bs} (h : isTerm t = true) : ∃ c r, t = c :: r ∧ (c = 100 ∨ c = 97 ∨ c = 114 ∨ c = 104 ∨ c = 109 ∨ c = 115) := by
  have h1 := ((isTerm_iff t).1 h).1
  cases t with
  | nil => exact absurd rfl (isTerm_ne h)
  | cons c r =>
    refine ⟨c, r, rfl, ?_⟩
    rw [readD] at h1
    split at h1
    · cases h1
    · rename_i n k hf
      exact front_head hf
theorem idx_kind {c : UInt8} (h : c = 100 ∨ c = 97 ∨ c = 114 ∨ c = 104 ∨ c = 109 ∨ c = 115) : 1 + Lib.indexByte [100, 97, 114, 104, 109, 115] c = (kindNo c : Nat) ∧ kindNo c ≤ 6 ∧ 1 ≤ kindNo c := by
  rcases h with rfl | rfl | rfl | rfl | rfl | rfl <;> decide
theorem kind_le (t : Bs) : kind t ≤ 6 := by
  unfold kind kindNo
  repeat' split
  all_goals omega
theorem kind_of {t : Bs} (h : isTerm t = true) : kind t = kindNo (t.headD 0) := by unfold kind; rw [if_pos h]
theorem kind_zero {t : Bs} (h : isTerm t = false) : kind t = 0 := by unfold kind; rw [h]; rfl

theorem strsAt_one (w : World) (t : Bs) (T : TypeId) : StrsAt (w.alloc (.cells #[.string (ofL t)] T)) (some ⟨w.heap.size, 0, none⟩) [t] := fun i h => by
  obtain rfl : i = 0 := by simp at h; omega
  exact ⟨_, _, rfl, by simp⟩

set_option maxRecDepth 20000 in
set_option maxHeartbeats 1000000 in
theorem kind_calls (t : Bs) (hm : t.length ≤ 100000000) (w : World) : Calls Try.prog 12 #[.string (ofL t)] w fun e w' => e = .returned (.int .u8 (kind t : Nat)) ∧ Below w.heap.size w w' := by
  have his := is_calls (some ⟨w.heap.size, 0, none⟩) 1 1 [t] rfl (by simp) (by simpa using hm) _ (strsAt_one w t 9)
  have hB : ∀ w1, Below (w.alloc (.cells #[.string (ofL t)] 9)).heap.size (w.alloc (.cells #[.string (ofL t)] 9)) w1 → Below w.heap.size w w1 := fun w1 h => ((Below.refl w.heap.size w).alloc (Nat.le_refl _) _).trans (h.mono (by simp))
  have HB := hid hB
  clear hB
  cases ht : isTerm t with
  | false =>
    have e1 : [t].all isTerm = false := by simp [ht]
    rw [e1] at his
    rw [kind_zero ht]
    have His := hid his
    clear ht his e1
    go_enter Try.func12, Try.ntmps12
    go_wp2_with fail
    refine His.out.mono ?_
    rintro e w1 ⟨rfl, hb⟩
    have hb2 := HB.out _ hb
    have Hb := hid hb2
    clear hb hb2
    go_wp2
    go_ret
    exact ⟨rfl, Hb.out⟩
  | true =>
    have e1 : [t].all isTerm = true := by simp [ht]
    rw [e1] at his
    rw [kind_of ht]
    obtain ⟨c, r, rfl, hc⟩ := term_head ht
    obtain ⟨hi, h6, h1⟩ := idx_kind hc
    have hix : ∀ W, Calls Try.prog 35 #[.string ⟨#[100, 97, 114, 104, 109, 115]⟩, .int .u8 (c.toNat : Int)] W fun e w' => e = .returned (.int .i64 ((kindNo c : Int) - 1)) ∧ W = w' := by
      intro W
      have := Try.strings_IndexByte ⟨#[100, 97, 114, 104, 109, 115]⟩ (c.toNat : Int) W
      have e2 : ((c.toNat : Int)).toNat.toUInt8 = c := by simp
      rw [e2] at this
      refine this.mono fun e w' ⟨a, b⟩ => ⟨?_, b.symm⟩
      rw [a]
      congr 2
      have hi' : 1 + Lib.indexByte (⟨#[100, 97, 114, 104, 109, 115]⟩ : ByteArray).data.toList c = (kindNo c : Nat) := hi
      omega
    have Hix := hid hix
    have His := hid his
    obtain ⟨k, hk⟩ : ∃ k, kindNo c = k := ⟨_, rfl⟩
    simp only [List.headD_cons]
    rw [hk] at Hix h6 h1
    rw [hk]
    have hwr : (k : Int) % 256 = k := by omega
    clear ht his e1 hix hi hc hk
    go_enter Try.func12, Try.ntmps12
    go_wp2_with fail
    refine His.out.mono ?_
    rintro e w1 ⟨rfl, hb⟩
    have hb2 := HB.out _ hb
    have Hb := hid hb2
    clear hb hb2
    go_wp2_with fail
    refine (Hix.out _).mono ?_
    rintro e w2 ⟨rfl, rfl⟩
    go_wp2
    go_ret
    refine ⟨?_, Hb.out⟩
    simp
    omega

def encOpt : Option Bs → Value
  | some s => .tuple #[.string (ofL s), .bool true]
  | none => .tuple #[.string (ofL []), .bool false]

set_option maxRecDepth 20000 in
set_option maxHeartbeats 1000000 in
theorem text_none (t : Bs) (hm : t.length ≤ 100000000) (w : World) (h : ¬ (kind t = 1 ∨ kind t = 2)) : Calls Try.prog 51 #[.string (ofL t)] w fun e w' => e = .returned (encOpt none) ∧ Below w.heap.size w w' := by
  have hk := kind_calls t hm w
  obtain ⟨k, hk'⟩ : ∃ k, kind t = k := ⟨_, rfl⟩
  rw [hk'] at hk h
  have h1 : ((k : Int) != 1) = true := by simp; omega
  have h2 : ((k : Int) != 2) = true := by simp; omega
  have Hk := hid hk
  clear hk hk' h
  go_enter Try.func51, Try.ntmps51
  go_wp2_with fail
  refine Hk.out.mono ?_
  rintro e w1 ⟨rfl, hb⟩
  go_wp2
  go_ret2
  exact ⟨rfl, hb⟩

set_option maxRecDepth 20000 in
set_option maxHeartbeats 1000000 in
theorem text_some (t : Bs) (hm : t.length ≤ 100000000) (w : World) (h : kind t = 1 ∨ kind t = 2) : Calls Try.prog 51 #[.string (ofL t)] w fun e w' => e = .returned (encOpt (Sp.text t)) ∧ Below w.heap.size w w' := by
  have ht : isTerm t = true := by
    cases ht : isTerm t with
    | true => rfl
    | false => rw [kind_zero ht] at h; omega
  obtain ⟨c, r, rfl, _⟩ := term_head ht
  have hk := kind_calls (c :: r) hm w
  have hf : encOpt (Sp.text (c :: r)) = (match readText 1024 r with | .ok (s, _) => .tuple #[.string (ofL s), .bool true] | .error _ => .tuple #[.string (ofL []), .bool true]) := by
    unfold Sp.text; rw [if_pos h]
    simp only [List.drop_succ_cons, List.drop_zero]
    cases readText 1024 r with
    | error e => rfl
    | ok p => rfl
  rw [hf]
  simp only [List.length_cons] at hm
  have hr := fun W => readText_calls 1024 r W (by omega) (by omega)
  have Hr := hid hr
  obtain ⟨k, hk'⟩ : ∃ k, kind (c :: r) = k := ⟨_, rfl⟩
  rw [hk'] at hk h
  have Hk := hid hk
  clear hk hk' ht hf hr
  cases hx : readText 1024 r with
  | error x =>
    rw [hx] at Hr
    simp only [encText] at Hr ⊢
    have Hx := hid hx
    clear hx
    rcases h with rfl | rfl
    all_goals
      go_enter Try.func51, Try.ntmps51
      go_wp2_with fail
      refine Hk.out.mono ?_
      rintro e w1 ⟨rfl, hb⟩
      go_wp2_with fail
      refine (Hr.out _).mono ?_
      rintro e w2 ⟨rfl, rfl⟩
      go_wp2
      go_ret2
      exact ⟨rfl, hb⟩
  | ok p =>
    obtain ⟨s, n⟩ := p
    rw [hx] at Hr
    simp only [encText] at Hr ⊢
    have Hx := hid hx
    clear hx
    rcases h with rfl | rfl
    all_goals
      go_enter Try.func51, Try.ntmps51
      go_wp2_with fail
      refine Hk.out.mono ?_
      rintro e w1 ⟨rfl, hb⟩
      go_wp2_with fail
      refine (Hr.out _).mono ?_
      rintro e w2 ⟨rfl, rfl⟩
      go_wp2
      go_ret2
      exact ⟨rfl, hb⟩

theorem termText_calls (t : Bs) (hm : t.length ≤ 100000000) (w : World) : Calls Try.prog 51 #[.string (ofL t)] w fun e w' => e = .returned (encOpt (Sp.text t)) ∧ Below w.heap.size w w' := by
  by_cases h : kind t = 1 ∨ kind t = 2
  · exact text_some t hm w h
  · have e : Sp.text t = none := by unfold Sp.text; rw [if_neg h]
    rw [e]; exact text_none t hm w h

def encNumT : Option Nat → Value
  | some v => .tuple #[.int .i64 v, .bool true]
  | none => .tuple #[.int .i64 0, .bool false]

set_option maxRecDepth 20000 in
set_option maxHeartbeats 1000000 in
theorem readNumT_calls (t : Bs) (hm : t.length ≤ 100000000) (w : World) : Calls Try.prog 83 #[.string (ofL t)] w fun e w' => e = .returned (encNumT (readNumT t)) ∧ Below w.heap.size w w' := by
  have htx := termText_calls t hm w
  cases hx : Sp.text t with
  | none =>
    have hf : readNumT t = none := by unfold readNumT; rw [hx]
    rw [hf]
    rw [hx] at htx
    simp only [encOpt] at htx
    have Ht := hid htx
    clear hx htx hf
    go_enter Try.func83, Try.ntmps83
    go_wp2_with fail
    refine Ht.out.mono ?_
    rintro e w1 ⟨rfl, hb⟩
    go_wp2
    go_ret2
    exact ⟨rfl, hb⟩
  | some s =>
    have ht : isTerm t = true := by
      cases ht : isTerm t with
      | true => rfl
      | false => unfold Sp.text at hx; rw [kind_zero ht] at hx; simp at hx
    have hsl : s.length ≤ 1024 := by
      unfold Sp.text at hx
      split at hx
      · split at hx
        · rename_i q n hq
          have := (readText_ok hq).2.2.1
          injection hx with hx; subst hx; exact this
        · injection hx with hx; subst hx; simp
      · cases hx
    rw [hx] at htx
    simp only [encOpt] at htx
    obtain ⟨c, r, rfl, _⟩ := term_head ht
    have hf : readNumT (c :: r) = if c = 100 then (match readNum s with | .ok (v, n) => if n = s.length ∧ v ≤ 2147483647 then some v else none | .error _ => none) else none := by
      unfold readNumT; rw [hx]; rfl
    rw [hf]
    have Ht := hid htx
    clear hx htx hf ht
    by_cases hc : c = 100
    · subst hc
      rw [if_pos rfl]
      have hr := fun W => readNum_calls s W (by omega)
      cases hn : readNum s with
      | error x =>
        rw [hn] at hr
        simp only [encNum] at hr
        have he := readNum_err hn
        have h0 : ((x : Int) != 0) = true := by simp; omega
        have Hr := hid hr
        clear hn hr he
        go_enter Try.func83, Try.ntmps83
        go_wp2_with fail
        refine Ht.out.mono ?_
        rintro e w1 ⟨rfl, hb⟩
        go_wp2_with fail
        refine (Hr.out _).mono ?_
        rintro e w2 ⟨rfl, rfl⟩
        go_wp2
        go_ret2
        exact ⟨rfl, hb⟩
      | ok p =>
        obtain ⟨v, n⟩ := p
        rw [hn] at hr
        simp only [encNum] at hr
        have Hr := hid hr
        obtain ⟨-, -, h3, h4⟩ := readNum_ok hn
        simp only
        by_cases hl : n = s.length
        · by_cases hv : v ≤ 2147483647
          · rw [if_pos ⟨hl, hv⟩]
            have hv2 : ¬ (2147483647 : Int) < v := by omega
            have hl2 : ((n : Int) != (s.length : Int)) = false := by simp; omega
            clear hn hr h3 hl
            go_enter Try.func83, Try.ntmps83
            go_wp2_with fail
            refine Ht.out.mono ?_
            rintro e w1 ⟨rfl, hb⟩
            go_wp2_with fail
            refine (Hr.out _).mono ?_
            rintro e w2 ⟨rfl, rfl⟩
            go_wp2
            go_ret2
            exact ⟨rfl, hb⟩
          · rw [if_neg (by omega)]
            have hv2 : (2147483647 : Int) < v := by omega
            have hl2 : ((n : Int) != (s.length : Int)) = false := by simp; omega
            clear hn hr h3 hl hv
            go_enter Try.func83, Try.ntmps83
            go_wp2_with fail
            refine Ht.out.mono ?_
            rintro e w1 ⟨rfl, hb⟩
            go_wp2_with fail
            refine (Hr.out _).mono ?_
            rintro e w2 ⟨rfl, rfl⟩
            go_wp2
            go_ret2
            exact ⟨rfl, hb⟩
        · rw [if_neg (by omega)]
          have hl2 : ((n : Int) != (s.length : Int)) = true := by simp; omega
          clear hn hr h3 hl
          go_enter Try.func83, Try.ntmps83
          go_wp2_with fail
          refine Ht.out.mono ?_
          rintro e w1 ⟨rfl, hb⟩
          go_wp2_with fail
          refine (Hr.out _).mono ?_
          rintro e w2 ⟨rfl, rfl⟩
          go_wp2
          go_ret2
          exact ⟨rfl, hb⟩
    · rw [if_neg hc]
      have h1 : ((c.toNat : Int) != 100) = true := by
        rw [bne_iff_ne]
        intro e
        exact hc (UInt8.toNat_inj.1 (by show c.toNat = 100; omega))
      clear hc
      go_enter Try.func83, Try.ntmps83
      go_wp2_with fail
      refine Ht.out.mono ?_
      rintro e w1 ⟨rfl, hb⟩
      go_wp2
      go_ret2
      exact ⟨rfl, hb⟩
end Go.Proofs.Ytohblakhojhklaa
