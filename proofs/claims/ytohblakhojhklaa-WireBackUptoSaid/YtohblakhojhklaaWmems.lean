import Derived.Test.YtohblakhojhklaaWtry
/- The walk of wire's Members. -/
namespace Go.Proofs.Ytohblakhojhklaa
open Go.RowKit Sp

theorem row_err {l : List Bs} {e : Nat} (h : row l = .error e) : 0 < e := by
  unfold row made at h
  split at h
  · split at h
    · cases h
    · injection h with h; omega
  · injection h with h; omega
theorem row_len {l : List Bs} {t : Bs} (h : row l = .ok t) : isTerm t = true := by
  unfold row made at h
  split at h
  · split at h
    · rename_i h1; injection h with h; rw [← h]; exact h1
    · cases h
  · cases h
theorem memTs_snoc {l : List Mem} {x : Mem} {ss : List Bs} (h : memTs l = .ok ss) : memTs (l ++ [x]) = match memT x with
    | .ok s => .ok (ss ++ [s])
    | .error _ => .error 5 := by
  induction l generalizing ss with
  | nil =>
    simp only [memTs] at h
    injection h with h; subst h
    simp only [List.nil_append, memTs]
    cases memT x <;> rfl
  | cons y r ih =>
    simp only [memTs, List.cons_append] at h ⊢
    cases hy : memT y with
    | error e => rw [hy] at h; cases h
    | ok s =>
      rw [hy] at h
      simp only at h ⊢
      cases hr : memTs r with
      | error e => rw [hr] at h; cases h
      | ok q =>
        rw [hr] at h
        simp only at h
        injection h with h; subst h
        rw [ih hr]
        cases memT x <;> rfl
theorem memTs_fail {l r : List Mem} (h : memTs l = .error 5) : memTs (l ++ r) = .error 5 := by
  induction l with
  | nil => cases h
  | cons y q ih =>
    simp only [memTs, List.cons_append] at h ⊢
    cases hy : memT y with
    | error e => rfl
    | ok s =>
      rw [hy] at h
      simp only at h ⊢
      cases hr : memTs q with
      | error e =>
        rw [hr] at h
        simp only at h
        injection h with h
        subst h
        rw [ih hr]
      | ok p => rw [hr] at h; cases h
theorem memTs_take {l : List Mem} {k : Nat} (h : k < l.length) {ss : List Bs} (hs : memTs (l.take k) = .ok ss) : memTs (l.take (k + 1)) = match memT (l[k]'h) with
    | .ok s => .ok (ss ++ [s])
    | .error _ => .error 5 := by
  rw [List.take_succ_eq_append_getElem h]; exact memTs_snoc hs
theorem memTs_length {l : List Mem} {ss : List Bs} (h : memTs l = .ok ss) : ss.length = l.length ∧ ∀ s ∈ ss, isTerm s = true := by
  induction l generalizing ss with
  | nil => simp only [memTs] at h; injection h with h; subst h; simp
  | cons y r ih =>
    simp only [memTs] at h
    cases hy : memT y with
    | error e => rw [hy] at h; cases h
    | ok s =>
      rw [hy] at h
      simp only at h
      cases hr : memTs r with
      | error e => rw [hr] at h; cases h
      | ok q =>
        rw [hr] at h
        simp only at h
        injection h with h; subst h
        obtain ⟨a, b⟩ := ih hr
        refine ⟨by simp [a], fun x hx => ?_⟩
        rcases List.mem_cons.1 hx with rfl | hx
        · exact row_len hy
        · exact b x hx
theorem mayMem_term {c last : Int} {l : List Mem} (h : mayMem c last l = true) : ∀ x ∈ l, isTerm x.dig = true := by
  induction l generalizing last with
  | nil => intro x hx; cases hx
  | cons y r ih =>
    simp only [mayMem, Bool.and_eq_true] at h
    intro x hx
    rcases List.mem_cons.1 hx with rfl | hx
    · exact h.1.2
    · exact ih h.2 x hx

set_option maxRecDepth 20000 in
set_option maxHeartbeats 4000000 in
theorem members_core (t : Txn) (a : Option Addr) (n cap : Nat) (l : List Mem) (hn : n = l.length) (hmay : mayMembers t l = true) (X : Except Nat Bs) (hX : membersT t l = X) (w : World) (h : MemsAt w a l) :
    Calls Try.prog 58 #[txnV t, .slice a n cap] w fun e w' => e = .returned (encMade X) ∧ Below w.heap.size w w' := by
  obtain ⟨i0, hi0, hz0, hz1, hz2⟩ := info_parts info_string
  have hm0 : mayMem t.c (-1) l = true ∧ 1 ≤ l.length ∧ l.length ≤ 6 := by
    simp only [mayMembers, Bool.and_eq_true, decide_eq_true_eq] at hmay; exact ⟨hmay.1.1, hmay.1.2, hmay.2⟩
  have htm := mayMem_term hm0.1
  have hmt := fun W a' (hW : MemsAt W a' l) => mayMembers_calls t a' n cap l hn (by omega) (fun x hx => by have := term_len (htm x hx); omega) W hW
  rw [hmay] at hmt
  have hX2 : (match memTs l with | .error e => .error e | .ok p => row p) = X := by unfold membersT at hX; rw [if_pos hmay] at hX; exact hX
  obtain ⟨c, e, s⟩ := t
  simp only [txnV] at hmt ⊢
  have Hmt := hid hmt
  have HX := hid hX2
  have Htm := hid htm
  have H := hid h
  have Hn := hid hn
  have hn6 : n ≤ 6 := by omega
  clear hmt hX hX2 htm hmay hm0 h hn
  go_enter Try.func58, Try.ntmps58
  go_wp2_with fail
  refine (Hmt.out _ _ (H.out.below ((Below.refl _ w).alloc (Nat.le_refl _) _))).mono ?_
  rintro e1 w0 ⟨rfl, hb0⟩
  have hb1 := below_then ((Below.refl w.heap.size w).alloc (Nat.le_refl _) _) (by simp) hb0
  have Hb0 := hid hb1
  clear hb0 hb1 Hmt
  go_wp2
  go_loopw [4, 5, 6, 17] (fun r4 r5 ov i wr => r4 = .string ⟨#[]⟩ ∧ r5 = .int .i64 0 ∧ ∃ (k : Nat) (ss : List Bs), k ≤ n ∧ i = .int .i64 k ∧ memTs (l.take k) = .ok ss ∧ ss.length = k ∧ OwnStrs w0.heap.size wr ov ss ∧ Below w0.heap.size w0 wr) (fun _ _ _ i _ => n - (intOf i).toNat)
  case atStart => exact ⟨rfl, rfl, 0, [], by omega, rfl, rfl, rfl, World.ownsRow_nil _ _ _ _, Below.refl _ _⟩
  case round =>
    obtain ⟨rfl, rfl, k, ss, hk, rfl, hts, hsl, hown, hb⟩ := hrel
    have Hts := hid hts
    have Hown := hid hown
    have Hb := hid hb
    have Hsl := hid hsl
    clear hts hown hb hsl
    by_cases hlt : k < n
    · have hkl : k < l.length := by have := Hn.out; omega
      obtain ⟨b, off, rfl, hc1, hc2⟩ := (H.out.below (below_then Hb0.out Hb0.out.size Hb.out)) k hkl
      have hlt' : (k : Int) < n := by omega
      have hst := memTs_take hkl Hts.out
      have hdl := term_len (Htm.out _ (List.getElem_mem hkl))
      obtain ⟨og, dg, hx⟩ : ∃ og dg, l[k]'hkl = ⟨og, dg⟩ := ⟨_, _, rfl⟩
      rw [hx] at hc1 hc2 hst hdl
      simp only at hc1 hc2 hdl
      have hrow := fun a W (hW : StrsAt W a [numS og, dg]) => row_calls a 2 2 [numS og, dg] rfl (by simp) (by have := numS_len og; simp; omega) W hW
      obtain ⟨x, y, hxy⟩ : ∃ x y, encMade (row [numS og, dg]) = .tuple #[.string x, .int .i64 y] := by cases row [numS og, dg] <;> exact ⟨_, _, rfl⟩
      rw [hxy] at hrow
      have Hrow := hid hrow
      have Hst := hid hst
      have Hxy := hid hxy
      clear hrow hx hst hxy hdl
      go_wp2_with fail
      have hB0 : Below (wr.alloc (.cells #[.int .i64 og, .string (ofL dg)] 76)).heap.size (wr.alloc (.cells #[.int .i64 og, .string (ofL dg)] 76)) (wr.alloc (.cells #[.int .i64 og, .string (ofL dg)] 76)) := Below.refl _ _
      have c0 : (wr.alloc (.cells #[.int .i64 og, .string (ofL dg)] 76)).cell? ⟨wr.heap.size, 0, none⟩ = some (.int .i64 og) := by simp [go_sem]
      have c1 : (wr.alloc (.cells #[.int .i64 og, .string (ofL dg)] 76)).cell? ⟨wr.heap.size, 1, none⟩ = some (.string (ofL dg)) := by simp [go_sem]
      go_region_held3 (fun w' => w'.cell? ⟨wr.heap.size, 0, none⟩ = some (.int .i64 og) ∧ w'.cell? ⟨wr.heap.size, 1, none⟩ = some (.string (ofL dg)) ∧ Below (wr.alloc (.cells #[.int .i64 og, .string (ofL dg)] 76)).heap.size (wr.alloc (.cells #[.int .i64 og, .string (ofL dg)] 76)) w')
        ((go_split_ands; refine ⟨?_, ?_, ?_⟩ <;> (with_reducible first | assumption | exact cell_alloc_of _ (by assumption) | exact Below.drew (by assumption) | exact Below.alloc (by assumption) (Below.size (by assumption)) _ | skip) <;> first | exact c0 | exact c1))
        (first
          | (go_at_call 59; refine (wnum_calls _ _).mono ?_; rintro e9 wn ⟨rfl, hbn⟩; go_split_ands; have hk0 : Below (wr.alloc (.cells #[.int .i64 og, .string (ofL dg)] 76)).heap.size (wr.alloc (.cells #[.int .i64 og, .string (ofL dg)] 76)) wn := below_then (by assumption) (Below.size (by assumption)) hbn;
              have e0 : wn.cell? ⟨wr.heap.size, 0, none⟩ = some (.int .i64 og) := (hbn.cell (p := ⟨wr.heap.size, 0, none⟩) (World.block_lt_of_cell? _ ⟨wr.heap.size, 0, none⟩ (by assumption))).trans (by assumption); have e1 : wn.cell? ⟨wr.heap.size, 1, none⟩ = some (.string (ofL dg)) := (hbn.cell (p := ⟨wr.heap.size, 1, none⟩) (World.block_lt_of_cell? _ ⟨wr.heap.size, 1, none⟩ (by assumption))).trans (by assumption))
          | (go_at_call 30; refine (Hrow.out _ _ (strsAt_two _ _ _ _)).mono ?_; rintro e9 wn ⟨rfl, hbn⟩; go_split_ands; have hk0 : Below (wr.alloc (.cells #[.int .i64 og, .string (ofL dg)] 76)).heap.size (wr.alloc (.cells #[.int .i64 og, .string (ofL dg)] 76)) wn := below_then (by assumption) (Below.size (by assumption)) hbn;
              have e0 : wn.cell? ⟨wr.heap.size, 0, none⟩ = some (.int .i64 og) := (hbn.cell (p := ⟨wr.heap.size, 0, none⟩) (World.block_lt_of_cell? _ ⟨wr.heap.size, 0, none⟩ (by assumption))).trans (by assumption); have e1 : wn.cell? ⟨wr.heap.size, 1, none⟩ = some (.string (ofL dg)) := (hbn.cell (p := ⟨wr.heap.size, 1, none⟩) (World.block_lt_of_cell? _ ⟨wr.heap.size, 1, none⟩ (by assumption))).trans (by assumption)))
      have hE := below_then (Hb.out.alloc Hb.out.size _) (by have := Hb.out.size; simp; omega) hk0
      have hO := (Hown.out.below ((Below.refl _ wr).alloc (Nat.le_refl _) (.cells #[.int .i64 og, .string (ofL dg)] 76))).below hk0
      have HE := hid hE
      have HO := hid hO
      clear hE hO c0 c1 hB0 Hown Hb hc1 hc2 Hrow
      cases hR : row [numS og, dg] with
      | error er =>
        have hpos := row_err hR
        have hxy := Hxy.out
        rw [hR] at hxy
        simp only [encMade, Value.tuple.injEq] at hxy
        obtain ⟨rfl, rfl⟩ : ofL [] = x ∧ (er : Int) = y := by simpa using hxy
        have hne : ((er : Int) != 0) = true := by simp; omega
        have hF : memTs l = .error 5 := by
          have h1 := Hst.out
          have h2 : memT ⟨og, dg⟩ = .error er := hR
          rw [h2] at h1
          have h3 := memTs_fail (r := l.drop (k + 1)) h1
          rwa [List.take_append_drop] at h3
        have HF : Kp (X = .error 5) := hid (by rw [← HX.out, hF])
        clear hxy hR Hxy Hst HX hF
        go_wp2
        go_ret2
        exact ⟨by rw [HF.out]; rfl, below_then Hb0.out Hb0.out.size HE.out⟩
      | ok tm =>
        have hxy := Hxy.out
        rw [hR] at hxy
        simp only [encMade, Value.tuple.injEq] at hxy
        obtain ⟨rfl, rfl⟩ : ofL tm = x ∧ (0 : Int) = y := by simpa using hxy
        have hT : memTs (l.take (k + 1)) = .ok (ss ++ [tm]) := by
          have h1 := Hst.out
          have h2 : memT ⟨og, dg⟩ = .ok tm := hR
          rw [h2] at h1
          exact h1
        have HT := hid hT
        clear hxy hR Hxy Hst hT
        have hown := HO.out
        have hEs := HE.out.size
        have hss := Hsl.out
        go_wp2_with (first | (at_builtin; refine wpList_append_lies _ rfl _ _ _ rfl w0.heap.size 9 i0 _ 1 16 Try.underlying55 hi0 hz0 hz1 hz2 rfl (by omega) u6 ss.length (ss.map strV) rfl (hown.alloc _) ⟨wn.heap.size, 0, none⟩ 1 1 [strV tm] rfl rfl (World.news_of_block (cs := #[strV tm]) (t := 9) (fr := (0, 0)) (heap_alloc_new wn _)) (by simp [Value.oneCell', strV]) (by omega) (by unfold maxLen; omega) (by omega) (by simp; omega) (wn.heap.size + 1) (by simp) ?_; intro gg cap2 w1 hown1 hgrow hat hlt2))
        have hB1 : Below w0.heap.size w0 w1 := (HE.out.alloc hEs _).grown hgrow (by simp; omega) (fun j hj => (hown.lt j hj).1)
        have hown2 : OwnStrs w0.heap.size w1 (.slice (some ⟨gg, 0, none⟩) (k + 1) cap2) (ss ++ [tm]) := by
          unfold OwnStrs
          have h1 := hown1
          rw [hss] at h1
          simpa [hss] using h1
        refine ⟨⟨rfl, rfl, k + 1, ss ++ [tm], by omega, by go_num, HT.out, by simp [hss], hown2, hB1⟩, ?_⟩
        simp [intOf]; omega
    · have hlt' : ¬ (k : Int) < n := by omega
      obtain rfl : k = n := by omega
      have hall : memTs l = .ok ss := by
        have h1 := Hts.out
        rwa [List.take_of_length_le (by have := Hn.out; omega)] at h1
      have hX3 : row ss = X := by rw [← HX.out, hall]
      have hss := Hsl.out
      obtain ⟨a2, cap2, hv, hS⟩ := Hown.out.read
      have hrow := row_calls a2 ss.length cap2 ss rfl (by omega) (fun s hs => by have := term_len ((memTs_length hall).2 s hs); omega) wr hS
      rw [hX3] at hrow
      rw [hss] at hrow hv
      obtain ⟨x, y, hxy⟩ : ∃ x y, encMade X = .tuple #[.string x, .int .i64 y] := by cases X <;> exact ⟨_, _, rfl⟩
      rw [hxy] at hrow
      have Hrow := hid hrow
      have Hxy := hid hxy
      clear hrow hxy hX3 hall HX Hts Hown
      subst hv
      go_wp2_with fail
      refine Hrow.out.mono ?_
      rintro e9 wn ⟨rfl, hbn⟩
      have HE := hid (below_then (below_then Hb0.out Hb0.out.size Hb.out) (Nat.le_trans Hb0.out.size Hb.out.size) hbn)
      clear hbn
      go_wp2
      go_ret2
      exact ⟨by rw [Hxy.out]; rfl, HE.out⟩

set_option maxRecDepth 20000 in
set_option maxHeartbeats 4000000 in
theorem members_calls (t : Txn) (a : Option Addr) (n cap : Nat) (l : List Mem) (hn : n = l.length) (hl : l.length ≤ 100000000) (hm : ∀ x ∈ l, x.dig.length ≤ 100000000) (w : World) (h : MemsAt w a l) :
    Calls Try.prog 58 #[txnV t, .slice a n cap] w fun e w' => e = .returned (encMade (membersT t l)) ∧ Below w.heap.size w w' := by
  cases hmay : mayMembers t l with
  | true => exact members_core t a n cap l hn hmay _ rfl w h
  | false =>
    have hmt := fun W a' (hW : MemsAt W a' l) => mayMembers_calls t a' n cap l hn hl hm W hW
    rw [hmay] at hmt
    have hX : membersT t l = .error 2 := by unfold membersT; rw [hmay]; rfl
    rw [hX]
    obtain ⟨c, e, s⟩ := t
    simp only [txnV] at hmt ⊢
    have Hmt := hid hmt
    have H := hid h
    clear hmt hX hmay h hn
    go_enter Try.func58, Try.ntmps58
    go_wp2_with fail
    refine (Hmt.out _ _ (H.out.below ((Below.refl _ w).alloc (Nat.le_refl _) _))).mono ?_
    rintro e1 w0 ⟨rfl, hb0⟩
    have Hb0 := hid (below_then ((Below.refl w.heap.size w).alloc (Nat.le_refl _) _) (by simp) hb0)
    clear hb0
    go_wp2
    go_ret2
    exact ⟨rfl, Hb0.out⟩
end Go.Proofs.Ytohblakhojhklaa
