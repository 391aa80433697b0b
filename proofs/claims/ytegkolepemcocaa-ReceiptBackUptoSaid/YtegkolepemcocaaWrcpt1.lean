import Derived.Test.YtegkolepemcocaaWmemr
import Derived.Test.YtegkolepemcocaaPrcpt
/- The walks of receipt's must, made, Check. -/
namespace Go.Proofs.Ytegkolepemcocaa
open Go.RowKit Sp

def thrownR (e : Int) : List PanicEntry := [{ v := .iface 125 (.agg #[.int .i64 e]), recovered := false }]
set_option maxRecDepth 20000 in
theorem rmust_ok (k : Int) (w : World) : Calls Try.prog 75 #[.bool true, .int .i64 k] w fun e w' => e = .returned (.tuple #[]) ∧ w = w' := by
  go_enter Try.func75, Try.ntmps75
  go_wp2
  go_end0
  exact ⟨rfl, rfl⟩
set_option maxRecDepth 20000 in
theorem rmust_no (k : Int) (w : World) : Calls Try.prog 75 #[.bool false, .int .i64 k] w fun e w' => e = .panicked (thrownR k) ∧ w = w' := by
  go_enter Try.func75, Try.ntmps75
  go_wp2
  exact ⟨rfl, rfl, rfl⟩
set_option maxRecDepth 20000 in
theorem rmade_ok (s : ByteArray) (w : World) : Calls Try.prog 39 #[.string s, .int .i64 0] w fun e w' => e = .returned (.string s) ∧ w = w' := by
  go_enter Try.func39, Try.ntmps39
  go_wp2_with fail
  refine (rmust_ok _ _).mono ?_
  rintro e w1 ⟨rfl, rfl⟩
  go_wp2
  go_ret
  exact ⟨rfl, rfl⟩
set_option maxRecDepth 20000 in
theorem rmade_no (s : ByteArray) (k : Int) (hk : k ≠ 0) (w : World) : Calls Try.prog 39 #[.string s, .int .i64 k] w fun e w' => e = .panicked (thrownR 5) ∧ w = w' := by
  have h1 : (k == 0) = false := by simpa using hk
  go_enter Try.func39, Try.ntmps39
  go_wp2_with fail
  refine (rmust_no _ _).mono ?_
  rintro e w1 ⟨rfl, rfl⟩
  exact ⟨rfl, rfl, rfl⟩

set_option maxRecDepth 20000 in
theorem rbad_calls (s : Bs) (hm : s.length ≤ 100000000) (w : World) : Calls Try.prog 45 #[.string (ofL s)] w fun e w' => e = .returned (.bool (!isTerm s)) ∧ Below w.heap.size w w' := by
  have hck := fun W => check_calls s hm W
  have hr : (!isTerm s) = (((check s : Nat) : Int) != 0) := by
    cases ht : isTerm s with
    | true => rw [isTerm_check.1 ht]; rfl
    | false => have := not_isTerm_check.1 ht; simp; omega
  rw [hr]
  generalize check s = x at hck ⊢
  have Hck := hid hck
  clear hr hck
  go_enter Try.func45, Try.ntmps45
  go_wp2_with fail
  refine (Hck.out _).mono ?_
  rintro e w1 ⟨rfl, hb⟩
  go_wp2
  go_ret
  exact ⟨rfl, hb⟩

def AtBad (l : List Bs) (k : Int) : Prop := (k ≥ 0 ↔ l.all isTerm = false)

set_option maxRecDepth 20000 in
set_option maxHeartbeats 2000000 in
theorem rindex_calls (a : Option Addr) (n cap : Nat) (l : List Bs) (hn : n = l.length) (hl : l.length ≤ 100000000) (hm : ∀ s ∈ l, s.length ≤ 100000000) (w : World) (h : StrsAt w a l) :
    Calls Try.prog 85 #[.slice a n cap, .func (.func 45) #[] #[]] w fun e w' => (∃ k : Int, e = .returned (.int .i64 k) ∧ AtBad l k) ∧ Below w.heap.size w w' := by
  have Hm := hid hm
  have H := hid h
  have Hn := hid hn
  have hent : ∀ (args : Array Value) w, (callFunc 45 args).run Try.prog w = .ok (.enter 45 args) w := fun args w => by kernel_rfl
  have hnl : n ≤ 100000000 := by omega
  clear hm h hn hl
  go_enter Try.func85, Try.ntmps85
  go_wp2
  go_loopw [4, 8] (fun r i wr => r = .int .i64 0 ∧ ∃ (k : Nat), k ≤ n ∧ i = .int .i64 k ∧ (l.take k).all isTerm = true ∧ Below w.heap.size w wr) (fun _ i _ => n - (intOf i).toNat)
  case atStart => exact ⟨rfl, 0, by omega, rfl, rfl, Below.refl _ _⟩
  case round =>
    obtain ⟨rfl, k, hk, rfl, hall, hb⟩ := hrel
    have Hall := hid hall
    have Hb := hid hb
    clear hall hb
    by_cases hlt : k < n
    · have hkl : k < l.length := by have := Hn.out; omega
      obtain ⟨b, off, rfl, hc⟩ := (H.out.below Hb.out) k hkl
      have hlt' : (k : Int) < n := by omega
      have hbd := fun W => rbad_calls (l[k]'hkl) (Hm.out _ (List.getElem_mem hkl)) W
      have hst := all_take_snoc (p := isTerm) hkl
      have hbf := all_false (p := isTerm) hkl
      obtain ⟨y, hy⟩ : ∃ y, l[k]'hkl = y := ⟨_, rfl⟩
      rw [hy] at hc hbd hst hbf
      cases ht : isTerm y with
      | true =>
        rw [ht] at hbd hst
        have Hbd := hid hbd
        have Hst := hid hst
        clear hbd hst hbf hy ht
        go_wp2_with fail
        refine (Hbd.out _).mono ?_
        rintro e w1 ⟨rfl, hb1⟩
        have Hb1 := hid (below_then Hb.out Hb.out.size hb1)
        clear hb1
        go_wp2
        go_roundw
        case rel => exact ⟨rfl, k + 1, by omega, by go_num, by rw [Hst.out, Hall.out]; rfl, Hb1.out⟩
        case measure => simp [intOf]; omega
      | false =>
        rw [ht] at hbd
        have Hbd := hid hbd
        have Hbf := hid (hbf ht)
        clear hbd hst hbf hy ht
        go_wp2_with fail
        refine (Hbd.out _).mono ?_
        rintro e w1 ⟨rfl, hb1⟩
        have Hb1 := hid (below_then Hb.out Hb.out.size hb1)
        clear hb1
        go_wp2
        go_ret
        exact ⟨⟨_, rfl, ⟨fun _ => Hbf.out, fun _ => by omega⟩⟩, Hb1.out⟩
    · have hlt' : ¬ (k : Int) < n := by omega
      obtain rfl : k = n := by omega
      have hf : l.all isTerm = true := by
        have h1 := Hall.out
        rwa [List.take_of_length_le (by have := Hn.out; omega)] at h1
      have Hf := hid hf
      clear hf
      go_wp2
      go_ret
      exact ⟨⟨_, rfl, ⟨fun h => by omega, fun h => by rw [Hf.out] at h; cases h⟩⟩, Hb.out⟩

set_option maxRecDepth 20000 in
set_option maxHeartbeats 1000000 in
theorem rcontains_calls (a : Option Addr) (n cap : Nat) (l : List Bs) (hn : n = l.length) (hl : l.length ≤ 100000000) (hm : ∀ s ∈ l, s.length ≤ 100000000) (w : World) (h : StrsAt w a l) :
    Calls Try.prog 48 #[.slice a n cap, .func (.func 45) #[] #[]] w fun e w' => e = .returned (.bool (!l.all isTerm)) ∧ Below w.heap.size w w' := by
  have Hi := hid (rindex_calls a n cap l hn hl hm w h)
  generalize hq : l.all isTerm = q
  have Hq := hid hq
  clear hq hm h hn hl
  go_enter Try.func48, Try.ntmps48
  go_wp2_with fail
  refine Hi.out.mono ?_
  rintro e w1 ⟨⟨k, rfl, hk⟩, hb⟩
  have hd : decide (0 ≤ k) = !q := by
    unfold AtBad at hk
    rw [Hq.out] at hk
    cases q
    · simpa using hk
    · simpa using hk
  have Hb := hid hb
  have Hd := hid hd
  clear hb hk hd Hi
  go_wp2
  go_ret
  exact ⟨by first | (simp [Hd.out]; done) | (rw [← Hd.out]), Hb.out⟩

def rcptV (t : Txn) (aud : Int) (am : Option Addr) (nm cm : Nat) (at_ : Option Addr) (nt ct : Nat) : Value := .agg #[.int .i64 t.c, .int .i64 t.e, .int .i64 t.s, .int .i64 aud, .slice am nm cm, .slice at_ nt ct]

set_option maxRecDepth 20000 in
set_option maxHeartbeats 4000000 in
theorem rcheck_calls (r : Rcpt) (am : Option Addr) (nm cm : Nat) (at_ : Option Addr) (nt ct : Nat) (hn : nm = r.mems.length) (hnt : nt = r.tags.length) (hl : r.mems.length ≤ 100000000) (hlt : r.tags.length ≤ 100000000)
    (hm : ∀ x ∈ r.mems, x.dig.length ≤ 100000000) (ht : ∀ s ∈ r.tags, s.length ≤ 100000000) (w : World) (h : MemsAt w am r.mems) (hs : StrsAt w at_ r.tags) :
    Calls Try.prog 11 #[rcptV r.txn r.aud am nm cm at_ nt ct] w fun e w' => e = .returned (.int .i64 (if mayR r then 0 else 2)) ∧ Below w.heap.size w w' := by
  obtain ⟨t, aud, l, tg⟩ := r
  simp only at hn hnt hl hlt hm ht h hs
  have hmt := fun W => mayTxn_calls t W
  have hmm := fun W a' (hW : MemsAt W a' l) => mayMembers_calls t a' nm cm l hn hl hm W hW
  have hco := fun W a' (hW : StrsAt W a' tg) => rcontains_calls a' nt ct tg hnt hlt ht W hW
  obtain ⟨R, hR⟩ : ∃ R : Int, (if mayR ⟨t, aud, l, tg⟩ then 0 else 2) = R := ⟨_, rfl⟩
  rw [hR]
  unfold mayR at hR
  simp only [← hn, ← hnt] at hR
  obtain ⟨c, e, s⟩ := t
  simp only [rcptV, txnV] at hmt hmm ⊢
  have Hmt := hid hmt
  have Hmm := hid hmm
  have Hco := hid hco
  have H := hid h
  have HS := hid hs
  have HR := hid hR
  have hnm : nm ≤ 100000000 := by omega
  have hnt2 : nt ≤ 100000000 := by omega
  clear hmt hmm hco h hs hR hn hnt hl hlt hm ht
  have HB0 := hid ((Below.refl w.heap.size w).alloc (Nat.le_refl _) (.cells #[.int .i64 c, .int .i64 e, .int .i64 s, .int .i64 aud, .slice am nm cm, .slice at_ nt ct] 27))
  have hcells : ∀ W, Below (w.alloc (.cells #[.int .i64 c, .int .i64 e, .int .i64 s, .int .i64 aud, .slice am nm cm, .slice at_ nt ct] 27)).heap.size (w.alloc (.cells #[.int .i64 c, .int .i64 e, .int .i64 s, .int .i64 aud, .slice am nm cm, .slice at_ nt ct] 27)) W →
      W.cell? ⟨w.heap.size, 0, none⟩ = some (.int .i64 c) ∧ W.cell? ⟨w.heap.size, 1, none⟩ = some (.int .i64 e) ∧ W.cell? ⟨w.heap.size, 2, none⟩ = some (.int .i64 s) ∧ W.cell? ⟨w.heap.size, 3, none⟩ = some (.int .i64 aud) ∧ W.cell? ⟨w.heap.size, 4, none⟩ = some (.slice am nm cm) ∧ W.cell? ⟨w.heap.size, 5, none⟩ = some (.slice at_ nt ct) := by
    intro W hb
    refine ⟨?_, ?_, ?_, ?_, ?_, ?_⟩ <;> exact (hb.cell (p := ⟨w.heap.size, _, none⟩) (by simp)).trans (by simp [go_sem])
  have Hcells := hid hcells
  clear hcells
  go_enter Try.func11, Try.ntmps11
  go_wp2_with fail
  refine (Hmt.out _).mono ?_
  rintro e1 w1 ⟨rfl, hb1⟩
  obtain ⟨c0, c1, c2, c3, c4, c5⟩ := Hcells.out _ hb1
  have Hb1 := hid hb1
  clear hb1
  cases hmay : mayTxn ⟨c, e, s⟩ with
  | false =>
    have HF : Kp (R = 2) := hid (by rw [← HR.out, hmay]; rfl)
    clear hmay HR Hmt
    go_wp2
    go_ret
    exact ⟨by rw [HF.out]; rfl, below_then HB0.out (by simp) Hb1.out⟩
  | true =>
    by_cases ha : aud < 0
    · have HF : Kp (R = 2) := hid (by rw [← HR.out]; have : decide (0 ≤ aud) = false := by simpa using ha
                                      simp [this])
      clear hmay HR Hmt
      go_wp2
      go_ret
      exact ⟨by rw [HF.out]; rfl, below_then HB0.out (by simp) Hb1.out⟩
    · by_cases ha2 : 8 ≤ aud
      · have HF : Kp (R = 2) := hid (by rw [← HR.out]; have : decide (aud < 8) = false := by simpa using ha2
                                        simp [this])
        clear hmay HR Hmt
        go_wp2
        go_ret
        exact ⟨by rw [HF.out]; rfl, below_then HB0.out (by simp) Hb1.out⟩
      · go_wp2_with fail
        refine (Hmm.out _ _ (H.out.below (below_then ((Below.refl _ w).alloc (Nat.le_refl _) _) (by simp) Hb1.out))).mono ?_
        rintro e2 w2 ⟨rfl, hb2⟩
        have hb12 := below_then Hb1.out Hb1.out.size hb2
        obtain ⟨d0, d1, d2, d3, d4, d5⟩ := Hcells.out _ hb12
        have Hb2 := hid hb12
        clear hb12 hb2 c0 c1 c2 c3 c4 c5
        have hq1 : decide (0 ≤ aud) = true := by simpa using ha
        have hq2 : decide (aud < 8) = true := by simp; omega
        rw [hmay, hq1, hq2] at HR
        simp only [Bool.true_and] at HR
        clear hq1 hq2 hmay Hmt Hmm
        cases hmem : mayMembers ⟨c, e, s⟩ l with
        | false =>
          have HF : Kp (R = 2) := hid (by rw [← HR.out, hmem]; rfl)
          clear hmem HR
          go_wp2
          go_ret
          exact ⟨by rw [HF.out]; rfl, below_then HB0.out (by simp) Hb2.out⟩
        | true =>
          rw [hmem] at HR
          simp only [Bool.true_and] at HR
          clear hmem
          by_cases hlen : nt = nm
          · subst hlen
            simp only [decide_true, Bool.true_and] at HR
            have h1 : ((nt : Int) != nt) = false := by simp
            go_wp2_with fail
            refine (Hco.out _ _ (HS.out.below (below_then ((Below.refl _ w).alloc (Nat.le_refl _) _) (by simp) Hb2.out))).mono ?_
            rintro e3 w3 ⟨rfl, hb3⟩
            have Hb3 := hid (below_then Hb2.out Hb2.out.size hb3)
            clear hb3 Hco
            cases hall : tg.all isTerm with
            | false =>
              have HF : Kp (R = 2) := hid (by rw [← HR.out, hall]; rfl)
              clear hall HR
              simp only [Bool.not_false]
              go_wp2
              go_ret
              exact ⟨by rw [HF.out]; rfl, below_then HB0.out (by simp) Hb3.out⟩
            | true =>
              have HF : Kp (R = 0) := hid (by rw [← HR.out, hall]; rfl)
              clear hall HR
              simp only [Bool.not_true]
              go_wp2
              go_ret
              exact ⟨by rw [HF.out]; rfl, below_then HB0.out (by simp) Hb3.out⟩
          · have h1 : ((nt : Int) != nm) = true := by simp; omega
            have HF : Kp (R = 2) := hid (by rw [← HR.out]; simp [hlen])
            clear HR
            go_wp2
            go_ret
            exact ⟨by rw [HF.out]; rfl, below_then HB0.out (by simp) Hb2.out⟩
end Go.Proofs.Ytegkolepemcocaa
