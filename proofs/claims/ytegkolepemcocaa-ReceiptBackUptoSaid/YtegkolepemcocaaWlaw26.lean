import Derived.Test.YtegkolepemcocaaWball
import Derived.Test.YtegkolepemcocaaWref
import Derived.Laws.AppendOwnNone
/- The walks of the reference's Same over receipts, and of the law's Long, own, one. -/
namespace Go.Proofs.Ytegkolepemcocaa
open Go.RowKit Sp

theorem wpList_append_src {P : Program} (w : World) {ops : Array Oper} {rest : List Oper} {o : Oper} {a : Act} {Q : Exit → Act → World → Prop} (hgd : o.guard = none) (s x : Operand) (t : TypeId)
    (ho : o.op = .call { callee := .builtin .append, args := #[s, x], argTypes := #[t, t] })
    (base : Nat) (e : TypeId) (i : TypeInfo) (z : Value) (size bytes : Nat) (ht : P.underlying t = some (.slice e)) (hi : P.info? e = some i) (hz : i.zero = some z)
    (hsize : i.size = size) (hby : i.bytes = bytes) (hzs : z.cells.size = size) (hsz : 0 < size) (hs : a.eval s = .slice none 0 0)
    (src : Option Addr) (m c : Nat) (news : List Value) (hx : a.eval x = .slice src m c) (hnone : src = none → m = 0 ∧ c = 0) (hl : news.length = m * size)
    (hnews : ∀ ad, src = some ad → ∀ j u, news[j]? = some u → w.cell? (ad.add j) = some u) (h1 : ∀ u ∈ news, u.oneCell' = true)
    (h63 : m ≤ maxLen) (hbytes : m * bytes ≤ 140737488355328) (hbase : base ≤ w.heap.size)
    (h : ∀ a' c' w', w'.ownsRow base e size (.slice a' m c') m news → w.grownBy w' none → (a' = none → c' = 0) → wpList P ops Q rest (a.put o.dst (.slice a' m c')) w') : wpList P ops Q (o :: rest) a w := by
  cases src with
  | none =>
    obtain ⟨rfl, rfl⟩ := hnone rfl
    have hn : news = [] := by
      apply List.eq_nil_of_length_eq_zero; rw [hl]; simp
    subst hn
    exact wpList_append_own_none hgd s x t ho base e i size ht hi (.slice none 0 0) 0 [] hs (World.ownsRow_nil _ _ _ _) hx (h none 0 w (World.ownsRow_nil _ _ _ _) (World.grownBy.refl _ _) (fun _ => rfl))
  | some ad =>
    refine wpList_append_own w hgd s x t ho base e i z size bytes ht hi hz hsize hby hzs hsz (.slice none 0 0) 0 [] hs (World.ownsRow_nil _ _ _ _) ad m c news hx hl (hnews ad rfl) h1 (by omega) (by rw [Nat.zero_add]; exact hbytes) hbase ?_
    intro v' w' hown hg _
    rw [Nat.zero_add, List.nil_append] at hown
    rcases hown.2 with ⟨rfl, h0⟩ | ⟨g, cap, cur, rfl, hr⟩
    · subst h0; exact h none 0 w' hown hg (fun _ => rfl)
    · exact h (some ⟨g, 0, none⟩) cap w' hown hg (fun e => by cases e)

set_option maxRecDepth 20000 in
set_option maxHeartbeats 2000000 in
theorem same26_calls (r s : Rcpt) (am : Option Addr) (nm cm : Nat) (at_ : Option Addr) (nt ct : Nat) (bm : Option Addr) (mm dm : Nat) (bt : Option Addr) (mt dt : Nat) (w : World) (h : RcptAt r am nm cm at_ nt ct w) (h' : RcptAt s bm mm dm bt mt dt w) :
    Calls Try.prog 13 #[rcptV r.txn r.aud am nm cm at_ nt ct, rcptV s.txn s.aud bm mm dm bt mt dt] w fun e w' => e = .returned (.bool (decide (r = s))) ∧ Below w.heap.size w w' := by
  obtain ⟨t1, aud, l, tg⟩ := r
  obtain ⟨t2, aud', l', tg'⟩ := s
  have heq := fun W => eqlTxn t1 t2 W
  have hB0 := ((Below.refl w.heap.size w).alloc (Nat.le_refl _) (.cells #[.int .i64 t1.c, .int .i64 t1.e, .int .i64 t1.s, .int .i64 aud, .slice am nm cm, .slice at_ nt ct] 27)).alloc (by simp) (.cells #[.int .i64 t2.c, .int .i64 t2.e, .int .i64 t2.s, .int .i64 aud', .slice bm mm dm, .slice bt mt dt] 27)
  have hsm := fun W (hW : MemsAt W am l) (hW' : MemsAt W bm l') => sameMems_calls am bm nm mm cm dm l l' h.nm h'.nm h.lm h'.lm W hW hW'
  have hst := fun W (hW : StrsAt W at_ tg) (hW' : StrsAt W bt tg') => sameStrs_calls at_ bt nt mt ct dt tg tg' h.nt h'.nt h.lt h'.lt W hW hW'
  have hbk1 := (BlkAt.new w #[.int .i64 t1.c, .int .i64 t1.e, .int .i64 t1.s, .int .i64 aud, .slice am nm cm, .slice at_ nt ct] 27).alloc (.cells #[.int .i64 t2.c, .int .i64 t2.e, .int .i64 t2.s, .int .i64 aud', .slice bm mm dm, .slice bt mt dt] 27)
  have hbk2 : BlkAt ((w.alloc (.cells #[.int .i64 t1.c, .int .i64 t1.e, .int .i64 t1.s, .int .i64 aud, .slice am nm cm, .slice at_ nt ct] 27)).alloc (.cells #[.int .i64 t2.c, .int .i64 t2.e, .int .i64 t2.s, .int .i64 aud', .slice bm mm dm, .slice bt mt dt] 27)) (w.heap.size + 1) #[.int .i64 t2.c, .int .i64 t2.e, .int .i64 t2.s, .int .i64 aud', .slice bm mm dm, .slice bt mt dt] 27 := by
    have := BlkAt.new (w.alloc (.cells #[.int .i64 t1.c, .int .i64 t1.e, .int .i64 t1.s, .int .i64 aud, .slice am nm cm, .slice at_ nt ct] 27)) #[.int .i64 t2.c, .int .i64 t2.e, .int .i64 t2.s, .int .i64 aud', .slice bm mm dm, .slice bt mt dt] 27
    simpa using this
  have H := hid h
  have H' := hid h'
  have HB0 := hid hB0
  have Hsm := hid hsm
  have Hst := hid hst
  have Hb1 := hid hbk1
  have Hb2 := hid hbk2
  simp only [rcptV]
  have hdec : ∀ d, decide ((⟨t1, aud, l, tg⟩ : Rcpt) = ⟨t2, aud', l', tg'⟩) = d ↔ (decide (t1 = t2) && (aud == aud') && decide (l = l') && decide (tg = tg')) = d := fun d => by
    have : decide ((⟨t1, aud, l, tg⟩ : Rcpt) = ⟨t2, aud', l', tg'⟩) = (decide (t1 = t2) && (aud == aud') && decide (l = l') && decide (tg = tg')) := by
      rw [Bool.eq_iff_iff]; simp [and_assoc]
    rw [this]
  obtain ⟨D, hD⟩ : ∃ D, decide ((⟨t1, aud, l, tg⟩ : Rcpt) = ⟨t2, aud', l', tg'⟩) = D := ⟨_, rfl⟩
  rw [hD]
  have HD := hid ((hdec D).1 hD)
  clear h h' hB0 hsm hst hbk1 hbk2 hdec hD
  by_cases ht : decide (t1 = t2) = true
  rotate_left
  · have ht' : decide (t1 = t2) = false := by simpa using ht
    have HF : Kp (D = false) := hid (by rw [← HD.out, ht']; rfl)
    rw [ht'] at heq
    clear ht ht' HD
    go_enter Try.func13, Try.ntmps13
    go_wp2
    go_ret
    exact ⟨by rw [HF.out]; rfl, HB0.out⟩
  rw [ht] at heq
  by_cases ha : (aud == aud') = true
  rotate_left
  · have ha' : (aud == aud') = false := by simpa using ha
    have HF : Kp (D = false) := hid (by rw [← HD.out, ha', ht]; rfl)
    clear ht ha HD
    go_enter Try.func13, Try.ntmps13
    go_wp2
    go_ret
    exact ⟨by rw [HF.out]; rfl, HB0.out⟩
  have HD2 : Kp ((decide (l = l') && decide (tg = tg')) = D) := hid (by rw [← HD.out, ha, ht]; rfl)
  clear HD ht
  have hs1 := Hsm.out _ (H.out.mems.below HB0.out) (H'.out.mems.below HB0.out)
  cases hm : decide (l = l') with
  | false =>
    have HF : Kp (D = false) := hid (by rw [← HD2.out, hm]; rfl)
    rw [hm] at hs1
    have Hs1 := hid hs1
    clear hs1 hm HD2
    go_enter Try.func13, Try.ntmps13
    go_wp2_with fail
    refine Hs1.out.mono ?_
    rintro e1 w1 ⟨rfl, hb⟩
    have Hb := hid (below_then HB0.out HB0.out.size hb)
    clear hb
    go_wp2
    go_ret
    exact ⟨by rw [HF.out]; rfl, Hb.out⟩
  | true =>
    have HF : Kp (decide (tg = tg') = D) := hid (by rw [← HD2.out, hm]; rfl)
    rw [hm] at hs1
    have Hs1 := hid hs1
    clear hs1 hm HD2
    go_enter Try.func13, Try.ntmps13
    go_wp2_with fail
    refine Hs1.out.mono ?_
    rintro e1 w1 ⟨rfl, hb⟩
    have hb' := below_then HB0.out HB0.out.size hb
    have k1 := Hb1.out.below hb
    have k2 := Hb2.out.below hb
    have c5 := k1.val 5 rfl
    have d5 := k2.val 5 rfl
    have Hs2 := hid (Hst.out w1 (H.out.tags.below hb') (H'.out.tags.below hb'))
    have Hb := hid hb'
    clear hb k1 k2 hb'
    go_wp2_with fail
    refine Hs2.out.mono ?_
    rintro e1 w2 ⟨rfl, hb2⟩
    have Hb3 := hid (below_then Hb.out Hb.out.size hb2)
    rw [HF.out]
    clear hb2
    go_wp2
    go_ret
    exact ⟨rfl, Hb3.out⟩

/-- Members, a receipt, of which the statements tell nothing. -/
def longMems (l : List Mem) : Bool := decide (20 < l.length) || l.any fun x => decide (20000 < x.dig.length)
def longR (r : Rcpt) : Bool := longMems r.mems || decide (20 < r.tags.length) || r.tags.any fun s => decide (20000 < s.length)
theorem any_take_snoc {α : Type} {p : α → Bool} {l : List α} {k : Nat} (h : k < l.length) : (l.take (k + 1)).any p = ((l.take k).any p || p (l[k]'h)) := by
  rw [List.take_succ_eq_append_getElem h, List.any_append]; simp
theorem any_at {α : Type} {p : α → Bool} {l : List α} {k : Nat} (h : k < l.length) (hp : p (l[k]'h) = true) : l.any p = true := List.any_eq_true.2 ⟨_, List.getElem_mem h, hp⟩

set_option maxRecDepth 20000 in
set_option maxHeartbeats 2000000 in
theorem long12_calls (a : Option Addr) (n cap : Nat) (l : List Mem) (hn : n = l.length) (hl : l.length ≤ 10000000) (hd : ∀ x ∈ l, x.dig.length ≤ 10000000) (w : World) (h : MemsAt w a l) :
    Calls Try.prog 25 #[.slice a n cap] w fun e w' => e = .returned (.bool (longMems l)) ∧ Below w.heap.size w w' := by
  have H := hid h
  have Hn := hid hn
  have Hd := hid hd
  have hnl : n ≤ 10000000 := by omega
  obtain ⟨D, hD⟩ : ∃ D, longMems l = D := ⟨_, rfl⟩
  rw [hD]
  unfold longMems at hD
  rw [← hn] at hD
  have HD := hid hD
  clear h hn hl hD hd
  by_cases h20 : 20 < n
  · have HF : Kp (D = true) := hid (by rw [← HD.out]; simp [h20])
    have h20' : (20 : Int) < n := by omega
    go_enter Try.func25, Try.ntmps25
    go_wp2
    go_ret
    exact ⟨by rw [HF.out]; rfl, Below.refl _ _⟩
  have h20' : ¬ (20 : Int) < n := by omega
  have HD2 : Kp ((l.any fun x => decide (20000 < x.dig.length)) = D) := hid (by rw [← HD.out]; simp [h20])
  clear HD
  go_enter Try.func25, Try.ntmps25
  go_wp2
  go_loopw [3] (fun i wr => ∃ (k : Nat), k ≤ n ∧ i = .int .i64 k ∧ (l.take k).any (fun x => decide (20000 < x.dig.length)) = false ∧ Below w.heap.size w wr) (fun i _ => n - (intOf i).toNat)
  case atStart => exact ⟨0, by omega, rfl, rfl, Below.refl _ _⟩
  case round =>
    obtain ⟨k, hk, rfl, hall, hb⟩ := hrel
    have Hall := hid hall
    have Hb := hid hb
    clear hall hb
    by_cases hlt : k < n
    · have hkl : k < l.length := by have := Hn.out; omega
      obtain ⟨b, off, rfl, hc1, hc2⟩ := (H.out.below Hb.out) k hkl
      have hlt' : (k : Int) < n := by omega
      have hst := any_take_snoc (p := fun x : Mem => decide (20000 < x.dig.length)) hkl
      have hat := any_at (p := fun x : Mem => decide (20000 < x.dig.length)) hkl
      have hdl := Hd.out _ (List.getElem_mem hkl)
      rw [Hall.out] at hst
      generalize l[k]'hkl = y at hc1 hc2 hst hat hdl
      obtain ⟨y1, y2⟩ := y
      simp only at hc1 hc2 hst hat hdl
      by_cases hy : 20000 < y2.length
      · have hy' : (20000 : Int) < y2.length := by omega
        have HF : Kp (D = true) := hid (by rw [← HD2.out]; exact hat (by simpa using hy))
        clear hst hat
        go_wp2
        go_ret
        exact ⟨by rw [HF.out]; rfl, Hb.out⟩
      · have hy' : ¬ (20000 : Int) < y2.length := by omega
        have Hst := hid hst
        have hdf : decide (20000 < y2.length) = false := by simpa using hy
        have Hdf := hid hdf
        clear hst hat hdf
        go_wp2
        go_roundw
        case rel => exact ⟨k + 1, by omega, by go_num, by rw [Hst.out, Hdf.out]; rfl, Hb.out⟩
        case measure => simp [intOf]; omega
    · have hlt' : ¬ (k : Int) < n := by omega
      obtain rfl : k = n := by omega
      have HF : Kp (D = false) := hid (by
        rw [← HD2.out]
        have h1 := Hall.out
        rwa [List.take_of_length_le (by have := Hn.out; omega)] at h1)
      go_wp2
      go_ret
      exact ⟨by rw [HF.out]; rfl, Hb.out⟩

set_option maxRecDepth 20000 in
set_option maxHeartbeats 2000000 in
theorem long26_calls (r : Rcpt) (am : Option Addr) (nm cm : Nat) (at_ : Option Addr) (nt ct : Nat) (w : World) (h : RcptAt r am nm cm at_ nt ct w) :
    Calls Try.prog 7 #[rcptV r.txn r.aud am nm cm at_ nt ct] w fun e w' => e = .returned (.bool (longR r)) ∧ Below w.heap.size w w' := by
  obtain ⟨⟨c, e, s⟩, aud, l, tg⟩ := r
  have H := hid h
  have Hn := hid h.nt
  have Hd := hid h.dt
  have hB0 := (Below.refl w.heap.size w).alloc (Nat.le_refl _) (.cells #[.int .i64 c, .int .i64 e, .int .i64 s, .int .i64 aud, .slice am nm cm, .slice at_ nt ct] 27)
  have HB0 := hid hB0
  have hbk := BlkAt.new w #[.int .i64 c, .int .i64 e, .int .i64 s, .int .i64 aud, .slice am nm cm, .slice at_ nt ct] 27
  have Hbk0 := hid hbk
  have hl := long12_calls am nm cm l h.nm h.lm h.dm _ (h.mems.below hB0)
  have hnl : nt ≤ 10000000 := by have := h.lt; have := h.nt; omega
  simp only [rcptV]
  obtain ⟨D, hD⟩ : ∃ D, longR ⟨⟨c, e, s⟩, aud, l, tg⟩ = D := ⟨_, rfl⟩
  rw [hD]
  unfold longR at hD
  simp only at hD
  have hnt := h.nt
  simp only at hnt
  rw [← hnt] at hD
  have HD := hid hD
  cases hlm : longMems l with
  | true =>
    have HF : Kp (D = true) := hid (by rw [← HD.out, hlm]; rfl)
    rw [hlm] at hl
    have Hl := hid hl
    clear hl hlm h hB0 hbk hD HD hnt
    go_enter Try.func7, Try.ntmps7
    go_wp2_with fail
    refine Hl.out.mono ?_
    rintro e1 w1 ⟨rfl, hb⟩
    have Hb := hid (below_then HB0.out HB0.out.size hb)
    clear hb
    go_wp2
    go_ret
    exact ⟨by rw [HF.out]; rfl, Hb.out⟩
  | false =>
    rw [hlm] at hl
    have Hl := hid hl
    by_cases h20 : 20 < nt
    · have HF : Kp (D = true) := hid (by rw [← HD.out]; simp [h20])
      have h20' : (20 : Int) < nt := by omega
      clear hl hlm h hB0 hbk hD HD hnt
      go_enter Try.func7, Try.ntmps7
      go_wp2_with fail
      refine Hl.out.mono ?_
      rintro e1 w1 ⟨rfl, hb⟩
      have hbk1 := Hbk0.out.below hb
      have c5 := hbk1.val 5 rfl
      have Hb := hid (below_then HB0.out HB0.out.size hb)
      clear hb hbk1
      go_wp2
      go_ret
      exact ⟨by rw [HF.out]; rfl, Hb.out⟩
    have h20' : ¬ (20 : Int) < nt := by omega
    have HD2 : Kp ((tg.any fun s => decide (20000 < s.length)) = D) := hid (by rw [← HD.out, hlm]; simp [h20])
    clear hl hlm h hB0 hbk hD HD hnt
    go_enter Try.func7, Try.ntmps7
    go_wp2_with fail
    refine Hl.out.mono ?_
    rintro e1 w1 ⟨rfl, hb⟩
    have hbk1 := Hbk0.out.below hb
    have c5 := hbk1.val 5 rfl
    have hb1 := below_then HB0.out HB0.out.size hb
    have Hb1 := hid hb1
    have HT := hid (H.out.tags.below hb1)
    have Hbk1 := hid hbk1
    simp only at HT
    clear hb hbk1 hb1
    go_wp2
    go_loopw [3] (fun i wr => ∃ (k : Nat), k ≤ nt ∧ i = .int .i64 k ∧ (tg.take k).any (fun s => decide (20000 < s.length)) = false ∧ Below w1.heap.size w1 wr) (fun i _ => nt - (intOf i).toNat)
    case atStart => exact ⟨0, by omega, rfl, rfl, Below.refl _ _⟩
    case round =>
      obtain ⟨k, hk, rfl, hall, hb⟩ := hrel
      have Hall := hid hall
      have Hb := hid hb
      have c5' := (Hbk1.out.below hb).val 5 rfl
      clear hall hb
      by_cases hlt : k < nt
      · have hkl : k < tg.length := by have := Hn.out; (try simp only at this); omega
        obtain ⟨b, off, rfl, hc1⟩ := (HT.out.below Hb.out) k hkl
        have hlt' : (k : Int) < nt := by omega
        have hst := any_take_snoc (p := fun s : Bs => decide (20000 < s.length)) hkl
        have hat := any_at (p := fun s : Bs => decide (20000 < s.length)) hkl
        have hdl := Hd.out _ (List.getElem_mem hkl)
        rw [Hall.out] at hst
        generalize tg[k]'hkl = y at hc1 hst hat hdl
        by_cases hy : 20000 < y.length
        · have hy' : (20000 : Int) < y.length := by omega
          have HF : Kp (D = true) := hid (by rw [← HD2.out]; exact hat (by simpa using hy))
          clear hst hat
          go_wp2
          go_ret
          exact ⟨by rw [HF.out]; rfl, below_then Hb1.out Hb1.out.size Hb.out⟩
        · have hy' : ¬ (20000 : Int) < y.length := by omega
          have Hst := hid hst
          have hdf : decide (20000 < y.length) = false := by simpa using hy
          have Hdf := hid hdf
          clear hst hat hdf
          go_wp2
          go_roundw
          case rel => exact ⟨k + 1, by omega, by go_num, by rw [Hst.out, Hdf.out]; rfl, Hb.out⟩
          case measure => simp [intOf]; omega
      · have hlt' : ¬ (k : Int) < nt := by omega
        obtain rfl : k = nt := by omega
        have HF : Kp (D = false) := hid (by
          rw [← HD2.out]
          have h1 := Hall.out
          rwa [List.take_of_length_le (by have := Hn.out; (try simp only at this); omega)] at h1)
        go_wp2
        go_ret
        exact ⟨by rw [HF.out]; rfl, below_then Hb1.out Hb1.out.size Hb.out⟩
end Go.Proofs.Ytegkolepemcocaa
