import Derived.Test.YtegkolepemcocaaWclone
import Derived.Test.YtegkolepemcocaaWrdec3
/- The walks of receipt's Names, Ballots. -/
namespace Go.Proofs.Ytegkolepemcocaa
open Go.RowKit Sp

/-- What a receipt names of an organisation. -/
def namesR (r : Rcpt) (o : Int) : Option (Bs × Bs) := match placeOf o r.mems with
  | some k => if mayR r then some ((r.mems.getD k ⟨0, []⟩).dig, r.tags.getD k []) else none
  | none => none
def namesV : Option (Bs × Bs) → Value
  | some (d, t) => .tuple #[.string (ofL d), .string (ofL t), .bool true]
  | none => .tuple #[.string (ofL []), .string (ofL []), .bool false]
theorem place_lt {o : Int} {l : List Mem} {k : Nat} (h : placeOf o l = some k) : ∃ hk : k < l.length, (l[k]'hk).org = o ∧ ∀ j (hj : j < k), (l[j]'(by omega)).org ≠ o := by
  unfold placeOf at h
  rw [List.findIdx?_eq_some_iff_getElem] at h
  obtain ⟨h1, h2, h3⟩ := h
  exact ⟨h1, by simpa using h2, fun j hj => by simpa using h3 j hj⟩
theorem RcptAt.kept {r : Rcpt} {am : Option Addr} {nm cm : Nat} {at_ : Option Addr} {nt ct : Nat} {w w' : World} (h : RcptAt r am nm cm at_ nt ct w) (hb : Below w.heap.size w w') : RcptAt r am nm cm at_ nt ct w' := h.below hb

set_option maxRecDepth 20000 in
set_option maxHeartbeats 4000000 in
theorem names_calls (r : Rcpt) (am : Option Addr) (nm cm : Nat) (at_ : Option Addr) (nt ct : Nat) (o : Int) (w : World) (h : RcptAt r am nm cm at_ nt ct w) :
    Calls Try.prog 24 #[rcptV r.txn r.aud am nm cm at_ nt ct, .int .i64 o] w fun e w' => e = .returned (namesV (namesR r o)) ∧ Below w.heap.size w w' := by
  obtain ⟨⟨c, e, s⟩, aud, l, tg⟩ := r
  have H := hid h
  have hnm := h.nm
  have hlm := h.lm
  simp only at hnm hlm
  have hck := fun W (hW : RcptAt ⟨⟨c, e, s⟩, aud, l, tg⟩ am nm cm at_ nt ct W) => rcheck_at ⟨⟨c, e, s⟩, aud, l, tg⟩ am nm cm at_ nt ct W hW
  have hpl := fun W (hW : RcptAt ⟨⟨c, e, s⟩, aud, l, tg⟩ am nm cm at_ nt ct W) ho => place_calls am nm cm l hnm hlm o (w.heap.size + 1) W hW.mems ho
  simp only [rcptV] at hck ⊢
  have hmf : ∀ (fn : Fn) (first cap : Array Value) (w : World), (Instr.makeFunc fn first cap).run Try.prog w = .ok (.func fn first cap) w := fun _ _ _ _ => rfl
  have hbk : ∀ W, Below (w.heap.size + 2) ((w.alloc (.cells #[.int .i64 c, .int .i64 e, .int .i64 s, .int .i64 aud, .slice am nm cm, .slice at_ nt ct] 27)).alloc (.cells #[.int .i64 o] 3)) W → BlkAt W w.heap.size #[.int .i64 c, .int .i64 e, .int .i64 s, .int .i64 aud, .slice am nm cm, .slice at_ nt ct] 27 := fun W hb =>
    ((BlkAt.new w _ _).alloc _).keep hb (by omega)
  have hB0 := ((Below.refl w.heap.size w).alloc (Nat.le_refl _) (.cells #[.int .i64 c, .int .i64 e, .int .i64 s, .int .i64 aud, .slice am nm cm, .slice at_ nt ct] 27)).alloc (by simp) (.cells #[.int .i64 o] 3)
  have hes : ((w.alloc (.cells #[.int .i64 c, .int .i64 e, .int .i64 s, .int .i64 aud, .slice am nm cm, .slice at_ nt ct] 27)).alloc (.cells #[.int .i64 o] 3)).heap.size = w.heap.size + 2 := by simp
  have ho : ((w.alloc (.cells #[.int .i64 c, .int .i64 e, .int .i64 s, .int .i64 aud, .slice am nm cm, .slice at_ nt ct] 27)).alloc (.cells #[.int .i64 o] 3)).cell? ⟨w.heap.size + 1, 0, none⟩ = some (.int .i64 o) := by simp [go_sem]
  have hP := hid (hpl _ (h.below hB0) ho)
  have Hck := hid hck
  have Hbk := hid hbk
  have HB0 := hid hB0
  have Hes := hid hes
  clear hck hpl hbk hB0 hes ho h hnm hlm
  cases hp : placeOf o l with
  | none =>
    have hX : namesR ⟨⟨c, e, s⟩, aud, l, tg⟩ o = none := by unfold namesR; simp only [hp]
    rw [hX]
    have hP2 := hP.out
    rw [hp] at hP2
    have HP := hid hP2
    clear hP hP2 hX hp
    go_enter Try.func24, Try.ntmps24
    go_wp2_with fail
    refine HP.out.mono ?_
    rintro e1 w1 ⟨rfl, hb⟩
    rw [Hes.out] at hb
    have Hb := hid (HB0.out.trans (hb.mono (by omega)))
    clear hb
    simp only [placeV]
    go_wp2
    go_ret3
    exact ⟨rfl, Hb.out⟩
  | some k =>
    obtain ⟨hk, he, -⟩ := place_lt hp
    have hP2 := hP.out
    rw [hp] at hP2
    have HP := hid hP2
    clear hP hP2
    cases hmay : mayR ⟨⟨c, e, s⟩, aud, l, tg⟩ with
    | false =>
      have hX : namesR ⟨⟨c, e, s⟩, aud, l, tg⟩ o = none := by unfold namesR; simp only [hp, hmay]; rfl
      rw [hX]
      have hck := Hck.out
      rw [hmay] at hck
      have Hck := hid hck
      clear hck hX hp hmay he
      go_enter Try.func24, Try.ntmps24
      go_wp2_with fail
      refine HP.out.mono ?_
      rintro e1 w1 ⟨rfl, hb⟩
      rw [Hes.out] at hb
      have hbk := Hbk.out _ hb
      have hb1 := HB0.out.trans (hb.mono (by omega))
      have HR := hid (H.out.below hb1)
      have Hb := hid hb1
      have c0 := hbk.val 0 rfl
      have c1 := hbk.val 1 rfl
      have c2 := hbk.val 2 rfl
      have c3 := hbk.val 3 rfl
      have c4 := hbk.val 4 rfl
      have c5 := hbk.val 5 rfl
      clear hb hb1 hbk
      simp only [placeV]
      go_wp2_with fail
      refine (Hck.out _ HR.out).mono ?_
      rintro e2 w2 ⟨rfl, hb2⟩
      have Hb2 := hid (below_then Hb.out Hb.out.size hb2)
      clear hb2
      go_wp2
      go_ret3
      exact ⟨rfl, Hb2.out⟩
    | true =>
      have hlen := (mayR_is hmay).2.2.2.1
      simp only at hlen
      have hkt : k < tg.length := by omega
      have hX : namesR ⟨⟨c, e, s⟩, aud, l, tg⟩ o = some ((l[k]'hk).dig, tg[k]'hkt) := by
        unfold namesR
        simp only [hp, hmay, if_true]
        simp [List.getD_eq_getElem?_getD, List.getElem?_eq_getElem hk, List.getElem?_eq_getElem hkt]
      rw [hX]
      have hck := Hck.out
      rw [hmay] at hck
      have Hck := hid hck
      have hnt := H.out.nt
      have hnm := H.out.nm
      simp only at hnt hnm
      have hk1 : k < nm := by omega
      have hk2 : k < nt := by omega
      have hk3 : (k : Int) < nm := by omega
      have hk4 : (k : Int) < nt := by omega
      have hcells : ∀ W, RcptAt ⟨⟨c, e, s⟩, aud, l, tg⟩ am nm cm at_ nt ct W → (∃ b off, am = some ⟨b, off, none⟩ ∧ W.cell? ⟨b, off + k * 2 + 1, none⟩ = some (.string (ofL (l[k]'hk).dig))) ∧ ∃ b off, at_ = some ⟨b, off, none⟩ ∧ W.cell? ⟨b, off + k, none⟩ = some (.string (ofL (tg[k]'hkt))) := fun W hW => by
        obtain ⟨b, off, e1, -, e2⟩ := hW.mems k hk
        obtain ⟨b', off', e1', e2'⟩ := hW.tags k hkt
        exact ⟨⟨b, off, e1, e2⟩, b', off', e1', e2'⟩
      generalize (l[k]'hk).dig = dg at hcells
      generalize tg[k]'hkt = tt at hcells
      have Hcells := hid hcells
      clear hck hX hp hmay he hcells hlen hnm hnt
      go_enter Try.func24, Try.ntmps24
      go_wp2_with fail
      refine HP.out.mono ?_
      rintro e1 w1 ⟨rfl, hb⟩
      rw [Hes.out] at hb
      have hbk := Hbk.out _ hb
      have hb1 := HB0.out.trans (hb.mono (by omega))
      have HR := hid (H.out.below hb1)
      have Hb := hid hb1
      have HB := hid hbk
      have c0 := hbk.val 0 rfl
      have c1 := hbk.val 1 rfl
      have c2 := hbk.val 2 rfl
      have c3 := hbk.val 3 rfl
      have c4 := hbk.val 4 rfl
      have c5 := hbk.val 5 rfl
      clear hb hb1 hbk
      simp only [placeV]
      go_wp2_with fail
      refine (Hck.out _ HR.out).mono ?_
      rintro e2 w2 ⟨rfl, hb2⟩
      have Hb2 := hid (below_then Hb.out Hb.out.size hb2)
      have hbk2 := HB.out.below hb2
      obtain ⟨⟨bm, om, rfl, m1⟩, bt, ot, rfl, t1⟩ := Hcells.out _ (HR.out.below hb2)
      have d4 := hbk2.val 4 rfl
      have d5 := hbk2.val 5 rfl
      clear hb2 hbk2 c0 c1 c2 c3 c4 c5 Hck HR Hb HB HP Hcells H HB0 Hbk Hes
      go_wp2_with fail
      go_quiet (fail)
      go_wp2
      go_ret3
      exact ⟨rfl, by first | exact below_drewN Hb2.out _ | exact Hb2.out⟩
end Go.Proofs.Ytegkolepemcocaa
