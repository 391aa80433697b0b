import Derived.Test.YtohblakhojhklaaWblk0
import Derived.Laws.StructEq
/- The walks of the references' Same. -/
namespace Go.Proofs.Ytohblakhojhklaa
open Go.RowKit Sp

theorem eqf_last' {P : Program} {d : Nat} {xs ys : Array Value} {f : Field} {a b : Value} {r : Bool} {w : World} (hn : (f.name == "_") = false) (ha : (part f.type xs f.offset).run P w = .ok a w) (hb : (part f.type ys f.offset).run P w = .ok b w) (he : (Op.equalIn d f.type a b).run P w = .ok r w) : (Op.eqFields d xs ys [f]).run P w = .ok r w := by
  have hn' : f.name ≠ "_" := by simpa using hn
  simp only [Op.eqFields, if_pos hn', Sem.run_bind, ha, hb, he, Result.andThen_ok]
  cases r <;> simp
theorem eqf_cons' {P : Program} {d : Nat} {xs ys : Array Value} {f : Field} {fs : List Field} {a b : Value} {r s : Bool} {w : World} (hn : (f.name == "_") = false) (ha : (part f.type xs f.offset).run P w = .ok a w) (hb : (part f.type ys f.offset).run P w = .ok b w) (he : (Op.equalIn d f.type a b).run P w = .ok r w) (hr : (Op.eqFields d xs ys fs).run P w = .ok s w) : (Op.eqFields d xs ys (f :: fs)).run P w = .ok (r && s) w := by
  have hn' : f.name ≠ "_" := by simpa using hn
  rw [Op.eqFields]
  simp only [if_pos hn', Sem.run_bind, ha, hb, he, Result.andThen_ok]
  cases r
  · simp
  · simpa using hr
theorem eqA_of' {P : Program} {d : Nat} {xs ys : Array Value} {r : Bool} {w : World} {t : TypeId} {fs : Array Field} (hu : P.underlying t = some (.struct fs)) (hp : P.stoodInHeld t = false) (h : (Op.eqFields d xs ys fs.toList).run P w = .ok r w) : (Op.equalIn (d + 1) t (.agg xs) (.agg ys)).run P w = .ok r w := by
  have hf : P.fieldsOf t = fs := by simp [Program.fieldsOf, hu]
  rw [run_equalIn_struct (P := P) w d t xs ys (by rw [hf]; exact hu) hp, hf]
  exact h
theorem eqMem (d : Nat) (w : World) (x0 y0 : Int) (x1 y1 : ByteArray) :
    (Op.equalIn (d + 2) 76 (.agg #[.int .i64 x0, .string x1]) (.agg #[.int .i64 y0, .string y1])).run Try.prog w = .ok (x0 == y0 && (x1.toList == y1.toList)) w := by
  refine eqA_of' Try.underlying76 (by kernel_rfl) ?_
  refine eqf_cons' (by rfl) (by go_simp; rfl) (by go_simp; rfl) (by go_simp) ?_
  exact eqf_last' (by rfl) (by go_simp; rfl) (by go_simp; rfl) (by go_simp)
theorem eqTxn (d : Nat) (w : World) (x0 y0 : Int) (x1 y1 : Int) (x2 y2 : Int) :
    (Op.equalIn (d + 2) 23 (.agg #[.int .i64 x0, .int .i64 x1, .int .i64 x2]) (.agg #[.int .i64 y0, .int .i64 y1, .int .i64 y2])).run Try.prog w = .ok (x0 == y0 && (x1 == y1 && (x2 == y2))) w := by
  refine eqA_of' Try.underlying23 (by kernel_rfl) ?_
  refine eqf_cons' (by rfl) (by go_simp; rfl) (by go_simp; rfl) (by go_simp) ?_
  refine eqf_cons' (by rfl) (by go_simp; rfl) (by go_simp; rfl) (by go_simp) ?_
  exact eqf_last' (by rfl) (by go_simp; rfl) (by go_simp; rfl) (by go_simp)
/-- Two members, as the program compares them. -/
theorem neqMem (a b : Int) (s t : Bs) (w : World) : (binOp .neq 76 (.agg #[.int .i64 a, .string (ofL s)]) (.agg #[.int .i64 b, .string (ofL t)])).run Try.prog w = .ok (.bool (!decide ((⟨a, s⟩ : Mem) = ⟨b, t⟩))) w := by
  rw [run_neq_struct, eqMem]
  simp only [Result.andThen_ok, ofL_toList']
  congr 3
  rw [Bool.eq_iff_iff]; simp
theorem eqlTxn (a b : Txn) (w : World) : (binOp .eql 23 (.agg #[.int .i64 a.c, .int .i64 a.e, .int .i64 a.s]) (.agg #[.int .i64 b.c, .int .i64 b.e, .int .i64 b.s])).run Try.prog w = .ok (.bool (decide (a = b))) w := by
  rw [run_eql_struct, eqTxn]
  simp only [Result.andThen_ok]
  congr 2
  obtain ⟨a1, a2, a3⟩ := a
  obtain ⟨b1, b2, b3⟩ := b
  rw [Bool.eq_iff_iff]; simp
theorem neqTxn (a b : Txn) (w : World) : (binOp .neq 23 (.agg #[.int .i64 a.c, .int .i64 a.e, .int .i64 a.s]) (.agg #[.int .i64 b.c, .int .i64 b.e, .int .i64 b.s])).run Try.prog w = .ok (.bool (!decide (a = b))) w := by
  rw [run_neq_struct, eqTxn]
  simp only [Result.andThen_ok]
  congr 3
  obtain ⟨a1, a2, a3⟩ := a
  obtain ⟨b1, b2, b3⟩ := b
  rw [Bool.eq_iff_iff]; simp

theorem take_eq_step {α : Type} {l m : List α} {k : Nat} (hl : k < l.length) (hm : k < m.length) (h : l.take k = m.take k) (e : l[k]'hl = m[k]'hm) : l.take (k + 1) = m.take (k + 1) := by
  rw [List.take_succ_eq_append_getElem hl, List.take_succ_eq_append_getElem hm, h, e]
theorem ne_at {α : Type} {l m : List α} {k : Nat} (hl : k < l.length) (hm : k < m.length) (e : l[k]'hl ≠ m[k]'hm) : l ≠ m := by
  intro h; subst h; exact e rfl

set_option maxRecDepth 20000 in
set_option maxHeartbeats 1000000 in
theorem sameMems_calls (a b : Option Addr) (n m ca cb : Nat) (l r : List Mem) (hn : n = l.length) (hm : m = r.length) (hl : l.length ≤ 10000000) (hr : r.length ≤ 10000000) (w : World) (h : MemsAt w a l) (h' : MemsAt w b r) :
    Calls Try.prog 33 #[.slice a n ca, .slice b m cb] w fun e w' => e = .returned (.bool (decide (l = r))) ∧ Below w.heap.size w w' := by
  have H := hid h
  have H' := hid h'
  have Hn := hid hn
  have Hm := hid hm
  have hnl : n ≤ 10000000 := by omega
  have hml : m ≤ 10000000 := by omega
  by_cases hnm : n = m
  rotate_left
  · have hne : decide (l = r) = false := by simp; intro e; subst e; omega
    rw [hne]
    have hb : ((n : Int) != m) = true := by simp; omega
    clear h h' hn hm hl hr hne
    go_enter Try.func33, Try.ntmps33
    go_wp2
    go_ret
    exact ⟨rfl, Below.refl _ _⟩
  subst hnm
  obtain ⟨d, hd⟩ : ∃ d, decide (l = r) = d := ⟨_, rfl⟩
  rw [hd]
  have Hd := hid hd
  have hne := neqMem
  clear h h' hn hm hl hr hd
  go_enter Try.func33, Try.ntmps33
  go_wp2
  go_loopw [5] (fun i wr => ∃ (k : Nat), k ≤ n ∧ i = .int .i64 k ∧ l.take k = r.take k ∧ Below w.heap.size w wr) (fun i _ => n - (intOf i).toNat)
  case atStart => exact ⟨0, by omega, rfl, rfl, Below.refl _ _⟩
  case round =>
    obtain ⟨k, hk, rfl, htk, hb⟩ := hrel
    have Htk := hid htk
    have Hb := hid hb
    clear htk hb
    by_cases hlt : k < n
    · have hkl : k < l.length := by have := Hn.out; omega
      have hkr : k < r.length := by have := Hm.out; omega
      obtain ⟨b1, o1, rfl, hc1, hc2⟩ := (H.out.below Hb.out) k hkl
      obtain ⟨b2, o2, rfl, hd1, hd2⟩ := (H'.out.below Hb.out) k hkr
      have hlt' : (k : Int) < n := by omega
      have hs := take_eq_step hkl hkr Htk.out
      have hx := ne_at hkl hkr
      generalize l[k]'hkl = x at hc1 hc2 hs hx
      generalize r[k]'hkr = y at hd1 hd2 hs hx
      obtain ⟨x1, x2⟩ := x
      obtain ⟨y1, y2⟩ := y
      simp only at hc1 hc2 hd1 hd2
      by_cases hxy : (⟨x1, x2⟩ : Mem) = ⟨y1, y2⟩
      · have hs2 := hid (hs hxy)
        have hq : decide ((⟨x1, x2⟩ : Mem) = ⟨y1, y2⟩) = true := by simp only [hxy, decide_true]
        have hne1 := hne x1 y1 x2 y2
        rw [hq] at hne1
        simp only [Bool.not_true] at hne1
        clear hs hx hxy hq hne
        go_wp2_with fail
        go_quiet (fail)
        go_wp2
        go_roundw
        case rel => exact ⟨k + 1, by omega, by go_num, hs2.out, by first | exact below_drewN Hb.out _ | exact Hb.out⟩
        case measure => simp [intOf]; omega
      · have hq : decide ((⟨x1, x2⟩ : Mem) = ⟨y1, y2⟩) = false := by simp only [hxy, decide_false]
        have hne1 := hne x1 y1 x2 y2
        rw [hq] at hne1
        simp only [Bool.not_false] at hne1
        have hf : Kp (d = false) := hid (by rw [← Hd.out]; simpa using hx hxy)
        clear hs hx hxy hq hne
        go_wp2_with fail
        go_quiet (fail)
        go_wp2
        go_ret
        exact ⟨by rw [hf.out]; rfl, by first | exact below_drewN Hb.out _ | exact Hb.out⟩
    · have hlt' : ¬ (k : Int) < n := by omega
      obtain rfl : k = n := by omega
      have hf : Kp (d = true) := hid (by
        rw [← Hd.out]
        have h1 := Htk.out
        rw [List.take_of_length_le (by have := Hn.out; omega), List.take_of_length_le (by have := Hm.out; omega)] at h1
        simpa using h1)
      go_wp2
      go_ret
      exact ⟨by rw [hf.out]; rfl, Hb.out⟩

end Go.Proofs.Ytohblakhojhklaa
