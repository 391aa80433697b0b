import Derived.Test.YtohblakhojhklaaWfront
import Derived.Test.YtohblakhojhklaaPwalk
import Derived.Deep.LoopGhost
/- The walk of term's walk: whatever is told on the way. -/
namespace Go.Proofs.Ytohblakhojhklaa
open Go.RowKit Sp

/-- What a function that is told of places owes: it returns nothing, and what holds of the places told so far goes on. -/
structure Tells (L : Nat) (g : FuncId) (lb : Array Value) (I : List Ev → World → Prop) : Prop where
  enters : ∀ (args : Array Value) (w : World), (callFunc g args).run Try.prog w = .ok (.enter g args) w
  step : ∀ (pre : List Ev) (a b d : Nat) (w : World), I pre w → a ≤ b → b ≤ L → pre.length ≤ b → Calls Try.prog g (#[.int .i64 a, .int .i64 b, .int .i64 d] ++ lb) w fun e w' => e = .returned (.tuple #[]) ∧ I (pre ++ [(a, b, d)]) w'
  grows : ∀ (pre : List Ev) (w w' : World), I pre w → Below w.heap.size w w' → I pre w'

def walkPost (f : Nat) (s : Bs) (a d : Nat) (I : List Ev → World → Prop) (pre : List Ev) (e : Ending) (w' : World) : Prop :=
  match readD f (s.drop a) with
  | .ok n => e = .returned (.int .i64 ((a + n : Nat) : Int)) ∧ I (pre ++ evD f s a d) w'
  | .error c => e = .panicked (thrown c) ∧ ∃ pre', I pre' w'

set_option maxRecDepth 20000 in
set_option maxHeartbeats 1000000 in
theorem walk_deep (s : Bs) (g : FuncId) (lb : Array Value) (I : List Ev → World → Prop) (a : Nat) (pre : List Ev) (w : World) (hI : I pre w) :
    Calls Try.prog 47 #[.string (ofL s), .int .i64 a, .int .i64 17, .func (.func g) #[] lb] w (walkPost 0 s a 17 I pre) := by
  have hend : ∀ e w', (e = .panicked (thrown 60) ∧ w = w') → walkPost 0 s a 17 I pre e w' := by
    rintro e w' ⟨rfl, rfl⟩
    simp only [walkPost, readD]
    exact ⟨trivial, pre, hI⟩
  have H := hid (must_err 60 (by omega))
  have HE := hid hend
  clear hI hend
  generalize walkPost 0 s a 17 I pre = R at *
  go_enter Try.func47, Try.ntmps47
  go_wp2_with fail
  refine (H.out _).mono ?_
  rintro e w1 ⟨rfl, rfl⟩
  go_wp2
  exact ⟨rfl, HE.out _ _ ⟨rfl, rfl⟩⟩

set_option maxRecDepth 20000 in
set_option maxHeartbeats 2000000 in
theorem walk_step (s : Bs) (hm : s.length ≤ 100000000) (g : FuncId) (lb : Array Value) (I : List Ev → World → Prop) (T : Tells s.length g lb I) (f : Nat) (hf : f ≤ 15)
    (ih : ∀ (a : Nat), a ≤ s.length → ∀ (pre : List Ev) (w : World), pre.length ≤ a → I pre w → Calls Try.prog 47 #[.string (ofL s), .int .i64 a, .int .i64 ((17 - f : Nat) : Int), .func (.func g) #[] lb] w (walkPost f s a (17 - f) I pre))
    (a : Nat) (ha : a ≤ s.length) (pre : List Ev) (w : World) (hpl : pre.length ≤ a) (hI : I pre w) :
    Calls Try.prog 47 #[.string (ofL s), .int .i64 a, .int .i64 ((17 - (f + 1) : Nat) : Int), .func (.func g) #[] lb] w (walkPost (f + 1) s a (17 - (f + 1)) I pre) := by
  obtain ⟨d, hd⟩ : ∃ d, 17 - (f + 1) = d := ⟨_, rfl⟩
  have hd1 : 1 ≤ d := by omega
  have hd2 : d ≤ 16 := by omega
  have hd3 : 17 - f = d + 1 := by omega
  rw [hd3] at ih
  rw [hd]
  have HIH := hid ih
  have HT := hid T
  have hin : (a : Int) ≤ s.length := by omega
  have hdrop : ((s.drop a).take (s.length - a)) = s.drop a := List.take_of_length_le (by simp)
  have c := front_calls (s.drop a) w (by simp; omega)
  clear ih T hd hd3
  cases hfr : front (s.drop a) with
  | error e =>
    rw [hfr] at c
    have he := front_err hfr
    have hend : ∀ e' w', (e' = .panicked (thrown e) ∧ Below w.heap.size w w') → walkPost (f + 1) s a d I pre e' w' := by
      rintro e' w' ⟨rfl, hb⟩
      simp only [walkPost, readD, hfr]
      exact ⟨trivial, pre, HT.out.grows _ _ _ hI hb⟩
    have HE := hid hend
    simp only [frontEnd] at c
    have C := hid c
    clear hend c he hfr hI
    generalize walkPost (f + 1) s a d I pre = R at *
    go_enter Try.func47, Try.ntmps47
    go_wp2_with fail
    refine C.out.mono ?_
    rintro e' w1 ⟨rfl, hb⟩
    have Hb := hid hb
    clear hb
    go_wp2
    exact ⟨rfl, HE.out _ _ ⟨rfl, Hb.out⟩⟩
  | ok p =>
    obtain ⟨n, k⟩ := p
    rw [hfr] at c
    simp only [frontEnd] at c
    have C := hid c
    obtain ⟨f1, f2, f3, -⟩ := front_ok hfr
    simp only [List.length_drop] at f2
    have han : a + n ≤ s.length := by omega
    have HI := hid hI
    have hG : ∀ w1, Below w.heap.size w w1 → I pre w1 := fun w1 hb => HT.out.grows _ _ _ HI.out hb
    have HG := hid hG
    have Hfr := hid hfr
    clear c hG hI hfr
    obtain ⟨R, hR⟩ : ∃ R, R = walkPost (f + 1) s a d I pre := ⟨_, rfl⟩
    rw [← hR]
    have HR := hid hR
    clear hR
    go_enter Try.func47, Try.ntmps47
    go_wp2_with fail
    refine C.out.mono ?_
    rintro e' w1 ⟨rfl, hb⟩
    have hI1 := HG.out w1 hb
    have HI1 := hid hI1
    clear hI1 hb
    have hs1 : (a : Int) + n ≤ 100000000 := by omega
    go_wp2
    go_loopw [11, 26] (fun z i wr => ∃ (j z' : Nat) (done : List Ev), i = .int .i64 j ∧ z = .int .i64 z' ∧ Inv f s (d + 1) k (a + n) j z' done ∧ I (pre ++ done) wr) (fun _ i _ => k - (intOf i).toNat)
    case atStart => exact ⟨0, a + n, [], rfl, by simp, Inv.start han, by simpa using HI1.out⟩
    case round =>
      obtain ⟨j, z, done, rfl, rfl, hinv, hIz⟩ := hrel
      have hjk := hinv.le
      have hz1 := hinv.from_
      have hz2 := hinv.inn
      have Hinv := hid hinv
      have HIz := hid hIz
      clear hinv hIz
      by_cases hlt : j < k
      · have hlt' : (j : Int) < k := by omega
        have hcnt := Hinv.out.cnt
        have ihc := HIH.out z hz2 (pre ++ done) wr (by rw [List.length_append]; omega) HIz.out
        cases hrd : readD f (s.drop z) with
        | error e =>
          have hp : ∀ e' w', walkPost f s z (d + 1) I (pre ++ done) e' w' → e' = .panicked (thrown e) ∧ ∃ pre', I pre' w' := by
            intro e' w' h
            simpa only [walkPost, hrd] using h
          have Hc := hid (ihc.mono hp)
          have hfin : ∀ w', (∃ pre', I pre' w') → R (.panicked (thrown e)) w' := by
            intro w' h
            rw [HR.out]
            have hk := Hinv.out.fails hlt hrd
            have hk2 : kids (readD f) k (List.drop n (List.drop a s)) = .error e := by rw [List.drop_drop]; exact hk
            simp only [walkPost, readD, Hfr.out, hk2]
            exact ⟨trivial, h⟩
          have Hfin := hid hfin
          clear ihc hp hrd hfin
          go_wp2_with fail
          refine Hc.out.mono ?_
          rintro e' w2 ⟨rfl, hp⟩
          have hr := Hfin.out _ hp
          clear hp
          go_wp2
          exact ⟨rfl, hr⟩
        | ok m =>
          have hp : ∀ e' w', walkPost f s z (d + 1) I (pre ++ done) e' w' → e' = .returned (.int .i64 ((z + m : Nat) : Int)) ∧ I (pre ++ (done ++ evD f s z (d + 1))) w' := by
            intro e' w' h
            simpa only [walkPost, hrd, List.append_assoc] using h
          have Hc := hid (ihc.mono hp)
          have hst := Hinv.out.step hlt hrd
          have hzm := hst.inn
          have Hst := hid hst
          clear ihc hp hrd hst
          go_wp2_with fail
          refine Hc.out.mono ?_
          rintro e' w2 ⟨rfl, hp⟩
          have HP := hid hp
          clear hp
          go_wp2
          go_roundw
          case rel => exact ⟨j + 1, z + m, _, by go_num, rfl, Hst.out, HP.out⟩
          case measure => simp [intOf]; omega
      · obtain rfl : j = k := by omega
        obtain ⟨hk, hev⟩ := Hinv.out.done
        have hcnt := Hinv.out.cnt
        have hstep := HT.out.step (pre ++ done) a z d wr HIz.out (by omega) (by omega) (by rw [List.length_append]; omega)
        have hent := HT.out.enters
        have hfin : ∀ w', I (pre ++ done ++ [(a, z, d)]) w' → R (.returned (.int .i64 z)) w' := by
          intro w' h
          rw [HR.out]
          have hk2 : kids (readD f) j (List.drop n (List.drop a s)) = .ok (z - (a + n)) := by rw [List.drop_drop]; exact hk
          simp only [walkPost, readD, Hfr.out, hk2, evD, hev]
          rw [show a + (n + (z - (a + n))) = z by omega, ← List.append_assoc]
          exact ⟨rfl, h⟩
        have Hfin := hid hfin
        have Hs := hid hstep
        clear hk hev hfin hstep
        go_wp2_with fail
        refine Hs.out.mono ?_
        rintro e' w2 ⟨rfl, hp⟩
        have hr := Hfin.out _ hp
        have Hr := hid hr
        clear hp hr
        go_wp2
        exact Hr.out

theorem walk_calls (s : Bs) (hm : s.length ≤ 100000000) (g : FuncId) (lb : Array Value) (I : List Ev → World → Prop) (T : Tells s.length g lb I) : ∀ (f : Nat) (_hf : f ≤ 16) (a : Nat), a ≤ s.length → ∀ (pre : List Ev) (w : World), pre.length ≤ a → I pre w →
    Calls Try.prog 47 #[.string (ofL s), .int .i64 a, .int .i64 ((17 - f : Nat) : Int), .func (.func g) #[] lb] w (walkPost f s a (17 - f) I pre)
  | 0, _, a, _, pre, w, _, hI => walk_deep s g lb I a pre w hI
  | f + 1, hf, a, ha, pre, w, hp, hI => walk_step s hm g lb I T f (by omega) (walk_calls s hm g lb I T f (by omega)) a ha pre w hp hI
end Go.Proofs.Ytohblakhojhklaa
