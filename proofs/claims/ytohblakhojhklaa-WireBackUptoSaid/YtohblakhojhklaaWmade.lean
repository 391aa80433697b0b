import Derived.Test.YtohblakhojhklaaWterm
import Derived.Test.YtohblakhojhklaaPwire
/- The walks of term's Data, Num, made, Row. -/
namespace Go.Proofs.Ytohblakhojhklaa
open Go.RowKit Sp

def encMade : Except Nat Bs → Value
  | .ok s => .tuple #[.string (ofL s), .int .i64 0]
  | .error e => .tuple #[.string (ofL []), .int .i64 e]

set_option maxRecDepth 20000 in
set_option maxHeartbeats 1000000 in
theorem data_calls (s : Bs) (hm : s.length ≤ 100000000) (w : World) : Calls Try.prog 28 #[.string (ofL s)] w fun e w' => e = .returned (encMade (data s)) ∧ Below w.heap.size w w' := by
  by_cases hl : s.length > 1024
  · have hf : data s = .error 5 := by unfold data; rw [if_pos hl]
    rw [hf]
    clear hf
    go_enter Try.func28, Try.ntmps28
    go_wp2
    go_ret2
    exact ⟨rfl, Below.refl _ _⟩
  · have hf : data s = .ok (100 :: textOf s) := by unfold data; rw [if_neg hl]
    rw [hf]
    have hlen : (textOf s).length ≤ 100000 := by
      have := numOf_length_le s.length (by omega)
      unfold textOf; simp; omega
    have hadd := run_add_ofL (P := Try.prog) [100] (textOf s) (by simp; omega)
    have hc : (⟨#[100]⟩ : ByteArray) = ofL [100] := rfl
    have Hc := hid hc
    clear hf hc
    go_enter Try.func28, Try.ntmps28
    rw [Hc.out]
    go_wp2_with fail
    refine (text_calls s w (by omega)).mono ?_
    rintro e w1 ⟨rfl, hb⟩
    go_wp2
    go_ret2
    exact ⟨rfl, hb⟩

set_option maxRecDepth 20000 in
set_option maxHeartbeats 1000000 in
theorem numT_calls (v : Int) (w : World) : Calls Try.prog 82 #[.int .i64 v] w fun e w' => e = .returned (encMade (num v)) ∧ Below w.heap.size w w' := by
  by_cases h0 : v < 0
  · have hf : num v = .error 2 := by unfold num; rw [if_pos (.inl h0)]
    rw [hf]
    clear hf
    go_enter Try.func82, Try.ntmps82
    go_wp2
    go_ret2
    exact ⟨rfl, Below.refl _ _⟩
  · by_cases h1 : v > 2147483647
    · have hf : num v = .error 2 := by unfold num; rw [if_pos (.inr h1)]
      rw [hf]
      clear hf
      go_enter Try.func82, Try.ntmps82
      go_wp2
      go_ret2
      exact ⟨rfl, Below.refl _ _⟩
    · obtain ⟨n, rfl⟩ := Int.eq_ofNat_of_zero_le (by omega : 0 ≤ v)
      have hf : num (n : Int) = data (numOf n) := by unfold num; rw [if_neg (by omega)]; simp
      rw [hf]
      have hl := numOf_length_le n (by omega)
      have hd : data (numOf n) = .ok (100 :: textOf (numOf n)) := by unfold data; rw [if_neg (by omega)]
      have hc := fun W => data_calls (numOf n) (by omega) W
      rw [hd] at hc ⊢
      simp only [encMade] at hc ⊢
      have Hc := hid hc
      have H1 := hid h1
      have hn : n ≤ 2147483647 := by omega
      have hN := hid (num_calls n w (by omega))
      clear hf hd hc hl h0 h1
      go_enter Try.func82, Try.ntmps82
      go_wp2_with fail
      refine hN.out.mono ?_
      rintro e w1 ⟨rfl, hb⟩
      go_wp2_with fail
      refine (Hc.out _).mono ?_
      rintro e w2 ⟨rfl, hb2⟩
      have hb3 := below_then hb hb.size hb2
      go_wp2
      go_ret2
      exact ⟨rfl, hb3⟩

theorem BuilderAt_below {T e : TypeId} {B b : Nat} {p : Value} {bs : List Value} {W W' : World} (h : Lib.BuilderAt T e B b p bs W) (hb : Below W.heap.size W W') : Lib.BuilderAt T e B b p bs W' := by
  have hlt := h.lt
  obtain ⟨hB, v, hbk, hown, hne⟩ := h
  refine ⟨hB, v, (hb.block b hlt).trans hbk, hown.kept (row := none) ⟨hb.os, hb.tape, hb.output, hb.size, fun k hk _ => hb.block k hk⟩ (by cases v.ownBlock <;> simp), hne⟩
theorem IsBuilder_below {T e : TypeId} {B b : Nat} {bs : List Value} {W W' : World} (h : Lib.IsBuilder T e B b bs W) (hb : Below W.heap.size W W') : Lib.IsBuilder T e B b bs W' := by
  rcases h with h | h
  · exact .inl (BuilderAt_below h hb)
  · exact .inr (BuilderAt_below h hb)
theorem BuilderAtF_below {T e : TypeId} {B b : Nat} {p : Value} {bs : List Value} {W W' : World} (h : Lib.BuilderAtF T e B b p bs W) (hb : Below W.heap.size W W') : Lib.BuilderAtF T e B b p bs W' := by
  have hlt := h.lt
  obtain ⟨hB, v, hbk, hown, hne⟩ := h
  refine ⟨hB, v, (hb.block b hlt).trans hbk, hown.kept (row := none) ⟨hb.os, hb.tape, hb.output, hb.size, fun k hk _ => hb.block k hk⟩ (by cases v.ownBlock <;> simp), hne⟩
theorem IsBuilderF_below {T e : TypeId} {B b : Nat} {bs : List Value} {W W' : World} (h : Lib.IsBuilderF T e B b bs W) (hb : Below W.heap.size W W') : Lib.IsBuilderF T e B b bs W' := by
  rcases h with h | h
  · exact .inl (BuilderAtF_below h hb)
  · exact .inr (BuilderAtF_below h hb)
theorem IsBuilder_fresh (T e : TypeId) (W : World) : Lib.IsBuilder T e W.heap.size W.heap.size [] (W.alloc (.cells #[.pointer none, .slice none 0 0] T)) :=
  .inl ⟨Nat.le_refl _, .slice none 0 0, by show (W.heap.push _)[W.heap.size]? = _; simp, World.ownsRow_nil _ _ _ _, by simp [Value.ownBlock]⟩

theorem made_full {letters : Bs} {l : List Bs} (h : l.all isTerm = true) : made letters l = if isTerm (letters ++ l.flatten) then .ok (letters ++ l.flatten) else .error 5 := by unfold made; rw [if_pos h]
theorem made_part {letters acc : Bs} {l : List Bs} {k : Nat} (h : l.all isTerm = true) (ha : acc = letters ++ (l.take k).flatten) (hg : 16384 < acc.length) : made letters l = .error 5 ∧ isTerm acc = false := by
  have hle : acc.length ≤ (letters ++ l.flatten).length := by
    rw [ha, List.length_append, List.length_append]
    have : l.flatten = (l.take k).flatten ++ (l.drop k).flatten := by rw [← List.flatten_append, List.take_append_drop]
    rw [this, List.length_append]; omega
  constructor
  · rw [made_full h, if_neg]
    intro hc
    have := isTerm_len hc
    omega
  · rw [Bool.eq_false_iff]
    intro hc
    have := isTerm_len hc
    omega

set_option maxRecDepth 20000 in
set_option maxHeartbeats 4000000 in
theorem made_calls (letters : Bs) (hle : letters.length ≤ 100) (a : Option Addr) (n cap : Nat) (l : List Bs) (hn : n = l.length) (hl : l.length ≤ 100000000) (hm : ∀ s ∈ l, s.length ≤ 10000000) (w : World) (h : StrsAt w a l) :
    Calls Try.prog 73 #[.string (ofL letters), .slice a n cap] w fun e w' => e = .returned (encMade (made letters l)) ∧ Below w.heap.size w w' := by
  have his := is_calls a n cap l hn hl (fun s hs => Nat.le_trans (hm s hs) (by omega)) w h
  cases hall : l.all isTerm with
  | false =>
    have hf : made letters l = .error 2 := by unfold made; rw [hall]; rfl
    rw [hf]
    rw [hall] at his
    have His := hid his
    clear hall hf his hm h hn
    go_enter Try.func73, Try.ntmps73
    go_wp2_with fail
    refine His.out.mono ?_
    rintro e w1 ⟨rfl, hb⟩
    go_wp2
    go_ret2
    exact ⟨rfl, hb⟩
  | true =>
    rw [hall] at his
    have His := hid his
    have Hall := hid hall
    have H := hid h
    have Hn := hid hn
    have hnl : n ≤ 100000000 := by omega
    have Hm := hid hm
    have hbn : (Lib.byteCells ([] : Bs)).length = 0 := rfl
    clear hall his hm h hn hl hbn
    obtain ⟨R, hR⟩ : ∃ R : Value, R = encMade (made letters l) := ⟨_, rfl⟩
    rw [← hR]
    have HR := hid hR
    clear hR
    go_enter Try.func73, Try.ntmps73
    go_wp2_with fail
    refine His.out.mono ?_
    rintro e w1 ⟨rfl, hb⟩
    have Hb := hid hb
    clear hb
    go_wp2_with fail
    refine (writeString_calls w1.heap.size w1.heap.size [] (ofL letters) _ (IsBuilder_fresh 132 5 w1) (by simp; omega) (by simp)).mono ?_
    rintro e w2 ⟨rfl, hbl, hb2⟩
    rw [List.nil_append, strCells_ofL] at hbl
    have Hbl := hid hbl
    have Hb2 := hid (((Below.refl w1.heap.size w1).alloc (Nat.le_refl _) (.cells #[.pointer none, .slice none 0 0] 132)).trans hb2)
    clear hbl hb2
    go_wp2
    go_loopw [8, 16] (fun _ i wr => ∃ k : Nat, k ≤ n ∧ i = .int .i64 k ∧ Lib.IsBuilder 132 5 w1.heap.size w1.heap.size (Lib.byteCells (letters ++ (l.take k).flatten)) wr ∧ (letters ++ (l.take k).flatten).length ≤ 16384 + 10000100 ∧ Below w1.heap.size w1 wr) (fun _ i _ => n - (intOf i).toNat)
    case atStart => exact ⟨0, by omega, rfl, by simpa using .inr Hbl.out, by simp; omega, Hb2.out⟩
    case round =>
      obtain ⟨k, hk, rfl, hbl, hlen, hb3⟩ := hrel
      have HB3 := hid hb3
      have HBL := hid hbl
      have hlb := hid (Try.Builder_Len w1.heap.size w1.heap.size _ wr hbl)
      obtain ⟨acc, hacc⟩ : ∃ acc, acc = letters ++ (l.take k).flatten := ⟨_, rfl⟩
      rw [← hacc] at HBL hlb hlen
      rw [Lib.byteCells_length] at hlb
      have Hacc := hid hacc
      clear hb3 hbl hacc
      by_cases hlt : k < n
      · have hkl : k < l.length := by have := Hn.out; omega
        obtain ⟨b, off, rfl, hc⟩ := (H.out.below Hb.out).below HB3.out k hkl
        have hlt' : (k : Int) < n := by omega
        by_cases hg : 16384 < acc.length
        · have hg' : (16384 : Int) < acc.length := by omega
          obtain ⟨hmade, hnt⟩ := made_part Hall.out Hacc.out hg
          have HM := hid hmade
          have hst := Try.Builder_String_any_f w1.heap.size w1.heap.size acc wr (Lib.IsBuilderF.of HBL.out) HB3.out.size
          have HST := hid (show Calls Try.prog 89 #[.pointer (some ⟨w1.heap.size, 0, none⟩)] wr fun e w' => e = .returned (.string (ofL acc)) ∧ (Lib.IsBuilderF 132 5 w1.heap.size w1.heap.size (Lib.byteCells acc) w' ∧ Below w1.heap.size wr w') from hst)
          have hck := fun W => check_calls acc (by omega) W
          clear hst
          obtain ⟨x, hx⟩ : ∃ x, check acc = x := ⟨_, rfl⟩
          have hx0 := not_isTerm_check.1 hnt
          rw [hx] at hck hx0
          have hx1 : ((x : Int) != 0) = true := by simp; omega
          have HCK := hid hck
          clear hmade hnt hck hx hx0
          go_wp2_with fail
          refine hlb.out.mono ?_
          rintro e w3 ⟨rfl, rfl⟩
          go_wp2_with fail
          refine HST.out.mono ?_
          rintro e w5 ⟨rfl, hbl5, hb5⟩
          have Hbl5 := hid hbl5
          have Hb5 := hid (HB3.out.trans hb5)
          clear hbl5 hb5
          go_wp2_with fail
          refine (HCK.out w5).mono ?_
          rintro e w6 ⟨rfl, hb6⟩
          have Hb6 := hid (below_then Hb.out Hb.out.size (below_then Hb5.out Hb5.out.size hb6))
          clear hb6
          go_wp2
          go_ret2
          exact ⟨by rw [HR.out, HM.out]; rfl, Hb6.out⟩
        · have hg' : ¬ (16384 : Int) < acc.length := by omega
          have hsl := Hm.out _ (List.getElem_mem hkl)
          have hws := writeString_calls w1.heap.size w1.heap.size _ (ofL (l[k]'hkl)) wr HBL.out (by rw [Lib.byteCells_length, ofL_size]; omega) HB3.out.size
          rw [ofL_size] at hws
          have Hws := hid hws
          clear hws
          go_wp2_with fail
          refine hlb.out.mono ?_
          rintro e w3 ⟨rfl, rfl⟩
          go_wp2_with fail
          refine Hws.out.mono ?_
          rintro e w4 ⟨rfl, hbl4, hb4⟩
          have Hbl4 := hid hbl4
          have Hb4 := hid (HB3.out.trans hb4)
          clear hbl4 hb4
          go_wp2
          go_roundw
          case rel =>
            have e1 : letters ++ (l.take (k + 1)).flatten = acc ++ l[k]'hkl := by
              rw [List.take_succ_eq_append_getElem hkl, List.flatten_append, Hacc.out]; simp
            refine ⟨k + 1, by omega, by go_num, ?_, by rw [e1, List.length_append]; omega, Hb4.out⟩
            have := Hbl4.out
            rw [strCells_ofL] at this
            rw [e1]
            have e2 : Lib.byteCells (acc ++ l[k]'hkl) = Lib.byteCells acc ++ Lib.byteCells (l[k]'hkl) := by simp [Lib.byteCells]
            rw [e2]
            exact .inr this
          case measure => simp [intOf]; omega
      · have hlt' : ¬ (k : Int) < n := by omega
        have hfull : made letters l = if isTerm acc then .ok acc else .error 5 := by
          rw [made_full Hall.out, Hacc.out, List.take_of_length_le (by have := Hn.out; omega)]
        have hst := Try.Builder_String_any_f w1.heap.size w1.heap.size acc wr (Lib.IsBuilderF.of HBL.out) HB3.out.size
        have HST := hid (show Calls Try.prog 89 #[.pointer (some ⟨w1.heap.size, 0, none⟩)] wr fun e w' => e = .returned (.string (ofL acc)) ∧ (Lib.IsBuilderF 132 5 w1.heap.size w1.heap.size (Lib.byteCells acc) w' ∧ Below w1.heap.size wr w') from hst)
        have hck := fun W => check_calls acc (by omega) W
        clear hst
        cases hnt : isTerm acc with
        | false =>
          rw [hnt] at hfull
          have HM : Kp (made letters l = .error 5) := hid hfull
          obtain ⟨x, hx⟩ : ∃ x, check acc = x := ⟨_, rfl⟩
          have hx0 := not_isTerm_check.1 hnt
          rw [hx] at hck hx0
          have hx1 : ((x : Int) != 0) = true := by simp; omega
          have HCK := hid hck
          clear hfull hnt hck hx hx0
          go_wp2_with fail
          refine HST.out.mono ?_
          rintro e w5 ⟨rfl, hbl5, hb5⟩
          have Hbl5 := hid hbl5
          have Hb5 := hid (HB3.out.trans hb5)
          clear hbl5 hb5
          go_wp2_with fail
          refine (HCK.out w5).mono ?_
          rintro e w6 ⟨rfl, hb6⟩
          have Hb6 := hid (below_then Hb.out Hb.out.size (below_then Hb5.out Hb5.out.size hb6))
          clear hb6
          go_wp2
          go_ret2
          exact ⟨by rw [HR.out, HM.out]; rfl, Hb6.out⟩
        | true =>
          rw [hnt] at hfull
          have HM : Kp (made letters l = .ok acc) := hid hfull
          have hck0 : ∀ W, Calls Try.prog 44 #[.string (ofL acc)] W fun e w' => e = .returned (.int .i64 0) ∧ Below W.heap.size W w' := by
            intro W; have := hck W; rw [isTerm_check.1 hnt] at this; exact this
          have HCK := hid hck0
          clear hfull hnt hck hck0
          go_wp2_with fail
          refine HST.out.mono ?_
          rintro e w5 ⟨rfl, hbl5, hb5⟩
          have Hbl5 := hid hbl5
          have Hb5 := hid (HB3.out.trans hb5)
          clear hbl5 hb5
          go_wp2_with fail
          refine (HCK.out w5).mono ?_
          rintro e w6 ⟨rfl, hb6⟩
          have hst6 := Try.Builder_String_any_f w1.heap.size w1.heap.size acc w6 (IsBuilderF_below Hbl5.out hb6) (Nat.le_trans Hb5.out.size hb6.size)
          have HST6 := hid (show Calls Try.prog 89 #[.pointer (some ⟨w1.heap.size, 0, none⟩)] w6 fun e w' => e = .returned (.string (ofL acc)) ∧ (Lib.IsBuilderF 132 5 w1.heap.size w1.heap.size (Lib.byteCells acc) w' ∧ Below w1.heap.size w6 w') from hst6)
          have Hb6 := hid (below_then Hb5.out Hb5.out.size hb6)
          clear hb6 hst6
          go_wp2_with fail
          refine HST6.out.mono ?_
          rintro e w7 ⟨rfl, _, hb7⟩
          have Hb7 := hid (below_then Hb.out Hb.out.size (Hb6.out.trans hb7))
          clear hb7
          go_wp2
          go_ret2
          exact ⟨by rw [HR.out, HM.out]; rfl, Hb7.out⟩

set_option maxRecDepth 20000 in
set_option maxHeartbeats 1000000 in
theorem row_calls (a : Option Addr) (n cap : Nat) (l : List Bs) (hn : n = l.length) (hl : l.length ≤ 100000000) (hm : ∀ s ∈ l, s.length ≤ 10000000) (w : World) (h : StrsAt w a l) :
    Calls Try.prog 30 #[.slice a n cap] w fun e w' => e = .returned (encMade (row l)) ∧ Below w.heap.size w w' := by
  have hnl : n ≤ 100000000 := by omega
  have hlen := numOf_length_le n (by omega)
  have hN := hid (num_calls n w (by omega))
  have hadd := run_add_ofL (P := Try.prog) [114] (numOf n) (by simp; omega)
  have hc : (⟨#[114]⟩ : ByteArray) = ofL [114] := rfl
  have hrow : row l = made (114 :: numOf n) l := by unfold row; rw [hn]
  have hM : ∀ w1, Below w.heap.size w w1 → Calls Try.prog 73 #[.string (ofL (114 :: numOf n)), .slice a n cap] w1 fun e w' => e = .returned (encMade (row l)) ∧ Below w1.heap.size w1 w' := fun w1 hb => by
    rw [hrow]
    exact made_calls (114 :: numOf n) (by simp; omega) a n cap l hn hl hm w1 (h.below hb)
  have HM := hid hM
  have Hc := hid hc
  obtain ⟨R, hR⟩ : ∃ R : Except Nat Bs, row l = R := ⟨_, rfl⟩
  rw [hR] at HM
  rw [hR]
  clear hM hc hrow hn hl hm h hR hlen
  cases R with
  | error x =>
    simp only [encMade] at HM ⊢
    go_enter Try.func30, Try.ntmps30
    rw [Hc.out]
    go_wp2_with fail
    refine hN.out.mono ?_
    rintro e w1 ⟨rfl, hb⟩
    have Hb := hid hb
    clear hb
    go_wp2_with fail
    refine (HM.out _ Hb.out).mono ?_
    rintro e w2 ⟨rfl, hb2⟩
    have hb3 := below_then Hb.out Hb.out.size hb2
    go_wp2
    go_ret2
    exact ⟨rfl, hb3⟩
  | ok x =>
    simp only [encMade] at HM ⊢
    go_enter Try.func30, Try.ntmps30
    rw [Hc.out]
    go_wp2_with fail
    refine hN.out.mono ?_
    rintro e w1 ⟨rfl, hb⟩
    have Hb := hid hb
    clear hb
    go_wp2_with fail
    refine (HM.out _ Hb.out).mono ?_
    rintro e w2 ⟨rfl, hb2⟩
    have hb3 := below_then Hb.out Hb.out.size hb2
    go_wp2
    go_ret2
    exact ⟨rfl, hb3⟩
end Go.Proofs.Ytohblakhojhklaa
