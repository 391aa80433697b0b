import Derived.Test.YtohblakhojhklaaWbld
import Derived.Test.YtohblakhojhklaaWoctet
/- The walk of term's named, and of what it calls of package strings. -/
namespace Go.Proofs.Ytohblakhojhklaa
open Go.RowKit Sp

def setB : Bs := [97, 98, 99, 100, 101, 102, 103, 104, 105, 106, 107, 108, 109, 110, 111, 112, 113, 114, 115, 116, 117, 118, 119, 120, 121, 122, 48, 49, 50, 51, 52, 53, 54, 55, 56, 57, 47, 46, 45]
theorem setB_len : setB.length = 39 := rfl
theorem setB_lt : ∀ i (h : i < setB.length), (setB[i]'h).toNat < 128 := by decide

set_option maxRecDepth 100000 in
set_option maxHeartbeats 1000000 in
theorem indexRune_err (w : World) : Calls Try.prog 101 #[.string (ofL setB), .int .i32 65533] w fun e w' => e = .returned (.int .i64 (-1)) ∧ Below w.heap.size w w' := by
  have hl := setB_len
  have Hlt := hid setB_lt
  generalize setB = l at *
  go_enter Try.func101, Try.ntmps101
  go_wp2
  go_loopw [5, 6] (fun _ _ w' => ∃ (pos : Nat), w' = w.iter (ofL l) pos) (fun _ _ w' => 39 - w'.iterPos w.heap.size)
  case atStart => exact ⟨0, rfl⟩
  case round =>
    obtain ⟨pos, rfl⟩ := hrel
    by_cases hp : pos < 39
    · have hp' : pos < (ofL l).size := by simp; omega
      have ha : (l[pos]'(by omega)).toNat < 128 := Hlt.out pos (by omega)
      have hnx : ∀ ty, (Instr.next (.pointer (some ⟨w.heap.size, 0, none⟩)) true ty).run Try.prog (w.iter (ofL l) pos) = _ := fun ty => run_next_ascii w (ofL l) pos ty hp' (by simpa using ha)
      have hne : (((l[pos]'(by omega)).toNat : Int) == 65533) = false := by simp; omega
      simp only [ofL_getElem] at hnx
      clear ha
      go_wp2
      go_roundw
      case rel => exact ⟨pos + 1, rfl⟩
      case measure => simp; omega
    · have hnx : ∀ ty, (Instr.next (.pointer (some ⟨w.heap.size, 0, none⟩)) true ty).run Try.prog (w.iter (ofL l) pos) = _ := fun ty => run_next_end w (ofL l) pos ty (by simp; omega)
      go_wp2
      go_ret
      exact ⟨rfl, (Below.refl _ _).alloc (Nat.le_refl _) _⟩

set_option maxRecDepth 100000 in
set_option maxHeartbeats 1000000 in
theorem indexRune_bad (w : World) (r : Int) (h0 : 128 ≤ r) (hne : (r == 65533) = false) (hv : Lib.validRune r = false) : Calls Try.prog 101 #[.string (ofL setB), .int .i32 r] w fun e w' => e = .returned (.int .i64 (-1)) ∧ Below w.heap.size w w' := by
  generalize setB = l at *
  have hlt : ¬ r < 128 := by omega
  have hge : 0 ≤ r := by omega
  go_enter Try.func101, Try.ntmps101
  go_wp2_with (go_at_call 102; refine (Try.utf8_ValidRune _ _).mono ?_; rintro e w' ⟨rfl, rfl⟩)
  go_ret
  exact ⟨rfl, Below.refl _ _⟩

theorem indexByte_none (c : UInt8) (hc : 128 ≤ c.toNat) : ∀ (l : Bs), (∀ b ∈ l, b.toNat < 128) → Lib.indexByte l c = -1
  | [], _ => rfl
  | b :: l, h => by
    have hb : (b == c) = false := by
      rw [beq_eq_false_iff_ne]
      rintro rfl
      have := h b (by simp)
      omega
    have := indexByte_none c hc l (fun x hx => h x (by simp [hx]))
    simp [Lib.indexByte, hb, this]

set_option maxRecDepth 100000 in
set_option maxHeartbeats 1000000 in
theorem indexRune_good (w : World) (r : Int) (h0 : 128 ≤ r) (hne : (r == 65533) = false) (hv : Lib.validRune r = true) : Calls Try.prog 101 #[.string (ofL setB), .int .i32 r] w fun e w' => e = .returned (.int .i64 (-1)) ∧ Below w.heap.size w w' := by
  have hl := setB_len
  have hall : ∀ b ∈ setB, b.toNat < 128 := by decide
  have Hall := hid hall
  clear hall
  generalize setB = l at *
  have hlt : ¬ r < 128 := by omega
  have hge : 0 ≤ r := by omega
  obtain ⟨a1, a2, a3⟩ := encode_facts r (by simp only [Lib.validRune, decide_eq_true_eq] at hv; unfold Utf8.valid; simp; omega) h0
  obtain ⟨q, hq⟩ := ofL_surj (Utf8.encode r)
  rw [hq] at a1 a2 a3
  simp only [ofL_size] at a1 a2
  obtain ⟨n, hn⟩ : ∃ n, q.length = n + 1 := ⟨q.length - 1, by omega⟩
  have hn1 : 1 ≤ n := by omega
  have hn3 : n ≤ 3 := by omega
  have hqn : n < q.length := by omega
  have hlast : 128 ≤ (q[n]'hqn).toNat := by
    have := a3 (by simp; omega)
    simpa [hn] using this
  clear a1 a2 a3
  have hln : n < l.length := by omega
  have hl0 : (l[n]'hln).toNat < 128 := Hall.out _ (List.getElem_mem hln)
  have hneq : (((l[n]'hln).toNat : Int) != ((q[n]'hqn).toNat : Int)) = true := by simp; omega
  have hib : ∀ W m k, Calls Try.prog 35 #[.string (ofL ((l.drop m).take k)), .int .u8 ((q[n]'hqn).toNat : Int)] W fun e w' => e = .returned (.int .i64 (-1)) ∧ w' = W := by
    intro W m k
    have := Try.strings_IndexByte (ofL ((l.drop m).take k)) ((q[n]'hqn).toNat : Int) W
    rw [ofL_toList, indexByte_none] at this
    · exact this
    · simpa using hlast
    · intro b hb
      exact Hall.out b (List.mem_of_mem_drop (List.mem_of_mem_take hb))
  have Hib := hid hib
  have Hn := hid hn
  have hql : q.length ≤ 4 := by omega
  have hql1 : 1 ≤ q.length := by omega
  clear hib hn
  go_enter Try.func101, Try.ntmps101
  go_wp2_with (go_at_call 102; refine (Try.utf8_ValidRune _ _).mono ?_; rintro e w' ⟨rfl, rfl⟩)
  go_step3
  go_wp2
  have e1 : (q.length : Int) - 1 = n := by have := Hn.out; omega
  rw [e1]
  have E1 := hid e1
  clear e1
  refine wp_loop_once ?_
  have hn39 : (n : Int) < 39 := by omega
  go_wp2
  go_step3
  go_wp2
  go_quiet (fail)
  go_wp2
  have s1 : IntKind.i64.wrap ((n : Int) + 1) = n + 1 := by rw [IntKind.wrap_i64]; omega
  have s2 : (0 : Int) ≤ n + 1 := by omega
  have s3 : ((n : Int) + 1).toNat = n + 1 := by omega
  have s4 : (n : Int) + 1 ≤ 39 := by omega
  go_quiet ((go_at_call 35; exact quiet_same2 (Hib.out _ _ _)))
  go_wp2
  rw [Exit.noGoto_ret]
  go_wp2
  rw [Exit.noGoto_ret]
  go_wp2
  go_ret
  exact ⟨rfl, below_drewN (Below.refl _ _) _⟩

theorem indexRune_high (w : World) (r : Int) (h0 : 128 ≤ r) : Calls Try.prog 101 #[.string (ofL setB), .int .i32 r] w fun e w' => e = .returned (.int .i64 (-1)) ∧ Below w.heap.size w w' := by
  by_cases he : r = 65533
  · subst he; exact indexRune_err w
  · have hne : (r == 65533) = false := by simpa using he
    by_cases hv : Lib.validRune r = true
    · exact indexRune_good w r h0 hne hv
    · exact indexRune_bad w r h0 hne (by simpa using hv)

set_option maxRecDepth 100000 in
theorem containsRune_high (w : World) (r : Int) (h0 : 128 ≤ r) : Calls Try.prog 99 #[.string (ofL setB), .int .i32 r] w fun e w' => e = .returned (.bool false) ∧ Below w.heap.size w w' := by
  have H := hid (fun W => indexRune_high W r h0)
  generalize setB = l at *
  go_enter Try.func99, Try.ntmps99
  go_wp2_with fail
  refine (H.out _).mono ?_
  rintro e w1 ⟨rfl, hb⟩
  go_wp2
  go_ret
  exact ⟨rfl, hb⟩

theorem indexByte_setB : ∀ n : Fin 256, decide (0 ≤ Lib.indexByte setB (UInt8.ofNat n.val)) = inName (UInt8.ofNat n.val) := by decide +kernel
theorem containsRune_low (w : World) (b : UInt8) (h0 : b.toNat < 128) : Calls Try.prog 99 #[.string (ofL setB), .int .i32 (b.toNat : Int)] w fun e w' => e = .returned (.bool (inName b)) ∧ w = w' := by
  have h := Try.strings_ContainsRune_ascii (ofL setB) (b.toNat : Int) w (by omega) (by omega)
  have e1 : ((b.toNat : Int)).toNat.toUInt8 = b := by simp
  rw [ofL_toList, e1] at h
  have h2 := indexByte_setB ⟨b.toNat, b.toNat_lt⟩
  simp only [UInt8.ofNat_toNat] at h2
  rw [h2] at h
  exact h.mono fun e w' ⟨a, b⟩ => ⟨a, b.symm⟩

theorem take_all_snoc {l : Bs} {pos : Nat} (h : pos < l.length) : (l.take (pos + 1)).all inName = ((l.take pos).all inName && inName (l[pos]'h)) := by
  rw [List.take_succ_eq_append_getElem h, List.all_append]; simp
theorem all_false_of {l : Bs} {pos : Nat} (h : pos < l.length) (hf : inName (l[pos]'h) = false) : l.all inName = false := by
  rw [Bool.eq_false_iff]
  intro ha
  have := List.all_eq_true.1 ha _ (List.getElem_mem h)
  rw [hf] at this; cases this

theorem inName_low : ∀ n : Fin 256, 128 ≤ n.val → inName (UInt8.ofNat n.val) = false := by decide +kernel

set_option maxRecDepth 100000 in
set_option maxHeartbeats 1000000 in
theorem named_calls (l : Bs) (w : World) (hm : l.length ≤ 1000000000000) : Calls Try.prog 95 #[.string (ofL l)] w fun e w' => e = .returned (.bool (named l)) ∧ Below w.heap.size w w' := by
  have hset : (⟨#[97, 98, 99, 100, 101, 102, 103, 104, 105, 106, 107, 108, 109, 110, 111, 112, 113, 114, 115, 116, 117, 118, 119, 120, 121, 122, 48, 49, 50, 51, 52, 53, 54, 55, 56, 57, 47, 46, 45]⟩ : ByteArray) = ofL setB := rfl
  have HL := hid (fun W b h => containsRune_low W b h)
  have HH := hid (fun W r h => containsRune_high W r h)
  have Hset := hid hset
  clear hset
  generalize hsb : setB = sb at *
  clear hsb
  go_enter Try.func95, Try.ntmps95
  rw [Hset.out]
  go_wp2
  go_loopw [4, 2] (fun _ b2 w' => b2 = .bool false ∧ ∃ (pos : Nat), pos ≤ l.length ∧ (l.take pos).all inName = true ∧ w' = w.iter (ofL l) pos) (fun _ _ w' => l.length - w'.iterPos w.heap.size)
  case atStart => exact ⟨rfl, 0, by omega, rfl, rfl⟩
  case round =>
    obtain ⟨rfl, pos, hpl, hall, rfl⟩ := hrel
    have Hall := hid hall
    clear hall
    by_cases hp : pos < l.length
    · have hp' : pos < (ofL l).size := by simpa using hp
      by_cases ha : (l[pos]'hp).toNat < 128
      · have hnx : ∀ ty, (Instr.next (.pointer (some ⟨w.heap.size, 0, none⟩)) true ty).run Try.prog (w.iter (ofL l) pos) = _ := fun ty => run_next_ascii w (ofL l) pos ty hp' (by simpa using ha)
        simp only [ofL_getElem] at hnx
        have hcall := hid (HL.out (w.iter (ofL l) (pos + 1)) (l[pos]'hp) ha)
        clear ha
        cases hn : inName (l[pos]'hp) with
        | true =>
          rw [hn] at hcall
          have Hn := hid hn
          clear hn
          go_wp2_with fail
          refine hcall.out.mono ?_
          rintro e w1 ⟨rfl, rfl⟩
          go_wp2
          go_roundw
          case rel => exact ⟨rfl, pos + 1, by omega, by rw [take_all_snoc hp, Hall.out, Hn.out]; rfl, rfl⟩
          case measure => simp; omega
        | false =>
          rw [hn] at hcall
          have Hn := hid hn
          clear hn
          go_wp2_with fail
          refine hcall.out.mono ?_
          rintro e w1 ⟨rfl, rfl⟩
          go_wp2
          go_ret
          exact ⟨by unfold named; rw [all_false_of hp Hn.out]; simp, (Below.refl _ _).alloc (Nat.le_refl _) _⟩
      · have hnx : ∀ ty, (Instr.next (.pointer (some ⟨w.heap.size, 0, none⟩)) true ty).run Try.prog (w.iter (ofL l) pos) = _ := fun ty => run_next_any w (ofL l) pos ty hp'
        have hd := decode_high (ofL l) pos hp' (by simp; omega)
        have Hn : Kp (inName (l[pos]'hp) = false) := hid (by
          have := inName_low ⟨(l[pos]'hp).toNat, (l[pos]'hp).toNat_lt⟩ (by simpa using ha)
          simpa using this)
        clear ha
        generalize (Utf8.decode (ofL l) pos).1 = r at *
        generalize (Utf8.decode (ofL l) pos).2 = wd at *
        have hr : (128 : Int) ≤ (r : Int) := by omega
        clear hd
        go_wp2_with fail
        refine (HH.out _ _ hr).mono ?_
        rintro e w1 ⟨rfl, hb⟩
        have Hb := hid hb
        clear hb
        go_wp2
        go_ret
        exact ⟨by unfold named; rw [all_false_of hp Hn.out]; simp, ((Below.refl w.heap.size w).alloc (Nat.le_refl _) _).trans (Hb.out.mono (by simp [World.iter]))⟩
    · have hnx : ∀ ty, (Instr.next (.pointer (some ⟨w.heap.size, 0, none⟩)) true ty).run Try.prog (w.iter (ofL l) pos) = _ := fun ty => run_next_end w (ofL l) pos ty (by simpa using hp)
      have hfull : l.all inName = true := by have := Hall.out; rwa [List.take_of_length_le (by omega)] at this
      have Hfull := hid hfull
      clear hfull
      go_wp2
      go_ret
      exact ⟨by unfold named; rw [Hfull.out]; simp, (Below.refl _ _).alloc (Nat.le_refl _) _⟩
end Go.Proofs.Ytohblakhojhklaa
