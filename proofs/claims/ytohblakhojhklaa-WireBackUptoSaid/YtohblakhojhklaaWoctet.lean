import Derived.Test.YtohblakhojhklaaW0
/- The walks of package octet: ReadNum, ReadText, Num, Text come to what Sp tells of the bytes. -/
namespace Go.Proofs.Ytohblakhojhklaa
open Go.RowKit Sp

def encNum : Except Nat (Nat × Nat) → Value
  | .ok (v, n) => .tuple #[.int .u64 v, .int .i64 n, .int .i64 0]
  | .error e => .tuple #[.int .u64 0, .int .i64 0, .int .i64 e]
def encText : Except Nat (Bs × Nat) → Value
  | .ok (t, n) => .tuple #[.string (ofL t), .int .i64 n, .int .i64 0]
  | .error e => .tuple #[.string (ofL []), .int .i64 0, .int .i64 e]

theorem or_be (l : Bs) (k : Nat) (h : k < l.length) (hk : k < 8) :
    bits .or .u64 (IntKind.u64.wrap (↑(be (l.take k)) * 256)) (IntKind.u64.wrap ↑(l[k]'h).toNat) = ((be (l.take (k + 1)) : Nat) : Int) := by
  have h1 := be_lt (l.take k)
  have hl : (l.take k).length = k := by simp; omega
  rw [hl] at h1
  have h2 : (256 : Nat) ^ k ≤ 256 ^ 7 := Nat.pow_le_pow_right (by omega) (by omega)
  have h3 : (256 : Nat) ^ 7 = 72057594037927936 := by decide
  have h4 := (l[k]'h).toNat_lt
  have e1 : IntKind.u64.wrap (↑(be (l.take k)) * 256) = ((be (l.take k) * 256 : Nat) : Int) := by
    simp only [IntKind.wrap_u64]; omega
  have e2 : IntKind.u64.wrap ↑(l[k]'h).toNat = (((l[k]'h).toNat : Nat) : Int) := by
    simp only [IntKind.wrap_u64]; omega
  rw [e1, e2, bits_or_u64_nat _ _ (by omega) (by omega)]
  rw [List.take_succ_eq_append_getElem h, be_snoc]
  have e3 : be (l.take k) * 256 = be (l.take k) <<< 8 := by rw [Nat.shiftLeft_eq]
  rw [e3, Nat.shiftLeft_add_eq_or_of_lt (by omega)]

set_option maxRecDepth 10000 in
set_option maxHeartbeats 800000 in
theorem readNum_calls (s : Bs) (w : World) (hm : s.length ≤ 1000000000000) : Calls Try.prog 96 #[.string (ofL s)] w fun e w' => e = .returned (encNum (readNum s)) ∧ w = w' := by
  cases s with
  | nil =>
    go_enter Try.func96, Try.ntmps96
    go_wp2
    go_ret3
    exact ⟨rfl, rfl⟩
  | cons b r =>
    have hb := b.toNat_lt
    simp only [List.length_cons] at hm
    by_cases hs : b.toNat ≤ 247
    · have hfin : encNum (readNum (b :: r)) = .tuple #[.int .u64 (b.toNat : Nat), .int .i64 1, .int .i64 0] := by simp only [readNum, if_pos hs, encNum]; rfl
      have Hfin := hid hfin; clear hfin
      have hs' : (b.toNat : Int) ≤ 247 := by omega
      have hwr : IntKind.u64.wrap (b.toNat : Int) = b.toNat := by simp only [IntKind.wrap_u64]; omega
      go_enter Try.func96, Try.ntmps96
      go_wp2
      go_ret3
      exact ⟨by rw [Hfin.out]; simp, rfl⟩
    · by_cases hl : r.length < b.toNat - 247
      · have hfin : encNum (readNum (b :: r)) = .tuple #[.int .u64 0, .int .i64 0, .int .i64 6] := by simp only [readNum, if_neg hs, if_pos hl, encNum]; rfl
        have Hfin := hid hfin; clear hfin
        have hl' : (r.length : Int) < (b.toNat : Int) - 247 := by omega
        clear hl
        go_enter Try.func96, Try.ntmps96
        go_wp2
        go_ret3
        exact ⟨by rw [Hfin.out]; simp, rfl⟩
      · obtain ⟨n, hn⟩ : ∃ n, b.toNat = 247 + n := ⟨b.toNat - 247, by omega⟩
        have Hn := hid hn
        have hnr : n ≤ r.length := by omega
        have hn8 : n ≤ 8 := by omega
        have hn1 : 0 < n := by omega
        have hb2 : 247 < b.toNat := by omega
        have hlen2 : ¬ ((r.length : Int) < (b.toNat : Int) - 247) := by omega
        have hfin : readNum (b :: r) = if r.headD 0 = 0 ∨ be (r.take n) ≤ 247 then .error 7 else .ok (be (r.take n), n + 1) := by
          simp only [readNum, if_neg hs, if_neg hl]
          rw [show b.toNat - 247 = n by omega]
        have Hfin := hid hfin
        clear hn hfin hl hs
        go_enter Try.func96, Try.ntmps96
        go_wp2
        go_loop [2, 5, 25] (fun v _ i => ∃ k : Nat, k ≤ n ∧ i = .int .i64 k ∧ v = .int .u64 (be (r.take k))) (fun _ _ i => n - (intOf i).toNat)
        case atStart => exact ⟨0, Nat.zero_le _, rfl, rfl⟩
        case round =>
          obtain ⟨k, hk, rfl, rfl⟩ := hrel
          by_cases hlt : k < n
          · have hlt2 : (k : Int) < (b.toNat : Int) - 247 := by have := Hn.out; omega
            go_wp2
            go_round
            case rel => exact ⟨k + 1, by omega, by go_num, by rw [or_be r k (by omega) (by omega)]⟩
            case measure => simp [intOf]; omega
          · have hlt2 : ¬ (k : Int) < (b.toNat : Int) - 247 := by have := Hn.out; omega
            obtain rfl : k = n := by omega
            have hr0 : 0 < r.length := by omega
            by_cases hz : r.headD 0 = 0 ∨ be (r.take k) ≤ 247
            · have HF : Kp (encNum (readNum (b :: r)) = .tuple #[.int .u64 0, .int .i64 0, .int .i64 7]) := hid (by rw [Hfin.out, if_pos hz]; rfl)
              by_cases h0 : (r[0]'hr0).toNat = 0
              · go_wp2
                go_ret3
                exact ⟨by rw [HF.out]; rfl, rfl⟩
              · have hbe : (be (r.take k) : Int) ≤ 247 := by
                  rcases hz with hz | hz
                  · exfalso; apply h0
                    cases r with
                    | nil => simp at hr0
                    | cons c q => simp at hz; simp [hz]
                  · omega
                go_wp2
                go_ret3
                exact ⟨by rw [HF.out]; rfl, rfl⟩
            · have HF : Kp (encNum (readNum (b :: r)) = .tuple #[.int .u64 (be (r.take k) : Nat), .int .i64 ((k + 1 : Nat) : Int), .int .i64 0]) := hid (by rw [Hfin.out, if_neg hz]; rfl)
              have h0 : ¬ (r[0]'hr0).toNat = 0 := by
                intro h
                apply hz; left
                cases r with
                | nil => simp at hr0
                | cons c q => simp at h; exact UInt8.toNat_inj.1 (by simpa using h)
              have hbe : ¬ (be (r.take k) : Int) ≤ 247 := by omega
              have hk2 : (b.toNat : Int) - 247 = k := by have := Hn.out; omega
              have Hk2 := hid hk2
              clear hk2 hz
              go_wp2
              go_ret3
              refine ⟨?_, rfl⟩
              rw [HF.out]
              simp
              have := Hk2.out
              omega

set_option maxRecDepth 10000 in
set_option maxHeartbeats 800000 in
theorem num_small (v : Nat) (w : World) (hv : v ≤ 247) : Calls Try.prog 74 #[.int .u64 v] w fun e w' => e = .returned (.string (ofL (numOf v))) ∧ Below w.heap.size w w' := by
  have hs' : (v : Int) ≤ 247 := by omega
  have hcv : (convert 130 9 (.slice (some ⟨w.heap.size, 0, none⟩) 1 1)).run Try.prog (w.alloc (.cells #[.int .u8 v] 5)) = .ok (.string (ofL [UInt8.ofNat v])) (w.alloc (.cells #[.int .u8 v] 5)) :=
    run_convert_ofL _ 130 5 9 Try.underlying130 Try.underlying5 Try.underlying9 _ _ _ _ [UInt8.ofNat v] rfl (fun i hi => by
      obtain rfl : i = 0 := by simp at hi; omega
      simp [go_sem]; omega)
  go_enter Try.func74, Try.ntmps74
  go_wp2
  go_ret
  exact ⟨by rw [numOf_small hv]; rfl, (Below.refl _ _).alloc (Nat.le_refl _) _⟩

def numArr (ds : Bs) : Array Value := (List.replicate (9 - ds.length) (Value.int .u8 0) ++ ds.map (fun b => Value.int .u8 (b.toNat : Int))).toArray
theorem numArr_nil : numArr [] = #[.int .u8 0, .int .u8 0, .int .u8 0, .int .u8 0, .int .u8 0, .int .u8 0, .int .u8 0, .int .u8 0, .int .u8 0] := rfl
theorem numArr_size (ds : Bs) (h : ds.length ≤ 9) : (numArr ds).size = 9 := by simp [numArr]; omega
theorem numArr_set (ds : Bs) (b : UInt8) (h : ds.length < 9) : (numArr ds).setIfInBounds (9 - ds.length - 1) (.int .u8 (b.toNat : Int)) = numArr (b :: ds) := by
  obtain ⟨k, hk⟩ : ∃ k, 9 - ds.length = k + 1 := ⟨8 - ds.length, by omega⟩
  unfold numArr
  rw [List.setIfInBounds_toArray]
  congr 1
  simp only [List.length_cons, List.map_cons]
  rw [show 9 - (ds.length + 1) = k by omega, hk, List.replicate_succ', List.append_assoc, Nat.add_sub_cancel]
  rw [List.set_append_right _ _ (by simp)]
  simp
theorem numArr_get (ds : Bs) (i : Nat) (h : i < ds.length) : (numArr ds)[9 - ds.length + i]? = some (.int .u8 ((ds[i]'h).toNat : Int)) := by
  unfold numArr
  rw [List.getElem?_toArray, List.getElem?_append_right (by simp)]
  simp [h]

set_option maxRecDepth 10000 in
set_option maxHeartbeats 800000 in
theorem num_great (v : Nat) (w : World) (hv : 247 < v) (hb : v < 18446744073709551616) : Calls Try.prog 74 #[.int .u64 v] w fun e w' => e = .returned (.string (ofL (numOf v))) ∧ Below w.heap.size w w' := by
  have hb' : v < 256 ^ 8 := by rw [pow8]; exact hb
  have Hb := hid hb'
  clear hb hb'
  go_enter Try.func74, Try.ntmps74
  go_wp2
  rw [← numArr_nil]
  go_loopw [0, 4] (fun x at_ wr => ∃ (u : Nat) (ds : Bs), x = .int .u64 u ∧ at_ = .int .i64 ((9 - ds.length : Nat) : Int) ∧ bytesOf v = bytesOf u ++ ds ∧ wr = w.alloc (.cells (numArr ds) 139)) (fun x _ _ => (intOf x).toNat)
  case atStart => exact ⟨v, [], rfl, rfl, by simp, rfl⟩
  case round =>
    obtain ⟨u, ds, rfl, rfl, hds, rfl⟩ := hrel
    have hlen : (bytesOf v).length ≤ 8 := bytesOf_length_le v 8 Hb.out
    have Hds := hid hds
    have hl2 : (bytesOf u).length + ds.length ≤ 8 := by rw [hds] at hlen; simpa using hlen
    clear hds hlen
    by_cases hu : u = 0
    · subst hu
      have hbo : bytesOf v = ds := by rw [Hds.out, bytesOf_zero]; rfl
      have Hbo := hid hbo
      clear hbo
      have h9 := numArr_size ds (by omega)
      have hd1 : 1 ≤ ds.length := by
        obtain ⟨b, r, e, _⟩ := bytesOf_head v (by omega)
        rw [Hbo.out] at e; rw [e]; simp
      have hd8 : ds.length ≤ 8 := by omega
      have hget : (numArr ds)[9 - ds.length - 1]? = some (.int .u8 0) := by
        unfold numArr
        rw [List.getElem?_toArray, List.getElem?_append_left (by rw [List.length_replicate]; omega), List.getElem?_replicate, if_pos (by omega)]
      clear hl2
      have hi0 : (0 : Int) ≤ ((9 - ds.length : Nat) : Int) - 1 := by omega
      have hi9 : ((9 - ds.length : Nat) : Int) - 1 ≤ 9 := by omega
      have e9 : 9 - ds.length - 1 + (ds.length + 1) = 9 := by omega
      have hsl : ∀ W, (Instr.sliceAt 139 (.pointer (some ⟨w.heap.size, 0, none⟩)) (some (.int .i64 (((9 - ds.length : Nat) : Int) - 1))) none none).run Try.prog W = .ok (.slice (some ⟨w.heap.size, 9 - ds.length - 1, none⟩) (ds.length + 1) (ds.length + 1)) W := by
        intro W
        have e3 : Try.prog.arrayLen 139 = 9 := by kernel_rfl
        rw [run_sliceAt_array_l (P := Try.prog) W 139 ⟨w.heap.size, 0, none⟩ (by kernel_rfl) _ _ hi0 (by rw [e3]; exact hi9)]
        have hne : ¬ 9 = 9 - ds.length - 1 := by omega
        have e1 : ((((9 - ds.length : Nat) : Int) - 1)).toNat = 9 - ds.length - 1 := by omega
        have e2 : 9 - (9 - ds.length - 1) = ds.length + 1 := by omega
        have e4 : (sizeOf (Try.prog.elem 139)).run Try.prog W = .ok 1 W := by kernel_rfl
        rw [e4, e3, e1]
        simp only [Result.andThen_ok, slicedAt, if_neg hne, e2, Nat.mul_one]
        simp only [Addr.add]
        simp
        omega
      have hcv : (convert 130 9 (.slice (some ⟨w.heap.size, 9 - ds.length - 1, none⟩) (ds.length + 1) (ds.length + 1))).run Try.prog (w.alloc (.cells ((numArr ds).setIfInBounds (9 - ds.length - 1) (.int .u8 (255 - (((9 - ds.length : Nat) : Int) - 1)))) 139)) =
          .ok (.string (ofL (numOf v))) (w.alloc (.cells ((numArr ds).setIfInBounds (9 - ds.length - 1) (.int .u8 (255 - (((9 - ds.length : Nat) : Int) - 1)))) 139)) := by
        have hx : (255 - (((9 - ds.length : Nat) : Int) - 1)) = ((UInt8.ofNat (247 + ds.length)).toNat : Int) := by simp; omega
        rw [hx, numArr_set ds _ (by omega)]
        refine run_convert_ofL _ 130 5 9 Try.underlying130 Try.underlying5 Try.underlying9 _ _ _ _ (numOf v) ?_ ?_
        · rw [numOf_great hv, Hbo.out]; simp
        · rw [numOf_great hv, Hbo.out]
          generalize UInt8.ofNat (247 + ds.length) = b0
          intro i hi
          have := numArr_get (b0 :: ds) i hi
          rw [← this]
          simp only [List.length_cons, World.cell?_alloc_new]
          congr 1
      go_wp2
      go_ret
      exact ⟨rfl, (Below.refl _ _).alloc (Nat.le_refl _) _⟩
    · have hdl : ds.length < 8 := by
        obtain ⟨b, r, e, _⟩ := bytesOf_head u hu
        have : 1 ≤ (bytesOf u).length := by rw [e]; simp
        omega
      have hu0 : (0 : Int) < u := by omega
      have h9 := numArr_size ds (by omega)
      have hget : (numArr ds)[9 - ds.length - 1]? = some (.int .u8 0) := by
        unfold numArr
        rw [List.getElem?_toArray, List.getElem?_append_left (by rw [List.length_replicate]; omega), List.getElem?_replicate, if_pos (by omega)]
      clear hl2
      go_wp2
      go_roundw
      case rel =>
        refine ⟨u / 256, UInt8.ofNat (u % 256) :: ds, by go_num, ?_, ?_, ?_⟩
        · simp only [List.length_cons]; congr 1; omega
        · rw [Hds.out, bytesOf_pos hu]; simp
        · rw [← numArr_set ds _ (by omega)]
          congr 4
          simp
      case measure => simp [intOf]; omega

theorem num_calls (v : Nat) (w : World) (hb : v < 18446744073709551616) : Calls Try.prog 74 #[.int .u64 v] w fun e w' => e = .returned (.string (ofL (numOf v))) ∧ Below w.heap.size w w' := by
  by_cases hv : v ≤ 247
  · exact num_small v w hv
  · exact num_great v w (by omega) hb

set_option maxRecDepth 10000 in
set_option maxHeartbeats 800000 in
theorem readText_calls (most : Nat) (s : Bs) (w : World) (hm : s.length ≤ 1000000000000) (hmost : most ≤ 1000000) : Calls Try.prog 81 #[.string (ofL s), .int .i64 most] w fun e w' => e = .returned (encText (readText most s)) ∧ w = w' := by
  cases hr : readNum s with
  | error e =>
    have c := readNum_calls s w hm
    rw [hr] at c
    simp only [encNum] at c
    have Hc := hid c; clear c
    have hfin : encText (readText most s) = .tuple #[.string (ofL []), .int .i64 0, .int .i64 (e : Nat)] := by simp only [readText, hr, encText]
    have Hfin := hid hfin; clear hfin
    have he := readNum_err hr
    have Hr := hid hr; clear hr
    have he' : ((e : Int) != 0) = true := by rcases he with rfl | rfl <;> rfl
    clear he
    go_enter Try.func81, Try.ntmps81
    go_wp2_with fail
    refine Hc.out.mono ?_
    rintro e1 w1 ⟨rfl, rfl⟩
    go_wp2
    go_ret3
    exact ⟨by rw [Hfin.out]; rfl, rfl⟩
  | ok p =>
    obtain ⟨v, n⟩ := p
    have c := readNum_calls s w hm
    rw [hr] at c
    simp only [encNum] at c
    have Hc := hid c; clear c
    obtain ⟨h1, h2, h3, h4⟩ := readNum_ok hr
    have hfin : readText most s = if v > most then .error 5 else if v > s.length - n then .error 6 else .ok ((s.drop n).take v, n + v) := by simp only [readText, hr]
    have Hfin := hid hfin; clear hfin
    have Hr := hid hr; clear hr
    have H2 := hid h2; clear h1 h2
    have hn1 : 1 ≤ n := by have := H2.out; have := numOf_length_pos v; omega
    by_cases hv : most < v
    · have HF : Kp (encText (readText most s) = .tuple #[.string (ofL []), .int .i64 0, .int .i64 5]) := hid (by rw [Hfin.out, if_pos hv]; rfl)
      go_enter Try.func81, Try.ntmps81
      go_wp2_with fail
      refine Hc.out.mono ?_
      rintro e1 w1 ⟨rfl, rfl⟩
      go_wp2
      go_ret3
      exact ⟨by rw [HF.out]; rfl, rfl⟩
    · by_cases hl : v > s.length - n
      · have HF : Kp (encText (readText most s) = .tuple #[.string (ofL []), .int .i64 0, .int .i64 6]) := hid (by rw [Hfin.out, if_neg hv, if_pos hl]; rfl)
        have hl' : (s.length : Int) - n < v := by omega
        clear hl
        go_enter Try.func81, Try.ntmps81
        go_wp2_with fail
        refine Hc.out.mono ?_
        rintro e1 w1 ⟨rfl, rfl⟩
        go_wp2
        go_ret3
        exact ⟨by rw [HF.out]; rfl, rfl⟩
      · have HF : Kp (encText (readText most s) = .tuple #[.string (ofL ((s.drop n).take v)), .int .i64 ((n + v : Nat) : Int), .int .i64 0]) := hid (by rw [Hfin.out, if_neg hv, if_neg hl]; rfl)
        have hl' : ¬ (s.length : Int) - n < v := by omega
        have hb1 : ((n : Int) + v) ≤ s.length := by omega
        have hb2 : (n : Int) ≤ n + v := by omega
        have e0 : ((n : Int) + v).toNat - n = v := by omega
        have E0 := hid e0
        clear hl e0
        go_enter Try.func81, Try.ntmps81
        go_wp2_with fail
        refine Hc.out.mono ?_
        rintro e1 w1 ⟨rfl, rfl⟩
        go_wp2
        go_ret3
        refine ⟨?_, rfl⟩
        rw [HF.out]
        simp

set_option maxRecDepth 10000 in
theorem text_calls (s : Bs) (w : World) (hm : s.length ≤ 1000000000000) : Calls Try.prog 72 #[.string (ofL s)] w fun e w' => e = .returned (.string (ofL (textOf s))) ∧ Below w.heap.size w w' := by
  have hl := numOf_length_le s.length (by omega)
  have hadd := run_add_ofL (P := Try.prog) (numOf s.length) s (by omega)
  go_enter Try.func72, Try.ntmps72
  go_wp2_with fail
  refine (num_calls s.length w (by omega)).mono ?_
  rintro e1 w1 ⟨rfl, hb⟩
  go_wp2
  go_ret
  exact ⟨rfl, hb⟩

end Go.Proofs.Ytohblakhojhklaa
