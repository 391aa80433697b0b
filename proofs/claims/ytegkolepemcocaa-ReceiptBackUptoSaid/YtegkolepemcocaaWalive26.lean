import Derived.Test.YtegkolepemcocaaWlaw26b
import Derived.Test.YtegkolepemcocaaPback
/- The walk of the law's examples. -/
namespace Go.Proofs.Ytegkolepemcocaa
open Go.RowKit Sp

/-- The chapter's receipt's term; a term that names a member twice. -/
def oneT : Bs := [114, 5, 100, 7, 114, 101, 99, 101, 105, 112, 116, 114, 3, 100, 1, 0, 100, 1, 1, 100, 1, 1, 100, 1, 2, 114, 1, 114, 2, 100, 1, 1, 100, 0, 114, 1, 100, 1, 7]
def twoT : Bs := [114, 5, 100, 7, 114, 101, 99, 101, 105, 112, 116, 114, 3, 100, 1, 0, 100, 1, 1, 100, 1, 1, 100, 1, 2, 114, 2, 114, 2, 100, 1, 1, 100, 0, 114, 2, 100, 1, 1, 100, 0, 114, 2, 100, 1, 7, 100, 1, 7]
theorem enc_one : encR oneR = .ok oneT := by kernel_rfl
theorem dec_one : decR oneT = .ok oneR := decR_encR enc_one
theorem dec_two : decR twoT = .error 260 := by kernel_rfl

theorem RcptAt.own {r : Rcpt} {base : Nat} {w : World} {am : Option Addr} {cm : Nat} {at_ : Option Addr} {ct : Nat} (hl : r.mems.length ≤ 10000000) (ht : r.tags.length ≤ 10000000) (hd : ∀ x ∈ r.mems, x.dig.length ≤ 10000000) (hs : ∀ s ∈ r.tags, s.length ≤ 10000000)
    (h : OwnMems base w (.slice am r.mems.length cm) r.mems) (h' : OwnStrs base w (.slice at_ r.tags.length ct) r.tags) : RcptAt r am r.mems.length cm at_ r.tags.length ct w := ⟨rfl, rfl, hl, ht, hd, hs, h.at_, h'.at_⟩

set_option maxRecDepth 20000 in
set_option maxHeartbeats 4000000 in
theorem alive26_calls (w : World) : Calls Try.prog 8 #[] w fun e w' => e = .returned (.bool true) ∧ Below w.heap.size w w' := by
  have hen := fun am cm at_ ct W h => rencode_calls oneR am 1 cm at_ 1 ct W h
  rw [enc_one] at hen
  have hd1 := fun W => rdecode_calls oneT (by decide) W
  rw [dec_one] at hd1
  have hd2 := fun W => rdecode_calls twoT (by decide) W
  rw [dec_two] at hd2
  simp only [rDecodePost, encMade, rcptV, oneR, List.length_cons, List.length_nil, Nat.zero_add] at hen hd1 hd2
  have Hen := hid hen
  have Hd1 := hid hd1
  have Hd2 := hid hd2
  clear hen hd1 hd2
  go_enter Try.func8, Try.ntmps8
  go_wp2_with fail
  refine (one26_calls _).mono ?_
  rintro e1 w1 ⟨am, cm, at_, ct, rfl, hr1, hb1⟩
  have Hr1 := hid hr1
  have Hb1 := hid hb1
  clear hr1 hb1
  simp only [rcptV]
  go_wp2_with fail
  refine (Hen.out am cm at_ ct _ Hr1.out).mono ?_
  rintro e2 w2 ⟨rfl, hb2⟩
  have Hb2 := hid (below_then Hb1.out Hb1.out.size hb2)
  clear hb2 Hr1
  go_wp2_with fail
  refine (Hd1.out _).mono ?_
  rintro e3 w3 ⟨⟨am', cm', at', ct', rfl, hm3, hs3⟩, hb3⟩
  have hb3' := below_then Hb2.out Hb2.out.size hb3
  have HR3 := hid (RcptAt.own (r := oneR) (by decide) (by decide) (by decide) (by decide) hm3 hs3)
  have HB3 := hid hb3'
  clear hb3 hb3' hm3 hs3
  go_wp2_with fail
  refine (Hd2.out _).mono ?_
  rintro e4 w4 ⟨rfl, hb4⟩
  have hbk := (BlkAt.new w3 #[.int .i64 0, .int .i64 1, .int .i64 1, .int .i64 2, .slice am' 1 cm', .slice at' 1 ct'] 27).below hb4
  have ha3 : Below w3.heap.size w3 (w3.alloc (.cells #[.int .i64 0, .int .i64 1, .int .i64 1, .int .i64 2, .slice am' 1 cm', .slice at' 1 ct'] 27)) := (Below.refl _ _).alloc (Nat.le_refl _) _
  have hb4' := bt0 ha3 hb4
  have Hbk := hid hbk
  have HR4 := hid (HR3.out.below hb4')
  have HB4 := hid (below_then HB3.out HB3.out.size hb4')
  have hlt : w3.heap.size < w4.heap.size := hbk.lt
  have c0 := hbk.val 0 rfl
  have c1 := hbk.val 1 rfl
  have c2 := hbk.val 2 rfl
  have c3 := hbk.val 3 rfl
  have c4 := hbk.val 4 rfl
  have c5 := hbk.val 5 rfl
  clear hbk ha3 hb4 hb4' HR3
  go_wp2_with fail
  have Hsm := hid (fun bm dm bt dt W (h' : RcptAt oneR bm 1 dm bt 1 dt W) (h : RcptAt oneR am' 1 cm' at' 1 ct' W) => same26_calls oneR oneR am' 1 cm' at' 1 ct' bm 1 dm bt 1 dt W h h')
  have hq : ∀ W, (binOp .eql 9 (.string (ofL oneT)) (.string ⟨#[114, 5, 100, 7, 114, 101, 99, 101, 105, 112, 116, 114, 3, 100, 1, 0, 100, 1, 1, 100, 1, 1, 100, 1, 2, 114, 1, 114, 2, 100, 1, 1, 100, 0, 114, 1, 100, 1, 7]⟩)).run Try.prog W = .ok (.bool true) W := fun _ => by kernel_rfl
  refine gen_world (P := fun V => BlkAt V w3.heap.size #[.int .i64 0, .int .i64 1, .int .i64 1, .int .i64 2, .slice am' 1 cm', .slice at' 1 ct'] 27 ∧ RcptAt oneR am' 1 cm' at' 1 ct' V ∧ Below w.heap.size w V) _ ⟨Hbk.out.alloc _, HR4.out.below ((Below.refl _ _).alloc (Nat.le_refl _) _), HB4.out.alloc HB4.out.size _⟩ ?_
  intro w5 ⟨hbk5, hr5, hb5⟩
  have c0 := hbk5.val 0 rfl
  have c1 := hbk5.val 1 rfl
  have c2 := hbk5.val 2 rfl
  have c3 := hbk5.val 3 rfl
  have c4 := hbk5.val 4 rfl
  have c5 := hbk5.val 5 rfl
  have Hbk5 := hid hbk5
  have HR5 := hid hr5
  have HB5 := hid hb5
  clear hbk5 hr5 hb5 Hbk HR4 HB4 HB3 Hb2 Hb1 Hen Hd1 Hd2
  go_region_held2 (fun w' => w'.cell? ⟨w3.heap.size, 0, none⟩ = some (.int .i64 0) ∧ w'.cell? ⟨w3.heap.size, 1, none⟩ = some (.int .i64 1) ∧ w'.cell? ⟨w3.heap.size, 2, none⟩ = some (.int .i64 1) ∧ w'.cell? ⟨w3.heap.size, 3, none⟩ = some (.int .i64 2) ∧ w'.cell? ⟨w3.heap.size, 4, none⟩ = some (.slice am' 1 cm') ∧ w'.cell? ⟨w3.heap.size, 5, none⟩ = some (.slice at' 1 ct'))
    ((go_split_ands; refine ⟨?_, ?_, ?_, ?_, ?_, ?_⟩ <;> (with_reducible first | assumption | skip) <;> first | exact c0 | exact c1 | exact c2 | exact c3 | exact c4 | exact c5))
    (first
      | (go_at_call 34; (go_split_ands; refine (one26_calls _).mono ?_; rintro e9 wn ⟨bm, dm, bt, dt, rfl, hr9, hbn⟩; simp only [rcptV]; have hbn : Below w5.heap.size w5 wn := (by first | exact hbn | exact btd hbn); have hb9 := Hbk5.out.below hbn; have d0 := hb9.val 0 rfl; have d1 := hb9.val 1 rfl; have d2 := hb9.val 2 rfl; have d3 := hb9.val 3 rfl; have d4 := hb9.val 4 rfl; have d5 := hb9.val 5 rfl; have hsm9 := Hsm.out bm dm bt dt wn hr9 (HR5.out.below hbn); simp only [rcptV, oneR] at hsm9))
      | (go_at_call 13; (go_split_ands; refine (hsm9).mono ?_; rintro e9 wq ⟨rfl, hbq⟩; simp only [decide_true]; have hb8 := hb9.below hbq; have d0 := hb8.val 0 rfl; have d1 := hb8.val 1 rfl; have d2 := hb8.val 2 rfl; have d3 := hb8.val 3 rfl; have d4 := hb8.val 4 rfl; have d5 := hb8.val 5 rfl; have hz := below_then HB5.out HB5.out.size (bt0 hbn hbq))))
  have Hz := hid hz
  clear hz hb8 hbn hbq hb9 hsm9 hr9 d0 d1 d2 d3 d4 d5
  go_wp2
  go_ret
  exact ⟨rfl, Hz.out⟩
end Go.Proofs.Ytegkolepemcocaa
