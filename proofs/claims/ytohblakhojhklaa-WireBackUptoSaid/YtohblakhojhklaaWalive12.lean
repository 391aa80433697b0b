import Derived.Test.YtohblakhojhklaaWlaw12
/- The walk of the law's examples. -/
namespace Go.Proofs.Ytohblakhojhklaa
open Go.RowKit Go.Maps Sp

def helloM : Msg := ⟨6, ⟨0, 0, 0⟩, 0, [], [], false, []⟩
def ackM : Msg := ⟨4, ⟨0, 1, 2⟩, 0, [], [], false, []⟩
def helloT : Bs := [114, 1, 100, 5, 104, 101, 108, 108, 111]
def ackT : Bs := [114, 2, 100, 3, 97, 99, 107, 114, 3, 100, 1, 0, 100, 1, 1, 100, 1, 2]
def voteM : Msg := ⟨2, ⟨0, 1, 2⟩, 0, [], [], false, helloT⟩
theorem enc_hello : encM helloM = .ok helloT := by kernel_rfl
theorem enc_ack : encM ackM = .ok ackT := by kernel_rfl
theorem enc_vote : encM voteM = .error 2 := by kernel_rfl
theorem dec_ack : decM ackT = some ackM := encM_back enc_ack
theorem cut_ack : cut ackT = [[100, 3, 97, 99, 107], [114, 3, 100, 1, 0, 100, 1, 1, 100, 1, 2]] := by kernel_rfl
theorem term_ack : isTerm ackT = true := by kernel_rfl
theorem lone_at' (k : Nat) (t : Txn) (y : Bool) (tag : Bs) (hk : k ≤ 255) (ht : tag.length ≤ 10000000) (am : Option Addr) (cm : Nat) (w : World) : MsgAt ⟨k, t, 0, [], [], y, tag⟩ am 0 cm w := ⟨rfl, by simp, (fun x hx => by cases hx), hk, by simp, ht, memsAt_nil _ _⟩
theorem lone_at (k : Nat) (t : Txn) (y : Bool) (tag : Bs) (hk : k ≤ 255) (ht : tag.length ≤ 10000000) (w : World) : MsgAt ⟨k, t, 0, [], [], y, tag⟩ none 0 0 w := ⟨rfl, by simp, (fun x hx => by cases hx), hk, by simp, ht, memsAt_nil _ _⟩

set_option maxRecDepth 20000 in
set_option maxHeartbeats 4000000 in
theorem alive12_calls (w : World) : Calls Try.prog 6 #[] w fun e w' => e = .returned (.bool true) ∧ Below w.heap.size w w' := by
  have he1 := fun W => wenc_calls helloM none 0 0 W (lone_at _ _ _ _ (by decide) (by decide) W)
  rw [enc_hello] at he1
  have he2 := fun W => wenc_calls ackM none 0 0 W (lone_at _ _ _ _ (by decide) (by decide) W)
  rw [enc_ack] at he2
  have he3 := fun W => wenc_calls voteM none 0 0 W (lone_at _ _ _ _ (by decide) (by decide) W)
  rw [enc_vote] at he3
  have hd := fun W => wdecode_calls ackT (by decide) W
  rw [dec_ack] at hd
  have hp := fun W => parts_some ackT (by decide) W term_ack
  rw [cut_ack] at hp
  have hw := fun W => word_calls 4 (by decide) W
  simp only [encMade, msgV, helloM, ackM, voteM, wDecodePost, List.length_nil] at he1 he2 he3 hd
  have He1 := hid he1
  have He2 := hid he2
  have He3 := hid he3
  have Hd := hid hd
  have Hp := hid hp
  have Hw := hid hw
  have HB0 := hid (Below.refl w.heap.size w)
  clear he1 he2 he3 hd hp hw
  go_enter Try.func6, Try.ntmps6
  go_wp2_with fail
  refine (He1.out _).mono ?_
  rintro e1 w1 ⟨rfl, hb1⟩
  have Hb1 := hid hb1
  clear hb1
  go_wp2_with fail
  have HT := hid (BlkAt.new w1 #[.int .i64 0, .int .i64 1, .int .i64 2] 23)
  have HB1 := hid (Hb1.out.alloc Hb1.out.size (.cells #[.int .i64 0, .int .i64 1, .int .i64 2] 23))
  refine (He2.out _).mono ?_
  rintro e2 w2 ⟨rfl, hb2⟩
  have hT := HT.out.below hb2
  have HT2 := hid hT
  have HB2 := hid (below_then HB1.out HB1.out.size hb2)
  have t0 := hT.val 0 rfl
  have t1 := hT.val 1 rfl
  have t2 := hT.val 2 rfl
  clear hb2 hT
  go_wp2_with fail
  refine (He3.out _).mono ?_
  rintro e3 w3 ⟨rfl, hb3⟩
  have HT3 := hid (HT2.out.below hb3)
  have HB3 := hid (below_then HB2.out HB2.out.size hb3)
  clear hb3 t0 t1 t2
  go_wp2_with fail
  refine (Hd.out _).mono ?_
  rintro e4 w4 ⟨⟨am, cm, rfl, hm4⟩, hb4⟩
  have HT4 := hid (HT3.out.below hb4)
  have HB4 := hid (below_then HB3.out HB3.out.size hb4)
  have Hsm := hid (fun W => by
    have := sameM_calls ackM ackM am 0 cm none 0 0 W (lone_at' _ _ _ _ (by decide) (by decide) am cm W) (lone_at _ _ _ _ (by decide) (by decide) W)
    rw [decide_eq_true rfl] at this
    exact this)
  simp only [msgV, ackM] at Hsm
  clear hb4 hm4
  go_wp2_with fail
  have HM := hid (BlkAt.new w4 #[.int .u8 4, .int .i64 0, .int .i64 1, .int .i64 2, .int .i64 0, .slice am 0 cm, .string (ofL []), .bool false, .string (ofL [])] 26)
  have HT5 := hid (HT4.out.alloc (.cells #[.int .u8 4, .int .i64 0, .int .i64 1, .int .i64 2, .int .i64 0, .slice am 0 cm, .string (ofL []), .bool false, .string (ofL [])] 26))
  have HB5 := hid (HB4.out.alloc HB4.out.size (.cells #[.int .u8 4, .int .i64 0, .int .i64 1, .int .i64 2, .int .i64 0, .slice am 0 cm, .string (ofL []), .bool false, .string (ofL [])] 26))
  refine (Hp.out _).mono ?_
  rintro e5 w5 ⟨v, rfl, ho5, hb5⟩
  obtain ⟨ap, cp, rfl, -⟩ := ho5.read
  have hM := HM.out.below hb5
  have hT := HT5.out.below hb5
  have HB6 := hid (below_then HB5.out HB5.out.size hb5)
  have c0 := hM.val 0 rfl
  have c1 := hM.val 1 rfl
  have c2 := hM.val 2 rfl
  have c3 := hM.val 3 rfl
  have c4 := hM.val 4 rfl
  have c5 := hM.val 5 rfl
  have c6 := hM.val 6 rfl
  have c7 := hM.val 7 rfl
  have c8 := hM.val 8 rfl
  have t0 := hT.val 0 rfl
  have t1 := hT.val 1 rfl
  have t2 := hT.val 2 rfl
  clear ho5 hb5 hM hT HM HT5 HB5 HT4 HB4 HT3 HB3 HT2 HB2 HT HB1 Hb1 He1 He2 He3 Hd Hp HB0
  have hq : ∀ W, (binOp .eql 9 (.string (ofL helloT)) (.string ⟨#[114, 1, 100, 5, 104, 101, 108, 108, 111]⟩)).run Try.prog W = .ok (.bool true) W := fun _ => by kernel_rfl
  have hq2 : ∀ W, (binOp .eql 9 (.string (ofL (wordK 4))) (.string ⟨#[97, 99, 107]⟩)).run Try.prog W = .ok (.bool true) W := fun _ => by kernel_rfl
  simp only [List.length_cons, List.length_nil, Nat.zero_add, Nat.reduceAdd]
  go_wp2_with fail
  refine (Hsm.out _).mono ?_
  rintro e6 w6 ⟨rfl, hb6⟩
  have HB7 := hid (below_then HB6.out HB6.out.size hb6)
  clear hb6 c0 c1 c2 c3 c4 c5 c6 c7 c8 t0 t1 t2
  go_wp2_with fail
  refine (Hw.out _).mono ?_
  rintro e7 w7 ⟨rfl, hb7⟩
  have HB8 := hid (below_then HB7.out HB7.out.size hb7)
  clear hb7
  go_wp2
  go_ret
  exact ⟨rfl, HB8.out⟩
end Go.Proofs.Ytohblakhojhklaa
