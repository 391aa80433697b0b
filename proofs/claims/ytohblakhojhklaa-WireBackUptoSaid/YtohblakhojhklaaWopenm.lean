import Derived.Test.YtohblakhojhklaaWopen0
import Derived.Test.YtohblakhojhklaaWidle
/- Arguments laid open: messages. -/
namespace Go.Proofs.Ytohblakhojhklaa
open Go.RowKit Go.ChangeShapes Go.WideShapes Go.Deep Sp

section
variable {H : Type} {enc : TypeId × Value → H} {w : World} {base : Nat} {spare : Nat → Bool} {held : Bool}

set_option maxRecDepth 20000 in
theorem open_msg {r : Reach} {b0 : Nat} {v : Value} {d : DataW H} {p : List MemPlace} (hv : Value.okWide Try.prog w r b0 26 v) (h : DataW.Trod enc Try.prog w base spare held 26 v d p) (hb : Rows.uptoBulk d ≤ 1048576) :
    ∃ (x : Msg) (am : Option Addr) (nm cm : Nat), v = msgV x am nm cm ∧ MsgAt x am nm cm w ∧ (am = none → cm = 0) := by
  have h9 : Try.prog.cellsOf 26 = 9 := by kernel_rfl
  have h3 : Try.prog.cellsOf 23 = 3 := by kernel_rfl
  have e0 : Try.prog.cellsOf 3 = 1 := by kernel_rfl
  have e1 : Try.prog.cellsOf 24 = 1 := by kernel_rfl
  have e2 : Try.prog.cellsOf 9 = 1 := by kernel_rfl
  have e3 : Try.prog.cellsOf 5 = 1 := by kernel_rfl
  have e4 : Try.prog.cellsOf 4 = 1 := by kernel_rfl
  obtain ⟨cs, rfl, hsz⟩ := okWide_struct Try.underlying26 hv
  rw [h9] at hsz
  obtain ⟨cs⟩ := cs
  match cs, hsz, h with
  | [c0, c1, c2, c3, c4, c5, c6, c7, c8], _, h =>
    obtain ⟨fuel, hf0⟩ := h
    obtain ⟨xs, n', -, hxx, hlen, hxl, hf⟩ := DataW.trod_struct Try.underlying26 hf0
    have f0 : DataW.trod enc Try.prog w base spare held n' 5 (([c0, c1, c2, c3, c4, c5, c6, c7, c8].drop 0).take (Try.prog.cellsOf 5)) = xs[0]? := hf 0 _ rfl
    have f1 : DataW.trod enc Try.prog w base spare held n' 23 (([c0, c1, c2, c3, c4, c5, c6, c7, c8].drop 1).take (Try.prog.cellsOf 23)) = xs[1]? := hf 1 _ rfl
    have f2 : DataW.trod enc Try.prog w base spare held n' 3 (([c0, c1, c2, c3, c4, c5, c6, c7, c8].drop 4).take (Try.prog.cellsOf 3)) = xs[2]? := hf 2 _ rfl
    have f3 : DataW.trod enc Try.prog w base spare held n' 24 (([c0, c1, c2, c3, c4, c5, c6, c7, c8].drop 5).take (Try.prog.cellsOf 24)) = xs[3]? := hf 3 _ rfl
    have f4 : DataW.trod enc Try.prog w base spare held n' 9 (([c0, c1, c2, c3, c4, c5, c6, c7, c8].drop 6).take (Try.prog.cellsOf 9)) = xs[4]? := hf 4 _ rfl
    have f5 : DataW.trod enc Try.prog w base spare held n' 4 (([c0, c1, c2, c3, c4, c5, c6, c7, c8].drop 7).take (Try.prog.cellsOf 4)) = xs[5]? := hf 5 _ rfl
    have f6 : DataW.trod enc Try.prog w base spare held n' 9 (([c0, c1, c2, c3, c4, c5, c6, c7, c8].drop 8).take (Try.prog.cellsOf 9)) = xs[6]? := hf 6 _ rfl
    simp only [e0, e1, e2, e3, e4, h3, List.drop_zero, List.take_succ_cons, List.take_zero, List.drop_succ_cons] at f0 f1 f2 f3 f4 f5 f6
    have hx7 : xs.length = 7 := by rw [hxl]; rfl
    rw [List.getElem?_eq_getElem (by omega)] at f0 f1 f2 f3 f4 f5 f6
    have hd : d = .agg (xs.map (·.1)) := by injection hxx
    have hbl : ∀ (i : Nat) (hi : i < xs.length), Rows.uptoBulk (xs[i]'hi).1 ≤ 1048576 := fun i hi => by
      have q1 : (xs[i]'hi).1 ∈ xs.map (·.1) := List.mem_map.2 ⟨_, List.getElem_mem hi, rfl⟩
      have q2 := bulk_mem q1
      rw [hd] at hb
      simp only [Rows.uptoBulk] at hb
      omega
    have hb4 := hbl 4 (by omega)
    have hb6 := hbl 6 (by omega)
    obtain ⟨kk, hk0, -, hwf⟩ := DataW.trod_int Try.underlying5 f0
    injection hk0 with hk0 _
    subst hk0
    have hkx : 0 ≤ kk ∧ kk ≤ 255 := by simpa [Lit.wf, IntKind.min, IntKind.max, IntKind.signed, IntKind.bits] using hwf
    obtain ⟨k, rfl⟩ := Int.eq_ofNat_of_zero_le hkx.1
    obtain ⟨c, e, s, hcs⟩ := open_txn f1
    injection hcs with hc0 hcs
    injection hcs with hc1 hcs
    injection hcs with hc2 _
    subst hc0 hc1 hc2
    obtain ⟨aud, hk, -, -⟩ := DataW.trod_int Try.underlying3 f2
    injection hk with hk _
    subst hk
    obtain ⟨am, nm, cm, l, hm, m1, m2, m3, m4, m5⟩ := open_mems f3 (hbl 3 (by omega))
    injection hm with hm _
    subst hm
    obtain ⟨body, hy, hyx, -⟩ := DataW.trod_string Try.underlying9 f4
    injection hy with hy _
    subst hy
    obtain ⟨yes, hz, -⟩ := DataW.trod_bool Try.underlying4 f5
    injection hz with hz _
    subst hz
    obtain ⟨tag, hu, hux, -⟩ := DataW.trod_string Try.underlying9 f6
    injection hu with hu _
    subst hu
    rw [hyx] at hb4
    rw [hux] at hb6
    simp only at hb4 hb6
    rw [bulks.string_eq] at hb4 hb6
    refine ⟨⟨k, ⟨c, e, s⟩, aud, l, body.data.toList, yes, tag.data.toList⟩, am, nm, cm, rfl, ⟨m1, m2, m3, by simp only; omega, by simp only; omega, by simp only; omega, m4⟩, m5⟩
end
end Go.Proofs.Ytohblakhojhklaa
