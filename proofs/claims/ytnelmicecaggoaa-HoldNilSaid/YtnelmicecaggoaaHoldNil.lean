import Derived.Test.YtnelmicecaggoaaHoldW
namespace Go.Proofs.Ytnelmicecaggoaa
open Go.Eng
set_option linter.unusedSimpArgs false
set_option maxRecDepth 100000
theorem holdNil_any (node o level tick : Int) (zero : Bool) (w : World) :
    CallP Try.prog 10 #[.int .i64 node, .int .i64 o, .int .u8 level, .int .i64 tick, .bool zero] w (fun v w' => v = .bool true ∧ Upd noB w w') := by
  refine call_den (args := [_, _, _, _, _]) Try.func10 rfl rfl (by simp [Try.ntmps10]) ?_
  cases zero with
  | false =>
    simp [go_sem]
    have h0 : NilH w (.pointer none) := Or.inl rfl
    refine CallP.mono (give_no h0 node o level 0 false) ?_
    rintro v w1 ⟨rfl, u1⟩
    have h1 := h0.keep u1
    simp [go_sem]
    refine CallP.mono (break_no h1 o level tick) ?_
    rintro v w2 ⟨rfl, u2⟩
    have h2 := h1.keep u2
    simp [go_sem]
    refine CallP.mono (ack_no h2 o level) ?_
    rintro v w3 ⟨rfl, u3⟩
    have h3 := h2.keep u3
    simp [go_sem]
    refine CallP.mono (drop_no h3 o) ?_
    rintro v w4 ⟨rfl, u4⟩
    have h4 := h3.keep u4
    simp [go_sem]
    refine CallP.mono (must_no h4 node o 3) ?_
    rintro v w5 ⟨rfl, u5⟩
    have h5 := h4.keep u5
    simp [go_sem]
    refine CallP.mono (late_no h5 tick) ?_
    rintro v w6 ⟨rfl, u6⟩
    have h6 := h5.keep u6
    simp [go_sem]
    refine CallP.mono (level_no h6 o) ?_
    rintro v w7 ⟨rfl, u7⟩
    have h7 := h6.keep u7
    simp [go_sem]
    refine CallP.mono (all_no h7) ?_
    rintro v w8 ⟨rfl, u8⟩
    simp [go_sem]
    refine CallP.mono (works_any w8) ?_
    rintro v w9 ⟨rfl, u9⟩
    simp [go_sem]
    exact ((((((((u1.trans u2).trans u3).trans u4).trans u5).trans u6).trans u7).trans u8).trans u9)
  | true =>
    simp [go_sem]
    have h0 : NilH (w.alloc (.cells #[.map none] 62)) (ptrOf w.heap.size) := Or.inr ⟨_, rfl, by rw [heap_alloc, if_pos rfl]⟩
    have u0 : Upd noB w (w.alloc (.cells #[.map none] 62)) := (Upd.refl _ _).alloc _
    refine CallP.mono (give_no h0 node o level 0 false) ?_
    rintro v w1 ⟨rfl, u1⟩
    have h1 := h0.keep u1
    simp [go_sem]
    refine CallP.mono (break_no h1 o level tick) ?_
    rintro v w2 ⟨rfl, u2⟩
    have h2 := h1.keep u2
    simp [go_sem]
    refine CallP.mono (ack_no h2 o level) ?_
    rintro v w3 ⟨rfl, u3⟩
    have h3 := h2.keep u3
    simp [go_sem]
    refine CallP.mono (drop_no h3 o) ?_
    rintro v w4 ⟨rfl, u4⟩
    have h4 := h3.keep u4
    simp [go_sem]
    refine CallP.mono (must_no h4 node o 3) ?_
    rintro v w5 ⟨rfl, u5⟩
    have h5 := h4.keep u5
    simp [go_sem]
    refine CallP.mono (late_no h5 tick) ?_
    rintro v w6 ⟨rfl, u6⟩
    have h6 := h5.keep u6
    simp [go_sem]
    refine CallP.mono (level_no h6 o) ?_
    rintro v w7 ⟨rfl, u7⟩
    have h7 := h6.keep u7
    simp [go_sem]
    refine CallP.mono (all_no h7) ?_
    rintro v w8 ⟨rfl, u8⟩
    simp [go_sem]
    refine CallP.mono (works_any w8) ?_
    rintro v w9 ⟨rfl, u9⟩
    simp [go_sem]
    exact (((((((((u0.trans u1).trans u2).trans u3).trans u4).trans u5).trans u6).trans u7).trans u8).trans u9)
end Go.Proofs.Ytnelmicecaggoaa
