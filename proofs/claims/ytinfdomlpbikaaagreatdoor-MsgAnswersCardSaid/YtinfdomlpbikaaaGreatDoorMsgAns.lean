/-
  MsgAnswers answers true, and writes no memory that was there, of whatever head.
-/
import Derived.Test.YtinfdomlpbikaaaGreatDoorMsgF
namespace Go.Proofs.YtinfdomlpbikaaaGreatDoor
open Go.Eng
set_option linter.unusedSimpArgs false
set_option linter.unusedVariables false
set_option maxRecDepth 100000
variable {w w0 : World}
theorem head_cut0 (h : HeadV) (t : TypeId) (f : Nat × Nat) : cutIn (some (.cells h.cells t f)) 0 26 = some h.row := by
  rw [cutIn_some, if_pos (by rw [h.size]; omega)]
  show some ((h.row.drop 0).take 26) = some h.row
  rw [List.drop_zero, List.take_of_length_le (by rw [head_row_len]; omega)]
def BoxH (b : Nat) (h : HeadV) (g : Nat) (h2 : HeadV) (W : World) : Prop :=
  W.heap[b]? = some (.cells h.cells 28 (0, 0)) ∧ W.heap[g]? = some (.cells h2.cells 28 (0, 0))
set_option maxHeartbeats 4000000 in
theorem msgAnswers_any (h : HeadV) (st : Int) (ok : h.ok) (w : World) : CallP Tryz.prog 5 #[.agg h.cells, .int .i64 st] w (fun r w' => r = .bool true ∧ Upd noB w w') := by
  refine call_den (args := [_, _]) Tryz.func5 rfl rfl (by simp [Tryz.ntmps5]) ?_
  simp [go_sem]
  refine gen_call ?_
  intro W hW
  have hu : Upd noB w W := by rw [hW]; exact (by repeat (first | exact Upd.refl _ _ | refine Upd.alloc ?_ _ | refine Upd.drew ?_ | refine Upd.drewN ?_ _ | refine Upd.setB ?_ _ _ (fun h => absurd h (by omega))))
  have hb : W.heap[w.heap.size]? = some (.cells h.cells 28 (0, 0)) := by rw [hW]; simp [go_sem]
  clear hW
  refine CallP.mono (answer_any h st ok W) ?_
  rintro r W2 ⟨rfl, u2⟩
  have hu2 := hu.trans u2
  have hb2 := u2.get hb (by simp [noB])
  simp [go_sem]
  refine gen_draw ?_
  intro W3 hW
  have hu3 : Upd noB w W3 := by rw [hW]; exact (hu2.alloc _).setB _ _ (fun h => absurd h (by have := hu2.size; omega))
  have hb3 : W3.heap[w.heap.size]? = some (.cells h.cells 28 (0, 0)) := by
    have := (old_ne hb2).1
    rw [hW, heap_setB, if_neg (by omega), heap_alloc, if_neg (by omega)]; exact hb2
  have hg3 : W3.heap[W2.heap.size]? = some (.cells (ansL h st).cells 28 (0, 0)) := by rw [hW, heap_setB, if_pos rfl, heap_alloc, if_pos rfl]; rfl
  obtain ⟨bg, hbg⟩ : ∃ bg, bg = W2.heap.size := ⟨_, rfl⟩
  rw [← hbg] at hg3 ⊢
  clear hW u2 hu2 hb2 hu hb hbg
  obtain ⟨b, hbw⟩ : ∃ b, b = w.heap.size := ⟨_, rfl⟩
  rw [← hbw] at hb3 ⊢
  have hud : Upd noB w W3.drew := hu3.drew
  have hbd : W3.drew.heap[b]? = some (.cells h.cells 28 (0, 0)) := hb3
  have hgd : W3.drew.heap[bg]? = some (.cells (ansL h st).cells 28 (0, 0)) := hg3
  have lh : ∀ {W : World} {b : Nat} {h : HeadV}, W.heap[b]? = some (.cells h.cells 28 (0, 0)) → (Instr.loadAt 28 (.pointer (some ⟨b, 0, none⟩))).run Tryz.prog W = .ok (.agg h.cells) W := by
    intro W b h hx
    exact loadAt_cut (cs := h.row) (W := W) (b := b) (o := 0) (Tryz.isAgg28 _) (Tryz.sizeOf28 _) (by rw [hx]; exact head_cut0 h _ _)
  refine draw_script [.pure 2, .held [0, 1] 3, .one 4, .pure 5, .one 6, .one 7, .one 8, .pure 9, .one 10, .one 11, .one 12, .one 13, .pure 14, .one 15, .one 16, .one 17, .pure 18, .one 19, .one 20, .pure 21] (by kernel_rfl) (by kernel_rfl) (by kernel_rfl) ?_
  simp [go_sem]
  have hS : ∀ i : { W : World // BoxH b h bg (ansL h st) W }, (Instr.loadAt 28 (.pointer (some ⟨b, 0, none⟩))).run Tryz.prog i.1 = .ok (.agg h.cells) i.1 := fun i => lh i.2.1
  have hS2 : ∀ i : { W : World // BoxH b h bg (ansL h st) W }, (Instr.loadAt 28 (.pointer (some ⟨bg, 0, none⟩))).run Tryz.prog i.1 = .ok (.agg (ansL h st).cells) i.1 := fun i => lh i.2.2
  haveI : Nonempty { W : World // BoxH b h bg (ansL h st) W } := ⟨⟨W3.drew, hbd, hgd⟩⟩
  refine opsPh_held _ _ (BoxH b h bg (ansL h st)) ⟨hbd, hgd⟩ ?_
  simp [go_sem, Q_load_fix hS, Q_load_fix hS2]
  refine CallP.mono (refAnswer_any h st ok _) ?_
  rintro r W4 ⟨rfl, u4⟩
  have hb4 := u4.get hbd (by simp [noB])
  have hg4 := u4.get hgd (by simp [noB])
  have hu4 := hud.trans u4
  simp [go_sem]
  refine ⟨⟨hb4, hg4⟩, ?_⟩
  simp [go_sem, eqH_self, hb4]
  refine CallP.mono (refMay_any h ok _) ?_
  rintro r W5 ⟨rfl, u5⟩
  have hg5 := u5.get hg4 (by simp [noB])
  have hu5 := hu4.trans u5
  by_cases hm : mayL h = true
  · simp [go_sem, hm, hg5]
    refine CallP.mono (refMay_any (ansL h st) (ansL_ok h st ok) _) ?_
    rintro r W6 ⟨rfl, u6⟩
    have hg6 := u6.get hg5 (by simp [noB])
    have hu6 := hu5.trans u6
    have hm2 := ans_may h st hm
    have hr2 := ans_reply h st
    simp [go_sem, hm2, hg6]
    refine CallP.mono (isReply_any (ansL h st) (ansL_ok h st ok) _) ?_
    rintro r W7 ⟨rfl, u7⟩
    simp [go_sem, hr2]
    refine CallP.mono (lives_any _) ?_
    rintro r W8 ⟨rfl, u8⟩
    simp [go_sem]
    exact (hu6.trans u7).trans u8
  · have hm' : mayL h = false := by cases hx : mayL h <;> simp_all
    have hr2 := ans_reply h st
    simp [go_sem, hm', hg5]
    refine CallP.mono (isReply_any (ansL h st) (ansL_ok h st ok) _) ?_
    rintro r W7 ⟨rfl, u7⟩
    simp [go_sem, hr2]
    refine CallP.mono (lives_any _) ?_
    rintro r W8 ⟨rfl, u8⟩
    simp [go_sem]
    exact (hu5.trans u7).trans u8
end Go.Proofs.YtinfdomlpbikaaaGreatDoor
