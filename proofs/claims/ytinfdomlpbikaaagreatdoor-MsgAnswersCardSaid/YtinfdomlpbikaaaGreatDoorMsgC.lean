/-
  Put, of a message of nothing but a head.
-/
import Derived.Test.YtinfdomlpbikaaaGreatDoorMsgB
namespace Go.Proofs.YtinfdomlpbikaaaGreatDoor
open Go.Eng
set_option linter.unusedSimpArgs false
set_option linter.unusedVariables false
set_option maxRecDepth 100000
variable {w w0 : World}
def bareM (h : HeadV) : MsgV := ⟨h, zeroA, zeroS⟩
set_option maxHeartbeats 4000000 in
theorem put_bare (h : HeadV) (ok : h.ok) (hm : mayL h = true) (hc : h.command = 13) (hn : h.next = 0) (hr : hasF h.flags 1 → h.status ≠ 0) (w : World) :
    CallP Tryz.prog 12 #[.agg (bareM h).cells] w (fun r w' => ∃ v, r = .tuple #[v, .int .i64 0] ∧ Upd noB w w' ∧ OwnB w' w.heap.size v (headB h ++ [0, 0, 0, 0])) := by
  refine call_den (args := [_]) Tryz.func12 rfl rfl (by simp [Tryz.ntmps12]) ?_
  simp [go_sem, bareM]
  refine gen_call ?_
  intro W hW
  have hu : Upd noB w W := by rw [hW]; exact (by repeat (first | exact Upd.refl _ _ | refine Upd.alloc ?_ _ | refine Upd.drew ?_ | refine Upd.drewN ?_ _ | refine Upd.setB ?_ _ _ (fun h => absurd h (by omega))))
  have hb : MsgAt W (w.heap.size + 1) (bareM h) := by unfold MsgAt; rw [hW, heap_alloc, if_pos (by simp)]; rfl
  clear hW
  refine CallP.mono (headPut_any h ok W) ?_
  rintro r W2 ⟨u2, hres⟩
  rw [if_pos hm] at hres
  obtain ⟨v, rfl, own⟩ := hres
  have hb2 : MsgAt W2 (w.heap.size + 1) (bareM h) := u2.get hb (by simp [noB])
  have hf := ok.flags
  have fin : ∀ (k : Value → World → Prop) (W4 : World), Upd noB W2 W4 → MsgAt W4 (w.heap.size + 1) (bareM h) → (∀ v2 W5, Upd noB W4 W5 → OwnB W5 W4.heap.size v2 [0, 0, 0, 0] → k (.tuple #[v2, .int .i64 0]) W5) → CallP Tryz.prog 38 #[.pointer (some ⟨w.heap.size + 1, 0, none⟩)] W4 k := by
    intro k W4 u4 hb4 hk
    by_cases hrep : hasF h.flags 1
    · refine CallP.mono (body_fault (m := bareM h) hb4 hf hc hrep (hr hrep)) ?_
      rintro r W5 ⟨v2, rfl, u5, own5⟩
      exact hk v2 W5 u5 own5
    · refine CallP.mono (body_echo (m := bareM h) hb4 hf hc hrep rfl) ?_
      rintro r W5 ⟨v2, rfl, u5, own5⟩
      exact hk v2 W5 u5 own5
  simp [go_sem]
  refine CallP.mono (msgReply_any hb2 hf) ?_
  rintro r W3 ⟨rfl, rfl⟩
  have hq : (bareM h).head.flags = h.flags := rfl
  rw [hq]
  have hb2' := hb2
  unfold MsgAt at hb2'
  by_cases hrep : hasF h.flags 1
  · have hst : h.status ≠ 0 := hr hrep
    simp [go_sem, hrep, hb2']
    refine CallP.mono (none_zero _) ?_
    rintro r W4 ⟨rfl, u4⟩
    have hb4 : MsgAt W4 (w.heap.size + 1) (bareM h) := u4.get hb2 (by simp [noB])
    simp [go_sem]
    refine CallP.mono (msgReply_any hb4 hf) ?_
    rintro r W5 ⟨rfl, hW5⟩
    rw [hW5]; clear hW5; clear W5
    rw [hq]
    simp [go_sem, hrep]
    refine CallP.mono (msgFault_any hb4 hf) ?_
    rintro r W5 ⟨rfl, hW5⟩
    rw [hW5]; clear hW5; clear W5
    rw [hq]
    have hq2 : (bareM h).head.status = h.status := rfl
    rw [hq2]
    have hb4' := hb4
    unfold MsgAt at hb4'
    simp [go_sem, hrep, hst, hb4']
    refine CallP.mono (silent_zero _) ?_
    rintro r W6 ⟨rfl, u6⟩
    have hb6 : MsgAt W6 (w.heap.size + 1) (bareM h) := u6.get hb4 (by simp [noB])
    have u26 : Upd noB W3 W6 := u4.trans u6
    simp [go_sem]
    refine fin _ W6 u26 hb6 ?_
    intro v2 W7 u7 own7
    have own' := own_keep0 (own_keep0 own u26) u7
    have u27 := u26.trans u7
    have hb7 : MsgAt W7 (w.heap.size + 1) (bareM h) := u7.get hb6 (by simp [noB])
    obtain ⟨v3, W8, hrun, own8, hg8⟩ := OwnB.append (l := headB h) own' own7.at 31 (by rw [headB_len]; decide) ((u2.trans u27).size)
    have u8 : Upd noB W W8 := upd_append own' (u2.trans u27) (Nat.le_refl _) hg8
    have hb8 : W8.heap[w.heap.size + 1]? = some (.cells (bareM h).cells 66 (0, 0)) := u8.get hb (by simp [noB])
    have hq3 : (bareM h).head.next = h.next := rfl
    simp [go_sem, K_append_ok _ _ _ _ hrun]
    refine den_loop (fun _ ρ W' => ρ 4 = .pointer (some ⟨w.heap.size + 1, 0, none⟩) ∧ ρ 7 = v3 ∧ W' = W8) 0 ⟨by simp [go_sem], by simp [go_sem], rfl⟩ ?_
    rintro m ρ W' ⟨g4, g7, rfl⟩
    simp [go_sem, g4, g7, hb8, hq3, hn]
    exact ⟨hu.trans u8, own_base own8 hu.size⟩
  · simp [go_sem, hrep, hb2']
    refine CallP.mono (msgReply_any hb2 hf) ?_
    rintro r W5 ⟨rfl, hW5⟩
    rw [hW5]; clear hW5; clear W5
    rw [hq]
    simp [go_sem, hrep, hb2']
    refine CallP.mono (silent_zero _) ?_
    rintro r W6 ⟨rfl, u26⟩
    have hb6 : MsgAt W6 (w.heap.size + 1) (bareM h) := u26.get hb2 (by simp [noB])
    simp [go_sem]
    refine CallP.mono (msgFault_any hb6 hf) ?_
    rintro r W5 ⟨rfl, hW5⟩
    rw [hW5]; clear hW5; clear W5
    rw [hq]
    simp [go_sem, hrep]
    refine fin _ W6 u26 hb6 ?_
    intro v2 W7 u7 own7
    have own' := own_keep0 (own_keep0 own u26) u7
    have u27 := u26.trans u7
    have hb7 : MsgAt W7 (w.heap.size + 1) (bareM h) := u7.get hb6 (by simp [noB])
    obtain ⟨v3, W8, hrun, own8, hg8⟩ := OwnB.append (l := headB h) own' own7.at 31 (by rw [headB_len]; decide) ((u2.trans u27).size)
    have u8 : Upd noB W W8 := upd_append own' (u2.trans u27) (Nat.le_refl _) hg8
    have hb8 : W8.heap[w.heap.size + 1]? = some (.cells (bareM h).cells 66 (0, 0)) := u8.get hb (by simp [noB])
    have hq3 : (bareM h).head.next = h.next := rfl
    simp [go_sem, K_append_ok _ _ _ _ hrun]
    refine den_loop (fun _ ρ W' => ρ 4 = .pointer (some ⟨w.heap.size + 1, 0, none⟩) ∧ ρ 7 = v3 ∧ W' = W8) 0 ⟨by simp [go_sem], by simp [go_sem], rfl⟩ ?_
    rintro m ρ W' ⟨g4, g7, rfl⟩
    simp [go_sem, g4, g7, hb8, hq3, hn]
    exact ⟨hu.trans u8, own_base own8 hu.size⟩
end Go.Proofs.YtinfdomlpbikaaaGreatDoor
