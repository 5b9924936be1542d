/-
  The head of a Reply.
-/
import Derived.Test.YtinfdomlpbikaaaGreatDoorMsgU
namespace Go.Proofs.YtinfdomlpbikaaaGreatDoor
open Go.Eng
set_option linter.unusedSimpArgs false
set_option linter.unusedVariables false
set_option maxRecDepth 100000
variable {w w0 : World}
def ansL (h : HeadV) (st : Int) : HeadV :=
  { charge := h.charge, status := IntKind.u32.wrap st, command := h.command, credits := 0, flags := if hasF h.flags 4 then 5 else 1, next := 0, id := h.id, async := 0, tree := if hasF h.flags 2 then 0 else h.tree, session := h.session, sign := zeroH.sign }
theorem ansL_ok (h : HeadV) (st : Int) (ok : h.ok) : (ansL h st).ok := by
  refine ⟨ok.charge, ?_, ok.command, (by decide : (0 : Int) ≤ 0 ∧ (0 : Int) < 65536), ?_, (by decide : (0 : Int) ≤ 0 ∧ (0 : Int) < 4294967296), ok.id, (by decide : (0 : Int) ≤ 0 ∧ (0 : Int) < 18446744073709551616), ?_, ok.session⟩
  · simp only [ansL, IntKind.wrap, IntKind.bits, IntKind.signed]; simp; omega
  · simp only [ansL]; split <;> decide
  · simp only [ansL]; have := ok.tree; split <;> omega
set_option maxHeartbeats 2000000 in
theorem answer_any (h : HeadV) (st : Int) (ok : h.ok) (w : World) : CallP Tryz.prog 21 #[.agg h.cells, .int .i64 st] w (fun r w' => r = .agg (ansL h st).cells ∧ Upd noB w w') := by
  have a2 := and_2 ok.flags.1 ok.flags.2
  have a4 := and_4 ok.flags.1 ok.flags.2
  have o5 : bits .or .u32 1 4 = 5 := by decide
  have o1 : bits .or .u32 1 0 = 1 := by decide
  have hsz0 : zeroH.cells.size = 26 := HeadV.size _
  refine call_den (args := [_, _]) Tryz.func21 rfl rfl (by simp [Tryz.ntmps21]) ?_
  simp [go_sem]
  refine gen_load ?_
  intro W hW
  obtain ⟨g, hg⟩ : ∃ g : HeadV, g = { charge := h.charge, status := IntKind.u32.wrap st, command := h.command, credits := 0, flags := bits .or .u32 1 (bits .and .u32 h.flags 4), next := 0, id := h.id, async := 0, tree := h.tree, session := h.session, sign := zeroH.sign } := ⟨_, rfl⟩
  have hu : Upd noB w W := by rw [hW]; exact (by repeat (first | exact Upd.refl _ _ | refine Upd.alloc ?_ _ | refine Upd.drew ?_ | refine Upd.drewN ?_ _ | refine Upd.setB ?_ _ _ (fun h => absurd h (by omega))))
  have hb : W.heap[w.heap.size]? = some (.cells h.cells 28 (0, 0)) := by rw [hW, heap_setB, if_neg (by omega), heap_alloc, if_neg (by simp; omega), heap_alloc, if_neg (by simp), heap_alloc, if_pos rfl]
  have hz : W.heap[w.heap.size + 1]? = some (.cells zeroH.cells 28 (0, 0)) := by rw [hW, heap_setB, if_neg (by omega), heap_alloc, if_neg (by simp), heap_alloc, if_pos (by simp)]
  have hh : W.heap[w.heap.size + 1 + 1]? = some (.cells g.cells 28 (0, 0)) := by rw [hW, heap_setB, if_pos rfl, heap_alloc, if_pos (by simp), hg]; rfl
  clear hW
  by_cases h4 : hasF h.flags 4
  · rw [a4, if_pos h4, o5] at hg
    by_cases h2 : hasF h.flags 2
    · simp [go_sem, hb, hz, hh, a2, h2, hsz0]
      refine ⟨?_, (hu.setB _ _ (fun h => absurd h (by omega))).setB _ _ (fun h => absurd h (by omega))⟩
      simp [ansL, h2, h4, hg]
    · simp [go_sem, hb, hz, hh, a2, h2, hsz0]
      refine ⟨?_, hu.setB _ _ (fun h => absurd h (by omega))⟩
      simp [ansL, h2, h4, hg]
  · rw [a4, if_neg h4, o1] at hg
    by_cases h2 : hasF h.flags 2
    · simp [go_sem, hb, hz, hh, a2, h2, hsz0]
      refine ⟨?_, (hu.setB _ _ (fun h => absurd h (by omega))).setB _ _ (fun h => absurd h (by omega))⟩
      simp [ansL, h2, h4, hg]
    · simp [go_sem, hb, hz, hh, a2, h2, hsz0]
      refine ⟨?_, hu.setB _ _ (fun h => absurd h (by omega))⟩
      simp [ansL, h2, h4, hg]
set_option maxHeartbeats 2000000 in
theorem refAnswer_any (h : HeadV) (st : Int) (ok : h.ok) (w : World) : CallP Tryz.prog 22 #[.agg h.cells, .int .i64 st] w (fun r w' => r = .agg (ansL h st).cells ∧ Upd noB w w') := by
  have hsz0 : zeroH.cells.size = 26 := HeadV.size _
  refine call_den (args := [_, _]) Tryz.func22 rfl rfl (by simp [Tryz.ntmps22]) ?_
  simp [go_sem]
  refine gen_load ?_
  intro W hW
  have hu : Upd noB w W := by rw [hW]; exact (by repeat (first | exact Upd.refl _ _ | refine Upd.alloc ?_ _ | refine Upd.drew ?_ | refine Upd.drewN ?_ _ | refine Upd.setB ?_ _ _ (fun h => absurd h (by omega))))
  have hb : W.heap[w.heap.size]? = some (.cells h.cells 28 (0, 0)) := by rw [hW, heap_alloc, if_neg (by simp; omega), heap_alloc, if_neg (by simp), heap_alloc, if_pos rfl]
  have hz : W.heap[w.heap.size + 1]? = some (.cells zeroH.cells 28 (0, 0)) := by rw [hW, heap_alloc, if_neg (by simp), heap_alloc, if_pos (by simp)]
  have hh : W.heap[w.heap.size + 1 + 1]? = some (.cells zeroH.cells 28 (0, 0)) := by rw [hW, heap_alloc, if_pos (by simp)]
  clear hW
  have n1 : ¬ w.heap.size = w.heap.size + 1 + 1 := by omega
  simp [go_sem, hb, hz, hh, n1]
  refine gen_call ?_
  intro W2 hW2
  obtain ⟨g, hg⟩ : ∃ g : HeadV, g = { charge := h.charge, status := IntKind.u32.wrap st, command := h.command, credits := 0, flags := 1, next := 0, id := h.id, async := 0, tree := 0, session := h.session, sign := zeroH.sign } := ⟨_, rfl⟩
  have hu2 : Upd noB w W2 := by rw [hW2]; repeat (first | exact hu | refine Upd.setB ?_ _ _ (fun h => absurd h (by omega)))
  have hb2 : W2.heap[w.heap.size]? = some (.cells h.cells 28 (0, 0)) := by rw [hW2]; simp only [heap_setB, n1, if_false]; exact hb
  have hz2 : W2.heap[w.heap.size + 1]? = some (.cells zeroH.cells 28 (0, 0)) := by
    have n2 : ¬ w.heap.size + 1 = w.heap.size + 1 + 1 := by omega
    rw [hW2]; simp only [heap_setB, n2, if_false]; exact hz
  have hh2 : W2.heap[w.heap.size + 1 + 1]? = some (.cells g.cells 28 (0, 0)) := by rw [hW2, hg, heap_setB, if_pos rfl]; simp only [heap_setB, if_true, hh, Option.map_some]; rfl
  clear hW2 hu hb hz hh
  refine CallP.mono (has_any h 4 (by decide) ok.flags _) ?_
  rintro r W3 ⟨rfl, u3⟩
  have hu3 := hu2.trans u3
  have hb3 := u3.get hb2 (by simp [noB])
  have hz3 := u3.get hz2 (by simp [noB])
  have hh3 := u3.get hh2 (by simp [noB])
  clear u3 hu2 hb2 hz2 hh2
  by_cases h4 : hasF h.flags 4
  · simp [go_sem, h4, hb3, hz3, hh3, n1]
    refine CallP.mono (has_any h 2 (by decide) ok.flags _) ?_
    rintro r W4 ⟨rfl, u4⟩
    have hu4 := (hu3.setB (w.heap.size + 1 + 1) (.cells { g with flags := 5 }.cells 28) (fun h => absurd h (by omega))).trans u4
    have hb4 : W4.heap[w.heap.size]? = some (.cells h.cells 28 (0, 0)) := u4.get (by rw [heap_setB, if_neg (by omega)]; exact hb3) (by simp [noB])
    have hz4 : W4.heap[w.heap.size + 1]? = some (.cells zeroH.cells 28 (0, 0)) := u4.get (by rw [heap_setB, if_neg (by omega)]; exact hz3) (by simp [noB])
    have hh4 : W4.heap[w.heap.size + 1 + 1]? = some (.cells { g with flags := 5 }.cells 28 (0, 0)) := u4.get (by rw [heap_setB, if_pos rfl, hh3]; rfl) (by simp [noB])
    by_cases h2 : hasF h.flags 2
    · simp [go_sem, h2, hb4, hz4, hh4, hsz0]
      refine ⟨?_, hu4.setB _ _ (fun h => absurd h (by omega))⟩
      simp [ansL, h2, h4, hg]
    · simp [go_sem, h2, hb4, hz4, hh4, hsz0]
      refine ⟨?_, (hu4.setB _ _ (fun h => absurd h (by omega))).setB _ _ (fun h => absurd h (by omega))⟩
      simp [ansL, h2, h4, hg]
  · simp [go_sem, h4, hb3, hz3, hh3, n1]
    refine CallP.mono (has_any h 2 (by decide) ok.flags _) ?_
    rintro r W4 ⟨rfl, u4⟩
    have hu4 := hu3.trans u4
    have hb4 := u4.get hb3 (by simp [noB])
    have hz4 := u4.get hz3 (by simp [noB])
    have hh4 := u4.get hh3 (by simp [noB])
    by_cases h2 : hasF h.flags 2
    · simp [go_sem, h2, hb4, hz4, hh4, hsz0]
      refine ⟨?_, hu4.setB _ _ (fun h => absurd h (by omega))⟩
      simp [ansL, h2, h4, hg]
    · simp [go_sem, h2, hb4, hz4, hh4, hsz0]
      refine ⟨?_, (hu4.setB _ _ (fun h => absurd h (by omega))).setB _ _ (fun h => absurd h (by omega))⟩
      simp [ansL, h2, h4, hg]
theorem ans_flags (h : HeadV) (st : Int) : (ansL h st).flags = 5 ∨ (ansL h st).flags = 1 := by
  by_cases h4 : hasF h.flags 4
  · left; simp [ansL, h4]
  · right; simp [ansL, h4]
theorem ans_may (h : HeadV) (st : Int) (hm : mayL h = true) : mayL (ansL h st) = true := by
  unfold mayL at hm ⊢
  simp only [Bool.and_eq_true] at hm
  have hc : knownL (ansL h st).command = true := hm.1
  have n2 : ¬ hasF (ansL h st).flags 2 := by rcases ans_flags h st with e | e <;> rw [e] <;> decide
  have h16 : (ansL h st).flags < 16 := by rcases ans_flags h st with e | e <;> rw [e] <;> decide
  rw [if_neg n2, hc]
  simp [h16]
  rfl
theorem ans_reply (h : HeadV) (st : Int) : hasF (ansL h st).flags 1 := by
  rcases ans_flags h st with e | e <;> rw [e] <;> decide
end Go.Proofs.YtinfdomlpbikaaaGreatDoor
