/-
  Heads: which may be, and their bytes.
-/
import Derived.Test.YtinfdomlpbikaaaGreatDoorMsgN
namespace Go.Proofs.YtinfdomlpbikaaaGreatDoor
open Go.Eng
set_option linter.unusedSimpArgs false
set_option linter.unusedVariables false
set_option maxRecDepth 100000
variable {w w0 : World}
theorem slCmd : SlT Tryz.prog 104 24 1 2 :=
  SlT.mk' Tryz.underlying104 (i := Tryz.t24) (z := .int .u16 0) (by kernel_rfl) (by kernel_rfl) (by kernel_rfl) (by kernel_rfl) rfl (by decide)
def knownCs : List Int := [0, 1, 2, 3, 4, 5, 6, 7, 8, 9, 10, 12, 13, 14, 16, 17, 18]
theorem knownL_iff (c : Int) (h : 0 ≤ c) : knownL c = decide (c ∈ knownCs) := by
  unfold knownL knownCs
  by_cases h1 : c ∈ ([0, 1, 2, 3, 4, 5, 6, 7, 8, 9, 10, 12, 13, 14, 16, 17, 18] : List Int)
  · simp only [h1, decide_true]
    simp at h1
    simp
    omega
  · simp only [h1, decide_false]
    simp at h1
    simp
    omega
def RKnownI (w1 : World) (v : Value) (c : Int) (m : Nat) (ρ : Env) (w' : World) : Prop :=
  ∃ i : Nat, m = 17 - i ∧ i ≤ 17 ∧ (∀ x, x ∈ knownCs.take i → x ≠ c) ∧ ρ 0 = .int .u16 c ∧ ρ 3 = v ∧ ρ 4 = .int .i64 i ∧ w' = w1
set_option maxHeartbeats 1000000 in
theorem refKnown_any (c : Int) (h : 0 ≤ c) (w : World) : CallP Tryz.prog 48 #[.int .u16 c] w (fun r w' => r = .bool (knownL c) ∧ Upd noB w w') := by
  rw [knownL_iff c h]
  obtain ⟨w1, hw1⟩ : ∃ w1, w1 = w.alloc (.cells (knownCs.map (fun z => Value.int .u16 z)).toArray 24) := ⟨_, rfl⟩
  have hb : w1.heap[w.heap.size]? = some (.cells (knownCs.map (fun z => Value.int .u16 z)).toArray 24 (0, 0)) := by rw [hw1, heap_alloc, if_pos rfl]
  have u1 : Upd noB w w1 := by rw [hw1]; exact (Upd.refl _ _).alloc _
  refine call_den (args := [_]) Tryz.func48 rfl rfl (by simp [Tryz.ntmps48]) ?_
  simp [go_sem]
  rw [slCmd.buildN 17 _ (by decide) (by decide) (by decide) (by decide)]
  have e : (#[(0, Value.int .u16 0), (1, Value.int .u16 1)] : Array (Nat × Value)).size = 2 := rfl
  simp [go_sem, Value.cells]
  simp [knownCs] at hw1
  rw [← hw1]
  refine den_loop (RKnownI w1 (.slice (some ⟨w.heap.size, 0, none⟩) 17 17) c) 17 ?_ ?_
  · exact ⟨0, rfl, by omega, by simp, by simp [go_sem], by simp [go_sem], by simp [go_sem], rfl⟩
  · rintro m ρ w' ⟨i, rfl, hi, hno, g0, g3, g4, rfl⟩
    by_cases hlt : i < 17
    · have hlt' : (i : Int) < 17 := by omega
      have hwr : IntKind.i64.wrap ((i : Int) + 1) = ((i + 1 : Nat) : Int) := wrap64_id (by omega) (by omega)
      have hlen : knownCs.length = 17 := rfl
      have hge : (knownCs.map (fun z => Value.int .u16 z))[i]? = some (.int .u16 (knownCs[i]'(by omega))) := by rw [List.getElem?_map, List.getElem?_eq_getElem (by omega)]; rfl
      obtain ⟨x, hx⟩ : ∃ x, x = knownCs[i]'(by omega) := ⟨_, rfl⟩
      rw [← hx] at hge
      by_cases he : x = c
      · have hm : decide (c ∈ knownCs) = true := by rw [decide_eq_true_iff, ← he, hx]; exact List.getElem_mem _
        simp [go_sem, g0, g3, g4, hlt', hb, hge, he]
        rw [decide_eq_true_iff] at hm
        exact ⟨hm, u1⟩
      · simp [go_sem, g0, g3, g4, hlt', hb, hge, he]
        refine ⟨17 - (i + 1), by omega, i + 1, rfl, by omega, ?_, by simp [go_sem, g0], by simp [go_sem, g3], by simp [go_sem, hwr], rfl⟩
        intro y hy
        rw [List.take_succ_eq_append_getElem (by omega), List.mem_append] at hy
        rcases hy with hy | hy
        · exact hno y hy
        · simp at hy; rw [hy, ← hx]; exact he
    · have hi' : i = 17 := by omega
      subst hi'
      have hm : ¬ c ∈ knownCs := fun hm => hno c (by simpa [knownCs] using hm) rfl
      simp [go_sem, g0, g3, g4, hm]
      exact u1
end Go.Proofs.YtinfdomlpbikaaaGreatDoor
