/-
  Messages of nothing but a head, compared, and got.
-/
import Derived.Test.YtinfdomlpbikaaaGreatDoorMsgD
namespace Go.Proofs.YtinfdomlpbikaaaGreatDoor
open Go.Eng
set_option linter.unusedSimpArgs false
set_option linter.unusedVariables false
set_option maxRecDepth 100000
variable {w w0 : World}
theorem words_nil (w : World) : CallP Tryz.prog 59 #[.slice none 0 0, .slice none 0 0] w (fun r w' => r = .bool true ∧ w' = w) := by
  refine call_den (args := [_, _]) Tryz.func59 rfl rfl (by simp [Tryz.ntmps59]) ?_
  simp [go_sem]
  refine den_loop (fun _ ρ w' => ρ 0 = .slice none 0 0 ∧ ρ 5 = .int .i64 0 ∧ w' = w) 0 ⟨by simp [go_sem], by simp [go_sem], rfl⟩ ?_
  rintro m ρ w' ⟨g0, g5, rfl⟩
  simp [go_sem, g0, g5]
theorem same_nil (w : World) : CallP Tryz.prog 14 #[.slice none 0 0, .slice none 0 0] w (fun r w' => r = .bool true ∧ w' = w) := by
  refine call_den (args := [_, _]) Tryz.func14 rfl rfl (by simp [Tryz.ntmps14]) ?_
  simp [go_sem]
  refine den_loop (fun _ ρ w' => ρ 0 = .slice none 0 0 ∧ ρ 5 = .int .i64 0 ∧ w' = w) 0 ⟨by simp [go_sem], by simp [go_sem], rfl⟩ ?_
  rintro m ρ w' ⟨g0, g5, rfl⟩
  simp [go_sem, g0, g5]
theorem locks_nil (w : World) : CallP Tryz.prog 60 #[.slice none 0 0, .slice none 0 0] w (fun r w' => r = .bool true ∧ w' = w) := by
  refine call_den (args := [_, _]) Tryz.func60 rfl rfl (by simp [Tryz.ntmps60]) ?_
  simp [go_sem]
  refine den_loop (fun _ ρ w' => ρ 0 = .slice none 0 0 ∧ ρ 5 = .int .i64 0 ∧ w' = w) 0 ⟨by simp [go_sem], by simp [go_sem], rfl⟩ ?_
  rintro m ρ w' ⟨g0, g5, rfl⟩
  simp [go_sem, g0, g5]
theorem entries_nil (w : World) : CallP Tryz.prog 61 #[.slice none 0 0, .slice none 0 0] w (fun r w' => r = .bool true ∧ w' = w) := by
  refine call_den (args := [_, _]) Tryz.func61 rfl rfl (by simp [Tryz.ntmps61]) ?_
  simp [go_sem]
  refine den_loop (fun _ ρ w' => ρ 0 = .slice none 0 0 ∧ ρ 5 = .int .i64 0 ∧ w' = w) 0 ⟨by simp [go_sem], by simp [go_sem], rfl⟩ ?_
  rintro m ρ w' ⟨g0, g5, rfl⟩
  simp [go_sem, g0, g5]
set_option maxHeartbeats 4000000 in
theorem asks_zero (w : World) : CallP Tryz.prog 40 #[.agg zeroA.cells, .agg zeroA.cells] w (fun r w' => r = .bool true ∧ Upd noB w w') := by
  refine call_den (args := [_, _]) Tryz.func40 rfl rfl (by simp [Tryz.ntmps40]) ?_
  simp [go_sem]
  refine CallP.mono (words_nil _) ?_
  rintro r W ⟨rfl, hW⟩
  have hu : Upd noB w W := by rw [hW]; exact (by repeat (first | exact Upd.refl _ _ | refine Upd.alloc ?_ _ | refine Upd.drew ?_ | refine Upd.drewN ?_ _ | refine Upd.setB ?_ _ _ (fun h => absurd h (by omega))))
  have hb0 : W.heap[w.heap.size]? = some (.cells zeroA.cells 34 (0, 0)) := by rw [hW, heap_alloc, if_neg (by simp), heap_alloc, if_pos rfl]
  have hb1 : W.heap[w.heap.size + 1]? = some (.cells zeroA.cells 34 (0, 0)) := by rw [hW, heap_alloc, if_pos (by simp)]
  clear hW
  simp [go_sem, hb0, hb1]
  refine CallP.mono (same_nil _) ?_
  rintro r W2 ⟨rfl, hW2⟩
  rw [hW2]; clear hW2; clear W2
  simp [go_sem, hb0, hb1]
  refine CallP.mono (locks_nil _) ?_
  rintro r W2 ⟨rfl, hW2⟩
  rw [hW2]; clear hW2; clear W2
  simp [go_sem, hb0, hb1]
  exact hu
set_option maxHeartbeats 4000000 in
theorem says_zero (w : World) : CallP Tryz.prog 41 #[.agg zeroS.cells, .agg zeroS.cells] w (fun r w' => r = .bool true ∧ Upd noB w w') := by
  refine call_den (args := [_, _]) Tryz.func41 rfl rfl (by simp [Tryz.ntmps41]) ?_
  simp [go_sem]
  refine CallP.mono (same_nil _) ?_
  rintro r W ⟨rfl, hW⟩
  have hu : Upd noB w W := by rw [hW]; exact (by repeat (first | exact Upd.refl _ _ | refine Upd.alloc ?_ _ | refine Upd.drew ?_ | refine Upd.drewN ?_ _ | refine Upd.setB ?_ _ _ (fun h => absurd h (by omega))))
  have hb0 : W.heap[w.heap.size]? = some (.cells zeroS.cells 39 (0, 0)) := by rw [hW, heap_alloc, if_neg (by simp), heap_alloc, if_pos rfl]
  have hb1 : W.heap[w.heap.size + 1]? = some (.cells zeroS.cells 39 (0, 0)) := by rw [hW, heap_alloc, if_pos (by simp)]
  clear hW
  simp [go_sem, hb0, hb1]
  refine CallP.mono (entries_nil _) ?_
  rintro r W2 ⟨rfl, hW2⟩
  rw [hW2]; clear hW2; clear W2
  simp [go_sem, hb0, hb1]
  exact hu
theorem eqH_self (h : HeadV) : eqH h h = true := (eqH_iff h h).2 rfl
set_option maxHeartbeats 4000000 in
theorem same_bare (h : HeadV) (w : World) : CallP Tryz.prog 15 #[.agg (bareM h).cells, .agg (bareM h).cells] w (fun r w' => r = .bool true ∧ Upd noB w w') := by
  refine call_den (args := [_, _]) Tryz.func15 rfl rfl (by simp [Tryz.ntmps15]) ?_
  simp [go_sem, eqH_self]
  refine CallP.mono (asks_zero _) ?_
  rintro r W2 ⟨rfl, u2⟩
  have hb1 : W2.heap[w.heap.size + 1]? = some (.cells (bareM h).cells 41 (0, 0)) := u2.get (by rw [heap_alloc, if_pos (by simp)]) (by simp [noB])
  have hb0 : W2.heap[w.heap.size]? = some (.cells (bareM h).cells 41 (0, 0)) := u2.get (by rw [heap_alloc, if_neg (by simp), heap_alloc, if_pos rfl]) (by simp [noB])
  have hu : Upd noB w W2 := Upd.trans (((Upd.refl _ _).alloc _).alloc _) u2
  clear u2
  simp [go_sem, hb0, hb1]
  refine CallP.mono (says_zero _) ?_
  rintro r W3 ⟨rfl, u3⟩
  simp [go_sem]
  exact hu.trans u3
set_option maxHeartbeats 4000000 in
theorem get_bare {s : Value} {l : List UInt8} (hb : BytesAt w s l) (hl : 68 ≤ l.length) (hl2 : l.length ≤ 1000000) (h : HeadV) (ok : h.ok) (hg : getH l 0 = h) (hbad : badH l 0 = false) (hc : h.command = 13) (hrep : ¬ hasF h.flags 1) (hn : h.next = 0) (hz : numAt ((l.drop 64).take (l.length - 64)) 0 4 = 0) :
    CallP Tryz.prog 18 #[s] w (fun r w' => Upd noB w w' ∧ r = if l.length = 68 then .tuple #[.agg (bareM h).cells, .int .i64 0] else .tuple #[.agg zeroM.cells, .int .i64 5]) := by
  obtain ⟨p, cap, rfl, hcap⟩ := hb.len
  have hf := ok.flags
  refine call_den (args := [_]) Tryz.func18 rfl rfl (by simp [Tryz.ntmps18]) ?_
  simp [go_sem]
  refine CallP.mono (headGet_any (hb.keep0 (by repeat (first | exact Upd.refl _ _ | refine Upd.alloc ?_ _ | refine Upd.drew ?_ | refine Upd.drewN ?_ _ | refine Upd.setB ?_ _ _ (fun h => absurd h (by omega))))) (by omega) 0 (Nat.zero_le _)) ?_
  rintro r W ⟨u1, hres⟩
  unfold GetOut at hres
  rw [if_neg (by omega), if_neg (by rw [hbad]; simp), hg] at hres
  subst hres
  have hu : Upd noB w W := Upd.trans ((Upd.refl _ _).alloc _) u1
  have hz0 : W.heap[w.heap.size]? = some (.cells zeroM.cells 41 (0, 0)) := u1.get (by rw [heap_alloc, if_pos rfl]) (by simp [noB])
  clear u1
  obtain ⟨b, off, rfl⟩ : ∃ b off, p = some ⟨b, off, none⟩ := by
    rcases hb.1.2 with ⟨q, c, hv, h0⟩ | ⟨b, off, c, cc, te, f, hv, _⟩
    · omega
    · injection hv with h1
      exact ⟨b, off, h1⟩
  have h64 : (64 : Int) ≤ l.length := by omega
  have hc64 : ¬ cap = 64 := by omega
  simp [go_sem, h64, hc64]
  refine gen_call ?_
  intro W2 hW2
  have hu2 : Upd noB w W2 := by rw [hW2]; exact ((hu.alloc _).setB _ _ (fun h => absurd h (by have := hu.size; omega))).alloc _
  have hsz := (old_ne hz0).1
  have hz2 : W2.heap[w.heap.size]? = some (.cells zeroM.cells 41 (0, 0)) := by rw [hW2, heap_alloc, if_neg (by simp [size_setB]; omega), heap_setB, if_neg (by omega), heap_alloc, if_neg (by omega)]; exact hz0
  have hh2 : W2.heap[W.heap.size]? = some (.cells h.cells 28 (0, 0)) := by rw [hW2, heap_alloc, if_neg (by simp [size_setB]), heap_setB, if_pos rfl, heap_alloc, if_pos rfl]; rfl
  have hm2 : MsgAt W2 (W.heap.size + 1) (bareM h) := by unfold MsgAt; rw [hW2, heap_alloc, if_pos (by simp [size_setB])]; rfl
  have hbm : w.heap.size ≤ W.heap.size := hu.size
  obtain ⟨bh, hbh⟩ : ∃ bh, bh = W.heap.size := ⟨_, rfl⟩
  rw [← hbh] at hh2 hm2 hbm hsz ⊢
  clear hW2 hz0 hu hbh
  have key := (hb.keep0 hu2).cut (lo := 64) (hi := l.length) (m := cap) (by omega) (Nat.le_refl _) hcap
  have e1 : sliced (some ⟨b, off, none⟩) 64 l.length cap 1 = Value.slice (some ⟨b, off + 64, none⟩) (l.length - 64) (cap - 64) := by
    unfold sliced; simp [hc64, addr_add]
  rw [e1] at key
  have hl' : ((l.drop 64).take (l.length - 64)).length = l.length - 64 := by simp
  refine CallP.mono (read_echo (m := bareM h) hm2 hf hc hrep key (by rw [hl']; omega) (by rw [hl']; omega) hz) ?_
  rintro r W3 ⟨rfl, u3, hm3⟩
  have hu3 : Upd noB w W3 := hu2.trans' u3 (fun i hi hlt => by omega)
  have hz3 := u3.get hz2 (by omega)
  have hh3 := u3.get hh2 (by omega)
  replace hm3 : MsgAt W3 (bh + 1) (bareM h) := hm3
  rw [hl']
  clear hu2 hz2 hh2 hm2 u3
  by_cases h68 : l.length = 68
  · have h4 : l.length - 64 = 4 := by omega
    simp [go_sem, h4, hh3, hn]
    have hud : Upd noB w W3.drew := hu3.drew
    have hmd : W3.drew.heap[bh + 1]? = some (.cells (bareM h).cells 66 (0, 0)) := hm3
    have la : (Instr.loadAt 28 (.pointer (some ⟨bh + 1, 0, none⟩))).run Tryz.prog W3.drew = .ok (.agg h.cells) W3.drew :=
      loadAt_cut (W := W3.drew) (b := bh + 1) (o := 0) (Tryz.isAgg28 _) (Tryz.sizeOf28 _) (by rw [hmd]; exact msg_cut0 (bareM h) _ _)
    have lb : (Instr.loadAt 34 (.pointer (some ⟨bh + 1, 26, none⟩))).run Tryz.prog W3.drew = .ok (.agg zeroA.cells) W3.drew :=
      loadAt_cut (W := W3.drew) (b := bh + 1) (o := 26) (Tryz.isAgg34 _) (Tryz.sizeOf34 _) (by rw [hmd]; exact msg_cut1 (bareM h) _ _)
    have lc : (Instr.loadAt 39 (.pointer (some ⟨bh + 1, 95, none⟩))).run Tryz.prog W3.drew = .ok (.agg zeroS.cells) W3.drew :=
      loadAt_cut (W := W3.drew) (b := bh + 1) (o := 95) (Tryz.isAgg39 _) (Tryz.sizeOf39 _) (by rw [hmd]; exact msg_cut2 (bareM h) _ _)
    refine draw_script [.pure 0, .pure 4, .pure 8, .still [1, 2, 3, 5, 6, 7, 9, 10, 11], .one 12, .one 13, .pure 14] (by kernel_rfl) (by kernel_rfl) (by kernel_rfl) ?_
    simp [go_sem, Q_load_fix (W := fun _ : Unit => W3.drew) (fun _ => la), Q_load_fix (W := fun _ : Unit => W3.drew) (fun _ => lb), Q_load_fix (W := fun _ : Unit => W3.drew) (fun _ => lc), hz3, h68]
    exact ⟨hud.setB _ _ (fun h => absurd h (by omega)), rfl⟩
  · have h4 : ¬ l.length - 64 = 4 := by omega
    simp [go_sem, h4, hh3, hz3, hn, h68]
    exact hu3.setB _ _ (fun h => absurd h (by omega))
end Go.Proofs.YtinfdomlpbikaaaGreatDoor
