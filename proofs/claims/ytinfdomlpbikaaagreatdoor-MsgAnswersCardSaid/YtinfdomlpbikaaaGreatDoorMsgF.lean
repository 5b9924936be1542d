/-
  The example that must be: an Echo, put and got; and what a Reply's head to it is.
-/
import Derived.Test.YtinfdomlpbikaaaGreatDoorMsgE
namespace Go.Proofs.YtinfdomlpbikaaaGreatDoor
open Go.Eng
set_option linter.unusedSimpArgs false
set_option linter.unusedVariables false
set_option maxRecDepth 100000
variable {w w0 : World}
def h0 : HeadV := { charge := 0, status := 0, command := 13, credits := 0, flags := 0, next := 0, id := 1, async := 0, tree := 0, session := 0, sign := zeroH.sign }
def echo0 : List UInt8 := headB h0 ++ [0, 0, 0, 0]
theorem h0_ok : h0.ok := by refine ⟨?_, ?_, ?_, ?_, ?_, ?_, ?_, ?_, ?_, ?_⟩ <;> decide
theorem echo0_len : echo0.length = 68 := by simp [echo0, headB_len]
theorem h0_may : mayL h0 = true := by decide
theorem h0_rep : ¬ hasF h0.flags 1 := by decide
theorem echo0_head : getH echo0 0 = h0 := by kernel_rfl
theorem echo0_bad : badH echo0 0 = false := by kernel_rfl
theorem echo1_head : getH (echo0 ++ [0]) 0 = h0 := by kernel_rfl
theorem echo1_bad : badH (echo0 ++ [0]) 0 = false := by kernel_rfl
/-- a readable row's own cells, one by one -/
theorem row_cells_at {size n b off cap : Nat} {xs : List Value} (h : RowAt w size (.slice (some ⟨b, off, none⟩) n cap) n xs) : ∀ j u, xs[j]? = some u → w.cell? ((⟨b, off, none⟩ : Addr).add j) = some u := by
  intro j u hu
  rcases h.2 with ⟨p, c, _, rfl⟩ | ⟨b', off', c', cs, e, f, hv, hb, hle, htake⟩
  · have h0 := h.1
    simp at h0
    rw [h0] at hu
    cases hu
  · cases hv
    rw [cell?_add, hb, cellIn_some, ← Array.getElem?_toList, ← List.getElem?_drop]
    rw [← htake, List.getElem?_take] at hu
    split at hu
    · exact hu
    · cases hu
/-- append to a full slice, of something: new memory -/
theorem sl_append_full {P : Program} {t e : TypeId} {size bytes : Nat} (T : SlT P t e size bytes) {b off n m : Nat} {s : Value} {xs news : List Value} (dst : RowAt w size (.slice (some ⟨b, off, none⟩) n n) n xs)
    (src : RowAt w size s m news) (ty : TypeId) (h1 : ∀ u ∈ news, u.oneCell' = true) (hm : 0 < m) (hroom : (n + m) * bytes ≤ 140737488355328) (hmax : n + m ≤ maxLen) :
    ∃ v' w', (Builtin.append_ #[t, t] ty #[.slice (some ⟨b, off, none⟩) n n, s]).run P w = .ok v' w' ∧ w'.ownsRow w.heap.size e size v' (n + m) (xs ++ news) ∧ w.grownBy w' none := by
  obtain ⟨i, z, hi, hz, hs, hb, hzs⟩ := T.info
  rcases src.2 with ⟨p, cap, rfl, rfl⟩ | ⟨b2, off2, cap2, c, te, f, rfl, hbb, hle, htake⟩
  · omega
  · subst hs
    subst hb
    have hr := run_append_grow (P := P) w t ty e i z T.ht hi hz ⟨b, off, none⟩ n n xs dst.1 (row_cells_at dst) ⟨b2, off2, none⟩ m cap2 news src.1 (row_cells_at src) (by omega) (by simp only [maxLen] at hmax; omega) (growslice_fits (by omega) hroom)
    refine ⟨_, _, hr, ⟨by rw [List.length_append, dst.1, src.1, Nat.add_mul], .inr ⟨w.heap.size, _, _, rfl, Nat.le_refl _, Go.heap_alloc_new w.drew _, grownCap_ge _ _ _ _, grownCap_le_maxLen _ _ _ _ hmax, ?_, ?_⟩⟩, ⟨rfl, rfl, rfl, by simp, fun k hk _ => Go.heap_alloc_old w.drew _ hk⟩⟩
    · have hge := grownCap_ge w (n + m) n e
      simp only [Array.size_append, List.size_toArray, size_zeroCells, hzs, dst.1, src.1, ← Nat.add_mul]
      congr 1
      omega
    · have hlen : (xs ++ news).length = (n + m) * i.size := by rw [List.length_append, dst.1, src.1, Nat.add_mul]
      simp only [Array.toList_append, List.append_assoc]
      rw [← List.append_assoc, ← hlen]
      exact List.take_left
theorem gen_append {P : Program} {ts : Array TypeId} {ty : TypeId} {args : Array Value} {k : Value → World → Prop} {W : World} (h : ∀ W2, W2 = W → K_append P ts ty args W2 k) : K_append P ts ty args W k := h W rfl
theorem append_fullB {b off : Nat} {l m : List UInt8} {s : Value} (dst : BytesAt w (.slice (some ⟨b, off, none⟩) l.length l.length) l) (src : BytesAt w s m) (ty : TypeId) (hm : 0 < m.length) (hroom : l.length + m.length ≤ 140737488355328) :
    ∃ v' w', (Builtin.append_ #[31, 31] ty #[.slice (some ⟨b, off, none⟩) l.length l.length, s]).run Tryz.prog w = .ok v' w' ∧ OwnB w' w.heap.size v' (l ++ m) ∧ Upd noB w w' := by
  obtain ⟨v', w', h1, h2, h3⟩ := sl_append_full slByte dst.1 src.1 ty (u8_one m) hm (by omega) (by simp [maxLen]; omega)
  refine ⟨v', w', h1, ?_, (Upd.refl _ _).grown h3 (fun b hb => by cases hb)⟩
  unfold OwnB
  rw [List.length_append, List.map_append]
  exact h2
set_option maxHeartbeats 4000000 in
theorem lives_any (w : World) : CallP Tryz.prog 16 #[] w (fun r w' => r = .bool true ∧ Upd noB w w') := by
  refine call_den (args := []) Tryz.func16 rfl rfl (by simp [Tryz.ntmps16]) ?_
  simp [go_sem]
  refine gen_call ?_
  intro W hW
  have hu : Upd noB w W := by rw [hW]; exact (by repeat (first | exact Upd.refl _ _ | refine Upd.alloc ?_ _ | refine Upd.drew ?_ | refine Upd.drewN ?_ _ | refine Upd.setB ?_ _ _ (fun h => absurd h (by omega))))
  have hm : W.heap[w.heap.size]? = some (.cells (bareM h0).cells 41 (0, 0)) := by rw [hW, heap_setB, if_pos rfl, heap_alloc, if_pos rfl]; rfl
  clear hW
  show CallP Tryz.prog 12 #[.agg (bareM h0).cells] W _
  refine CallP.mono (put_bare h0 h0_ok h0_may rfl rfl (fun h => absurd h h0_rep) W) ?_
  rintro r W2 ⟨v, rfl, u2, own⟩
  have hu2 := hu.trans u2
  have hm2 := u2.get hm (by simp [noB])
  obtain ⟨b, hb⟩ : ∃ b, b = w.heap.size := ⟨_, rfl⟩
  rw [← hb] at hm hm2 ⊢
  have hbt : BytesAt W2 v echo0 := own.at
  clear hu u2 hm
  simp [go_sem]
  refine CallP.mono (get_bare hbt (by rw [echo0_len]; decide) (by rw [echo0_len]; decide) h0 h0_ok echo0_head echo0_bad rfl h0_rep rfl (by kernel_rfl)) ?_
  rintro r W3 ⟨u3, rfl⟩
  have hu3 := hu2.trans u3
  have hm3 := u3.get hm2 (by simp [noB])
  have hbt3 := hbt.keep0 u3
  clear hu2 u3 hm2 hbt
  rw [if_pos echo0_len]
  obtain ⟨p, cap, hv, hcap⟩ := hbt3.len
  rw [echo0_len] at hv hcap
  subst hv
  obtain ⟨b1, off, rfl⟩ : ∃ b off, p = some ⟨b, off, none⟩ := by
    rcases hbt3.1.2 with ⟨q, c, hv, h0⟩ | ⟨b, off, c, cc, te, f, hv, _⟩
    · rw [echo0_len] at h0; omega
    · injection hv with h1
      exact ⟨b, off, h1⟩
  have hc68 : (68 : Int) ≤ cap := by omega
  have hb1 : ∀ (w : World) (k : Value → World → Prop), K_buildSlice Tryz.prog 31 1 #[(0, .int .u8 0)] w k = k (.slice (some ⟨w.heap.size, 0, none⟩) 1 1) (w.alloc (.cells ([0].map u8V).toArray 5)) := fun w k => slByte.build1K (P := Tryz.prog) (w := w) (u8V 0) rfl (by decide) k
  simp [go_sem, hm3, hc68, hb1]
  have hu4 : Upd noB w (((W3.alloc (.cells zeroM.cells 41)).setB W3.heap.size (.cells (bareM h0).cells 41)).alloc (.cells #[u8V 0] 5)) := ((hu3.alloc _).setB _ _ (fun h => absurd h (by have := hu3.size; omega))).alloc _
  refine gen_append ?_
  intro W4 hW
  rw [← hW] at hu4
  have hsz := (old_ne hm3).1
  have hm4 : W4.heap[b]? = some (.cells (bareM h0).cells 41 (0, 0)) := by rw [hW, heap_alloc, if_neg (by simp [size_setB]; omega), heap_setB, if_neg (by omega), heap_alloc, if_neg (by omega)]; exact hm3
  have hq4 : W4.heap[W3.heap.size]? = some (.cells (bareM h0).cells 41 (0, 0)) := by rw [hW, heap_alloc, if_neg (by simp [size_setB]), heap_setB, if_pos rfl, heap_alloc, if_pos rfl]; rfl
  have h34 : Upd noB W3 W4 := by rw [hW]; exact (by repeat (first | exact Upd.refl _ _ | refine Upd.alloc ?_ _ | refine Upd.drew ?_ | refine Upd.drewN ?_ _ | refine Upd.setB ?_ _ _ (fun h => absurd h (by omega))))
  have hs4 : BytesAt W4 (.slice (some ⟨W3.heap.size + 1, 0, none⟩) 1 1) [0] := by
    refine ⟨⟨by simp, Or.inr ⟨W3.heap.size + 1, 0, 1, #[u8V 0], 5, (0, 0), rfl, by rw [hW, heap_alloc, if_pos (by simp [size_setB])], by simp, by simp⟩⟩, Nat.le_refl _⟩
  have hd4 : BytesAt W4 (.slice (some ⟨b1, off, none⟩) echo0.length echo0.length) echo0 := by
    have h1 := (hbt3.keep0 h34).1
    rcases h1.2 with ⟨q, c, hv, h0⟩ | ⟨b, off, c, cc, te, f, hv, hr⟩
    · rw [echo0_len] at h0; omega
    · cases hv
      exact ⟨⟨h1.1, Or.inr ⟨_, _, echo0.length, _, _, _, by rw [echo0_len], hr⟩⟩, Nat.le_refl _⟩
  obtain ⟨bq, hbq⟩ : ∃ bq, bq = W3.heap.size := ⟨_, rfl⟩
  have hwq : w.heap.size ≤ bq := by rw [hbq]; exact hu3.size
  rw [← hbq] at hq4 hs4 ⊢
  clear hW h34 hbt3 hm3 hu3
  obtain ⟨v5, W5, hrun, own5, u5⟩ := append_fullB hd4 hs4 31 (by decide) (by rw [echo0_len]; decide)
  rw [echo0_len] at hrun
  have hu5 := hu4.trans u5
  have hm5 := u5.get hm4 (by simp [noB])
  have hq5 := u5.get hq4 (by simp [noB])
  simp [go_sem, K_append_ok _ _ _ _ hrun]
  have h69 : (echo0 ++ [0]).length = 69 := by simp [echo0_len]
  refine CallP.mono (get_bare own5.at (by rw [h69]; decide) (by rw [h69]; decide) h0 h0_ok echo1_head echo1_bad rfl h0_rep rfl (by kernel_rfl)) ?_
  rintro r W6 ⟨u6, rfl⟩
  have hu6 := hu5.trans u6
  have hm6 := u6.get hm5 (by simp [noB])
  have hq6 := u6.get hq5 (by simp [noB])
  rw [if_neg (by rw [h69]; decide)]
  clear hu5 hu4 u5 u6 hm5 hm4 hq5 hq4 hrun own5 hs4 hd4
  simp [go_sem, hm6]
  refine gen_load ?_
  intro W7 hW
  have hsz6 := (old_ne hm6).1
  have hsq6 := (old_ne hq6).1
  have hu7 : Upd noB w W7 := by rw [hW]; exact (hu6.alloc _).setB _ _ (fun h => absurd h (by have := hu6.size; omega))
  have hm7 : W7.heap[b]? = some (.cells (bareM h0).cells 41 (0, 0)) := by rw [hW, heap_setB, if_neg (by omega), heap_alloc, if_neg (by omega)]; exact hm6
  have hq7 : W7.heap[bq]? = some (.cells (bareM h0).cells 41 (0, 0)) := by rw [hW, heap_setB, if_neg (by omega), heap_alloc, if_neg (by omega)]; exact hq6
  clear hW hu6 hm6 hq6
  simp [go_sem, hm7]
  show CallP Tryz.prog 21 #[.agg h0.cells, .int .i64 15] W7 _
  refine CallP.mono (answer_any h0 15 h0_ok W7) ?_
  rintro r W8 ⟨rfl, u8⟩
  have hu8 := hu7.trans u8
  have hm8 := u8.get hm7 (by simp [noB])
  have hq8 := u8.get hq7 (by simp [noB])
  clear u8 hm7 hq7 hu7
  simp [go_sem]
  refine gen_call ?_
  intro W9 hW
  have hsz8 := (old_ne hm8).1
  have hsq8 := (old_ne hq8).1
  have hu9 : Upd noB w W9 := by rw [hW]; exact (hu8.alloc _).setB _ _ (fun h => absurd h (by have := hu8.size; omega))
  have hm9 : W9.heap[b]? = some (.cells (bareM h0).cells 41 (0, 0)) := by rw [hW, heap_setB, if_neg (by omega), heap_alloc, if_neg (by omega)]; exact hm8
  have hq9 : W9.heap[bq]? = some (.cells (bareM h0).cells 41 (0, 0)) := by rw [hW, heap_setB, if_neg (by omega), heap_alloc, if_neg (by omega)]; exact hq8
  have hh9 : W9.heap[W8.heap.size]? = some (.cells (ansL h0 15).cells 28 (0, 0)) := by rw [hW, heap_setB, if_pos rfl, heap_alloc, if_pos rfl]; rfl
  obtain ⟨bh, hbh⟩ : ∃ bh, bh = W8.heap.size := ⟨_, rfl⟩
  rw [← hbh] at hh9 ⊢
  clear hW hu8 hm8 hq8
  show CallP Tryz.prog 12 #[.agg (bareM (ansL h0 15)).cells] W9 _
  refine CallP.mono (put_bare (ansL h0 15) (ansL_ok h0 15 h0_ok) (by decide) rfl rfl (fun _ => by decide) W9) ?_
  rintro r W10 ⟨v10, rfl, u10, own10⟩
  have hu10 := hu9.trans u10
  have hm10 := u10.get hm9 (by simp [noB])
  have hq10 := u10.get hq9 (by simp [noB])
  have hh10 := u10.get hh9 (by simp [noB])
  obtain ⟨p10, cap10, rfl, _⟩ := own10.at.len
  have e68 : (headB (ansL h0 15) ++ [0, 0, 0, 0]).length = 68 := by simp [headB_len]
  rw [e68]
  clear hu9 u10 hm9 hq9 hh9
  simp [go_sem, hm10, hq10]
  refine CallP.mono (same_bare h0 W10) ?_
  rintro r W11 ⟨rfl, u11⟩
  have hu11 := hu10.trans u11
  have hh11 := u11.get hh10 (by simp [noB])
  have ef : (ansL h0 15).status = 15 := by decide
  have ei : (ansL h0 15).id = 1 := by decide
  simp [go_sem, hh11, ef, ei]
  exact hu11
end Go.Proofs.YtinfdomlpbikaaaGreatDoor
